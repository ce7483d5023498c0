/- Walkers, their patterns and turns; the walkers that fit a report: the reference's sets and the program's list are the same. -/
import Derived.Test.YtfpomjnhgcmgoaaQcMaze
import Derived.Test.YtfpomjnhgcmgoaaQcLists
namespace Go.Proofs.Ytfpomjnhgcmgoaa.Pure
set_option linter.unusedVariables false
set_option linter.unusedSimpArgs false
open Go.RowKit Go.Proofs.YtfpomjnhgcmgoaaW.PrintWords Go.Proofs.Ytfpomjnhgcmgoaa.P Go.Proofs.Ytfpomjnhgcmgoaa.Kit
theorem Ev.shift {α : Type} {g : Nat → Option α} {r : α} (c : Nat) (h : ∀ k, g (k + c) = some r) : Ev g r := ⟨c, fun n hn => by have := h (n - c); rwa [Nat.sub_add_cancel hn] at this⟩
def dirAt (f t : Int) : Int := Int.tmod (wrap64 (f + t)) 4
def wok (w h o c f : Int) : Bool := mok w h o && cok w h c && (decide (0 ≤ f) && decide (f ≤ 3))
def orS (w h o c f i x : Int) : Int := if step w h o c (dirAt f i) ≥ 0 then Go.bits .or .i64 x (shl .i64 1 i) else x
def pat (w h o c f : Int) : Int := if wok w h o c f = true then orS w h o c f 3 (orS w h o c f 2 (orS w h o c f 1 (orS w h o c f 0 0))) else -1
theorem dirAt_le {f t : Int} (hf : 0 ≤ f ∧ f ≤ 3) (ht : 0 ≤ t ∧ t ≤ 3) : 0 ≤ dirAt f t ∧ dirAt f t ≤ 3 := by
  unfold dirAt
  rw [wrap_id (by omega), Int.tmod_eq_emod_of_nonneg (by omega)]
  omega
theorem impl_WalkerOk_ev (w h o c f : Int) : impl_WalkerOk.f w h o c f = some (wok w h o c f) := by
  unfold impl_WalkerOk.f wok
  rw [impl_isIn_ev, Option.bind_some, impl_isDirection_ev]
  simp only [List.all_cons, List.all_nil, Bool.and_true]
  cases mok w h o && cok w h c <;> simp
theorem impl_pat_round (k : Nat) (w h o c f x i : Int) (hi : 0 ≤ i ∧ i < 4) : impl_PatternAt.l0 (k + 4) x i w h o c f = impl_PatternAt.l0 (k + 3) (orS w h o c f i x) (i + 1) w h o c f := by
  rw [impl_PatternAt.l0, if_pos hi.2]
  show (impl_Step.f (k + 3) w h o c (dirAt f i)).bind _ = _
  rw [impl_Step_ev, Option.bind_some, wrap_id (by omega), if_pos hi.1]
  unfold orS
  split <;> rfl
theorem impl_PatternAt_ev (w h o c f : Int) : Ev (fun k => impl_PatternAt.f k w h o c f) (pat w h o c f) := by
  refine Ev.shift 8 fun k => ?_
  unfold impl_PatternAt.f pat
  rw [impl_WalkerOk_ev, Option.bind_some]
  cases wok w h o c f with
  | true =>
    rw [if_pos rfl, if_pos rfl, impl_pat_round _ _ _ _ _ _ _ _ (by omega), impl_pat_round _ _ _ _ _ _ _ _ (by omega), impl_pat_round _ _ _ _ _ _ _ _ (by omega), impl_pat_round _ _ _ _ _ _ _ _ (by omega), impl_PatternAt.l0, if_neg (by omega)]
    rfl
  | false => rfl
theorem spec_l33Turned_ev (w h o c f t : Int) : Ev (fun k => spec_l33Turned.f k w h o c f t) (if step w h o c (dirAt f t) < 0 then (c, f, false) else (step w h o c (dirAt f t), dirAt f t, true)) := by
  refine Ev.shift 1 fun k => ?_
  unfold spec_l33Turned.f
  show (spec_Step.f (k + 1) w h o c (dirAt f t)).bind _ = _
  rw [spec_Step_ev, Option.bind_some]
  show _ = some (if _ then _ else _)
  split <;> rfl
theorem impl_went_ev (w h o c f t : Int) : Ev (fun k => impl_went.f k w h o c f t) (step w h o c (dirAt f t), dirAt f t, decide (step w h o c (dirAt f t) ≥ 0)) := by
  refine Ev.shift 3 fun k => ?_
  unfold impl_went.f impl_marked.f
  show ((impl_Step.f (k + 3) w h o c (dirAt f t)).bind _).bind _ = _
  rw [impl_Step_ev]
  rfl
def turnsOk (l : List Int) : Bool := decide (l.length ≤ 40) && l.all (fun t => decide (0 ≤ t) && decide (t ≤ 3))
theorem impl_areTurns_ev (l : List Int) : impl_areTurns.f l 40 = some (turnsOk l) := by
  unfold impl_areTurns.f turnsOk
  congr 1
  rw [List.not_any_eq_all_not]
  congr 1
  · by_cases h : l.length ≤ 40
    · simp [h]; omega
    · simp [h]; omega
  · congr 1
    funext t
    by_cases h1 : 0 ≤ t <;> by_cases h2 : t ≤ 3 <;> simp [h1, h2] <;> omega
abbrev WK := S43
def wk (x : Nat) : WK := ⟨((x / 4 : Nat) : Int), ((x % 4 : Nat) : Int)⟩
def NW (w h : Int) : Nat := (4 * cells w h).toNat
theorem NW_eq {w h : Int} : (NW w h : Int) = 4 * cells w h ∧ NW w h ≤ 64 := by
  have := @cells_le w h
  unfold NW; omega
def tn (w h o : Int) (x : Nat) (t : Int) : Option Nat := if step w h o (x / 4 : Nat) (dirAt (x % 4 : Nat) t) < 0 then none else some (4 * step w h o (x / 4 : Nat) (dirAt (x % 4 : Nat) t) + dirAt (x % 4 : Nat) t).toNat
def pn (w h o : Int) (x : Nat) : Int := pat w h o (x / 4 : Nat) (x % 4 : Nat)
theorem tn_some {w h o : Int} {x y : Nat} {t : Int} (ht : 0 ≤ t ∧ t ≤ 3) (q : tn w h o x t = some y) : ((y / 4 : Nat) : Int) = step w h o (x / 4 : Nat) (dirAt (x % 4 : Nat) t) ∧ ((y % 4 : Nat) : Int) = dirAt (x % 4 : Nat) t ∧ y < NW w h := by
  have hd := @dirAt_le ((x % 4 : Nat) : Int) t (by omega) ht
  unfold tn at q
  split at q
  · cases q
  · have := Option.some.inj q
    rcases @step_cases w h o (x / 4 : Nat) (dirAt (x % 4 : Nat) t) with h1 | ⟨_, _, _, h2, h3⟩
    · omega
    · rw [cok_iff] at h3
      have := @NW_eq w h
      omega
def goT (w h o : Int) : List (Int × Int) → Nat → Option Nat
  | [], x => some x
  | (t, p) :: r, x => (tn w h o x t).bind fun y => if pn w h o y = p then goT w h o r y else none
def stN (w h o : Int) (N : Nat) : List (Int × Int) → (Nat → Bool) → (Nat → Bool)
  | [], S => S
  | (t, p) :: r, S => stN w h o N r (fun y => (List.range N).any fun x => S x && (tn w h o x t == some y && pn w h o y == p))
def okT (l : List (Int × Int)) : Prop := ∀ q ∈ l, 0 ≤ q.1 ∧ q.1 ≤ 3
theorem stN_iff {w h o : Int} : ∀ (l : List (Int × Int)) (S : Nat → Bool) (y : Nat), okT l → y < NW w h → (stN w h o (NW w h) l S y = true ↔ ∃ x, x < NW w h ∧ S x = true ∧ goT w h o l x = some y)
  | [], S, y, _, hy => by
    simp only [stN, goT, Option.some.injEq]
    exact ⟨fun q => ⟨y, hy, q, rfl⟩, fun ⟨x, _, q, e⟩ => e ▸ q⟩
  | (t, p) :: r, S, y, ho, hy => by
    have ht := ho (t, p) (by simp)
    rw [stN, stN_iff r _ y (fun q hq => ho q (by simp [hq])) hy]
    simp only [goT, List.any_eq_true, List.mem_range, Bool.and_eq_true, beq_iff_eq]
    constructor
    · rintro ⟨z, hz, ⟨x, hx, hs, e1, e2⟩, e3⟩
      exact ⟨x, hx, hs, by rw [e1, Option.bind_some, if_pos e2]; exact e3⟩
    · rintro ⟨x, hx, hs, e⟩
      obtain ⟨z, e1, e2⟩ := Option.bind_eq_some_iff.1 e
      by_cases e3 : pn w h o z = p
      · rw [if_pos e3] at e2
        exact ⟨z, (tn_some ht e1).2.2, ⟨x, hx, hs, e1, e3⟩, e2⟩
      · rw [if_neg e3] at e2; cases e2
theorem goT_lt {w h o : Int} : ∀ (l : List (Int × Int)) (x y : Nat), okT l → x < NW w h → goT w h o l x = some y → y < NW w h
  | [], x, y, _, hx, e => by simp only [goT, Option.some.injEq] at e; omega
  | (t, p) :: r, x, y, ho, hx, e => by
    simp only [goT] at e
    obtain ⟨z, e1, e2⟩ := Option.bind_eq_some_iff.1 e
    by_cases e3 : pn w h o z = p
    · rw [if_pos e3] at e2
      exact goT_lt r z y (fun q hq => ho q (by simp [hq])) (tn_some (ho (t, p) (by simp)) e1).2.2 e2
    · rw [if_neg e3] at e2; cases e2
/-- The walkers that fit, in the order of their numbers. -/
def fits (w h o : Int) (ps ts : List Int) : List Nat := (List.range (NW w h)).filter (stN w h o (NW w h) (ts.zip (ps.drop 1)) (fun x => pn w h o x == rd ps 0))
def pws (w h o : Int) (ps ts : List Int) : List WK := if mok w h o = true ∧ ps.length = ts.length + 1 ∧ turnsOk ts = true then (fits w h o ps ts).map wk else []
theorem tdiv4 (x : Nat) (hx : x ≤ 64) : wrap64 (Int.tdiv (x : Int) 4) = ((x / 4 : Nat) : Int) ∧ Int.tmod (x : Int) 4 = ((x % 4 : Nat) : Int) := by
  rw [Int.tdiv_eq_ediv_of_nonneg (by omega), Int.tmod_eq_emod_of_nonneg (by omega), wrap_id (by omega)]
  omega
theorem zip_drop (ps ts : List Int) (j : Nat) (hj : j < ts.length) (hps : ps.length = ts.length + 1) : (ts.zip (ps.drop 1)).drop j = (ts[j], ps[j + 1]) :: (ts.zip (ps.drop 1)).drop (j + 1) := by
  rw [drop_cons _ j (by simp; omega)]
  congr 1
  simp [Nat.add_comm]
theorem zip_end (ps ts : List Int) : (ts.zip (ps.drop 1)).drop ts.length = [] := by
  rw [List.drop_eq_nil_iff]; simp; omega
end Go.Proofs.Ytfpomjnhgcmgoaa.Pure

