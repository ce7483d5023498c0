/- Walkers, their patterns and turns; the walkers that fit a report: the reference's sets and the program's list are the same. -/
import Derived.Test.YtfpomjnhgcmgoaaQbMaze
import Derived.Test.YtfpomjnhgcmgoaaQbLists
namespace Go.Proofs.Ytfpomjnhgcmgoaa.Pure
set_option linter.unusedVariables false
set_option linter.unusedSimpArgs false
open Go.RowKit Go.Proofs.YtfpomjnhgcmgoaaW.PrintWords Go.Proofs.Ytfpomjnhgcmgoaa.P Go.Proofs.Ytfpomjnhgcmgoaa.Kit
theorem Ev.shift {α : Type} {g : Nat → Option α} {r : α} (c : Nat) (h : ∀ k, g (k + c) = some r) : Ev g r := ⟨c, fun n hn => by have := h (n - c); rwa [Nat.sub_add_cancel hn] at this⟩
def dirAt (f t : Int) : Int := Int.tmod (wrap64 (f + t)) 4
def wok (w h o c f : Int) : Bool := mok w h o && cok w h c && (decide (0 ≤ f) && decide (f ≤ 3))
def orS (w h o c f i x : Int) : Int := if step w h o c (dirAt f i) ≥ 0 then Go.bits .or .i64 x (shl .i64 1 i) else x
def pat (w h o c f : Int) : Int := if wok w h o c f = true then orS w h o c f 3 (orS w h o c f 2 (orS w h o c f 1 (orS w h o c f 0 0))) else -1
theorem dirAt_le {f t : Int} (hf : 0 ≤ f ∧ f ≤ 3) (ht : 0 ≤ t ∧ t ≤ 3) : 0 ≤ dirAt f t ∧ dirAt f t ≤ 3 := by
  unfold dirAt
  rw [wrap_id (by omega), Int.tmod_eq_emod_of_nonneg (by omega)]
  omega
theorem spec_WalkerOk_ev (w h o c f : Int) : spec_WalkerOk.f w h o c f = some (wok w h o c f) := by
  unfold spec_WalkerOk.f wok
  rw [spec_l04Has_ev, Option.bind_some, spec_l01In_ev]
  cases mok w h o && cok w h c <;> simp
theorem impl_WalkerOk_ev (w h o c f : Int) : impl_WalkerOk.f w h o c f = some (wok w h o c f) := by
  unfold impl_WalkerOk.f wok
  rw [impl_isIn_ev, Option.bind_some, impl_isDirection_ev]
  simp only [List.all_cons, List.all_nil, Bool.and_true]
  cases mok w h o && cok w h c <;> simp
theorem spec_pat_round (k : Nat) (w h o c f x i : Int) (hi : 0 ≤ i ∧ i < 4) : spec_PatternAt.l0 (k + 2) x i w h o c f = spec_PatternAt.l0 (k + 1) (orS w h o c f i x) (i + 1) w h o c f := by
  rw [spec_PatternAt.l0, if_pos hi.2]
  show (spec_Step.f (k + 1) w h o c (dirAt f i)).bind _ = _
  rw [spec_Step_ev, Option.bind_some, wrap_id (by omega), if_pos hi.1]
  unfold orS
  split <;> rfl
theorem impl_pat_round (k : Nat) (w h o c f x i : Int) (hi : 0 ≤ i ∧ i < 4) : impl_PatternAt.l0 (k + 4) x i w h o c f = impl_PatternAt.l0 (k + 3) (orS w h o c f i x) (i + 1) w h o c f := by
  rw [impl_PatternAt.l0, if_pos hi.2]
  show (impl_Step.f (k + 3) w h o c (dirAt f i)).bind _ = _
  rw [impl_Step_ev, Option.bind_some, wrap_id (by omega), if_pos hi.1]
  unfold orS
  split <;> rfl
theorem spec_PatternAt_ev (w h o c f : Int) : Ev (fun k => spec_PatternAt.f k w h o c f) (pat w h o c f) := by
  refine Ev.shift 6 fun k => ?_
  unfold spec_PatternAt.f pat
  rw [spec_WalkerOk_ev, Option.bind_some]
  cases wok w h o c f with
  | true =>
    rw [if_pos rfl, if_pos rfl, spec_pat_round _ _ _ _ _ _ _ _ (by omega), spec_pat_round _ _ _ _ _ _ _ _ (by omega), spec_pat_round _ _ _ _ _ _ _ _ (by omega), spec_pat_round _ _ _ _ _ _ _ _ (by omega), spec_PatternAt.l0, if_neg (by omega)]
    rfl
  | false => rfl
theorem impl_PatternAt_ev (w h o c f : Int) : Ev (fun k => impl_PatternAt.f k w h o c f) (pat w h o c f) := by
  refine Ev.shift 8 fun k => ?_
  unfold impl_PatternAt.f pat
  rw [impl_WalkerOk_ev, Option.bind_some]
  cases wok w h o c f with
  | true =>
    rw [if_pos rfl, if_pos rfl, impl_pat_round _ _ _ _ _ _ _ _ (by omega), impl_pat_round _ _ _ _ _ _ _ _ (by omega), impl_pat_round _ _ _ _ _ _ _ _ (by omega), impl_pat_round _ _ _ _ _ _ _ _ (by omega), impl_PatternAt.l0, if_neg (by omega)]
    rfl
  | false => rfl
theorem spec_l33Turned_ev (w h o c f t : Int) : Ev (fun k => spec_l33Turned.f k w h o c f t) (if step w h o c (dirAt f t) < 0 then (c, f, false) else (step w h o c (dirAt f t), dirAt f t, true)) := by
  refine Ev.shift 1 fun k => ?_
  unfold spec_l33Turned.f
  show (spec_Step.f (k + 1) w h o c (dirAt f t)).bind _ = _
  rw [spec_Step_ev, Option.bind_some]
  show _ = some (if _ then _ else _)
  split <;> rfl
theorem impl_went_ev (w h o c f t : Int) : Ev (fun k => impl_went.f k w h o c f t) (step w h o c (dirAt f t), dirAt f t, decide (step w h o c (dirAt f t) ≥ 0)) := by
  refine Ev.shift 3 fun k => ?_
  unfold impl_went.f impl_marked.f
  show ((impl_Step.f (k + 3) w h o c (dirAt f t)).bind _).bind _ = _
  rw [impl_Step_ev]
  rfl
def turnsOk (l : List Int) : Bool := decide (l.length ≤ 40) && l.all (fun t => decide (0 ≤ t) && decide (t ≤ 3))
theorem spec_l33Turns_ev (l : List Int) (hl : l.length ≤ 1048576) : Ev (fun k => spec_l33Turns.f k l) (turnsOk l) := by
  have key : ∀ m i, i + m = l.length → Ev (fun k => spec_l26Turns.l0 k l (i : Int)) ((l.drop i).all (fun t => decide (0 ≤ t) && decide (t ≤ 3)) && decide (l.length ≤ 400)) := by
    intro m
    induction m with
    | zero =>
      intro i hi
      refine Ev.succ (fun k => spec_l26Turns.l0.eq_2 ..) (Ev.neg (by omega) (Ev.ret ?_))
      rw [List.drop_of_length_le (by omega)]
      simp; omega
    | succ m ih =>
      intro i hi
      have hlt : i < l.length := by omega
      refine Ev.succ (fun k => spec_l26Turns.l0.eq_2 ..) (Ev.pos (by omega) (Ev.pos (by omega) ?_))
      rw [rd_cast l i hlt, spec_l01In_ev, drop_cons l i hlt, List.all_cons]
      simp only [Option.bind_some]
      by_cases hc : (decide (0 ≤ l[i]) && decide (l[i] ≤ 3)) = true
      · refine Ev.pos hc ?_
        rw [hc, Bool.true_and, wrap_nat (by omega)]
        exact ih (i + 1) (by omega)
      · refine Ev.neg hc (Ev.ret ?_)
        rw [Bool.eq_false_iff.2 hc, Bool.false_and, Bool.false_and]
  unfold spec_l33Turns.f spec_l26Turns.f
  refine Ev.bind (key l.length 0 (by omega)) ?_
  rw [List.drop_zero]
  unfold turnsOk
  cases hA : l.all (fun t => decide (0 ≤ t) && decide (t ≤ 3)) with
  | true =>
    by_cases h4 : l.length ≤ 400
    · refine Ev.pos (by simpa using h4) (Ev.ret ?_)
      simp; omega
    · refine Ev.neg (by simpa using h4) (Ev.ret ?_)
      simp; omega
  | false => exact Ev.neg (by simp) (Ev.ret (by simp))
theorem impl_areTurns_ev (l : List Int) : impl_areTurns.f l 40 = some (turnsOk l) := by
  unfold impl_areTurns.f turnsOk
  congr 1
  rw [List.not_any_eq_all_not]
  congr 1
  · by_cases h : l.length ≤ 40
    · simp [h]; omega
    · simp [h]; omega
  · congr 1
    funext t
    by_cases h1 : 0 ≤ t <;> by_cases h2 : t ≤ 3 <;> simp [h1, h2] <;> omega
abbrev WK := S43
def wk (x : Nat) : WK := ⟨((x / 4 : Nat) : Int), ((x % 4 : Nat) : Int)⟩
def NW (w h : Int) : Nat := (4 * cells w h).toNat
theorem NW_eq {w h : Int} : (NW w h : Int) = 4 * cells w h ∧ NW w h ≤ 64 := by
  have := @cells_le w h
  unfold NW; omega
def tn (w h o : Int) (x : Nat) (t : Int) : Option Nat := if step w h o (x / 4 : Nat) (dirAt (x % 4 : Nat) t) < 0 then none else some (4 * step w h o (x / 4 : Nat) (dirAt (x % 4 : Nat) t) + dirAt (x % 4 : Nat) t).toNat
def pn (w h o : Int) (x : Nat) : Int := pat w h o (x / 4 : Nat) (x % 4 : Nat)
theorem tn_some {w h o : Int} {x y : Nat} {t : Int} (ht : 0 ≤ t ∧ t ≤ 3) (q : tn w h o x t = some y) : ((y / 4 : Nat) : Int) = step w h o (x / 4 : Nat) (dirAt (x % 4 : Nat) t) ∧ ((y % 4 : Nat) : Int) = dirAt (x % 4 : Nat) t ∧ y < NW w h := by
  have hd := @dirAt_le ((x % 4 : Nat) : Int) t (by omega) ht
  unfold tn at q
  split at q
  · cases q
  · have := Option.some.inj q
    rcases @step_cases w h o (x / 4 : Nat) (dirAt (x % 4 : Nat) t) with h1 | ⟨_, _, _, h2, h3⟩
    · omega
    · rw [cok_iff] at h3
      have := @NW_eq w h
      omega
def goT (w h o : Int) : List (Int × Int) → Nat → Option Nat
  | [], x => some x
  | (t, p) :: r, x => (tn w h o x t).bind fun y => if pn w h o y = p then goT w h o r y else none
def stN (w h o : Int) (N : Nat) : List (Int × Int) → (Nat → Bool) → (Nat → Bool)
  | [], S => S
  | (t, p) :: r, S => stN w h o N r (fun y => (List.range N).any fun x => S x && (tn w h o x t == some y && pn w h o y == p))
def okT (l : List (Int × Int)) : Prop := ∀ q ∈ l, 0 ≤ q.1 ∧ q.1 ≤ 3
theorem stN_iff {w h o : Int} : ∀ (l : List (Int × Int)) (S : Nat → Bool) (y : Nat), okT l → y < NW w h → (stN w h o (NW w h) l S y = true ↔ ∃ x, x < NW w h ∧ S x = true ∧ goT w h o l x = some y)
  | [], S, y, _, hy => by
    simp only [stN, goT, Option.some.injEq]
    exact ⟨fun q => ⟨y, hy, q, rfl⟩, fun ⟨x, _, q, e⟩ => e ▸ q⟩
  | (t, p) :: r, S, y, ho, hy => by
    have ht := ho (t, p) (by simp)
    rw [stN, stN_iff r _ y (fun q hq => ho q (by simp [hq])) hy]
    simp only [goT, List.any_eq_true, List.mem_range, Bool.and_eq_true, beq_iff_eq]
    constructor
    · rintro ⟨z, hz, ⟨x, hx, hs, e1, e2⟩, e3⟩
      exact ⟨x, hx, hs, by rw [e1, Option.bind_some, if_pos e2]; exact e3⟩
    · rintro ⟨x, hx, hs, e⟩
      obtain ⟨z, e1, e2⟩ := Option.bind_eq_some_iff.1 e
      by_cases e3 : pn w h o z = p
      · rw [if_pos e3] at e2
        exact ⟨z, (tn_some ht e1).2.2, ⟨x, hx, hs, e1, e3⟩, e2⟩
      · rw [if_neg e3] at e2; cases e2
theorem goT_lt {w h o : Int} : ∀ (l : List (Int × Int)) (x y : Nat), okT l → x < NW w h → goT w h o l x = some y → y < NW w h
  | [], x, y, _, hx, e => by simp only [goT, Option.some.injEq] at e; omega
  | (t, p) :: r, x, y, ho, hx, e => by
    simp only [goT] at e
    obtain ⟨z, e1, e2⟩ := Option.bind_eq_some_iff.1 e
    by_cases e3 : pn w h o z = p
    · rw [if_pos e3] at e2
      exact goT_lt r z y (fun q hq => ho q (by simp [hq])) (tn_some (ho (t, p) (by simp)) e1).2.2 e2
    · rw [if_neg e3] at e2; cases e2
/-- The walkers that fit, in the order of their numbers. -/
def fits (w h o : Int) (ps ts : List Int) : List Nat := (List.range (NW w h)).filter (stN w h o (NW w h) (ts.zip (ps.drop 1)) (fun x => pn w h o x == rd ps 0))
def pws (w h o : Int) (ps ts : List Int) : List WK := if mok w h o = true ∧ ps.length = ts.length + 1 ∧ turnsOk ts = true then (fits w h o ps ts).map wk else []
theorem mapR_get {α : Type} (N : Nat) (f : Nat → α) (d : α) (x : Nat) (hx : x < N) : rdOf d ((List.range N).map f) (x : Int) = f x := by
  show ((List.range N).map f).getD (x : Int).toNat d = f x
  rw [getD_cast _ _ _ (by simpa using hx)]
  simp
theorem mapR_set {α : Type} (N : Nat) (f g : Nat → α) (y : Nat) (v : α) (h : ∀ x, x < N → g x = if x = y then v else f x) : ((List.range N).map f).set y v = (List.range N).map g := by
  apply List.ext_getElem?
  intro j
  rw [List.getElem?_set]
  by_cases hj : j < N
  · by_cases e : y = j
    · subst e; rw [if_pos rfl, if_pos (by simpa using hj)]; simp [hj, h y hj]
    · rw [if_neg e]; simp [hj, h j hj, Ne.symm e]
  · by_cases e : y = j
    · subst e; rw [if_pos rfl, if_neg (by simpa using hj), List.getElem?_eq_none (by simpa using Nat.le_of_not_lt hj)]
    · rw [if_neg e]; simp [hj]
theorem tdiv4 (x : Nat) (hx : x ≤ 64) : wrap64 (Int.tdiv (x : Int) 4) = ((x / 4 : Nat) : Int) ∧ Int.tmod (x : Int) 4 = ((x % 4 : Nat) : Int) := by
  rw [Int.tdiv_eq_ediv_of_nonneg (by omega), Int.tmod_eq_emod_of_nonneg (by omega), wrap_id (by omega)]
  omega
theorem spec_PW_l3 (w h : Int) (F : Nat → Bool) : Ev (fun k => spec_PossibleWalkers.l3 k [] (NW w h : Int) ((List.range (NW w h)).map F) 0) (((List.range (NW w h)).filter F).map wk) := by
  have hN := (@NW_eq w h).2
  refine Ev.down (L := fun i k => spec_PossibleWalkers.l3 k (((List.range i).filter F).map wk) (NW w h : Int) ((List.range (NW w h)).map F) (i : Int)) (NW w h) ?_ ?_
  · intro i hi ih
    refine Ev.succ (fun k => spec_PossibleWalkers.l3.eq_2 ..) (Ev.pos (by omega) (Ev.pos (by omega) (Ev.pos (by simpa using hi) ?_)))
    rw [mapR_get _ _ _ _ hi, wrap_nat (by omega), (tdiv4 i (by omega)).1, (tdiv4 i (by omega)).2]
    rw [List.range_succ, List.filter_append, List.map_append] at ih
    by_cases hF : F i = true
    · refine Ev.pos hF (Ev.pos ?_ ?_)
      · have : (((List.range i).filter F).map wk).length ≤ i := by rw [List.length_map]; exact Nat.le_trans (List.length_filter_le _ _) (by simp)
        omega
      · simpa [hF, wk] using ih
    · refine Ev.neg hF ?_
      simpa [hF] using ih
  · exact Ev.succ (fun k => spec_PossibleWalkers.l3.eq_2 ..) (Ev.neg (by omega) (Ev.now _))
theorem spec_PW_l2 (w h o : Int) (ps ts : List Int) (j : Nat) (hj : j < ts.length) (hps : ps.length = ts.length + 1) (hl : ts.length ≤ 40) (ht : 0 ≤ ts[j] ∧ ts[j] ≤ 3) (S : Nat → Bool) {r : List WK}
    (hnext : Ev (fun k => spec_PossibleWalkers.l1 k ps ts [] (NW w h : Int) ((List.range (NW w h)).map (stN w h o (NW w h) [(ts[j], ps[j + 1])] S)) ((j + 1 : Nat) : Int) w h o) r) :
    Ev (fun k => spec_PossibleWalkers.l2 k ps ts [] (NW w h : Int) ((List.range (NW w h)).map S) (j : Int) (List.replicate (NW w h) false) 0 w h o) r := by
  have hN := (@NW_eq w h).2
  have hz : List.replicate (NW w h) false = (List.range (NW w h)).map (fun y => (List.range 0).any fun x => S x && (tn w h o x ts[j] == some y && pn w h o y == ps[j + 1])) := by
    apply List.ext_getElem
    · simp
    · intro i h1 h2; simp
  rw [hz]
  refine Ev.down (L := fun i k => spec_PossibleWalkers.l2 k ps ts [] (NW w h : Int) ((List.range (NW w h)).map S) (j : Int) ((List.range (NW w h)).map (fun y => (List.range i).any fun x => S x && (tn w h o x ts[j] == some y && pn w h o y == ps[j + 1]))) (i : Int) w h o) (NW w h) ?_ ?_
  · intro i hi ih
    have hF : ∀ y, ((List.range (i + 1)).any fun x => S x && (tn w h o x ts[j] == some y && pn w h o y == ps[j + 1])) = (((List.range i).any fun x => S x && (tn w h o x ts[j] == some y && pn w h o y == ps[j + 1])) || (S i && (tn w h o i ts[j] == some y && pn w h o y == ps[j + 1]))) := fun y => by
      rw [List.range_succ, List.any_append]; simp
    simp only [hF] at ih
    refine Ev.succ (fun k => spec_PossibleWalkers.l2.eq_2 ..) (Ev.pos (by omega) (Ev.pos (by omega) (Ev.pos (by omega) ?_)))
    rw [rd_cast ts j hj, (tdiv4 i (by omega)).1, (tdiv4 i (by omega)).2]
    have hT := spec_l33Turned_ev w h o ((i / 4 : Nat) : Int) ((i % 4 : Nat) : Int) ts[j]
    have same : S i = false ∨ (∀ y, (tn w h o i ts[j] == some y && pn w h o y == ps[j + 1]) = false) → Ev (fun k => spec_PossibleWalkers.l2 k ps ts [] (NW w h : Int) ((List.range (NW w h)).map S) (j : Int) ((List.range (NW w h)).map (fun y => (List.range i).any fun x => S x && (tn w h o x ts[j] == some y && pn w h o y == ps[j + 1]))) (wrap64 ((i : Int) + 1)) w h o) r := by
      intro q
      rw [wrap_nat (by omega)]
      rcases q with q | q
      · simpa only [q, Bool.false_and, Bool.or_false] using ih
      · simpa only [q, Bool.and_false, Bool.or_false] using ih
    by_cases hs : step w h o ((i / 4 : Nat) : Int) (dirAt ((i % 4 : Nat) : Int) ts[j]) < 0
    · rw [if_pos hs] at hT
      refine Ev.bind hT (Ev.pos (by omega) (Ev.pos (by simpa using hi) ?_))
      rw [mapR_get _ _ _ _ hi]
      have hn : tn w h o i ts[j] = none := by unfold tn; rw [if_pos hs]
      by_cases hS : S i = true
      · exact Ev.pos hS (Ev.neg (by simp) (same (.inr (by simp [hn]))))
      · exact Ev.neg hS (same (.inl (by simpa using hS)))
    · rw [if_neg hs] at hT
      refine Ev.bind hT (Ev.pos (by omega) (Ev.pos (by simpa using hi) ?_))
      rw [mapR_get _ _ _ _ hi]
      by_cases hS : S i = true
      · refine Ev.pos hS (Ev.pos rfl ?_)
        obtain ⟨y, hy⟩ : ∃ y, tn w h o i ts[j] = some y := by unfold tn; rw [if_neg hs]; exact ⟨_, rfl⟩
        obtain ⟨e1, e2, e3⟩ := tn_some ht hy
        have hq : pn w h o y = pat w h o (step w h o ((i / 4 : Nat) : Int) (dirAt ((i % 4 : Nat) : Int) ts[j])) (dirAt ((i % 4 : Nat) : Int) ts[j]) := by unfold pn; rw [e1, e2]
        refine Ev.bind (spec_PatternAt_ev _ _ _ _ _) ?_
        rw [wrap_nat (n := j) (by omega)]
        refine Ev.pos (by omega) (Ev.pos (by omega) ?_)
        rw [rd_cast ps (j + 1) (by omega)]
        by_cases hp : pat w h o (step w h o ((i / 4 : Nat) : Int) (dirAt ((i % 4 : Nat) : Int) ts[j])) (dirAt ((i % 4 : Nat) : Int) ts[j]) = ps[j + 1]
        · have hidx : wrap64 (wrap64 (4 * step w h o ((i / 4 : Nat) : Int) (dirAt ((i % 4 : Nat) : Int) ts[j])) + dirAt ((i % 4 : Nat) : Int) ts[j]) = (y : Int) := by
            rw [← e1, ← e2, wrap_id (n := 4 * ((y / 4 : Nat) : Int)) (by omega), wrap_id (by omega)]; omega
          refine Ev.pos hp ?_
          rw [hidx]
          refine Ev.pos (by omega) (Ev.pos (by simpa using e3) ?_)
          rw [Int.toNat_natCast, wrap_nat (by omega), mapR_set _ _ _ y true (fun x hx => ?_)]
          · exact ih
          · rw [hS, hy, Bool.true_and]
            by_cases e : x = y
            · subst e
              have hq' := hq.trans hp
              simp [hq']
            · have : y ≠ x := fun z => e z.symm
              simp [e, this]
        · refine Ev.neg hp (same (.inr fun z => ?_))
          rw [hy]
          by_cases e : y = z
          · subst e
            have hq' : pn w h o y ≠ ps[j + 1] := by rw [hq]; exact hp
            simp [hq']
          · simp [e]
      · exact Ev.neg hS (same (.inl (by simpa using hS)))
  · refine Ev.succ (fun k => spec_PossibleWalkers.l2.eq_2 ..) (Ev.neg (by omega) ?_)
    rw [wrap_nat (by omega)]
    exact hnext
theorem zip_drop (ps ts : List Int) (j : Nat) (hj : j < ts.length) (hps : ps.length = ts.length + 1) : (ts.zip (ps.drop 1)).drop j = (ts[j], ps[j + 1]) :: (ts.zip (ps.drop 1)).drop (j + 1) := by
  rw [drop_cons _ j (by simp; omega)]
  congr 1
  simp [Nat.add_comm]
theorem zip_end (ps ts : List Int) : (ts.zip (ps.drop 1)).drop ts.length = [] := by
  rw [List.drop_eq_nil_iff]; simp; omega
theorem spec_PW_l1 (w h o : Int) (ps ts : List Int) (hps : ps.length = ts.length + 1) (ht : turnsOk ts = true) : ∀ (m j : Nat) (S : Nat → Bool), j + m = ts.length → Ev (fun k => spec_PossibleWalkers.l1 k ps ts [] (NW w h : Int) ((List.range (NW w h)).map S) (j : Int) w h o) (((List.range (NW w h)).filter (stN w h o (NW w h) ((ts.zip (ps.drop 1)).drop j) S)).map wk) := by
  have hl : ts.length ≤ 40 := by unfold turnsOk at ht; simp at ht; exact ht.1
  have hN := (@NW_eq w h).2
  intro m
  induction m with
  | zero =>
    intro j S hj
    rw [show j = ts.length by omega, zip_end]
    exact Ev.succ (fun k => spec_PossibleWalkers.l1.eq_2 ..) (Ev.neg (by omega) (spec_PW_l3 w h S))
  | succ m ih =>
    intro j S hj
    have hlt : j < ts.length := by omega
    have h1 : 0 ≤ ts[j] ∧ ts[j] ≤ 3 := by
      unfold turnsOk at ht
      simp only [Bool.and_eq_true, List.all_eq_true, decide_eq_true_eq] at ht
      exact ht.2 _ (List.getElem_mem hlt)
    refine Ev.succ (fun k => spec_PossibleWalkers.l1.eq_2 ..) (Ev.pos (by omega) (Ev.pos (by omega) (Ev.pos (by omega) ?_)))
    rw [Int.toNat_natCast, zip_drop ps ts j hlt hps]
    exact spec_PW_l2 w h o ps ts j hlt hps hl h1 S (ih (j + 1) _ (by omega))
theorem spec_PW_l0 (w h o : Int) (ps ts : List Int) (hps : ps.length = ts.length + 1) (ht : turnsOk ts = true) : Ev (fun k => spec_PossibleWalkers.l0 k ps ts [] (NW w h : Int) (List.replicate (NW w h) false) 0 w h o) ((fits w h o ps ts).map wk) := by
  have hN := (@NW_eq w h).2
  have hz : List.replicate (NW w h) false = (List.range (NW w h)).map (fun x => decide (x < 0) && pn w h o x == rd ps 0) := by
    apply List.ext_getElem
    · simp
    · intro i h1 h2; simp
  rw [hz]
  refine Ev.down (L := fun i k => spec_PossibleWalkers.l0 k ps ts [] (NW w h : Int) ((List.range (NW w h)).map (fun x => decide (x < i) && pn w h o x == rd ps 0)) (i : Int) w h o) (NW w h) ?_ ?_
  · intro i hi ih
    refine Ev.succ (fun k => spec_PossibleWalkers.l0.eq_2 ..) (Ev.pos (by omega) ?_)
    rw [(tdiv4 i (by omega)).1, (tdiv4 i (by omega)).2]
    refine Ev.bind (spec_PatternAt_ev _ _ _ _ _) (Ev.pos (by omega) (Ev.pos (by omega) (Ev.pos (by simpa using hi) ?_)))
    rw [Int.toNat_natCast, wrap_nat (by omega), mapR_set _ _ (fun x => decide (x < i + 1) && pn w h o x == rd ps 0) i _ (fun x hx => ?_)]
    · exact ih
    · by_cases e : x = i
      · subst e; simp [pn]
      · rw [if_neg e]; congr 1; by_cases h1 : x < i
        · simp [h1]; omega
        · simp [h1]; omega
  · refine Ev.succ (fun k => spec_PossibleWalkers.l0.eq_2 ..) (Ev.neg (by omega) ?_)
    have := spec_PW_l1 w h o ps ts hps ht ts.length 0 (fun x => decide (x < NW w h) && pn w h o x == rd ps 0) (by omega)
    rw [List.drop_zero] at this
    have e : fits w h o ps ts = (List.range (NW w h)).filter (stN w h o (NW w h) (ts.zip (ps.drop 1)) (fun x => decide (x < NW w h) && pn w h o x == rd ps 0)) := by
      unfold fits
      apply List.filter_congr
      intro y hy
      have hy' : y < NW w h := by simpa using hy
      have hok : okT (ts.zip (ps.drop 1)) := by
        intro q hq
        have h2 := (List.of_mem_zip hq).1
        unfold turnsOk at ht
        simp only [Bool.and_eq_true, List.all_eq_true, decide_eq_true_eq] at ht
        exact ht.2 _ h2
      rw [Bool.eq_iff_iff, stN_iff _ _ _ hok hy', stN_iff _ _ _ hok hy']
      constructor
      · rintro ⟨x, hx, h1, h2⟩; exact ⟨x, hx, by simp [hx, h1], h2⟩
      · rintro ⟨x, hx, h1, h2⟩; exact ⟨x, hx, by simpa [hx] using h1, h2⟩
    rw [e]
    exact this
theorem spec_PossibleWalkers_ev (w h o : Int) (ps ts : List Int) (hp : ps.length ≤ 1048576) (hl : ts.length ≤ 1048576) : Ev (fun k => spec_PossibleWalkers.f k w h o ps ts) (pws w h o ps ts) := by
  unfold spec_PossibleWalkers.f pws
  simp only [Option.bind_some, spec_MazeOk_ev]
  rw [wrap_nat (by omega)]
  have bad : Ev (fun k => spec_PossibleWalkers.j0 k ps ts [] true w h o) [] := Ev.succ (fun k => spec_PossibleWalkers.j0.eq_2 ..) (Ev.pos rfl (Ev.now _))
  by_cases hm : mok w h o = true
  · refine Ev.pos hm ?_
    by_cases he : ps.length = ts.length + 1
    · refine Ev.pos (by omega) (Ev.bind (spec_l33Turns_ev ts hl) ?_)
      cases ht : turnsOk ts with
      | true =>
        rw [if_pos ⟨hm, he, rfl⟩]
        refine Ev.succ (fun k => spec_PossibleWalkers.j0.eq_2 ..) (Ev.neg (by simp) ?_)
        have hN := @NW_eq w h
        rw [spec_CountCells_ev]
        simp only [Option.bind_some]
        rw [wrap_id (by omega), ← hN.1]
        refine Ev.pos (by omega) (Ev.pos (by omega) ?_)
        rw [Int.toNat_natCast]
        exact spec_PW_l0 w h o ps ts he ht
      | false => rw [if_neg (by simp)]; exact bad
    · rw [if_neg (fun q => he q.2.1)]
      exact Ev.neg (by omega) bad
  · rw [if_neg (fun q => hm q.1)]
    exact Ev.neg hm bad
end Go.Proofs.Ytfpomjnhgcmgoaa.Pure

