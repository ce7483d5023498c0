/- Reports of walkers, drawn and given: the plain side of FnLocated. -/
import Derived.Test.YtfpomjnhgcmgoaaQcDraw
import Derived.Test.YtfpomjnhgcmgoaaQcLoc2
namespace Go.Proofs.Ytfpomjnhgcmgoaa.Pure
set_option linter.unusedVariables false
set_option linter.unusedSimpArgs false
open Go.RowKit Go.Proofs.YtfpomjnhgcmgoaaW.PrintWords Go.Proofs.Ytfpomjnhgcmgoaa.P Go.Proofs.Ytfpomjnhgcmgoaa.Kit
def ways (w h o c : Int) : List Int := [0, 1, 2, 3].filter (fun d => decide (0 ≤ step w h o c d))
theorem spec_WaysFrom_ev (w h o c : Int) : Ev (fun k => spec_WaysFrom.f k w h o c) (ways w h o c) := by
  unfold spec_WaysFrom.f
  have one : ∀ (acc : List Int) (d : Int) (r : List Int), acc.length ≤ 4 → 0 ≤ d ∧ d ≤ 3 → Ev (fun k => spec_WaysFrom.l0 k c (if 0 ≤ step w h o c d then acc ++ [d] else acc) (d + 1) w h o) r → Ev (fun k => spec_WaysFrom.l0 k c acc d w h o) r := by
    intro acc d r ha hd hr
    refine Ev.succ (fun k => spec_WaysFrom.l0.eq_2 ..) (Ev.pos hd.2 (Ev.bind (a := step w h o c d) ⟨1, fun k hk => by obtain ⟨j, rfl⟩ : ∃ j, k = j + 1 := ⟨k - 1, by omega⟩; exact spec_Step_ev j w h o c d⟩ ?_))
    rw [wrap_id (by omega)]
    by_cases hs : 0 ≤ step w h o c d
    · rw [if_pos hs] at hr
      exact Ev.pos hs (Ev.pos (by omega) hr)
    · rw [if_neg hs] at hr
      exact Ev.neg hs hr
  have l : ∀ (c : Prop) [Decidable c] (a : List Int) (d : Int), (if c then a ++ [d] else a).length ≤ a.length + 1 := by intro c _ a d; split <;> simp
  refine one [] 0 _ (by simp) (by omega) ?_
  refine one _ 1 _ (Nat.le_trans (l _ _ _) (by simp)) (by omega) ?_
  refine one _ 2 _ (Nat.le_trans (l _ _ _) (Nat.le_trans (Nat.add_le_add_right (l _ _ _) 1) (by simp))) (by omega) ?_
  refine one _ 3 _ (Nat.le_trans (l _ _ _) (Nat.le_trans (Nat.add_le_add_right (l _ _ _) 1) (Nat.le_trans (Nat.add_le_add_right (Nat.add_le_add_right (l _ _ _) 1) 1) (by simp)))) (by omega) ?_
  refine Ev.succ (fun k => spec_WaysFrom.l0.eq_2 ..) (Ev.neg (by omega) (Ev.ret ?_))
  unfold ways
  by_cases h0 : 0 ≤ step w h o c 0 <;> by_cases h1 : 0 ≤ step w h o c 1 <;> by_cases h2 : 0 ≤ step w h o c 2 <;> by_cases h3 : 0 ≤ step w h o c 3 <;> simp [h0, h1, h2, h3]
/-- Where the turns lead. -/
def run (w h o : Int) : List Int → Nat → Option Nat
  | [], x => some x
  | t :: r, x => (tn w h o x t).bind (run w h o r)
/-- The patterns on the way. -/
def pats (w h o : Int) : List Int → Nat → List Int
  | [], _ => []
  | t :: r, x => match tn w h o x t with
    | some y => pn w h o y :: pats w h o r y
    | none => []
theorem tn_go {w h o : Int} {x y : Nat} {t : Int} (ht : 0 ≤ t ∧ t ≤ 3) (q : tn w h o x t = some y) : 0 ≤ step w h o (x / 4 : Nat) (dirAt (x % 4 : Nat) t) := by
  unfold tn at q
  split at q
  · cases q
  · omega
theorem tn_none {w h o : Int} {x : Nat} {t : Int} (q : tn w h o x t = none) : step w h o (x / 4 : Nat) (dirAt (x % 4 : Nat) t) < 0 := by
  unfold tn at q
  split at q
  · assumption
  · cases q
theorem turn_to : ∀ d f : Fin 4, 0 ≤ Int.tmod (wrap64 (wrap64 (((d.val : Nat) : Int) - ((f.val : Nat) : Int)) + 4)) 4 ∧ Int.tmod (wrap64 (wrap64 (((d.val : Nat) : Int) - ((f.val : Nat) : Int)) + 4)) 4 ≤ 3 ∧ dirAt ((f.val : Nat) : Int) (Int.tmod (wrap64 (wrap64 (((d.val : Nat) : Int) - ((f.val : Nat) : Int)) + 4)) 4) = ((d.val : Nat) : Int) := by decide +kernel
theorem tn_of {w h o : Int} {x : Nat} {t : Int} (hs : 0 ≤ step w h o (x / 4 : Nat) (dirAt (x % 4 : Nat) t)) : ∃ y, tn w h o x t = some y := by
  unfold tn
  rw [if_neg (by omega)]
  exact ⟨_, rfl⟩
/-- A walk is drawn: the turns of it can be gone. -/
theorem spec_l33Walk_ex (b : List Int) (i h0 w h o : Int) (x : Nat) (hi : 0 ≤ i) (hb : b.length ≤ 1048576) (hx : x < NW w h) :
    Ex (fun k => spec_l33Walk.f k b i h0 w h o ((x / 4 : Nat) : Int) ((x % 4 : Nat) : Int)) (fun a => a.1.length ≤ 8 ∧ (∀ t ∈ a.1, 0 ≤ t ∧ t ≤ 3) ∧ ∃ e, run w h o a.1 x = some e) := by
  unfold spec_l33Walk.f
  refine Ex.bindx (spec_l01Below_ex b i h0 8 hi hb) (fun n hn => ?_)
  have hn8 : n.1 < 8 := by rcases hn.1.2 with h | ⟨h, _⟩ <;> omega
  have go : ∀ (m j : Nat) (acc : List Int) (i h0 : Int) (y : Nat), (j : Int) + m = n.1 → acc.length = j → 0 ≤ i → y < NW w h →
      Ex (fun k => spec_l33Walk.l0 k acc n.1 (j : Int) b i h0 w h o ((y / 4 : Nat) : Int) ((y % 4 : Nat) : Int)) (fun a => ∃ ts, a.1 = acc ++ ts ∧ ts.length ≤ m ∧ (∀ t ∈ ts, 0 ≤ t ∧ t ≤ 3) ∧ ∃ e, run w h o ts y = some e) := by
    intro m
    induction m with
    | zero =>
      intro j acc i h0 y hj ha hi hy
      exact Ex.succ (fun k => spec_l33Walk.l0.eq_2 ..) (Ex.neg (by omega) (Ex.now ⟨[], by simp, by simp, by simp, y, rfl⟩))
    | succ m ih =>
      intro j acc i h0 y hj ha hi hy
      refine Ex.succ (fun k => spec_l33Walk.l0.eq_2 ..) (Ex.pos (by omega) (Ex.bindE (spec_WaysFrom_ev ..) ?_))
      by_cases hz : ((ways w h o ((y / 4 : Nat) : Int)).length : Int) = 0
      · exact Ex.pos hz (Ex.now ⟨[], by simp, by simp, by simp, y, rfl⟩)
      · refine Ex.neg hz (Ex.bindx (spec_l01Below_ex b i h0 _ hi hb) (fun q hq => ?_))
        have hq1 : q.1 < ((ways w h o ((y / 4 : Nat) : Int)).length : Int) := by rcases hq.1.2 with h | ⟨h, _⟩ <;> omega
        refine Ex.pos hq.1.1 (Ex.pos hq1 (Ex.pos (by omega) ?_))
        have hrd := rd_cast (ways w h o ((y / 4 : Nat) : Int)) q.1.toNat (by omega)
        rw [Int.toNat_of_nonneg hq.1.1] at hrd
        have hmem : rd (ways w h o ((y / 4 : Nat) : Int)) q.1 ∈ ways w h o ((y / 4 : Nat) : Int) := by rw [hrd]; exact List.getElem_mem _
        generalize rd (ways w h o ((y / 4 : Nat) : Int)) q.1 = d at hmem ⊢
        unfold ways at hmem
        rw [List.mem_filter, decide_eq_true_eq] at hmem
        obtain ⟨hd1, hd2⟩ := hmem
        have hd : 0 ≤ d ∧ d ≤ 3 := by simp only [List.mem_cons, List.not_mem_nil, or_false] at hd1; omega
        have ht := turn_to ⟨d.toNat, by omega⟩ ⟨y % 4, by omega⟩
        simp only [Int.toNat_of_nonneg hd.1] at ht
        generalize Int.tmod (wrap64 (wrap64 (d - ((y % 4 : Nat) : Int)) + 4)) 4 = t at ht ⊢
        obtain ⟨t1, t2, t3⟩ := ht
        have hst : 0 ≤ step w h o ((y / 4 : Nat) : Int) (dirAt ((y % 4 : Nat) : Int) t) := by rw [t3]; exact hd2
        obtain ⟨z, hz'⟩ := tn_of hst
        obtain ⟨z1, z2, z3⟩ := tn_some ⟨t1, t2⟩ hz'
        refine Ex.bindE (spec_l33Turned_ev ..) ?_
        rw [if_neg (by omega), wrap_nat (by omega)]
        simp only
        rw [← z1, ← z2]
        refine Ex.imp (ih (j + 1) (acc ++ [t]) q.2.1 q.2.2 z (by omega) (by simp [ha]) hq.2 z3) ?_
        rintro a ⟨ts, h1, h2, h3, e, h4⟩
        exact ⟨t :: ts, by rw [h1]; simp, by simp; omega, fun u hu => (List.mem_cons.1 hu).elim (fun q => by rw [q]; exact ⟨t1, t2⟩) (h3 u), e, by simp [run, hz', h4]⟩
  refine Ex.imp (go n.1.toNat 0 [] n.2.1 n.2.2 x (by omega) rfl hn.2 hx) ?_
  rintro a ⟨ts, h1, h2, h3, h4⟩
  rw [h1]
  exact ⟨by simp; omega, by simpa using h3, by simpa using h4⟩
theorem idx_of {w h c f : Int} (hc : 0 ≤ c ∧ c < cells w h) (hf : 0 ≤ f ∧ f < 4) : (((4 * c + f).toNat / 4 : Nat) : Int) = c ∧ (((4 * c + f).toNat % 4 : Nat) : Int) = f ∧ (4 * c + f).toNat < NW w h := by
  have := @NW_eq w h
  omega
/-- A report is drawn: a maze, a walker, turns that can be gone. -/
theorem spec_DrawReport_ex (b : List Int) (hb : b.length ≤ 1048576) : Ex (fun k => spec_DrawReport.f k b) (fun a => mok a.1 a.2.1 a.2.2.1 = true ∧ a.2.2.2.2.2.length ≤ 8 ∧ (∀ t ∈ a.2.2.2.2.2, 0 ≤ t ∧ t ≤ 3) ∧ ∃ x, a.2.2.2.1 = ((x / 4 : Nat) : Int) ∧ a.2.2.2.2.1 = ((x % 4 : Nat) : Int) ∧ x < NW a.1 a.2.1 ∧ ∃ e, run a.1 a.2.1 a.2.2.1 a.2.2.2.2.2 x = some e) := by
  unfold spec_DrawReport.f
  refine Ex.bind (spec_l01New_ex b hb) (fun c hc => ?_)
  obtain ⟨b', i, h0⟩ := c
  simp only at hc ⊢
  obtain ⟨rfl, hi⟩ := hc
  refine Ex.bind (spec_l03Maze_ex b' i h0 hi hb) (fun m hm => ?_)
  obtain ⟨w, h, o, i1, h1⟩ := m
  simp only at hm ⊢
  have hg := mok_gok hm.1
  have hcpos : 0 < cells w h := gok_cases (P := fun w h => 0 < cells w h) (by decide +kernel) hg
  have hw : ∃ a, spec_l10Walker.f b' i1 h1 w h o = some a ∧ (0 ≤ a.1 ∧ a.1 < cells w h) ∧ (0 ≤ a.2.1 ∧ a.2.1 < 4) ∧ 0 ≤ a.2.2.1 := by
    unfold spec_l10Walker.f
    rw [spec_CountCells_ev, Option.bind_some]
    have hmx : mx 1 (cells w h) = cells w h := by unfold mx; omega
    rw [hmx]
    obtain ⟨a, e1, e2, e3⟩ := spec_l01Below_ex b' i1 h1 (cells w h) hm.2 hb
    rw [e1, Option.bind_some]
    obtain ⟨a', e1', e2', e3'⟩ := spec_l01Below_ex b' a.2.1 a.2.2 4 e3 hb
    rw [e1', Option.bind_some]
    exact ⟨_, rfl, ⟨e2.1, by rcases e2.2 with h | ⟨h, _⟩ <;> omega⟩, ⟨e2'.1, by rcases e2'.2 with h | ⟨h, _⟩ <;> omega⟩, e3'⟩
  refine Ex.bindx hw (fun a ha => ?_)
  obtain ⟨c, f, i2, h2⟩ := a
  simp only at ha ⊢
  obtain ⟨hc, hf, hi2⟩ := ha
  obtain ⟨x1, x2, x3⟩ := idx_of hc hf
  have hwk := spec_l33Walk_ex b' i2 h2 w h o (4 * c + f).toNat hi2 hb x3
  rw [x1, x2] at hwk
  refine Ex.bind hwk (fun t ht => Ex.now ?_)
  exact ⟨hm.1, ht.1, ht.2.1, _, x1.symm, x2.symm, x3, ht.2.2⟩
end Go.Proofs.Ytfpomjnhgcmgoaa.Pure

