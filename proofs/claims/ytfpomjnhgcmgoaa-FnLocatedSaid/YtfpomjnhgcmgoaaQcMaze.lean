/- Grids and mazes: what the program's and the reference's small functions come to. -/
import Derived.Test.YtfpomjnhgcmgoaaQcPLcdx0
import Derived.Test.YtfpomjnhgcmgoaaQcPLcdx1
import Derived.Test.YtfpomjnhgcmgoaaQcPLcdx2
import Derived.Test.YtfpomjnhgcmgoaaQcPLcdx3
import Derived.Test.YtfpomjnhgcmgoaaQcPLcdx4
import Derived.Test.YtfpomjnhgcmgoaaQcPLcdx5
import Derived.Test.YtfpomjnhgcmgoaaQcPLcdx6
import Derived.Test.YtfpomjnhgcmgoaaQcPLcdx7
import Derived.Test.YtfpomjnhgcmgoaaQcPLcdx8
import Derived.Test.YtfpomjnhgcmgoaaQcPLcdx9
import Derived.Test.YtfpomjnhgcmgoaaQcPLcdx10
import Derived.Test.YtfpomjnhgcmgoaaQcBase
namespace Go.Proofs.Ytfpomjnhgcmgoaa.Pure
set_option linter.unusedVariables false
set_option linter.unusedSimpArgs false
open Go.RowKit Go.Proofs.YtfpomjnhgcmgoaaW.PrintWords Go.Proofs.Ytfpomjnhgcmgoaa.P Go.Proofs.Ytfpomjnhgcmgoaa.Kit
def gok (w h : Int) : Bool := decide (1 ≤ w) && decide (w ≤ 4) && (decide (1 ≤ h) && decide (h ≤ 4))
def cells (w h : Int) : Int := if gok w h = true then w * h else 0
def gaps (w h : Int) : Int := if gok w h = true then h * (w - 1) + w * (h - 1) else 0
def mok (w h o : Int) : Bool := gok w h && (decide (0 ≤ o) && decide (o ≤ 2 ^ (gaps w h).toNat - 1))
def cok (w h c : Int) : Bool := decide (0 ≤ c) && decide (c ≤ cells w h - 1)
/-- The neighbour of a cell in a direction, or -1. -/
def nb (w h c d : Int) : Int := if cok w h c = true then (if d = 0 then (if c < w then -1 else c - w) else if d = 1 then (if c % w + 1 < w then c + 1 else -1) else if d = 2 then (if c + w < w * h then c + w else -1) else if d = 3 then (if 0 < c % w then c - 1 else -1) else -1) else -1
def gap (w h c d : Int) : Int := if nb w h c d < 0 then -1 else if d = 1 ∨ d = 3 then (min c (nb w h c d) / w) * (w - 1) + min c (nb w h c d) % w else h * (w - 1) + min c (nb w h c d)
def opn (o g : Int) : Bool := decide (0 ≤ g) && (Go.bits .and .i64 (shr .i64 o g) 1 == 1)
def step (w h o c d : Int) : Int := if mok w h o = true then (if opn o (gap w h c d) = true then nb w h c d else -1) else -1
theorem gok_iff {w h : Int} : gok w h = true ↔ (1 ≤ w ∧ w ≤ 4) ∧ (1 ≤ h ∧ h ≤ 4) := by simp [gok]
theorem gok_cases {P : Int → Int → Prop} (q : ∀ a b : Fin 4, P ((a.val : Nat) + 1) ((b.val : Nat) + 1)) {w h : Int} (hg : gok w h = true) : P w h := by
  rw [gok_iff] at hg
  have := q ⟨(w - 1).toNat, by omega⟩ ⟨(h - 1).toNat, by omega⟩
  simp only at this
  rwa [show (((w - 1).toNat : Nat) : Int) + 1 = w by omega, show (((h - 1).toNat : Nat) : Int) + 1 = h by omega] at this
theorem cells_le : ∀ {w h : Int}, 0 ≤ cells w h ∧ cells w h ≤ 16 := by
  intro w h
  cases hg : gok w h with
  | true => exact gok_cases (P := fun w h => 0 ≤ cells w h ∧ cells w h ≤ 16) (by decide +kernel) hg
  | false => simp [cells, hg]
theorem gaps_le : ∀ {w h : Int}, 0 ≤ gaps w h ∧ gaps w h ≤ 24 := by
  intro w h
  cases hg : gok w h with
  | true => exact gok_cases (P := fun w h => 0 ≤ gaps w h ∧ gaps w h ≤ 24) (by decide +kernel) hg
  | false => simp [gaps, hg]
theorem cok_iff {w h c : Int} : cok w h c = true ↔ 0 ≤ c ∧ c < cells w h := by simp [cok]; omega
theorem cok_gok {w h c : Int} (hc : cok w h c = true) : gok w h = true := by
  cases hg : gok w h with
  | true => rfl
  | false => rw [cok_iff] at hc; simp [cells, hg] at hc; omega
/-- A cell of a grid, and a direction: one of 1024. -/
theorem cok_cases {P : Int → Int → Int → Int → Prop} (q : ∀ a b : Fin 4, ∀ c : Fin 16, ∀ d : Fin 4, cok ((a.val : Nat) + 1) ((b.val : Nat) + 1) (c.val : Nat) = true → P ((a.val : Nat) + 1) ((b.val : Nat) + 1) (c.val : Nat) (d.val : Nat)) {w h c d : Int} (hc : cok w h c = true) (hd : 0 ≤ d ∧ d ≤ 3) : P w h c d := by
  have hg := cok_gok hc
  have hl := @cells_le w h
  have hc' := hc
  rw [cok_iff] at hc'
  rw [gok_iff] at hg
  have := q ⟨(w - 1).toNat, by omega⟩ ⟨(h - 1).toNat, by omega⟩ ⟨c.toNat, by omega⟩ ⟨d.toNat, by omega⟩
  simp only at this
  rw [show (((w - 1).toNat : Nat) : Int) + 1 = w by omega, show (((h - 1).toNat : Nat) : Int) + 1 = h by omega, Int.toNat_of_nonneg hc'.1, Int.toNat_of_nonneg hd.1] at this
  exact this hc
theorem spec_l01In_ev (x y z : Int) : spec_l01In.f x y z = some (decide (y ≤ x) && decide (x ≤ z)) := by
  unfold spec_l01In.f
  by_cases h : x ≥ y
  · rw [if_pos h, decide_eq_true h, Bool.true_and]
  · rw [if_neg h, decide_eq_false h, Bool.false_and]
theorem spec_GridOk_ev (w h : Int) : spec_GridOk.f w h = some (gok w h) := by
  unfold spec_GridOk.f gok
  simp only [spec_l01In_ev, Option.bind_some]
  cases decide (1 ≤ w) && decide (w ≤ 4) <;> simp
theorem impl_GridOk_ev (w h : Int) : impl_GridOk.f w h = some (gok w h) := by
  unfold impl_GridOk.f gok
  by_cases h1 : w ≥ 1 <;> by_cases h2 : w ≤ 4 <;> by_cases h3 : h ≥ 1 <;> simp [h1, h2, h3] <;> omega
theorem spec_CountCells_ev (w h : Int) : spec_CountCells.f w h = some (cells w h) := by
  unfold spec_CountCells.f
  rw [spec_GridOk_ev, Option.bind_some]
  cases hg : gok w h with
  | true => rw [if_pos rfl]; exact gok_cases (P := fun w h => some (wrap64 (w * h)) = some (cells w h)) (by decide +kernel) hg
  | false => simp [cells, hg]
theorem impl_CountCells_ev (w h : Int) : impl_CountCells.f w h = some (cells w h) := by
  unfold impl_CountCells.f
  rw [impl_GridOk_ev, Option.bind_some]
  cases hg : gok w h with
  | true => rw [if_pos rfl]; exact gok_cases (P := fun w h => some (wrap64 (w * h)) = some (cells w h)) (by decide +kernel) hg
  | false => simp [cells, hg]
theorem spec_CountGaps_ev (w h : Int) : spec_CountGaps.f w h = some (gaps w h) := by
  unfold spec_CountGaps.f spec_l02East.f
  rw [spec_GridOk_ev, Option.bind_some]
  cases hg : gok w h with
  | true => rw [if_pos rfl, Option.bind_some]; exact gok_cases (P := fun w h => some (wrap64 (wrap64 (h * wrap64 (w - 1)) + wrap64 (w * wrap64 (h - 1)))) = some (gaps w h)) (by decide +kernel) hg
  | false => simp [gaps, hg]
theorem impl_CountGaps_ev (w h : Int) : impl_CountGaps.f w h = some (gaps w h) := by
  unfold impl_CountGaps.f
  rw [impl_GridOk_ev, Option.bind_some]
  cases hg : gok w h with
  | true => rw [if_pos rfl]; exact gok_cases (P := fun w h => some (wrap64 (wrap64 (wrap64 (w - 1) * h) + wrap64 (w * wrap64 (h - 1)))) = some (gaps w h)) (by decide +kernel) hg
  | false => simp [gaps, hg]
theorem shl_gaps {w h : Int} (hg : gok w h = true) : shl .i64 1 (gaps w h) = 2 ^ (gaps w h).toNat ∧ wrap64 (shl .i64 1 (gaps w h) - 1) = 2 ^ (gaps w h).toNat - 1 :=
  gok_cases (P := fun w h => shl .i64 1 (gaps w h) = 2 ^ (gaps w h).toNat ∧ wrap64 (shl .i64 1 (gaps w h) - 1) = 2 ^ (gaps w h).toNat - 1) (by decide +kernel) hg
theorem spec_MazeOk_ev (w h o : Int) : spec_MazeOk.f w h o = some (mok w h o) := by
  unfold spec_MazeOk.f mok
  rw [spec_GridOk_ev, Option.bind_some]
  cases hg : gok w h with
  | true => rw [if_pos rfl, spec_CountGaps_ev, Option.bind_some, if_pos gaps_le.1, (shl_gaps hg).2, spec_l01In_ev]; simp
  | false => simp
theorem impl_MazeOk_ev (w h o : Int) : impl_MazeOk.f w h o = some (mok w h o) := by
  unfold impl_MazeOk.f mok
  rw [impl_GridOk_ev, Option.bind_some]
  cases hg : gok w h with
  | true =>
    rw [if_pos rfl, impl_CountGaps_ev, Option.bind_some, if_pos gaps_le.1, (shl_gaps hg).1]
    by_cases h1 : o ≥ 0
    · rw [if_pos h1]; simp [h1]; omega
    · rw [if_neg h1]; simp; omega
  | false => simp
theorem impl_isCell_ev (w h c : Int) : impl_isCell.f w h c = some (cok w h c) := by
  unfold impl_isCell.f cok
  rw [impl_CountCells_ev]
  by_cases h1 : c ≥ 0
  · rw [if_pos h1]; simp [h1]; omega
  · rw [if_neg h1]; simp; omega
theorem impl_isIn_ev (w h o : Int) (l : List Int) : impl_isIn.f w h o l = some (mok w h o && l.all (cok w h)) := by
  unfold impl_isIn.f
  rw [impl_MazeOk_ev, impl_CountCells_ev, Option.bind_some, Option.bind_some]
  cases mok w h o with
  | true =>
    rw [if_pos rfl, Bool.true_and, List.not_any_eq_all_not]
    congr 2
    funext c
    unfold cok
    by_cases h1 : 0 ≤ c <;> by_cases h2 : c < cells w h <;> simp [h1, h2] <;> omega
  | false => simp
theorem impl_isDirection_ev (d : Int) : impl_isDirection.f d = some (decide (0 ≤ d) && decide (d ≤ 3)) := by
  unfold impl_isDirection.f
  by_cases h1 : d ≥ 0
  · rw [if_pos h1]; simp [h1]
  · rw [if_neg h1]; simp; omega
theorem nb_far {w h c d : Int} (q : ¬ (cok w h c = true ∧ 0 ≤ d ∧ d ≤ 3)) : nb w h c d = -1 := by
  unfold nb
  by_cases hc : cok w h c = true
  · have hd : ¬ (0 ≤ d ∧ d ≤ 3) := fun x => q ⟨hc, x⟩
    rw [if_pos hc, if_neg (by omega), if_neg (by omega), if_neg (by omega), if_neg (by omega)]
  · rw [if_neg hc]
theorem spec_Neighbor_ev (k : Nat) (w h c d : Int) : spec_Neighbor.f (k + 1) w h c d = some (nb w h c d) := by
  by_cases q : cok w h c = true ∧ 0 ≤ d ∧ d ≤ 3
  · exact cok_cases (P := fun w h c d => spec_Neighbor.f (k + 1) w h c d = some (nb w h c d)) (by
      have : ∀ a b : Fin 4, ∀ c : Fin 16, ∀ d : Fin 4, cok ((a.val : Nat) + 1) ((b.val : Nat) + 1) (c.val : Nat) = true → spec_Neighbor.f (0 + 1) ((a.val : Nat) + 1) ((b.val : Nat) + 1) (c.val : Nat) (d.val : Nat) = some (nb ((a.val : Nat) + 1) ((b.val : Nat) + 1) (c.val : Nat) (d.val : Nat)) := by decide +kernel
      exact this) q.1 q.2
  · rw [nb_far q]
    unfold spec_Neighbor.f
    rw [spec_CountCells_ev, Option.bind_some, spec_l01In_ev, Option.bind_some, wrap_id (by have := @cells_le w h; omega)]
    by_cases hc : cok w h c = true
    · have hw : 1 ≤ w := (gok_iff.1 (cok_gok hc)).1.1
      have hd : ¬ (0 ≤ d ∧ d ≤ 3) := fun x => q ⟨hc, x⟩
      rw [if_pos (by simpa [cok] using hc), if_neg (by omega), if_neg (by omega), if_neg (by omega), if_neg (by omega), if_neg (by omega)]
    · rw [if_neg (by simpa [cok] using hc)]
theorem impl_Neighbor_ev (k : Nat) (w h c d : Int) : impl_Neighbor.f (k + 3) w h c d = some (nb w h c d) := by
  by_cases q : cok w h c = true ∧ 0 ≤ d ∧ d ≤ 3
  · exact cok_cases (P := fun w h c d => impl_Neighbor.f (k + 3) w h c d = some (nb w h c d)) (by
      have : ∀ a b : Fin 4, ∀ c : Fin 16, ∀ d : Fin 4, cok ((a.val : Nat) + 1) ((b.val : Nat) + 1) (c.val : Nat) = true → impl_Neighbor.f (0 + 3) ((a.val : Nat) + 1) ((b.val : Nat) + 1) (c.val : Nat) (d.val : Nat) = some (nb ((a.val : Nat) + 1) ((b.val : Nat) + 1) (c.val : Nat) (d.val : Nat)) := by decide +kernel
      exact this) q.1 q.2
  · rw [nb_far q]
    unfold impl_Neighbor.f
    rw [impl_isCell_ev, Option.bind_some]
    by_cases hc : cok w h c = true
    · have hw : 1 ≤ w := (gok_iff.1 (cok_gok hc)).1.1
      have hd : ¬ (0 ≤ d ∧ d ≤ 3) := fun x => q ⟨hc, x⟩
      rw [if_pos hc, if_neg (by omega), if_neg (by omega), impl_Neighbor.j0, if_neg (by simp), if_neg (by omega), impl_Neighbor.j1, if_neg (by simp), if_neg (by omega), impl_Neighbor.j2, if_neg (by simp), if_neg (by omega)]
    · rw [if_neg hc]
theorem nb_cases {w h c d : Int} : nb w h c d = -1 ∨ (cok w h c = true ∧ (0 ≤ d ∧ d ≤ 3) ∧ 0 ≤ nb w h c d ∧ cok w h (nb w h c d) = true) := by
  by_cases q : cok w h c = true ∧ 0 ≤ d ∧ d ≤ 3
  · have := cok_cases (P := fun w h c d => nb w h c d = -1 ∨ (0 ≤ nb w h c d ∧ cok w h (nb w h c d) = true)) (by decide +kernel) q.1 q.2
    exact this.imp id (fun h => ⟨q.1, q.2, h⟩)
  · exact .inl (nb_far q)
theorem gap_cases {w h c d : Int} : (nb w h c d = -1 ∧ gap w h c d = -1) ∨ (0 ≤ nb w h c d ∧ 0 ≤ gap w h c d ∧ gap w h c d < gaps w h) := by
  by_cases q : cok w h c = true ∧ 0 ≤ d ∧ d ≤ 3
  · exact cok_cases (P := fun w h c d => (nb w h c d = -1 ∧ gap w h c d = -1) ∨ (0 ≤ nb w h c d ∧ 0 ≤ gap w h c d ∧ gap w h c d < gaps w h)) (by decide +kernel) q.1 q.2
  · exact .inl ⟨nb_far q, by unfold gap; rw [nb_far q]; rfl⟩
theorem spec_GapAt_ev (k : Nat) (w h c d : Int) : spec_GapAt.f (k + 1) w h c d = some (gap w h c d) := by
  unfold spec_GapAt.f spec_l02East.f
  rw [spec_Neighbor_ev, Option.bind_some, Option.bind_some]
  rcases @nb_cases w h c d with h1 | ⟨hc, hd, h1, h2⟩
  · rw [gap, h1]; rfl
  · exact cok_cases (P := fun w h c d => (if nb w h c d < 0 then some (-1) else if d = 1 then if w = 0 then none else some (wrap64 ((wrap64 ((wrap64 (Int.tdiv (mn c (nb w h c d)) w)) * (wrap64 (w - 1)))) + (Int.tmod (mn c (nb w h c d)) w))) else if d = 3 then if w = 0 then none else some (wrap64 ((wrap64 ((wrap64 (Int.tdiv (mn c (nb w h c d)) w)) * (wrap64 (w - 1)))) + (Int.tmod (mn c (nb w h c d)) w))) else some (wrap64 (wrap64 (h * wrap64 (w - 1)) + mn c (nb w h c d)))) = some (gap w h c d)) (by decide +kernel) hc hd
theorem impl_GapAt_ev (k : Nat) (w h c d : Int) : impl_GapAt.f (k + 3) w h c d = some (gap w h c d) := by
  unfold impl_GapAt.f
  rw [impl_Neighbor_ev, Option.bind_some]
  rcases @nb_cases w h c d with h1 | ⟨hc, hd, h1, h2⟩
  · rw [gap, h1]; rfl
  · exact cok_cases (P := fun w h c d => (if nb w h c d < 0 then some (-1) else if d = 1 then if w = 0 then none else some (wrap64 ((wrap64 ((wrap64 (Int.tdiv (mn c (nb w h c d)) w)) * (wrap64 (w - 1)))) + (Int.tmod (mn c (nb w h c d)) w))) else if d = 3 then if w = 0 then none else some (wrap64 ((wrap64 ((wrap64 (Int.tdiv (mn c (nb w h c d)) w)) * (wrap64 (w - 1)))) + (Int.tmod (mn c (nb w h c d)) w))) else some (wrap64 (wrap64 (wrap64 (w - 1) * h) + mn c (nb w h c d)))) = some (gap w h c d)) (by decide +kernel) hc hd
theorem spec_IsPassage_ev (w h o g : Int) : spec_IsPassage.f w h o g = some (mok w h o && (opn o g && decide (g < gaps w h))) := by
  unfold spec_IsPassage.f
  rw [spec_MazeOk_ev, Option.bind_some]
  cases mok w h o with
  | true =>
    rw [if_pos rfl, spec_CountGaps_ev, Option.bind_some, spec_l01In_ev, Option.bind_some, wrap_id (by have := @gaps_le w h; omega)]
    unfold spec_l03Bit.f opn
    by_cases h1 : 0 ≤ g
    · by_cases h2 : g < gaps w h
      · rw [if_pos (by simp [h1]; omega), if_pos h1]; simp [h1, h2]
      · rw [if_neg (by simp [h1]; omega)]; simp [h2]
    · rw [if_neg (by simp [h1])]; simp [h1]
  | false => simp
theorem impl_isOpen_ev (w h o g : Int) : impl_isOpen.f w h o g = some (opn o g) := by
  unfold impl_isOpen.f opn
  by_cases h1 : g ≥ 0
  · rw [if_pos h1, if_pos h1]; simp [h1]
  · rw [if_neg h1]; simp; omega
theorem spec_Step_ev (k : Nat) (w h o c d : Int) : spec_Step.f (k + 1) w h o c d = some (step w h o c d) := by
  unfold spec_Step.f step
  rw [spec_MazeOk_ev, Option.bind_some]
  cases hm : mok w h o with
  | true =>
    rw [if_pos rfl, if_pos rfl, spec_GapAt_ev, Option.bind_some, spec_IsPassage_ev, Option.bind_some, spec_Neighbor_ev, Option.bind_some, hm, Bool.true_and]
    rcases @gap_cases w h c d with ⟨h1, h2⟩ | ⟨h1, h2, h3⟩
    · rw [h2]; simp [opn]
    · rw [decide_eq_true h3, Bool.and_true]; split <;> rfl
  | false => simp
theorem impl_Step_ev (k : Nat) (w h o c d : Int) : impl_Step.f (k + 3) w h o c d = some (step w h o c d) := by
  unfold impl_Step.f step
  rw [impl_MazeOk_ev, Option.bind_some]
  cases hm : mok w h o with
  | true => rw [if_pos rfl, if_pos rfl, impl_GapAt_ev, Option.bind_some, impl_isOpen_ev, Option.bind_some, impl_Neighbor_ev, Option.bind_some]; split <;> rfl
  | false => simp
/-- A step leads to a cell, or nowhere. -/
theorem step_cases {w h o c d : Int} : step w h o c d = -1 ∨ (mok w h o = true ∧ cok w h c = true ∧ (0 ≤ d ∧ d ≤ 3) ∧ 0 ≤ step w h o c d ∧ cok w h (step w h o c d) = true) := by
  unfold step
  by_cases hm : mok w h o = true
  · rw [if_pos hm]
    by_cases ho : opn o (gap w h c d) = true
    · rw [if_pos ho]
      rcases @nb_cases w h c d with h1 | ⟨h1, h2, h3, h4⟩
      · exact .inl h1
      · exact .inr ⟨hm, h1, h2, h3, h4⟩
    · rw [if_neg ho]; exact .inl rfl
  · rw [if_neg hm]; exact .inl rfl
end Go.Proofs.Ytfpomjnhgcmgoaa.Pure

