/- Lists in the laws: copies, comparisons, marks; rounds over a list. -/
import Derived.Test.YtfpomjnhgcmgoaaQbPLocx0
import Derived.Test.YtfpomjnhgcmgoaaQbPLocx1
import Derived.Test.YtfpomjnhgcmgoaaQbPLocx2
import Derived.Test.YtfpomjnhgcmgoaaQbPLocx3
import Derived.Test.YtfpomjnhgcmgoaaQbPLocx4
import Derived.Test.YtfpomjnhgcmgoaaQbPLocx5
import Derived.Test.YtfpomjnhgcmgoaaQbPLocx6
import Derived.Test.YtfpomjnhgcmgoaaQbPLocx7
import Derived.Test.YtfpomjnhgcmgoaaQbPLocx8
import Derived.Test.YtfpomjnhgcmgoaaQbPLocx9
import Derived.Test.YtfpomjnhgcmgoaaQbPLocx10
import Derived.Test.YtfpomjnhgcmgoaaQbBase
namespace Go.Proofs.Ytfpomjnhgcmgoaa.Pure
set_option linter.unusedVariables false
set_option linter.unusedSimpArgs false
open Go.RowKit Go.Proofs.YtfpomjnhgcmgoaaW.PrintWords Go.Proofs.Ytfpomjnhgcmgoaa.P Go.Proofs.Ytfpomjnhgcmgoaa.Kit
theorem Ev.down {α : Type} {L : Nat → Nat → Option α} {r : α} (n : Nat) (h : ∀ i, i < n → Ev (L (i + 1)) r → Ev (L i) r) (hn : Ev (L n) r) : Ev (L 0) r := by
  have : ∀ j, j ≤ n → Ev (L (n - j)) r := by
    intro j
    induction j with
    | zero => intro _; exact hn
    | succ j ih => intro hj; exact h (n - (j + 1)) (by omega) (by rw [show n - (j + 1) + 1 = n - j by omega]; exact ih (by omega))
  have q := this n (Nat.le_refl _)
  rwa [Nat.sub_self] at q
theorem set_next {α : Type} (l : List α) (m : List α) (i : Nat) (h : i < l.length) (hm : m.length = l.length) (x : α) (hx : l[i] = x) : (l.take i ++ m.drop i).set i x = l.take (i + 1) ++ m.drop (i + 1) := by
  subst hx
  apply List.ext_getElem?
  intro j
  rw [List.getElem?_set]
  have h1 : (l.take i).length = i := by simp; omega
  have h2 : (l.take (i + 1)).length = i + 1 := by simp; omega
  by_cases e : i = j
  · subst e
    rw [if_pos rfl, if_pos (by simp; omega), List.getElem?_append_left (by omega), List.getElem?_take, if_pos (by omega), List.getElem?_eq_getElem h]
  · rw [if_neg e]
    rcases Nat.lt_or_ge j i with hj | hj
    · rw [List.getElem?_append_left (by omega), List.getElem?_append_left (by omega), List.getElem?_take, List.getElem?_take, if_pos hj, if_pos (by omega)]
    · rw [List.getElem?_append_right (by omega), List.getElem?_append_right (by omega), List.getElem?_drop, List.getElem?_drop, h1, h2]
      congr 1; omega
theorem laws_toIntS_ev (l : List Int) (hl : l.length ≤ 1048576) : Ev (fun k => laws_toIntS.f k l) l := by
  unfold laws_toIntS.f
  refine Ev.pos (by omega) (Ev.pos (by omega) ?_)
  refine Ev.down (L := fun i k => laws_toIntS.l0 k l (l.take i ++ (List.replicate l.length (0 : Int)).drop i) (i : Int)) l.length ?_ ?_
  · intro i hi ih
    refine Ev.succ (fun k => laws_toIntS.l0.eq_2 ..) ?_
    refine Ev.pos (by omega) (Ev.pos (by omega) (Ev.pos (by simp; omega) ?_))
    rw [wrap_nat (by omega), rd_cast l i hi, Int.toNat_natCast, set_next l _ i hi (by simp) _ rfl]
    exact ih
  · refine Ev.succ (fun k => laws_toIntS.l0.eq_2 ..) (Ev.neg (by omega) (Ev.ret ?_))
    simp
theorem laws_eqIntS_ev (l : List Int) (hl : l.length ≤ 1048576) : Ev (fun k => laws_eqIntS.f k l l) true := by
  unfold laws_eqIntS.f
  refine Ev.pos rfl ?_
  refine Ev.down (L := fun i k => laws_eqIntS.l0 k l l (i : Int)) l.length ?_ ?_
  · intro i hi ih
    refine Ev.succ (fun k => laws_eqIntS.l0.eq_2 ..) ?_
    refine Ev.pos (by omega) (Ev.pos (by omega) (Ev.pos (by omega) (Ev.pos rfl ?_)))
    rw [wrap_nat (by omega)]
    exact ih
  · exact Ev.succ (fun k => laws_eqIntS.l0.eq_2 ..) (Ev.neg (by omega) (Ev.now _))
theorem laws_markIntS_ev (l : List Int) (a : Int) (ha : 0 ≤ a ∧ a ≤ 4611686018427387904) (hl : l.length ≤ 1048576) : ∃ l', Ev (fun k => laws_markIntS.f k l a) (a + l.length, l') := by
  unfold laws_markIntS.f
  have key : ∀ j, j ≤ l.length → ∀ m : List Int, m.length = l.length → ∃ l', Ev (fun k => laws_markIntS.l0 k m (a + ((l.length - j : Nat) : Int)) ((l.length - j : Nat) : Int)) (a + l.length, l') := by
    intro j
    induction j with
    | zero => intro _ m hm; exact ⟨m, Ev.succ (fun k => laws_markIntS.l0.eq_2 ..) (Ev.neg (by omega) (Ev.ret (by simp)))⟩
    | succ j ih =>
      intro hj m hm
      obtain ⟨l', hl'⟩ := ih (by omega) (m.set (l.length - (j + 1)) (a + ((l.length - (j + 1) : Nat) : Int))) (by simpa using hm)
      refine ⟨l', Ev.succ (fun k => laws_markIntS.l0.eq_2 ..) (Ev.pos (by omega) (Ev.pos (by omega) ?_))⟩
      rw [wrap_nat (by omega), Int.toNat_natCast, wrap_id (by omega), show l.length - (j + 1) + 1 = l.length - j by omega, show a + ((l.length - (j + 1) : Nat) : Int) + 1 = a + ((l.length - j : Nat) : Int) by omega]
      exact hl'
  have := key l.length (Nat.le_refl _) l rfl
  rw [Nat.sub_self] at this
  simpa using this
end Go.Proofs.Ytfpomjnhgcmgoaa.Pure

