/- Acts and their texts: what the program's and the reference's ActOk and FormatAct come to. -/
import Derived.Test.YtfpomjnhgcmgoaaDoorPActx
import Derived.Test.YtfpomjnhgcmgoaaDoorBase
namespace Go.Proofs.YtfpomjnhgcmgoaaDoor.Pure
open Go.RowKit Go.Proofs.YtfpomjnhgcmgoaaDoorW.PrintWords Go.Proofs.YtfpomjnhgcmgoaaDoor.P Go.Proofs.YtfpomjnhgcmgoaaDoor.Kit
/-- A valid act. -/
def actOk (k a b : Int) : Bool := if k = 1 then 1 ≤ a && a ≤ 20 && b == 0 else if k = 3 then 0 ≤ a && a ≤ 5 && 0 ≤ b && b ≤ 3 else if k = 5 then 0 ≤ a && a ≤ 5 && b == 0 else if k = 2 || k = 4 || k = 6 then a == 0 && b == 0 else false
theorem spec_ActOk_ev (k a b : Int) : ∀ n, spec_ActOk.f (n + 1) k a b = some (actOk k a b) := by
  intro n
  have l : ∀ x y z : Int, spec_l01In.f x y z = some (decide (y ≤ x) && decide (x ≤ z)) := by
    intro x y z
    unfold spec_l01In.f
    by_cases h : x ≥ y
    · rw [if_pos h, decide_eq_true h, Bool.true_and]
    · rw [if_neg h, decide_eq_false h, Bool.false_and]
  simp only [spec_ActOk.f, spec_ActOk.j0, l, Option.bind_some, actOk]
  by_cases e1 : k = 1
  · subst e1; by_cases h1 : 1 ≤ a <;> by_cases h2 : a ≤ 20 <;> simp [h1, h2]
  by_cases e2 : k = 2
  · subst e2; by_cases h : a = 0 <;> simp [h]
  by_cases e3 : k = 3
  · subst e3; by_cases h1 : 0 ≤ a <;> by_cases h2 : a ≤ 5 <;> simp [h1, h2]
  by_cases e4 : k = 4
  · subst e4; by_cases h : a = 0 <;> simp [h]
  by_cases e5 : k = 5
  · subst e5; by_cases h1 : 0 ≤ a <;> by_cases h2 : a ≤ 5 <;> simp [h1, h2]
  by_cases e6 : k = 6
  · subst e6; by_cases h : a = 0 <;> simp [h]
  simp [e1, e2, e3, e4, e5, e6]
theorem impl_ActOk_ev (k a b : Int) : ∀ n, impl_ActOk.f (n + 1) k a b = some (actOk k a b) := by
  intro n
  simp only [impl_ActOk.f, impl_ActOk.j0, impl_isDirection.f, actOk]
  repeat' split
  all_goals first | (simp_all; done) | (exfalso; simp_all; omega) | (simp_all; omega)

def wordL (k : Int) : List UInt8 := if k = 1 then [100, 97, 121] else if k = 2 then [101, 110, 116, 101, 114] else if k = 3 then [119, 97, 108, 107] else if k = 4 then [108, 101, 97, 118, 101] else if k = 5 then [103, 117, 105, 100, 101] else [102, 97, 114]
/-- An act's text. -/
def actL (k a b : Int) : List UInt8 := wordL k ++ (if k = 1 ∨ k = 5 then 32 :: dg100 a.toNat else if k = 3 then 32 :: (dg100 a.toNat ++ 32 :: dg100 b.toNat) else [])
def fmtAct (k a b : Int) : ByteArray × Bool := if actOk k a b = true then (⟨(actL k a b).toArray⟩, true) else (⟨#[]⟩, false)
def seen (r : ByteArray × Bool) : List UInt8 × Bool := (r.1.data.toList, r.2)
theorem seen_inj {r s : ByteArray × Bool} (h : seen r = seen s) : r = s := by
  obtain ⟨⟨⟨a⟩⟩, b⟩ := r
  obtain ⟨⟨⟨c⟩⟩, d⟩ := s
  simp [seen] at h
  rw [h.1, h.2]
theorem map_seen {o : Option (ByteArray × Bool)} {r : ByteArray × Bool} (h : o.map seen = some (seen r)) : o = some r := by
  cases o with
  | none => simp at h
  | some x => rw [seen_inj (Option.some.inj h)]
/-- Every valid act is one of these. -/
theorem actOk_cases {P : Int → Int → Int → Prop} (h1 : ∀ x : Fin 21, 1 ≤ x.val → P 1 (x.val : Nat) 0) (h3 : ∀ x : Fin 6, ∀ y : Fin 4, P 3 (x.val : Nat) (y.val : Nat)) (h5 : ∀ x : Fin 6, P 5 (x.val : Nat) 0) (h2 : P 2 0 0) (h4 : P 4 0 0) (h6 : P 6 0 0)
    {k a b : Int} (h : actOk k a b = true) : P k a b := by
  unfold actOk at h
  by_cases e1 : k = 1
  · subst e1
    simp at h
    obtain ⟨n, rfl⟩ : ∃ n : Nat, a = n := ⟨a.toNat, by omega⟩
    have := h1 ⟨n, by omega⟩ (by simp; omega)
    rw [h.2]; exact this
  by_cases e3 : k = 3
  · subst e3
    simp at h
    obtain ⟨n, rfl⟩ : ∃ n : Nat, a = n := ⟨a.toNat, by omega⟩
    obtain ⟨m, rfl⟩ : ∃ n : Nat, b = n := ⟨b.toNat, by omega⟩
    exact h3 ⟨n, by omega⟩ ⟨m, by omega⟩
  by_cases e5 : k = 5
  · subst e5
    simp at h
    obtain ⟨n, rfl⟩ : ∃ n : Nat, a = n := ⟨a.toNat, by omega⟩
    rw [h.2]; exact h5 ⟨n, by omega⟩
  rw [if_neg e1, if_neg e3, if_neg e5] at h
  simp at h
  obtain ⟨h, h7, h8⟩ := h
  rw [h7, h8]
  rcases h with (h | h) | h <;> subst h <;> assumption
set_option maxRecDepth 10000 in
theorem spec_FormatAct_ev (k a b : Int) : Ev (fun n => spec_FormatAct.f n k a b) (fmtAct k a b) := by
  by_cases h : actOk k a b = true
  · refine Ev.of (k := 8) (spec_FormatAct.mono k a b) (map_seen ?_)
    revert h
    refine actOk_cases (P := fun k a b => (spec_FormatAct.f 8 k a b).map seen = some (seen (fmtAct k a b))) ?_ ?_ ?_ ?_ ?_ ?_ <;> decide +kernel
  · refine Ev.of (k := 8) (spec_FormatAct.mono k a b) ?_
    unfold spec_FormatAct.f fmtAct
    rw [spec_ActOk_ev, if_neg h]
    simp only [Option.bind_some]
    rw [if_neg h]
set_option maxRecDepth 10000 in
theorem impl_FormatAct_ev (k a b : Int) : Ev (fun n => impl_FormatAct.f n k a b) (fmtAct k a b) := by
  by_cases h : actOk k a b = true
  · refine Ev.of (k := 8) (impl_FormatAct.mono k a b) (map_seen ?_)
    revert h
    refine actOk_cases (P := fun k a b => (impl_FormatAct.f 8 k a b).map seen = some (seen (fmtAct k a b))) ?_ ?_ ?_ ?_ ?_ ?_ <;> decide +kernel
  · refine Ev.of (k := 8) (impl_FormatAct.mono k a b) ?_
    unfold impl_FormatAct.f fmtAct
    rw [impl_ActOk_ev, if_neg h]
    simp only [Option.bind_some]
    rw [if_neg h]
end Go.Proofs.YtfpomjnhgcmgoaaDoor.Pure
