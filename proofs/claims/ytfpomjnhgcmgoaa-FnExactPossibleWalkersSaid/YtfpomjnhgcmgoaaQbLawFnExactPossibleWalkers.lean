import Derived.Test.YtfpomjnhgcmgoaaRows
import Derived.Test.YtfpomjnhgcmgoaaQbKit
import Derived.Test.YtfpomjnhgcmgoaaQbPLocx10
import Derived.Test.YtfpomjnhgcmgoaaQbPureFnExactPossibleWalkers
import Derived.WalkKit
import Derived.ProofKit
import Derived.OpenShut
import Derived.ShutString
import Derived.ChangeOld
import Derived.Below
import Derived.SizedLaws
namespace Go.Proofs.Ytfpomjnhgcmgoaa.fnExactPossibleWalkers
open Go.ChangeShapes Go.WideShapes Go.ChangeAt Go.RowKit Go.Proofs.YtfpomjnhgcmgoaaW.PrintWords Go.Proofs.Ytfpomjnhgcmgoaa.P Go.Proofs.Ytfpomjnhgcmgoaa.Kit
open Go.ChangeMaps (open_string shut_string)
set_option linter.unusedVariables false
theorem own : ownKnob Try.prog.godebug = none := by kernel_rfl
theorem laidOut : laidOutB Try.prog = true := by kernel_rfl
theorem op_int : Opens Try.prog 3 (Kd.int .i64) I64 := opens_int Try.underlying3
theorem op_Grid : Opens Try.prog 23 (Kd.pair (Kd.int .i64) (Kd.int .i64)) (fun x : _ × _ => I64 x.1 ∧ I64 x.2) := opens_struct Try.underlying23 (from_cons (W := I64) (V := I64) (by kernel_rfl) op_int (from_one op_int rfl)) (by kernel_rfl)
theorem op_Maze : Opens Try.prog 25 (Kd.pair (Kd.pair (Kd.int .i64) (Kd.int .i64)) (Kd.int .i64)) (fun x : _ × _ => (fun x : _ × _ => I64 x.1 ∧ I64 x.2) x.1 ∧ I64 x.2) := opens_struct Try.underlying25 (from_cons (W := (fun x : _ × _ => I64 x.1 ∧ I64 x.2)) (V := I64) (by kernel_rfl) op_Grid (from_one op_int rfl)) (by kernel_rfl)
theorem op_sl_int : Opens Try.prog 26 (Kd.slice 3 (Kd.int .i64)) (fun l : List Int => l.length ≤ 9223372036854775807 ∧ ∀ x ∈ l, I64 x) := opens_slice Try.underlying26 (by kernel_rfl) op_int
set_option maxRecDepth 100000 in
theorem lifted (os : Os) (started : os.Started) (H : Type) (enc : TypeId × Value → H) :
    ReturnsInHanded {} Try.checked os 4 .any (Rows.fnExactPossibleWalkersSpec.pre6 enc Try.prog Try.f4 Rows.fnExactPossibleWalkersRow.domain false) (Rows.fnExactPossibleWalkersSpec.post enc Try.prog Try.f4 false true false false) := by
  refine returnsInHanded_of_change_sized (C := Try.checked) own started (by kernel_rfl) Try.func4
    (ChangeSpec.witness6 (enc := enc) (C := Try.checked) false ⟨#[], #[.agg #[.int .i64 0, .int .i64 0, .int .i64 0], .slice none 0 0, .slice none 0 0], []⟩ 8 (by kernel_rfl) (by kernel_rfl) (by kernel_rfl) (by kernel_rfl)) ?_
  intro W base args ds gs before hval0 hW hcnd hsz0 _
  have hval : ∀ (j : Nat) t v, Try.f4.params[j]? = some t → args[j]? = some v → Value.okWide Try.prog W .any base t v := hval0
  have hW' := hW
  obtain ⟨p, q, hA0, hV, rfl, hfz, hnd⟩ := hW
  have hA : DataW.TrodAll enc Try.prog W 0 (fun _ => true) true Try.f4.params.toList args.toList ds p := hA0
  rw [Try.params4] at hA hval
  obtain ⟨v0, vs0, d0, ds0, p0, q0, hargs, rfl, rfl, h0, r0⟩ := trodAll_cons hA
  obtain ⟨v1, vs1, d1, ds1, p1, q1, rfl, rfl, rfl, h1, r1⟩ := trodAll_cons r0
  obtain ⟨v2, vs2, d2, ds2, p2, q2, rfl, rfl, rfl, h2, r2⟩ := trodAll_cons r1
  obtain ⟨rfl, rfl, rfl⟩ := trodAll_nil r2
  obtain rfl : args = #[v0, v1, v2] := by cases args; simp_all
  obtain ⟨rfl, rfl⟩ := trodVars_none hV
  have kk0 := h0
  have lt0 : ∀ x ∈ p0, x.block < W.heap.size := by obtain ⟨m, hm⟩ := kk0; exact DataW.trod_lt m _ _ _ hm
  obtain ⟨cs0, rfl, _⟩ := okWide_struct Try.underlying25 (hval 0 25 v0 rfl rfl)
  obtain ⟨fuel0, hf0⟩ := h0
  obtain ⟨y0, hk0, hw0⟩ := op_Maze _ _ _ _ _ _ _ _ _ hf0
  obtain ⟨l0, e0, hk0⟩ : ∃ l, cs0.toList = l ∧ (Kd.pair (Kd.pair (Kd.int .i64) (Kd.int .i64)) (Kd.int .i64)).K W y0 l := ⟨_, rfl, hk0⟩
  obtain ⟨_, _, rfl, ⟨_, _, rfl, rfl, rfl⟩, rfl⟩ := hk0
  obtain rfl : cs0 = #[.int .i64 (y0.1.1), .int .i64 (y0.1.2), .int .i64 (y0.2)] := by cases cs0; simpa using e0
  have kk1 := h1
  have lt1 : ∀ x ∈ p1, x.block < W.heap.size := by obtain ⟨m, hm⟩ := kk1; exact DataW.trod_lt m _ _ _ hm
  obtain ⟨A1, len1, c1, rfl⟩ := okWide_slice Try.underlying26 (hval 1 26 v1 rfl rfl)
  obtain ⟨fuel1, hf1⟩ := h1
  obtain ⟨l1, hk1, hw1⟩ := op_sl_int _ _ _ _ _ _ _ _ _ hf1
  obtain ⟨A1', c1', e1, hc1, hr1⟩ := hk1
  obtain ⟨rfl, rfl, rfl⟩ : A1' = A1 ∧ l1.length = len1 ∧ c1' = c1 := by simpa [Value.cells, eq_comm] using e1
  have kk2 := h2
  have lt2 : ∀ x ∈ p2, x.block < W.heap.size := by obtain ⟨m, hm⟩ := kk2; exact DataW.trod_lt m _ _ _ hm
  obtain ⟨A2, len2, c2, rfl⟩ := okWide_slice Try.underlying26 (hval 2 26 v2 rfl rfl)
  obtain ⟨fuel2, hf2⟩ := h2
  obtain ⟨l2, hk2, hw2⟩ := op_sl_int _ _ _ _ _ _ _ _ _ hf2
  obtain ⟨A2', c2', e2, hc2, hr2⟩ := hk2
  obtain ⟨rfl, rfl, rfl⟩ : A2' = A2 ∧ l2.length = len2 ∧ c2' = c2 := by simpa [Value.cells, eq_comm] using e2
  obtain ⟨k, hp⟩ := Pure.FnExactPossibleWalkers (y0.1.1) (y0.1.2) (y0.2) l1 l2 hw0 hw1 hw2
  clear hA0 hval0 hsz0
  refine (laws_FnExactPossibleWalkers.calls k (y0.1.1) (y0.1.2) (y0.2) A1' c1' l1 A2' c2' l2 true W hr1 hc1 hr2 hc2 hp).mono fun e W' ⟨he, bel0⟩ => ?_
  have bel : Below W.heap.size W W' := by first | exact bel0 | exact bel0.below
  subst he
  exact ⟨_, rfl, _, _, _, [], _, [], hW', trodAll_mk1 (shut_bool Try.underlying4 _), (trodAll_cons_mk (Below.trod laidOut (by kernel_rfl) (of_decide_eq_true (by kernel_rfl)) kk0 bel lt0) (trodAll_cons_mk (Below.trod laidOut (by kernel_rfl) (of_decide_eq_true (by kernel_rfl)) kk1 bel lt1) (trodAll_cons_mk (Below.trod laidOut (by kernel_rfl) (of_decide_eq_true (by kernel_rfl)) kk2 bel lt2) trodAll_mk0))), rfl, bel.frame _, fun h => by cases h⟩
theorem over : Rows.fnExactPossibleWalkersRow.holds Try.pinned (OpenSpec.ofChange Rows.fnExactPossibleWalkersSpec) :=
  OpenClaim.holds_of_wide 4 Try.f4 rfl rfl rfl rfl rfl rfl rfl ⟨rfl, rfl, rfl, rfl, rfl⟩ rfl rfl rfl rfl rfl (by kernel_rfl) Try.func4 (by kernel_rfl)
    (of_decide_eq_true (by kernel_rfl)) (by unfold Func.isWrapper; first | (rw [if_pos (by decide +kernel)]; kernel_rfl) | (rw [if_neg (by decide +kernel)]; exact ⟨rfl, rfl⟩))
    (fun os started H enc _ => lifted os started H enc)
theorem proved : Rows.FnExactPossibleWalkersSaid := over
end Go.Proofs.Ytfpomjnhgcmgoaa.fnExactPossibleWalkers
namespace Go.Proofs.Ytfpomjnhgcmgoaa
/-- The statement, under a short name, for the claim. -/
theorem fnExactPossibleWalkers_holds : Rows.FnExactPossibleWalkersSaid := fnExactPossibleWalkers.proved
end Go.Proofs.Ytfpomjnhgcmgoaa

