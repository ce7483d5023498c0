/- The plain law of FnExactIsLocated. -/
import Derived.Test.YtfpomjnhgcmgoaaQaLoc2
namespace Go.Proofs.Ytfpomjnhgcmgoaa.Pure
set_option linter.unusedVariables false
set_option linter.unusedSimpArgs false
open Go.RowKit Go.Proofs.YtfpomjnhgcmgoaaW.PrintWords Go.Proofs.Ytfpomjnhgcmgoaa.P Go.Proofs.Ytfpomjnhgcmgoaa.Kit
theorem FnExactIsLocated (w h o : Int) (l1 l2 : List Int) (_ : (I64 w ∧ I64 h) ∧ I64 o) (_ : l1.length ≤ 9223372036854775807 ∧ ∀ x ∈ l1, I64 x) (_ : l2.length ≤ 9223372036854775807 ∧ ∀ x ∈ l2, I64 x) : ∃ k, laws_FnExactIsLocated.f k w h o l1 l2 = some true := by
  refine Ev.rounds (g := fun k => laws_FnExactIsLocated.f k w h o l1 l2) ?_
  unfold laws_FnExactIsLocated.f laws_toMaze.f laws_toGrid.f
  simp only [Option.bind_some]
  by_cases h1 : (l1.length : Int) > 1048576
  · exact Ev.pos h1 (Ev.now _)
  refine Ev.neg h1 ?_
  by_cases h2 : (l2.length : Int) > 1048576
  · exact Ev.pos h2 (Ev.now _)
  refine Ev.neg h2 ?_
  have t1 := laws_toIntS_ev l1 (by omega)
  have t2 := laws_toIntS_ev l2 (by omega)
  refine Ev.bind t1 (Ev.bind t2 ?_)
  have hs : Ev (fun k => spec_IsLocated.f k w h o l1 l2) (((pws w h o l1 l2).length : Int) == 1) := by
    unfold spec_IsLocated.f
    exact Ev.bind (spec_PossibleWalkers_ev w h o l1 l2 (by omega) (by omega)) (Ev.now _)
  have hi : Ev (fun k => impl_IsLocated.f k w h o l1 l2) (((pws w h o l1 l2).length : Int) == 1) := by
    unfold impl_IsLocated.f
    exact Ev.bind (impl_PossibleWalkers_ev w h o l1 l2 (by omega) (by omega)) (Ev.now _)
  refine Ev.bind hs (Ev.bind t1 (Ev.bind t2 (Ev.bind hi ?_)))
  refine Ev.neg (by simp) (Ev.bind t1 (Ev.bind (laws_eqIntS_ev l1 (by omega)) (Ev.pos rfl (Ev.bind t2 (Ev.bind (laws_eqIntS_ev l2 (by omega)) (Ev.pos rfl (Ev.now _)))))))
end Go.Proofs.Ytfpomjnhgcmgoaa.Pure

