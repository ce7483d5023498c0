/- The plain law of FnExactFormatAct. -/
import Derived.Test.YtfpomjnhgcmgoaaDoorAct
namespace Go.Proofs.YtfpomjnhgcmgoaaDoor.Pure
open Go.RowKit Go.Proofs.YtfpomjnhgcmgoaaDoorW.PrintWords Go.Proofs.YtfpomjnhgcmgoaaDoor.P Go.Proofs.YtfpomjnhgcmgoaaDoor.Kit
theorem FnExactFormatAct (a b c : Int) (_ : I64 a ∧ I64 b ∧ I64 c) : ∃ k, laws_FnExactFormatAct.f k a b c = some true := by
  refine Ev.rounds (g := fun k => laws_FnExactFormatAct.f k a b c) ?_
  unfold laws_FnExactFormatAct.f laws_toAct.f
  simp only [Option.bind_some]
  refine Ev.bind (spec_FormatAct_ev a b c) (Ev.bind (impl_FormatAct_ev a b c) ?_)
  simp only [if_true, bne_self_eq_false, Bool.false_eq_true, if_false]
  exact Ev.now _
end Go.Proofs.YtfpomjnhgcmgoaaDoor.Pure
