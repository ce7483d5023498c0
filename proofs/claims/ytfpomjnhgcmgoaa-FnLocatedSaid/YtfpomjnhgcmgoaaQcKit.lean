/- What the rows of this seat need: from the reading of an argument (the form's words) to the printed contracts' words (Kd). Of no law. -/
import Derived.Test.YtfpomjnhgcmgoaaQcWWords
import Derived.OpenShut
import Derived.Lib.SmallJoins
import Derived.Deep.Slices
namespace Go.Proofs.Ytfpomjnhgcmgoaa.Kit
set_option linter.unusedVariables false
set_option linter.unusedSimpArgs false
open Go.RowKit Go.Proofs.YtfpomjnhgcmgoaaW.PrintWords Go.ChangeShapes Go.WideShapes Go.Deep
/-- The last field of a struct, and the ones before it, one by one: what stands from offset o on. -/
def From {α : Type} (P : Program) (fs : List Field) (o n : Nat) (d : Kd α) (W : α → Prop) : Prop :=
  ∀ (H : Type) (enc : TypeId × Value → H) (w : World) (base : Nat) (spare : Nat → Bool) (held : Bool) (fuel : Nat) (cs : List Value) (xs : List (DataW H × List MemPlace)),
    (∀ (i : Nat) (f : Field), fs[i]? = some f → DataW.trod enc P w base spare held fuel f.type ((cs.drop f.offset).take (P.cellsOf f.type)) = xs[i]?) → fs.length = xs.length → cs.length = o + n → ∃ a : α, d.K w a (cs.drop o) ∧ W a
end Go.Proofs.Ytfpomjnhgcmgoaa.Kit

