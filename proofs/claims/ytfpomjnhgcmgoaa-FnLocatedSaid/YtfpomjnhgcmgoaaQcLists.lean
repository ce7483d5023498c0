/- Lists in the laws: copies, comparisons, marks; rounds over a list. -/
import Derived.Test.YtfpomjnhgcmgoaaQcPLcdx0
import Derived.Test.YtfpomjnhgcmgoaaQcPLcdx1
import Derived.Test.YtfpomjnhgcmgoaaQcPLcdx2
import Derived.Test.YtfpomjnhgcmgoaaQcPLcdx3
import Derived.Test.YtfpomjnhgcmgoaaQcPLcdx4
import Derived.Test.YtfpomjnhgcmgoaaQcPLcdx5
import Derived.Test.YtfpomjnhgcmgoaaQcPLcdx6
import Derived.Test.YtfpomjnhgcmgoaaQcPLcdx7
import Derived.Test.YtfpomjnhgcmgoaaQcPLcdx8
import Derived.Test.YtfpomjnhgcmgoaaQcPLcdx9
import Derived.Test.YtfpomjnhgcmgoaaQcPLcdx10
import Derived.Test.YtfpomjnhgcmgoaaQcBase
namespace Go.Proofs.Ytfpomjnhgcmgoaa.Pure
set_option linter.unusedVariables false
set_option linter.unusedSimpArgs false
open Go.RowKit Go.Proofs.YtfpomjnhgcmgoaaW.PrintWords Go.Proofs.Ytfpomjnhgcmgoaa.P Go.Proofs.Ytfpomjnhgcmgoaa.Kit
theorem Ev.down {α : Type} {L : Nat → Nat → Option α} {r : α} (n : Nat) (h : ∀ i, i < n → Ev (L (i + 1)) r → Ev (L i) r) (hn : Ev (L n) r) : Ev (L 0) r := by
  have : ∀ j, j ≤ n → Ev (L (n - j)) r := by
    intro j
    induction j with
    | zero => intro _; exact hn
    | succ j ih => intro hj; exact h (n - (j + 1)) (by omega) (by rw [show n - (j + 1) + 1 = n - j by omega]; exact ih (by omega))
  have q := this n (Nat.le_refl _)
  rwa [Nat.sub_self] at q
end Go.Proofs.Ytfpomjnhgcmgoaa.Pure

