/- Proved here: calls of functions of the program answer as the plain functions beside them say. Conditions: each theorem names its own. Written by a program of this session (hprint.py) out of the translation. -/
import Derived.Test.YtfpomjnhgcmgoaaDoorPActx0
import Derived.Test.YtfpomjnhgcmgoaaDoorPActx1
import Derived.Test.YtfpomjnhgcmgoaaDoorPActx2
import Derived.Test.YtfpomjnhgcmgoaaDoorPActx3
import Derived.Test.YtfpomjnhgcmgoaaDoorPActx4
namespace Go.Proofs.YtfpomjnhgcmgoaaDoor.P
open Go.RowKit Go.Proofs.YtfpomjnhgcmgoaaDoorW.PrintWords Go.Proofs.YtfpomjnhgcmgoaaDoorW.PrintLast Go.Proofs.YtfpomjnhgcmgoaaDoorW.PrintMore
attribute [local go_sem] max2_int min2_int max_two min_two max_three min_three max_four min_four   -- for this text's walks alone
set_option linter.unusedVariables false
set_option linter.unusedSimpArgs false

end Go.Proofs.YtfpomjnhgcmgoaaDoor.P
