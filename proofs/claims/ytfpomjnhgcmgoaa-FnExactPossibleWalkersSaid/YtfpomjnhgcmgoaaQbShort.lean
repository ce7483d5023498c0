/- Short words for what the printed texts say again and again. -/
import Derived.Test.YtfpomjnhgcmgoaaQbWWords
import Derived.Test.YtfpomjnhgcmgoaaQbWLast
import Derived.Test.YtfpomjnhgcmgoaaQbWMore
namespace Go.Proofs.Ytfpomjnhgcmgoaa.P
open Go.RowKit Go.Proofs.YtfpomjnhgcmgoaaW.PrintWords Go.Proofs.YtfpomjnhgcmgoaaW.PrintLast Go.Proofs.YtfpomjnhgcmgoaaW.PrintMore
theorem BZ {Q : Prop} (h : Q := by repeat (first | (with_reducible first | exact HB.out | apply below_alloc | apply pw_below_drewN | apply below_drew1 | refine below_set ?_ (Aside0.out (by assumption))) | exact HB.out)) : Q := h
theorem BKZ {Q : Prop} (h : Q := by (with_reducible repeat (first | refine blk_drewN ?_ _ | refine blk_drew ?_ | refine blk_alloc ?_ _)); exact Aside0.out (by assumption)) : Q := h
end Go.Proofs.Ytfpomjnhgcmgoaa.P

