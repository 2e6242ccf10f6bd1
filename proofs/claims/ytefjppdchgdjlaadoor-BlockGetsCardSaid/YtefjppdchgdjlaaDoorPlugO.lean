/- Small words on worlds for the texts by hand. -/
import Derived.Test.YtefjppdchgdjlaaDoorWMore
namespace Go.Proofs.YtefjppdchgdjlaaDoor.P
open Go.RowKit Go.Proofs.YtefjppdchgdjlaaDoorW.PrintWords Go.Proofs.YtefjppdchgdjlaaDoorW.PrintLast Go.Proofs.YtefjppdchgdjlaaDoorW.PrintMore
theorem blk_step {w w1 : World} {g : Nat} {o : Obj} (h : w.heap[g]? = some o) (hb : Below w.heap.size w w1) : w1.heap[g]? = some o := (hb.block g (blk_lt h)).trans h
theorem below_q {W w2 : World} {n : Nat} (h : Below (W.drewN n).heap.size (W.drewN n) w2) : Below W.heap.size W w2 := below_step (pw_below_drewN (Below.refl _ _) n) h
end Go.Proofs.YtefjppdchgdjlaaDoor.P
