/- What comes whatever the input is. -/
import Derived.Test.YtefjppdchgdjlaaDoorBlkP
import Derived.Test.YtefjppdchgdjlaaDoorQu
namespace Go.Proofs.YtefjppdchgdjlaaDoor.T
open Go.RowKit Go.Proofs.YtefjppdchgdjlaaDoorW.PrintWords Go.Proofs.YtefjppdchgdjlaaDoorW.PrintLast Go.Proofs.YtefjppdchgdjlaaDoor.P

theorem num9_errO (n : Int) : belvederelaw09_num.f (errO n) = some n := by
  unfold belvederelaw09_num.f errO
  by_cases h : n = 0
  · rw [if_pos h, h]; rfl
  · rw [if_neg h]; rfl
theorem rdBi (out : List BD) (i : Nat) (h : i < out.length) : rd_T40 (out.map eB) (i : Int) = eB out[i] := by
  unfold rd_T40
  rw [List.getD_eq_getElem?_getD, Int.toNat_natCast, List.getElem?_map, List.getElem?_eq_getElem h]; rfl
theorem rdFi (fs : List FD) (i : Nat) (h : i < fs.length) : rd_T42 (fs.map eF) (i : Int) = eF fs[i] := by
  unfold rd_T42
  rw [List.getD_eq_getElem?_getD, Int.toNat_natCast, List.getElem?_map, List.getElem?_eq_getElem h]; rfl
instance decF : DecidableEq FD := instDecidableEqProd
instance decB : DecidableEq BD := instDecidableEqProd
theorem sure9_eq : Ev (fun k => belvederelaw09_sure.f k) true := by
  unfold belvederelaw09_sure.f
  refine Ev.bind (blockParse_eq _) ?_
  have h : parseB (L (⟨#[100, 101, 102, 105, 110, 101, 32, 104, 111, 115, 116, 32, 123, 10, 32, 32, 110, 97, 109, 101, 32, 97, 10, 125, 10]⟩ : ByteArray)) = ([(1, [104, 111, 115, 116], [(2, [110, 97, 109, 101], [97])])], 0, 0) := by decide +kernel
  rw [h]
  exact evNow (fun _ => by decide +kernel)
end Go.Proofs.YtefjppdchgdjlaaDoor.T
