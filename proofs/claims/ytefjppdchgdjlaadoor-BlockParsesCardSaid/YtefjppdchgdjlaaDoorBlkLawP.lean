/- The pure statement of BlockParses. -/
import Derived.Test.YtefjppdchgdjlaaDoorBlkSure
import Derived.Test.YtefjppdchgdjlaaDoorBlkR
import Derived.Test.YtefjppdchgdjlaaDoorQp
namespace Go.Proofs.YtefjppdchgdjlaaDoor.T
open Go.RowKit Go.Proofs.YtefjppdchgdjlaaDoorW.PrintWords Go.Proofs.YtefjppdchgdjlaaDoorW.PrintLast Go.Proofs.YtefjppdchgdjlaaDoor.P

theorem rdRi (out : List BD) (i : Nat) (h : i < out.length) : rd_T46 (out.map rB) (i : Int) = rB out[i] := by
  unfold rd_T46
  rw [List.getD_eq_getElem?_getD, Int.toNat_natCast, List.getElem?_map, List.getElem?_eq_getElem h]; rfl
theorem sameBl_self (X : List BD) (at_ : Bool) : sameBl (X.map eB) (X.map rB) at_ = true := by
  unfold sameBl
  rw [List.length_map, List.length_map, beq_self_eq_true, Bool.true_and]
  refine range_all_true (fun i hi => ?_)
  rw [rdBi X i hi, rdRi X i hi]
  unfold sameB1
  show ((mkB _).toList == (mkB _).toList && _) = true
  rw [beq_self_eq_true, Bool.true_and]
  have h1 : ((eB X[i]).f0 == (rB X[i]).f0) = true := beq_iff_eq.mpr rfl
  have h2 : ((eB X[i]).f2.length == (rB X[i]).f2.length) = true := beq_iff_eq.mpr (by show (List.map _ _).length = (List.map _ _).length; rw [List.length_map, List.length_map])
  rw [h1, h2, Bool.or_true, Bool.true_and, Bool.true_and]
  have h3 : (eB X[i]).f2.length = X[i].2.2.length := List.length_map _
  rw [h3]
  refine range_all_true (fun k hk => ?_)
  show sameF (rd_T42 (X[i].2.2.map eF) (k : Int)) (rd_T52 (X[i].2.2.map rF) (k : Int)) at_ = true
  rw [rdFi _ k hk, rdF _ k hk]
  unfold sameF
  show ((mkB _).toList == (mkB _).toList && ((mkB _).toList == (mkB _).toList && _)) = true
  rw [beq_self_eq_true, beq_self_eq_true, Bool.true_and, Bool.true_and]
  have h4 : ((eF X[i].2.2[k]).f0 == (rF X[i].2.2[k]).f0) = true := beq_iff_eq.mpr rfl
  rw [h4, Bool.or_true]
theorem blockParses_law : Go.Proofs.YtefjppdchgdjlaaDoor.P.belvederelaw09_BlockParses.Pure := by
  intro s hs
  refine Ev.rounds ?_
  have main : Ev (fun k => belvederelaw09_BlockParses.j0 k s false) true := by
    refine Ev.step (fun k => by simp only [belvederelaw09_BlockParses.j0]; rfl) ?_
    refine evNeg (by simp) ?_
    refine Ev.bind (blockParse_eq s) ?_
    refine Ev.bind (refParse_eq s) ?_
    refine evBnd (show belvederelaw09_sameBlocks.f (o1 (parseB (L s))).1 (o2 (parseB (L s))).1 true = some true from congrArg some (sameBl_self _ _)) ?_
    refine evPos rfl ?_
    refine evPos rfl ?_
    refine evPos rfl ?_
    refine evBnd (num9_errO _) ?_
    refine evPos rfl ?_
    exact Ev.bind sure9_eq (Ev.now _)
  unfold belvederelaw09_BlockParses.f
  by_cases h : (s.size : Int) > 5000
  · refine evPos h ?_
    by_cases h2 : (s.size : Int) ≤ 65536
    · rw [decide_eq_true h2]
      refine Ev.step (fun k => by simp only [belvederelaw09_BlockParses.j0]; rfl) ?_
      exact evPos trivial (Ev.bind sure9_eq (Ev.now _))
    · rw [decide_eq_false h2]; exact main
  · exact evNeg h main

end Go.Proofs.YtefjppdchgdjlaaDoor.T
