/- The pure statement of BlockGets. -/
import Derived.Test.YtefjppdchgdjlaaDoorBlkSure
import Derived.Test.YtefjppdchgdjlaaDoorBlkR
import Derived.Test.YtefjppdchgdjlaaDoorPlugG
namespace Go.Proofs.YtefjppdchgdjlaaDoor.T
open Go.RowKit Go.Proofs.YtefjppdchgdjlaaDoorW.PrintWords Go.Proofs.YtefjppdchgdjlaaDoorW.PrintLast Go.Proofs.YtefjppdchgdjlaaDoor.P

def nameC : ByteArray := ⟨#[97, 98, 99, 100, 101, 102, 103, 104, 105, 106, 107, 108, 109, 110, 111, 112, 113, 114, 115, 116, 117, 118, 119, 120, 121, 122, 65, 66, 67, 68, 69, 70, 71, 72, 73, 74, 75, 76, 77, 78, 79, 80, 81, 82, 83, 84, 85, 86, 87, 88, 89, 90, 48, 49, 50, 51, 52, 53, 54, 55, 56, 57, 95, 45, 46]⟩
def isN (c : UInt8) : Bool := isNameB (c.toNat : Int)
theorem nameC_fin : ∀ n : Fin 256, (L nameC).contains (UInt8.ofNat n.val) = isN (UInt8.ofNat n.val) := by decide +kernel
theorem nameC_eq (c : UInt8) : (L nameC).contains c = isN c := by
  have := nameC_fin ⟨c.toNat, c.toNat_lt⟩
  simpa using this
def nameP (l : List UInt8) : Bool := l.all isN && decide (1 ≤ l.length) && decide (l.length ≤ 32)
theorem block_name_eq (s : ByteArray) (h : s.size < 4294967281) : block_Name.f s = some (nameP (L s)) := by
  unfold block_Name.f nameP allB
  rw [if_pos h, sz s]
  rfl
theorem refName_eq (s : ByteArray) (hs : s.size < 4294967281) : Ev (fun k => belvedereref09_Name.f k s) (nameP (L s)) := by
  unfold belvedereref09_Name.f
  have := among_l0 (s := s) (cs := nameC) (by decide) (by rw [← sz]; omega) _ 0 rfl (Nat.zero_le _)
  rw [List.drop_zero, show (fun x => (L nameC).contains x) = isN from funext nameC_eq] at this
  exact Ev.bind this (Ev.now _)
section
variable (b : S46)
theorem rd_one : rd_T46 [b] 0 = b := rfl
theorem large_fields : ∀ (d j : Nat) (x3 : Int), b.f2.length - j = d → j ≤ b.f2.length → b.f2.length ≤ 80 → ∃ r, Ev (fun k => belvederelaw09_large.l1 k [b] x3 0 (j : Int)) r := by
  intro d
  induction d with
  | zero =>
    intro j x3 hd hj hb
    refine ⟨decide (x3 > 9000), ?_⟩
    refine Ev.step (fun k => by simp only [belvederelaw09_large.l1]; rfl) ?_
    refine evPos (by decide) ?_
    refine evPos (by simp) ?_
    rw [rd_one]
    refine evNeg (by omega) ?_
    rw [show wrap64 (0 + 1) = 1 from by rw [w64 (by decide) (by decide)]; rfl]
    refine Ev.step (fun k => by simp only [belvederelaw09_large.l0]; rfl) ?_
    refine evNeg (by simp) ?_
    exact Ev.now _
  | succ d ih =>
    intro j x3 hd hj hb
    obtain ⟨r, hr⟩ := ih (j + 1) (wrap64 ((wrap64 (x3 + (mn (((rd_T52 (b.f2) (j : Int)).f1).size : Int) 10000))) + (mn (((rd_T52 (b.f2) (j : Int)).f2).size : Int) 10000))) (by omega) (by omega) hb
    refine ⟨r, ?_⟩
    refine Ev.step (fun k => by simp only [belvederelaw09_large.l1]; rfl) ?_
    refine evPos (by decide) ?_
    refine evPos (by simp) ?_
    rw [rd_one]
    refine evPos (by omega) ?_
    refine evPos (by omega) ?_
    have wj : wrap64 ((j : Int) + 1) = ((j + 1 : Nat) : Int) := by rw [w64 (by omega) (by omega)]; omega
    rw [wj]
    exact hr
theorem large_one : ∃ lg, Ev (fun k => belvederelaw09_large.f k [b]) lg ∧ (lg = false → b.f2.length ≤ 80) := by
  unfold belvederelaw09_large.f
  by_cases h : b.f2.length > 80
  · refine ⟨true, evNeg (by simp) ?_, fun h => by cases h⟩
    refine Ev.step (fun k => by simp only [belvederelaw09_large.l0]; rfl) ?_
    refine evPos (by simp) ?_
    refine evPos (by decide) ?_
    rw [rd_one]
    exact evPos (by omega) (Ev.now _)
  · obtain ⟨r, hr⟩ := large_fields b _ 0 (wrap64 (0 + (mn ((b.f1).size : Int) 10000))) rfl (Nat.zero_le _) (by omega)
    refine ⟨r, evNeg (by simp) ?_, fun _ => by omega⟩
    refine Ev.step (fun k => by simp only [belvederelaw09_large.l0]; rfl) ?_
    refine evPos (by simp) ?_
    refine evPos (by decide) ?_
    rw [rd_one]
    exact evNeg (by omega) hr
def cnv (f : S52) : S42 := ⟨f.f0, f.f1, f.f2⟩
theorem give_fields (hb : b.f2.length ≤ 80) : ∀ (d j : Nat), b.f2.length - j = d → j ≤ b.f2.length → Ev (fun k => belvederelaw09_giveBlocks.l1 k [b] [] 0 (j : Int) b.f0 b.f1 ((b.f2.take j).map cnv)) [⟨b.f0, b.f1, b.f2.map cnv⟩] := by
  intro d
  induction d with
  | zero =>
    intro j hd hj
    obtain rfl : j = b.f2.length := by omega
    refine Ev.step (fun k => by simp only [belvederelaw09_giveBlocks.l1]; rfl) ?_
    refine evPos (by decide) ?_
    refine evPos (by simp) ?_
    rw [rd_one]
    refine evNeg (by omega) ?_
    refine evPos (by simp) ?_
    rw [List.take_length, show wrap64 (0 + 1) = 1 from by rw [w64 (by decide) (by decide)]; rfl]
    refine Ev.step (fun k => by simp only [belvederelaw09_giveBlocks.l0]; rfl) ?_
    refine evNeg (by simp) ?_
    exact Ev.now _
  | succ d ih =>
    intro j hd hj
    have hlt : j < b.f2.length := by omega
    refine Ev.step (fun k => by simp only [belvederelaw09_giveBlocks.l1]; rfl) ?_
    refine evPos (by decide) ?_
    refine evPos (by simp) ?_
    rw [rd_one]
    refine evPos (by omega) ?_
    refine evPos (by omega) ?_
    refine evPos (by rw [List.length_map, List.length_take]; omega) ?_
    have wj : wrap64 ((j : Int) + 1) = ((j + 1 : Nat) : Int) := by rw [w64 (by omega) (by omega)]; omega
    rw [wj]
    have hrd : rd_T52 b.f2 (j : Int) = b.f2[j] := by
      unfold rd_T52
      rw [List.getD_eq_getElem?_getD, Int.toNat_natCast, List.getElem?_eq_getElem hlt]; rfl
    rw [hrd]
    have e : (b.f2.take j).map cnv ++ [(⟨b.f2[j].f0, b.f2[j].f1, b.f2[j].f2⟩ : S42)] = (b.f2.take (j + 1)).map cnv := by
      rw [List.take_succ_eq_append_getElem hlt, List.map_append]; rfl
    rw [e]
    exact ih (j + 1) (by omega) (by omega)
theorem give_one (hb : b.f2.length ≤ 80) : Ev (fun k => belvederelaw09_giveBlocks.f k [b]) [⟨b.f0, b.f1, b.f2.map cnv⟩] := by
  unfold belvederelaw09_giveBlocks.f
  refine Ev.step (fun k => by simp only [belvederelaw09_giveBlocks.l0]; rfl) ?_
  refine evPos (by simp) ?_
  refine evPos (by decide) ?_
  rw [rd_one]
  exact give_fields b hb _ 0 rfl (Nat.zero_le _)
end
theorem find_fromS (fs : List S52) (name : ByteArray) (a : Int) (k : ByteArray) (hb : fs.length ≤ 4294967296) : ∀ (d i : Nat), fs.length - i = d → i ≤ fs.length →
    Ev (fun n => belvedereref09_Find.l0 n name (i : Int) a k fs) (if (fs.drop i).any (fun f => f.f1.toList == name.toList) then ((i + (fs.drop i).findIdx (fun f => f.f1.toList == name.toList) : Nat) : Int) else -1) := by
  intro d
  induction d with
  | zero =>
    intro i hd hi
    obtain rfl : i = fs.length := by omega
    refine Ev.step (fun k => by simp only [belvedereref09_Find.l0]; rfl) ?_
    refine evNeg (by omega) ?_
    rw [List.drop_length]
    exact Ev.now _
  | succ d ih =>
    intro i hd hi
    have hlt : i < fs.length := by omega
    have hdrop : fs.drop i = fs[i] :: fs.drop (i + 1) := List.drop_eq_getElem_cons hlt
    have hrd : rd_T52 fs (i : Int) = fs[i] := by
      unfold rd_T52
      rw [List.getD_eq_getElem?_getD, Int.toNat_natCast, List.getElem?_eq_getElem hlt]; rfl
    refine Ev.step (fun k => by simp only [belvedereref09_Find.l0]; rfl) ?_
    refine evPos (by omega) ?_
    refine evPos (by omega) ?_
    rw [hrd, hdrop, List.any_cons, List.findIdx_cons]
    by_cases he : fs[i].f1.toList = name.toList
    · refine evPos he ?_
      rw [beq_iff_eq.mpr he]
      simp only [Bool.true_or, if_true, cond_true, Nat.add_zero]
      exact Ev.now _
    · refine evNeg he ?_
      rw [beq_eq_false_iff_ne.mpr he]
      simp only [Bool.false_or, cond_false]
      have w1 : wrap64 ((i : Int) + 1) = ((i + 1 : Nat) : Int) := by rw [w64 (by omega) (by omega)]; omega
      rw [w1]
      have := ih (i + 1) (by omega) (by omega)
      rw [show i + ((fs.drop (i + 1)).findIdx (fun f => f.f1.toList == name.toList) + 1) = i + 1 + (fs.drop (i + 1)).findIdx (fun f => f.f1.toList == name.toList) by omega]
      exact this
theorem blockGets_law (b0 : Int) (b1 : ByteArray) (fs : List S52) (name : ByteArray) : ∃ k, belvederelaw09_BlockGets.Ok k b0 b1 fs name := by
  obtain ⟨K1, h1⟩ := sure9_eq
  obtain ⟨lg, ⟨K2, h2⟩, hlg⟩ := large_one ⟨b0, b1, fs⟩
  by_cases hc : lg = false ∧ ¬ (2000 : Int) < (name.size : Int)
  · have hf : fs.length ≤ 80 := hlg hc.1
    obtain ⟨K3, h3⟩ := give_one ⟨b0, b1, fs⟩ hf
    have hfind := find_fromS fs name b0 b1 (by omega) _ 0 rfl (Nat.zero_le _)
    rw [List.drop_zero] at hfind
    obtain ⟨K4, h4⟩ := hfind
    have hn : name.size < 4294967281 := by omega
    obtain ⟨K5, h5⟩ := refName_eq name hn
    refine ⟨K1 + K2 + K3 + K4 + K5, h1 _ (by omega), lg, h2 _ (by omega), fun _ _ => ?_⟩
    have hany : (fs.map cnv).any (fun x : S42 => x.f1.toList == name.toList) = fs.any (fun f => f.f1.toList == name.toList) := by rw [List.any_map]; rfl
    have hidx : (fs.map cnv).findIdx (fun x : S42 => x.f1.toList == name.toList) = fs.findIdx (fun f => f.f1.toList == name.toList) := by rw [List.findIdx_map]; rfl
    have h4' := h4 (K1 + K2 + K3 + K4 + K5) (by omega)
    rw [Nat.zero_add] at h4'
    have hget : bblock_Block_Get.f b0 b1 (fs.map cnv) name = some (getB (fs.map cnv) name) := by
      unfold bblock_Block_Get.f
      rw [if_pos (by rw [List.length_map]; omega)]
    have hfo : firstOf (fun x : S42 => x.f1.toList == name.toList) (fs.map cnv) = if fs.any (fun f => f.f1.toList == name.toList) then ((fs.findIdx (fun f => f.f1.toList == name.toList) : Nat) : Int) else -1 := by
      unfold firstOf
      rw [hidx, List.length_map]
      cases ha : fs.any (fun f => f.f1.toList == name.toList) with
      | true => rw [if_pos (List.findIdx_lt_length.2 (by obtain ⟨x, hx, hp⟩ := List.any_eq_true.1 ha; exact ⟨x, hx, hp⟩)), if_pos rfl]
      | false =>
        rw [if_neg (fun hh => by
          obtain ⟨x, hx, hp⟩ := List.findIdx_lt_length.1 hh
          rw [List.any_eq_false] at ha
          exact ha x hx hp), if_neg (by simp)]
    cases ha : fs.any (fun f => f.f1.toList == name.toList) with
    | true =>
      rw [ha, if_pos rfl] at h4' hfo
      have hlt : fs.findIdx (fun f => f.f1.toList == name.toList) < fs.length := List.findIdx_lt_length.2 (by obtain ⟨x, hx, hp⟩ := List.any_eq_true.1 ha; exact ⟨x, hx, hp⟩)
      refine ⟨⟨b0, b1, fs.map cnv⟩, (rd_T42 (fs.map cnv) ((fs.findIdx (fun f => f.f1.toList == name.toList) : Nat) : Int)).f2, true, _, _, h3 _ (by omega), ?_, h4', decide_eq_true (by omega), fun _ => ⟨by omega, ?_⟩, fun h => (by cases h), block_name_eq name hn, h5 _ (by omega)⟩
      · rw [hget]
        unfold getB
        simp only [hfo]
        rw [if_neg (by omega)]
      · have e : rd_T42 (fs.map cnv) ((fs.findIdx (fun f => f.f1.toList == name.toList) : Nat) : Int) = cnv (rd_T52 fs ((fs.findIdx (fun f => f.f1.toList == name.toList) : Nat) : Int)) := by
          unfold rd_T42 rd_T52
          rw [List.getD_eq_getElem?_getD, List.getD_eq_getElem?_getD, Int.toNat_natCast, List.getElem?_map, List.getElem?_eq_getElem hlt]; rfl
        rw [e]
        exact beq_self_eq_true _
    | false =>
      rw [ha, if_neg (by simp)] at h4' hfo
      refine ⟨⟨b0, b1, fs.map cnv⟩, ⟨#[]⟩, false, _, _, h3 _ (by omega), ?_, h4', by decide, fun h => (by cases h), fun _ => tl _, block_name_eq name hn, h5 _ (by omega)⟩
      rw [hget]
      unfold getB
      simp only [hfo]
      rw [if_pos (by decide)]
  · exact ⟨K1 + K2, h1 _ (by omega), lg, h2 _ (by omega), fun a b => absurd ⟨a, b⟩ hc⟩
end Go.Proofs.YtefjppdchgdjlaaDoor.T
