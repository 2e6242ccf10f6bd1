/- Plain law of layer 8, second part: the document's lines. -/
import Derived.Test.YtefjppdchgdjlaaDoorLexD
namespace Go.Proofs.YtefjppdchgdjlaaDoor.T
open Go.RowKit Go.Proofs.YtefjppdchgdjlaaDoorW.PrintWords Go.Proofs.YtefjppdchgdjlaaDoorW.PrintLast Go.Proofs.YtefjppdchgdjlaaDoor.P
section
variable (s : ByteArray) (hb : (L s).length ≤ 100000)
include hb
set_option maxHeartbeats 1000000 in
theorem ref_from : ∀ (ps : List (List UInt8)) (pre acc : List UInt8) (first : Int) (num : Int) (out : List (Int × List UInt8)),
    L s = pre ++ flat ps → (pre = [] ∨ pre.getLast? = some 10) → (∀ p ∈ ps, (10 : UInt8) ∉ p) → acc.length ≤ pre.length → out.length ≤ pre.length → 0 ≤ num → num ≤ (pre.length : Int) + 1 →
    Ev (fun k => belvedereref08_Lines.l0 k s (out.map e2) (mkB acc) first num (pre.length : Int)) (out2 (go ps acc first num out)) := by
  intro ps
  induction ps with
  | nil =>
    intro pre acc first num out hL _ _ _ _ _ _
    have hsz := sz s
    have : (L s).length = pre.length := by rw [hL]; simp [flat]
    refine Ev.step (fun k => by simp only [belvedereref08_Lines.l0]; rfl) ?_
    exact evNeg (by omega) (Ev.now _)
  | cons p ps ih =>
    intro pre acc first num out hL hpre h10 hacc hout hn0 hn1
    have hsz := sz s
    have hL' : L s = pre ++ (p ++ 10 :: flat ps) := hL
    have hlen : (L s).length = pre.length + p.length + 1 + (flat ps).length := by rw [hL']; simp; omega
    have hp10 : (10 : UInt8) ∉ p := h10 p (by simp)
    have hps10 : ∀ q ∈ ps, (10 : UInt8) ∉ q := fun q hq => h10 q (by simp [hq])
    refine ref_read s hb _ first num p pre acc (flat ps) hL' hp10 hacc ?_
    -- at the line's end
    have hj : pre.length + p.length < (L s).length := by omega
    have hc : (L s)[pre.length + p.length] = 10 := by
      simp only [hL']
      rw [List.getElem_append_right (by omega), List.getElem_append_right (by omega)]
      simp
    have hL2 : L s = (pre ++ p ++ [10]) ++ flat ps := by rw [hL']; simp
    have hl2 : (pre ++ p ++ [10]).length = pre.length + p.length + 1 := by simp; omega
    have w2 : Aside0 (wrap64 (((pre.length + p.length : Nat) : Int) + 1) = (((pre ++ p ++ [10]).length : Nat) : Int)) := ⟨by rw [w64 (by omega) (by omega), hl2]; omega⟩
    have w1 : Aside0 (wrap64 (num + 1) = num + 1) := ⟨w64 (by omega) (by omega)⟩
    have htake : (L s).take (pre.length + p.length) = pre ++ p := by
      rw [hL2, List.append_assoc, List.take_append_of_le_length (by simp)]
      exact List.take_of_length_le (by simp)
    -- the text that is told, and what follows
    have told : ∀ text : List UInt8, text.length ≤ pre.length + p.length → text = acc ++ strip p → ¬ (stroke p = true ∧ ps ≠ []) →
        Ev (fun k => belvedereref08_Lines.j2 k s (out.map e2) (mkB text) first (num + 1) ((pre.length + p.length : Nat) : Int)) (out2 (go (p :: ps) acc first num out)) := by
      intro text htl ht hn
      have hsl := said_len text
      refine Ev.step (fun k => by simp only [belvedereref08_Lines.j2]; rfl) ?_
      refine Ev.bind (refTrim_eq _ (by rw [sz, L_mk]; omega)) ?_
      rw [L_mk]
      refine ref_loop (trim text) (clean_trim text) (by have := trim_len text; omega) ?_ _ 0 rfl (Nat.zero_le _) (by simp)
      have hfin : fin (trim (cut 59 (trim text))) = said text := said_other text
      rw [hfin]
      rw [go, if_neg hn, ← ht]
      refine Ev.step (fun k => by simp only [belvedereref08_Lines.j5]; rfl) ?_
      rw [tl, L_mk]
      by_cases hs : said text = []
      · refine evNeg (by rw [sz, L_mk, hs]; simp) ?_
        refine evPos hs ?_
        rw [if_pos hs, w2.out]
        exact ih _ [] (num + 1) (num + 1) out hL2 (.inr (by simp)) hps10 (by simp) (by omega) (by omega) (by omega)
      · rw [if_neg hs]
        by_cases h4 : (said text).length > 4096
        · refine evPos (by rw [sz, L_mk]; omega) ?_
          rw [if_pos h4]
          exact Ev.now _
        · refine evNeg (by rw [sz, L_mk]; omega) ?_
          refine evNeg hs ?_
          rw [if_neg h4]
          refine evPos (by rw [List.length_map]; omega) ?_
          rw [w2.out]
          have := ih _ [] (num + 1) (num + 1) (out ++ [(first, said text)]) hL2 (.inr (by simp)) hps10 (by simp) (by simp; omega) (by omega) (by omega)
          rw [List.map_append] at this
          exact this
    -- does it go on?
    have onward : ∀ b : Bool, b = stroke p →
        Ev (fun k => belvedereref08_Lines.j1 k s (out.map e2) (mkB (acc ++ p)) first (num + 1) ((pre.length + p.length : Nat) : Int) b) (out2 (go (p :: ps) acc first num out)) := by
      intro b hbs
      refine Ev.step (fun k => by simp only [belvedereref08_Lines.j1]; rfl) ?_
      by_cases hs : stroke p = true
      · have hpn : p ≠ [] := by rintro rfl; cases hs
        have hpl : 0 < p.length := List.length_pos_iff.2 hpn
        have hss : ((mkB (acc ++ p)).size : Int) = ((acc.length + p.length : Nat) : Int) := by rw [sz, L_mk, List.length_append]
        have hw : Aside0 (wrap64 (((mkB (acc ++ p)).size : Int) - 1) = ((acc.length + p.length - 1 : Nat) : Int)) := ⟨by rw [hss, w64 (by omega) (by omega)]; omega⟩
        have hx : (mkB (acc ++ p)).extract 0 (((acc.length + p.length - 1 : Nat) : Int)).toNat = mkB (acc ++ p.dropLast) := by
          apply L_inj
          rw [L_pre, L_mk, L_mk, List.dropLast_eq_take]
          simp only [Int.toNat_natCast]
          rw [List.take_append, List.take_of_length_le (by omega)]
          congr 2
          omega
        refine evPos (by rw [hbs, hs]) ?_
        rw [hw.out, hss]
        refine evPos (by omega) ?_
        refine evPos (by omega) ?_
        rw [w2.out, hx]
        by_cases hps : ps = []
        · have hf : (flat ps).length = 0 := by rw [hps]; rfl
          refine evNeg (by omega) ?_
          exact told (acc ++ p.dropLast) (by simp; omega) (by unfold strip; rw [if_pos hs]) (fun e => e.2 hps)
        · have hf : 0 < (flat ps).length := by
            obtain ⟨q, qs, rfl⟩ := List.exists_cons_of_ne_nil hps
            simp [flat] <;> omega
          refine evPos (by omega) ?_
          rw [go, if_pos ⟨hs, hps⟩]
          exact ih _ (acc ++ p.dropLast) first (num + 1) out hL2 (.inr (by simp)) hps10 (by simp; omega) (by omega) (by omega) (by omega)
      · refine evNeg (by rw [hbs]; exact hs) ?_
        exact told (acc ++ p) (by simp; omega) (by unfold strip; rw [if_neg hs]) (fun e => hs e.1)
    refine Ev.step (fun k => by simp only [belvedereref08_Lines.l0]; rfl) ?_
    refine evPos (by omega) ?_
    refine evPos (by omega) ?_
    have hb1 : bt s ((pre.length + p.length : Nat) : Int) = 10 := by
      rw [bt_L s _ hj, hc]; rfl
    refine evPos hb1 ?_
    simp only [w1.out]
    have hss : ((mkB (acc ++ p)).size : Int) = ((acc.length + p.length : Nat) : Int) := by rw [sz, L_mk, List.length_append]
    by_cases h0 : acc ++ p = []
    · have hq := List.append_eq_nil_iff.1 h0
      have hq1 : acc.length = 0 := by rw [hq.1]; rfl
      have hq2 : p.length = 0 := by rw [hq.2]; rfl
      refine evNeg (by rw [hss]; omega) ?_
      refine onward false ?_
      have : p = [] := (List.append_eq_nil_iff.1 h0).2
      rw [this]; rfl
    · have hpos : 0 < acc.length + p.length := by
        have := List.length_pos_iff.2 h0
        rwa [List.length_append] at this
      have hw : Aside0 (wrap64 (((mkB (acc ++ p)).size : Int) - 1) = ((acc.length + p.length - 1 : Nat) : Int)) := ⟨by rw [hss, w64 (by omega) (by omega)]; omega⟩
      rw [hw.out, hss]
      refine evPos (by omega) ?_
      refine evPos (by omega) ?_
      refine evPos (by omega) ?_
      rw [bt_L _ _ (by rw [L_mk, List.length_append]; omega)]
      have hext : s.extract 0 ((pre.length + p.length : Nat) : Int).toNat = mkB (pre ++ p) := by
        apply L_inj; rw [L_pre, L_mk, Int.toNat_natCast]; exact htake
      have hstroke : stroke (pre ++ p) = stroke p := by
        unfold stroke
        rcases List.eq_nil_or_concat p with rfl | ⟨p', d, rfl⟩
        · rw [List.append_nil]
          rcases hpre with rfl | hpre
          · rfl
          · rw [hpre]; rfl
        · rw [List.concat_eq_append]; simp
      by_cases h92 : (L (mkB (acc ++ p)))[acc.length + p.length - 1]'(by rw [L_mk, List.length_append]; omega) = 92
      · refine evPos (by rw [h92]; rfl) ?_
        refine evPos (by omega) ?_
        rw [hext]
        refine evBnd (ends_eq _ (by rw [sz, L_mk, List.length_append]; omega)) ?_
        rw [L_mk]
        exact onward _ hstroke
      · refine evNeg (fun e => h92 ((u8_eq _ 92 (by omega)).1 (by omega))) ?_
        refine onward false ?_
        cases hs : stroke p with
        | false => rfl
        | true =>
          exfalso
          apply h92
          rcases List.eq_nil_or_concat p with rfl | ⟨p', d, rfl⟩
          · cases hs
          · rw [List.concat_eq_append] at *
            have : d = 92 := by simpa [stroke] using hs
            subst this
            have hh : acc ++ (p' ++ [92]) = (acc ++ p') ++ [92] := by simp
            simp only [L_mk, hh]
            rw [List.getElem_append_right (by simp)]
            simp
end
theorem refLines_eq (s : ByteArray) : Ev (fun k => belvedereref08_Lines.f k s) (out2 (linesOf (L s))) := by
  have hs := sz s
  unfold belvedereref08_Lines.f linesOf
  by_cases h : (L s).length > 65536
  · rw [if_pos h]
    exact evPos (by omega) (Ev.now _)
  · rw [if_neg h]
    refine evNeg (by omega) ?_
    refine evPos (by omega) ?_
    have hL : L (s ++ (⟨#[10]⟩ : ByteArray)) = [] ++ flat (pieces (L s)) := by rw [L_app, flat_pieces]; rfl
    have hl10 : (L (s ++ (⟨#[10]⟩ : ByteArray))).length = (L s).length + 1 := by rw [L_app, List.length_append]; rfl
    exact ref_from _ (by omega) (pieces (L s)) [] [] 1 1 [] hL (.inl rfl) (pieces_no10 _) (by simp) (by simp) (by omega) (by simp)
end Go.Proofs.YtefjppdchgdjlaaDoor.T
