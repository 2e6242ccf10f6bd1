/- Plain law of layer 8: what lex.Lines and the document's Lines come to, over lists. 62, 67: the two Line types. -/
import Derived.Test.YtefjppdchgdjlaaDoorTxt
import Derived.Test.YtefjppdchgdjlaaDoorQs
namespace Go.Proofs.YtefjppdchgdjlaaDoor.T
open Go.RowKit Go.Proofs.YtefjppdchgdjlaaDoorW.PrintWords Go.Proofs.YtefjppdchgdjlaaDoorW.PrintLast Go.Proofs.YtefjppdchgdjlaaDoor.P

/-! ### the small functions -/
theorem cutSuffix_eq (s : ByteArray) (h : s.size ≤ 9223372036854775807) : strings_CutSuffix.f s (⟨#[92]⟩ : ByteArray) = some (mkB (strip (L s)), stroke (L s)) := by
  have h1 : (⟨#[92]⟩ : ByteArray).size = 1 := rfl
  have hs := sz s
  unfold strings_CutSuffix.f stringslite_CutSuffix.f stringslite_HasSuffix.f
  rw [h1]
  by_cases h0 : (s.size : Int) ≥ ((1 : Nat) : Int)
  · have hw : wrap64 ((s.size : Int) - ((1 : Nat) : Int)) = ((s.size - 1 : Nat) : Int) := by rw [w64 (by omega) (by omega)]; omega
    have hpos : 1 ≤ s.size := by omega
    have h0' : (0 : Int) ≤ ((s.size - 1 : Nat) : Int) := Int.natCast_nonneg _
    have h1' : ((s.size - 1 : Nat) : Int) ≤ (s.size : Int) := by omega
    rw [if_pos h0, hw, if_pos h0', if_pos h1']
    simp only [Option.bind_some, Int.toNat_natCast]
    have hl : ((s.extract (s.size - 1) s.size).toList == (⟨#[92]⟩ : ByteArray).toList) = stroke (L s) := by
      rw [tl, tl, L_suf]
      unfold stroke
      rcases List.eq_nil_or_concat (L s) with e | ⟨l, c, e⟩
      · rw [e] at hs; simp only [List.length_nil] at hs; omega
      · rw [List.concat_eq_append] at e
        have : s.size - 1 = l.length := by rw [hs, e]; simp
        rw [this, e, L_lit]
        simp [List.drop_append]
    rw [hl]
    cases hst : stroke (L s) with
    | true =>
      rw [if_pos rfl, if_pos h0', if_pos h1']
      simp only [Option.bind_some, Int.toNat_natCast]
      congr 2
      apply L_inj
      rw [L_pre, L_mk]
      unfold strip
      rw [hst, if_pos rfl, List.dropLast_eq_take, hs]
    | false =>
      rw [if_neg (by simp)]
      simp only [Option.bind_some]
      congr 2
      apply L_inj
      rw [L_mk]
      unfold strip
      rw [hst, if_neg (by simp)]
  · rw [if_neg h0]
    have e : L s = [] := List.eq_nil_of_length_eq_zero (by omega)
    have hst : stroke (L s) = false := by rw [e]; rfl
    simp only [Option.bind_some]
    rw [if_neg (by simp)]
    simp only [Option.bind_some]
    rw [hst]
    congr 2
    apply L_inj
    rw [L_mk]
    unfold strip
    rw [hst, if_neg (by simp)]
theorem lexTrim_eq (s : ByteArray) (h : s.size ≤ 9223372036854775807) : lex_Trim.f s = some (mkB (trim (L s))) := by
  unfold lex_Trim.f strings_Trim.f
  rw [if_pos ⟨h, by decide, by decide⟩]
  rfl
theorem hasHash (s : ByteArray) (h : s.size ≤ 9223372036854775807) : strings_HasPrefix.f s (⟨#[35]⟩ : ByteArray) = some (decide ((L s).head? = some 35)) := by
  have h1 : (⟨#[35]⟩ : ByteArray).size = 1 := rfl
  have hs := sz s
  unfold strings_HasPrefix.f stringslite_HasPrefix.f
  rw [h1]
  by_cases h0 : (s.size : Int) ≥ ((1 : Nat) : Int)
  · have c2 : (0 : Int) ≤ ((1 : Nat) : Int) := by omega
    have c3 : ((1 : Nat) : Int) ≤ (s.size : Int) := h0
    rw [if_pos h0, if_pos c2, if_pos c3]
    simp only [Option.bind_some]
    congr 1
    rw [tl, tl, L_pre]
    cases e : L s with
    | nil => rw [e] at hs; simp only [List.length_nil] at hs; omega
    | cons c l =>
      show (List.take 1 (c :: l) == [35]) = _
      simp only [List.take_succ_cons, List.take_zero, List.head?_cons]
      by_cases hc : c = 35
      · subst hc; rfl
      · simp [hc]
  · rw [if_neg h0]
    have e : L s = [] := List.eq_nil_of_length_eq_zero (by omega)
    rw [e]; rfl
theorem said_eq (s : ByteArray) (h : s.size < 4294967281) : lex_said.f s = some (mkB (said (L s))) := by
  have hc := cut_len 59 (L s)
  have hs := sz s
  unfold lex_said.f
  rw [lexTrim_eq s (by omega)]
  simp only [Option.bind_some]
  rw [hasHash _ (by rw [sz, L_mk]; have := trim_len (L s); omega), L_mk]
  simp only [Option.bind_some]
  unfold said
  by_cases hh : (trim (L s)).head? = some 35
  · rw [if_pos (by simpa using hh), if_pos hh]
    rfl
  · rw [if_neg (by simpa using hh), if_neg hh]
    unfold strings_Cut.f
    rw [if_pos h]
    simp only [Option.bind_some]
    have e1 : (⟨(Lib.cut s.data.toList (⟨#[59]⟩ : ByteArray).data.toList).1.toArray⟩ : ByteArray) = mkB (cut 59 (L s)) := by
      rw [show (⟨#[59]⟩ : ByteArray).data.toList = [59] from rfl, lib_cut]
      rfl
    rw [e1, lexTrim_eq _ (by rw [sz, L_mk]; omega), L_mk]
    rfl
def e1 (x : Int × List UInt8) : S62 := ⟨x.1, mkB x.2⟩
def e2 (x : Int × List UInt8) : S67 := ⟨x.1, mkB x.2⟩
def errO (n : Int) : Option Int := if n = 0 then none else some n
def out1 (r : List (Int × List UInt8) × Int × Int) : List S62 × Int × Option Int := (r.1.map e1, r.2.1, errO r.2.2)
def out2 (r : List (Int × List UInt8) × Int × Int) : List S67 × Int × Int := (r.1.map e2, r.2.1, r.2.2)
theorem rdOf_L (all : List ByteArray) (ps : List (List UInt8)) (h : all.map L = ps) (i : Nat) (hi : i < ps.length) : rdOf ByteArray.empty all (i : Int) = mkB ps[i] := by
  subst h
  have hi' : i < all.length := by simpa using hi
  unfold rdOf
  simp only [Int.toNat_natCast, List.getElem_map]
  rw [List.getD_eq_getElem?_getD, List.getElem?_eq_getElem hi']
  exact (mk_L _).symm

/-! ### the program's lines -/
set_option maxHeartbeats 4000000 in
theorem lines_from (all : List ByteArray) (P : List (List UInt8)) (hP : all.map L = P) (hlen : P.length ≤ 100000) :
    ∀ (d : Nat) (i : Nat) (out : List (Int × List UInt8)), P.length - i = d → i ≤ P.length → tot (P.drop i) ≤ 100000 → out.length ≤ i →
      (Ev (fun k => lex_Lines.l0 k (out.map e1) all (i : Int)) (out1 (go (P.drop i) [] ((i : Int) + 1) ((i : Int) + 1) out))) ∧
      (∀ (acc : List UInt8) (first : Int), i < P.length → acc.length + tot (P.drop i) ≤ 100000 →
        Ev (fun k => lex_Lines.l1 k (out.map e1) all (i : Int) first (mkB (acc ++ strip (P.getD i []))) (stroke (P.getD i []))) (out1 (go (P.drop i) acc first ((i : Int) + 1) out))) := by
  have hl : all.length = P.length := by rw [← hP]; simp
  intro d
  induction d with
  | zero =>
    intro i out hd hi ht ho
    have hi' : i = P.length := by omega
    refine ⟨?_, fun acc first h => by omega⟩
    refine Ev.step (fun k => by simp only [lex_Lines.l0]; rfl) ?_
    refine evNeg (by omega) ?_
    rw [hi', List.drop_length]
    exact Ev.now _
  | succ d ih =>
    intro i out hd hi ht ho
    have hlt : i < P.length := by omega
    have hdrop : P.drop i = P[i] :: P.drop (i + 1) := List.drop_eq_getElem_cons hlt
    have hget : P.getD i [] = P[i] := by rw [List.getD_eq_getElem?_getD, List.getElem?_eq_getElem hlt]; rfl
    have w1 : wrap64 ((i : Int) + 1) = ((i + 1 : Nat) : Int) := by rw [w64 (by omega) (by omega)]; omega
    have htot : tot (P.drop i) = P[i].length + tot (P.drop (i + 1)) := by rw [hdrop]; rfl
    -- what is done with a whole line
    have fin : ∀ (acc : List UInt8) (first : Int), acc.length + tot (P.drop i) ≤ 100000 → ¬ (stroke P[i] = true ∧ P.drop (i + 1) ≠ []) →
        Ev (fun k => lex_Lines.j2 k (out.map e1) all (i : Int) first (mkB (acc ++ strip P[i]))) (out1 (go (P.drop i) acc first ((i : Int) + 1) out)) := by
      intro acc first hacc hn
      have hst : (strip P[i]).length ≤ P[i].length := by unfold strip; split <;> simp
      have hsz : (acc ++ strip P[i]).length ≤ 100000 := by rw [List.length_append]; omega
      refine Ev.step (fun k => by simp only [lex_Lines.j2]; rfl) ?_
      refine evBnd (said_eq _ (by rw [sz, L_mk]; omega)) ?_
      rw [L_mk, hdrop, go, if_neg hn, tl, L_mk]
      by_cases hs : said (acc ++ strip P[i]) = []
      · refine evPos hs ?_
        rw [if_pos hs, w1]
        have := (ih (i + 1) out (by omega) (by omega) (by omega) (by omega)).1
        push_cast at this ⊢
        exact this
      · refine evNeg hs ?_
        rw [if_neg hs]
        by_cases h4 : (said (acc ++ strip P[i])).length > 4096
        · refine evPos (by rw [sz, L_mk]; omega) ?_
          rw [if_pos h4]
          exact Ev.now _
        · refine evNeg (by rw [sz, L_mk]; omega) ?_
          rw [if_neg h4]
          refine evPos (by rw [List.length_map]; omega) ?_
          rw [w1]
          have := (ih (i + 1) (out ++ [(first, said (acc ++ strip P[i]))]) (by omega) (by omega) (by omega) (by simp; omega)).1
          rw [List.map_append] at this
          push_cast at this ⊢
          exact this
    have second : ∀ (acc : List UInt8) (first : Int), i < P.length → acc.length + tot (P.drop i) ≤ 100000 →
        Ev (fun k => lex_Lines.l1 k (out.map e1) all (i : Int) first (mkB (acc ++ strip (P.getD i []))) (stroke (P.getD i []))) (out1 (go (P.drop i) acc first ((i : Int) + 1) out)) := by
      intro acc first _ hacc
      rw [hget]
      refine Ev.step (fun k => by simp only [lex_Lines.l1]; rfl) ?_
      by_cases hs : stroke P[i] = true
      · refine evPos hs ?_
        rw [w1]
        by_cases hm : i + 1 < P.length
        · refine evPos (by omega) ?_
          refine evPos (by omega) ?_
          rw [rdOf_L all P hP (i + 1) hm]
          have hdrop2 : P.drop (i + 1) = P[i + 1] :: P.drop (i + 1 + 1) := List.drop_eq_getElem_cons hm
          have htot2 : tot (P.drop (i + 1)) = P[i + 1].length + tot (P.drop (i + 1 + 1)) := by rw [hdrop2]; rfl
          refine evBnd (cutSuffix_eq _ (by rw [sz, L_mk]; omega)) ?_
          rw [L_mk]
          have hst : (strip P[i]).length ≤ P[i].length := by unfold strip; split <;> simp
          have hst2 : (strip P[i + 1]).length ≤ P[i + 1].length := by unfold strip; split <;> simp
          refine evPos (by rw [sz, sz, L_mk, L_mk, List.length_append]; omega) ?_
          have e : mkB (acc ++ strip P[i]) ++ mkB (strip P[i + 1]) = mkB ((acc ++ strip P[i]) ++ strip P[i + 1]) := by
            apply L_inj; rw [L_app, L_mk, L_mk, L_mk]
          rw [e, hdrop, go, if_pos ⟨hs, (by rw [hdrop2]; exact List.cons_ne_nil _ _)⟩]
          have hsd : strip P[i] = P[i].dropLast := by unfold strip; rw [if_pos hs]
          rw [hsd] at hst ⊢
          have hget2 : P.getD (i + 1) [] = P[i + 1] := by rw [List.getD_eq_getElem?_getD, List.getElem?_eq_getElem hm]; rfl
          have := (ih (i + 1) out (by omega) (by omega) (by omega) (by omega)).2 (acc ++ P[i].dropLast) first hm (by rw [List.length_append]; omega)
          rw [hget2] at this
          push_cast at this ⊢
          exact this
        · refine evNeg (by omega) ?_
          exact fin acc first hacc (fun h => h.2 (List.drop_eq_nil_of_le (by omega)))
      · refine evNeg hs ?_
        exact fin acc first hacc (fun h => hs h.1)
    refine ⟨?_, second⟩
    refine Ev.step (fun k => by simp only [lex_Lines.l0]; rfl) ?_
    refine evPos (by omega) ?_
    refine evPos (by omega) ?_
    rw [rdOf_L all P hP i hlt]
    refine evBnd (cutSuffix_eq _ (by rw [sz, L_mk]; omega)) ?_
    rw [L_mk, w1]
    have := second [] ((i : Int) + 1) hlt (by simpa using ht)
    rw [hget, List.nil_append] at this
    push_cast at this ⊢
    exact this
theorem lexLines_eq (s : ByteArray) : Ev (fun k => lex_Lines.f k s) (out1 (linesOf (L s))) := by
  have hs := sz s
  unfold lex_Lines.f linesOf
  by_cases h : (L s).length > 65536
  · rw [if_pos h]
    exact evPos (by omega) (Ev.now _)
  · rw [if_neg h]
    refine evNeg (by omega) ?_
    unfold strings_Split.f
    refine evBnd (if_pos ⟨by omega, by decide⟩) ?_
    have hp := pieces_len (L s)
    have ht := tot_le (L s)
    have := (lines_from _ (pieces (L s)) (split_pieces s) (by omega) _ 0 [] rfl (by omega) (by simpa using (by omega : tot (pieces (L s)) ≤ 100000)) (by simp)).1
    simpa using this
end Go.Proofs.YtefjppdchgdjlaaDoor.T
