/- Plain law of layer 8: what lex.Lines and the document's Lines come to, over lists. 36, 44: the two Line types. -/
import Derived.Test.YtmpnmjomcbomnaaDoorTxt
import Derived.Test.YtmpnmjomcbomnaaDoorPx5
namespace Go.Proofs.YtmpnmjomcbomnaaDoor.T
open Go.RowKit Go.Proofs.YtmpnmjomcbomnaaDoorW.PrintWords Go.Proofs.YtmpnmjomcbomnaaDoorW.PrintLast Go.Proofs.YtmpnmjomcbomnaaDoor.P

/-! ### the small functions -/
theorem cutSuffix_eq (s : ByteArray) (h : s.size ≤ 9223372036854775807) : strings_CutSuffix.f s (⟨#[92]⟩ : ByteArray) = some (mkB (strip (L s)), stroke (L s)) := by
  have h1 : (⟨#[92]⟩ : ByteArray).size = 1 := rfl
  have hs := sz s
  unfold strings_CutSuffix.f stringslite_CutSuffix.f stringslite_HasSuffix.f
  rw [h1]
  by_cases h0 : (s.size : Int) ≥ ((1 : Nat) : Int)
  · have hw : wrap64 ((s.size : Int) - ((1 : Nat) : Int)) = ((s.size - 1 : Nat) : Int) := by rw [w64 (by omega) (by omega)]; omega
    have hpos : 1 ≤ s.size := by omega
    have h0' : (0 : Int) ≤ ((s.size - 1 : Nat) : Int) := Int.natCast_nonneg _
    have h1' : ((s.size - 1 : Nat) : Int) ≤ (s.size : Int) := by omega
    rw [if_pos h0, hw, if_pos h0', if_pos h1']
    simp only [Option.bind_some, Int.toNat_natCast]
    have hl : ((s.extract (s.size - 1) s.size).toList == (⟨#[92]⟩ : ByteArray).toList) = stroke (L s) := by
      rw [tl, tl, L_suf]
      unfold stroke
      rcases List.eq_nil_or_concat (L s) with e | ⟨l, c, e⟩
      · rw [e] at hs; simp only [List.length_nil] at hs; omega
      · rw [List.concat_eq_append] at e
        have : s.size - 1 = l.length := by rw [hs, e]; simp
        rw [this, e, L_lit]
        simp [List.drop_append]
    rw [hl]
    cases hst : stroke (L s) with
    | true =>
      rw [if_pos rfl, if_pos h0', if_pos h1']
      simp only [Option.bind_some, Int.toNat_natCast]
      congr 2
      apply L_inj
      rw [L_pre, L_mk]
      unfold strip
      rw [hst, if_pos rfl, List.dropLast_eq_take, hs]
    | false =>
      rw [if_neg (by simp)]
      simp only [Option.bind_some]
      congr 2
      apply L_inj
      rw [L_mk]
      unfold strip
      rw [hst, if_neg (by simp)]
  · rw [if_neg h0]
    have e : L s = [] := List.eq_nil_of_length_eq_zero (by omega)
    have hst : stroke (L s) = false := by rw [e]; rfl
    simp only [Option.bind_some]
    rw [if_neg (by simp)]
    simp only [Option.bind_some]
    rw [hst]
    congr 2
    apply L_inj
    rw [L_mk]
    unfold strip
    rw [hst, if_neg (by simp)]
theorem lexTrim_eq (s : ByteArray) (h : s.size ≤ 9223372036854775807) : lex_Trim.f s = some (mkB (trim (L s))) := by
  unfold lex_Trim.f strings_Trim.f
  rw [if_pos ⟨h, by decide, by decide⟩]
  rfl
theorem hasHash (s : ByteArray) (h : s.size ≤ 9223372036854775807) : strings_HasPrefix.f s (⟨#[35]⟩ : ByteArray) = some (decide ((L s).head? = some 35)) := by
  have h1 : (⟨#[35]⟩ : ByteArray).size = 1 := rfl
  have hs := sz s
  unfold strings_HasPrefix.f stringslite_HasPrefix.f
  rw [h1]
  by_cases h0 : (s.size : Int) ≥ ((1 : Nat) : Int)
  · have c2 : (0 : Int) ≤ ((1 : Nat) : Int) := by omega
    have c3 : ((1 : Nat) : Int) ≤ (s.size : Int) := h0
    rw [if_pos h0, if_pos c2, if_pos c3]
    simp only [Option.bind_some]
    congr 1
    rw [tl, tl, L_pre]
    cases e : L s with
    | nil => rw [e] at hs; simp only [List.length_nil] at hs; omega
    | cons c l =>
      show (List.take 1 (c :: l) == [35]) = _
      simp only [List.take_succ_cons, List.take_zero, List.head?_cons]
      by_cases hc : c = 35
      · subst hc; rfl
      · simp [hc]
  · rw [if_neg h0]
    have e : L s = [] := List.eq_nil_of_length_eq_zero (by omega)
    rw [e]; rfl
theorem said_eq (s : ByteArray) (h : s.size < 4294967281) : lex_said.f s = some (mkB (said (L s))) := by
  have hc := cut_len 59 (L s)
  have hs := sz s
  unfold lex_said.f
  rw [lexTrim_eq s (by omega)]
  simp only [Option.bind_some]
  rw [hasHash _ (by rw [sz, L_mk]; have := trim_len (L s); omega), L_mk]
  simp only [Option.bind_some]
  unfold said
  by_cases hh : (trim (L s)).head? = some 35
  · rw [if_pos (by simpa using hh), if_pos hh]
    rfl
  · rw [if_neg (by simpa using hh), if_neg hh]
    unfold strings_Cut.f
    rw [if_pos h]
    simp only [Option.bind_some]
    have e1 : (⟨(Lib.cut s.data.toList (⟨#[59]⟩ : ByteArray).data.toList).1.toArray⟩ : ByteArray) = mkB (cut 59 (L s)) := by
      rw [show (⟨#[59]⟩ : ByteArray).data.toList = [59] from rfl, lib_cut]
      rfl
    rw [e1, lexTrim_eq _ (by rw [sz, L_mk]; omega), L_mk]
    rfl
def e1 (x : Int × List UInt8) : S36 := ⟨x.1, mkB x.2⟩
def e2 (x : Int × List UInt8) : S44 := ⟨x.1, mkB x.2⟩
def errO (n : Int) : Option Int := if n = 0 then none else some n
def out1 (r : List (Int × List UInt8) × Int × Int) : List S36 × Int × Option Int := (r.1.map e1, r.2.1, errO r.2.2)
def out2 (r : List (Int × List UInt8) × Int × Int) : List S44 × Int × Int := (r.1.map e2, r.2.1, r.2.2)
theorem rdOf_L (all : List ByteArray) (ps : List (List UInt8)) (h : all.map L = ps) (i : Nat) (hi : i < ps.length) : rdOf ByteArray.empty all (i : Int) = mkB ps[i] := by
  subst h
  have hi' : i < all.length := by simpa using hi
  unfold rdOf
  simp only [Int.toNat_natCast, List.getElem_map]
  rw [List.getD_eq_getElem?_getD, List.getElem?_eq_getElem hi']
  exact (mk_L _).symm

/-! ### the program's lines -/
set_option maxHeartbeats 4000000 in
theorem lines_from (all : List ByteArray) (P : List (List UInt8)) (hP : all.map L = P) (hlen : P.length ≤ 100000) :
    ∀ (d : Nat) (i : Nat) (out : List (Int × List UInt8)), P.length - i = d → i ≤ P.length → tot (P.drop i) ≤ 100000 → out.length ≤ i →
      (Ev (fun k => lex_Lines.l0 k (out.map e1) all (i : Int)) (out1 (go (P.drop i) [] ((i : Int) + 1) ((i : Int) + 1) out))) ∧
      (∀ (acc : List UInt8) (first : Int), i < P.length → acc.length + tot (P.drop i) ≤ 100000 →
        Ev (fun k => lex_Lines.l1 k (out.map e1) all (i : Int) first (mkB (acc ++ strip (P.getD i []))) (stroke (P.getD i []))) (out1 (go (P.drop i) acc first ((i : Int) + 1) out))) := by
  have hl : all.length = P.length := by rw [← hP]; simp
  intro d
  induction d with
  | zero =>
    intro i out hd hi ht ho
    have hi' : i = P.length := by omega
    refine ⟨?_, fun acc first h => by omega⟩
    refine Ev.step (fun k => by simp only [lex_Lines.l0]; rfl) ?_
    refine evNeg (by omega) ?_
    rw [hi', List.drop_length]
    exact Ev.now _
  | succ d ih =>
    intro i out hd hi ht ho
    have hlt : i < P.length := by omega
    have hdrop : P.drop i = P[i] :: P.drop (i + 1) := List.drop_eq_getElem_cons hlt
    have hget : P.getD i [] = P[i] := by rw [List.getD_eq_getElem?_getD, List.getElem?_eq_getElem hlt]; rfl
    have w1 : wrap64 ((i : Int) + 1) = ((i + 1 : Nat) : Int) := by rw [w64 (by omega) (by omega)]; omega
    have htot : tot (P.drop i) = P[i].length + tot (P.drop (i + 1)) := by rw [hdrop]; rfl
    -- what is done with a whole line
    have fin : ∀ (acc : List UInt8) (first : Int), acc.length + tot (P.drop i) ≤ 100000 → ¬ (stroke P[i] = true ∧ P.drop (i + 1) ≠ []) →
        Ev (fun k => lex_Lines.j2 k (out.map e1) all (i : Int) first (mkB (acc ++ strip P[i]))) (out1 (go (P.drop i) acc first ((i : Int) + 1) out)) := by
      intro acc first hacc hn
      have hst : (strip P[i]).length ≤ P[i].length := by unfold strip; split <;> simp
      have hsz : (acc ++ strip P[i]).length ≤ 100000 := by rw [List.length_append]; omega
      refine Ev.step (fun k => by simp only [lex_Lines.j2]; rfl) ?_
      refine evBnd (said_eq _ (by rw [sz, L_mk]; omega)) ?_
      rw [L_mk, hdrop, go, if_neg hn, tl, L_mk]
      by_cases hs : said (acc ++ strip P[i]) = []
      · refine evPos hs ?_
        rw [if_pos hs, w1]
        have := (ih (i + 1) out (by omega) (by omega) (by omega) (by omega)).1
        push_cast at this ⊢
        exact this
      · refine evNeg hs ?_
        rw [if_neg hs]
        by_cases h4 : (said (acc ++ strip P[i])).length > 4096
        · refine evPos (by rw [sz, L_mk]; omega) ?_
          rw [if_pos h4]
          exact Ev.now _
        · refine evNeg (by rw [sz, L_mk]; omega) ?_
          rw [if_neg h4]
          refine evPos (by rw [List.length_map]; omega) ?_
          rw [w1]
          have := (ih (i + 1) (out ++ [(first, said (acc ++ strip P[i]))]) (by omega) (by omega) (by omega) (by simp; omega)).1
          rw [List.map_append] at this
          push_cast at this ⊢
          exact this
    have second : ∀ (acc : List UInt8) (first : Int), i < P.length → acc.length + tot (P.drop i) ≤ 100000 →
        Ev (fun k => lex_Lines.l1 k (out.map e1) all (i : Int) first (mkB (acc ++ strip (P.getD i []))) (stroke (P.getD i []))) (out1 (go (P.drop i) acc first ((i : Int) + 1) out)) := by
      intro acc first _ hacc
      rw [hget]
      refine Ev.step (fun k => by simp only [lex_Lines.l1]; rfl) ?_
      by_cases hs : stroke P[i] = true
      · refine evPos hs ?_
        rw [w1]
        by_cases hm : i + 1 < P.length
        · refine evPos (by omega) ?_
          refine evPos (by omega) ?_
          rw [rdOf_L all P hP (i + 1) hm]
          have hdrop2 : P.drop (i + 1) = P[i + 1] :: P.drop (i + 1 + 1) := List.drop_eq_getElem_cons hm
          have htot2 : tot (P.drop (i + 1)) = P[i + 1].length + tot (P.drop (i + 1 + 1)) := by rw [hdrop2]; rfl
          refine evBnd (cutSuffix_eq _ (by rw [sz, L_mk]; omega)) ?_
          rw [L_mk]
          have hst : (strip P[i]).length ≤ P[i].length := by unfold strip; split <;> simp
          have hst2 : (strip P[i + 1]).length ≤ P[i + 1].length := by unfold strip; split <;> simp
          refine evPos (by rw [sz, sz, L_mk, L_mk, List.length_append]; omega) ?_
          have e : mkB (acc ++ strip P[i]) ++ mkB (strip P[i + 1]) = mkB ((acc ++ strip P[i]) ++ strip P[i + 1]) := by
            apply L_inj; rw [L_app, L_mk, L_mk, L_mk]
          rw [e, hdrop, go, if_pos ⟨hs, (by rw [hdrop2]; exact List.cons_ne_nil _ _)⟩]
          have hsd : strip P[i] = P[i].dropLast := by unfold strip; rw [if_pos hs]
          rw [hsd] at hst ⊢
          have hget2 : P.getD (i + 1) [] = P[i + 1] := by rw [List.getD_eq_getElem?_getD, List.getElem?_eq_getElem hm]; rfl
          have := (ih (i + 1) out (by omega) (by omega) (by omega) (by omega)).2 (acc ++ P[i].dropLast) first hm (by rw [List.length_append]; omega)
          rw [hget2] at this
          push_cast at this ⊢
          exact this
        · refine evNeg (by omega) ?_
          exact fin acc first hacc (fun h => h.2 (List.drop_eq_nil_of_le (by omega)))
      · refine evNeg hs ?_
        exact fin acc first hacc (fun h => hs h.1)
    refine ⟨?_, second⟩
    refine Ev.step (fun k => by simp only [lex_Lines.l0]; rfl) ?_
    refine evPos (by omega) ?_
    refine evPos (by omega) ?_
    rw [rdOf_L all P hP i hlt]
    refine evBnd (cutSuffix_eq _ (by rw [sz, L_mk]; omega)) ?_
    rw [L_mk, w1]
    have := second [] ((i : Int) + 1) hlt (by simpa using ht)
    rw [hget, List.nil_append] at this
    push_cast at this ⊢
    exact this
theorem lexLines_eq (s : ByteArray) : Ev (fun k => lex_Lines.f k s) (out1 (linesOf (L s))) := by
  have hs := sz s
  unfold lex_Lines.f linesOf
  by_cases h : (L s).length > 65536
  · rw [if_pos h]
    exact evPos (by omega) (Ev.now _)
  · rw [if_neg h]
    refine evNeg (by omega) ?_
    unfold strings_Split.f
    refine evBnd (if_pos ⟨by omega, by decide⟩) ?_
    have hp := pieces_len (L s)
    have ht := tot_le (L s)
    have := (lines_from _ (pieces (L s)) (split_pieces s) (by omega) _ 0 [] rfl (by omega) (by simpa using (by omega : tot (pieces (L s)) ≤ 100000)) (by simp)).1
    simpa using this

/-! ### the document's -/
theorem blank_eq (c : UInt8) : belvedereref08_blank.f (c.toNat : Int) = some (isSp c) := by
  unfold belvedereref08_blank.f isSp sp
  by_cases h1 : c = 32
  · subst h1; rfl
  by_cases h2 : c = 9
  · subst h2; rfl
  have n1 : ¬ ((c.toNat : Int) = 32) := fun e => h1 ((u8_eq c 32 (by omega)).1 (by omega))
  have n2 : ¬ ((c.toNat : Int) = 9) := fun e => h2 ((u8_eq c 9 (by omega)).1 (by omega))
  rw [if_neg n1, if_neg n2]
  by_cases h3 : c = 13
  · subst h3; rfl
  · have n3 : ((c.toNat : Int) == 13) = false := beq_eq_false_iff_ne.2 fun e => h3 ((u8_eq c 13 (by omega)).1 (by omega))
    rw [n3]
    simp [h1, h2, h3]
theorem refTrim_right (n : Nat) : ∀ l : List UInt8, l.length = n → n ≤ 9223372036854775807 → Ev (fun k => belvedereref08_Trim.l1 k (mkB l)) (mkB (dropR isSp l)) := by
  induction n with
  | zero =>
    intro l hl _
    obtain rfl := List.eq_nil_of_length_eq_zero hl
    refine Ev.step (fun k => by simp only [belvedereref08_Trim.l1]; rfl) ?_
    exact evNeg (by rw [sz, L_mk]; simp) (Ev.now _)
  | succ n ih =>
    intro l hl hb
    rcases List.eq_nil_or_concat l with rfl | ⟨l', c, rfl⟩
    · simp at hl
    rw [List.concat_eq_append] at *
    have hl' : l'.length = n := by simpa using hl
    have hsz : ((mkB (l' ++ [c])).size : Int) = (n : Int) + 1 := by rw [sz, L_mk, hl]; omega
    have hw : wrap64 (((mkB (l' ++ [c])).size : Int) - 1) = (n : Int) := by rw [hsz, w64 (by omega) (by omega)]; omega
    refine Ev.step (fun k => by simp only [belvedereref08_Trim.l1]; rfl) ?_
    rw [hw, hsz]
    refine evPos (by omega) ?_
    refine evPos (by omega) ?_
    refine evPos (by omega) ?_
    have hbt : bt (mkB (l' ++ [c])) (n : Int) = (c.toNat : Int) := by
      rw [bt_L _ n (by rw [L_mk]; omega)]
      simp only [L_mk]
      rw [List.getElem_append_right (by omega)]
      simp [hl']
    rw [hbt]
    refine evBnd (blank_eq c) ?_
    rw [dropR_last]
    by_cases hc : isSp c = true
    · rw [if_pos hc]
      refine evPos hc ?_
      refine evPos (by omega) ?_
      have e : (mkB (l' ++ [c])).extract 0 ((n : Int)).toNat = mkB l' := by
        apply L_inj; rw [L_pre, L_mk, L_mk]; simp [← hl']
      rw [e]
      exact ih l' hl' (by omega)
    · rw [if_neg hc]
      exact evNeg hc (Ev.now _)
theorem refTrim_left : ∀ l : List UInt8, l.length ≤ 9223372036854775807 → Ev (fun k => belvedereref08_Trim.l0 k (mkB l)) (mkB (dropR isSp (l.dropWhile isSp))) := by
  intro l
  induction l with
  | nil =>
    intro hb
    refine Ev.step (fun k => by simp only [belvedereref08_Trim.l0]; rfl) ?_
    refine evNeg (by rw [sz, L_mk]; simp) ?_
    refine Ev.step (fun k => by simp only [belvedereref08_Trim.j1]; rfl) ?_
    exact refTrim_right _ _ rfl hb
  | cons c l ih =>
    intro hb
    have hsz : ((mkB (c :: l)).size : Int) = (l.length : Int) + 1 := by rw [sz, L_mk]; simp
    refine Ev.step (fun k => by simp only [belvedereref08_Trim.l0]; rfl) ?_
    rw [hsz]
    refine evPos (by omega) ?_
    refine evPos (by omega) ?_
    have hbt : bt (mkB (c :: l)) 0 = (c.toNat : Int) := bt_head c l
    rw [hbt]
    refine evBnd (blank_eq c) ?_
    by_cases hc : isSp c = true
    · refine evPos hc ?_
      refine evPos (by omega) ?_
      rw [List.dropWhile_cons_of_pos hc]
      have e : (mkB (c :: l)).extract 1 (mkB (c :: l)).size = mkB l := by
        apply L_inj; rw [L_suf, L_mk, L_mk]; rfl
      rw [e]
      exact ih (by simp at hb; omega)
    · refine evNeg hc ?_
      rw [List.dropWhile_cons_of_neg hc]
      refine Ev.step (fun k => by simp only [belvedereref08_Trim.j1]; rfl) ?_
      exact refTrim_right _ _ rfl hb
theorem refTrim_eq (s : ByteArray) (h : s.size ≤ 9223372036854775807) : Ev (fun k => belvedereref08_Trim.f k s) (mkB (trim (L s))) := by
  unfold belvedereref08_Trim.f trim
  rw [dropR_comm]
  have := refTrim_left (L s) (by rw [← sz]; exact h)
  rwa [mk_L] at this
theorem ends_eq (s : ByteArray) (h : s.size ≤ 9223372036854775807) : belvedereref08_ends.f s = some (stroke (L s)) := by
  have hs := sz s
  unfold belvedereref08_ends.f
  rcases List.eq_nil_or_concat (L s) with e | ⟨l, c, e⟩
  · rw [e] at hs ⊢
    simp only [List.length_nil] at hs
    rw [if_neg (by omega)]
    rfl
  · rw [List.concat_eq_append] at e
    rw [e] at hs ⊢
    have hs' : s.size = l.length + 1 := by simpa using hs
    have hw : wrap64 ((s.size : Int) - 1) = (l.length : Int) := by rw [w64 (by omega) (by omega)]; omega
    have c1 : (s.size : Int) > 0 := by omega
    have c2 : (0 : Int) ≤ (l.length : Int) := by omega
    have c3 : (l.length : Int) < (s.size : Int) := by omega
    rw [hw, if_pos c1, if_pos c2, if_pos c3]
    rw [bt_L s l.length (by rw [e]; simp)]
    have : (L s)[l.length]'(by rw [e]; simp) = c := by simp [e]
    rw [this]
    unfold stroke
    simp only [List.getLast?_append, List.getLast?_singleton, Option.some_or]
    by_cases hc : c = 92
    · subst hc; rfl
    · have n : ((c.toNat : Int) == 92) = false := beq_eq_false_iff_ne.2 fun e => hc ((u8_eq c 92 (by omega)).1 (by omega))
      rw [n]
      simp [hc]

def fin (t : List UInt8) : List UInt8 := if t.head? = some 35 then [] else t
section
variable {x0 : ByteArray} {x5 : List S44} {x7 x8 x9 : Int} {r : List S44 × Int × Int}
theorem ref_end (t : List UInt8) (i : Nat) (hi : t.length ≤ i)
    (hK : Ev (fun k => belvedereref08_Lines.j5 k x0 x5 x7 x8 x9 (mkB (fin t))) r) : Ev (fun k => belvedereref08_Lines.l1 k x0 x5 x7 x8 x9 (mkB t) (i : Int)) r := by
  refine Ev.step (fun k => by simp only [belvedereref08_Lines.l1]; rfl) ?_
  refine evNeg (by rw [sz, L_mk]; omega) ?_
  cases t with
  | nil =>
    refine evPos (by rw [tl, L_mk]) ?_
    refine Ev.step (fun k => by simp only [belvedereref08_Lines.j4]; rfl) ?_
    exact evNeg (by simp) hK
  | cons c t =>
    refine evNeg (by rw [tl, L_mk]; simp) ?_
    refine evPos (by rw [sz, L_mk]; simp <;> omega) ?_
    refine Ev.step (fun k => by simp only [belvedereref08_Lines.j4]; rfl) ?_
    have hbt : bt (mkB (c :: t)) 0 = (c.toNat : Int) := bt_head c t
    rw [hbt]
    unfold fin at hK
    by_cases hc : c = 35
    · subst hc
      rw [if_pos (show (35 :: t).head? = some 35 from rfl)] at hK
      exact evPos (by decide) hK
    · rw [if_neg (by simpa using hc)] at hK
      refine evNeg ?_ hK
      simp only [beq_iff_eq]
      exact fun e => hc ((u8_eq c 35 (by omega)).1 (by omega))
theorem ref_loop (t : List UInt8) (ht : clean t) (hb : t.length ≤ 4294967296)
    (hK : Ev (fun k => belvedereref08_Lines.j5 k x0 x5 x7 x8 x9 (mkB (fin (trim (cut 59 t))))) r) :
    ∀ (d i : Nat), t.length - i = d → i ≤ t.length → (59 : UInt8) ∉ t.take i → Ev (fun k => belvedereref08_Lines.l1 k x0 x5 x7 x8 x9 (mkB t) (i : Int)) r := by
  intro d
  induction d with
  | zero =>
    intro i hd hi h59
    have hi' : i = t.length := by omega
    rw [hi', List.take_length] at h59
    rw [cut_none h59, trim_clean ht] at hK
    exact ref_end t i (by omega) hK
  | succ d ih =>
    intro i hd hi h59
    have hlt : i < t.length := by omega
    have hsz : ((mkB t).size : Int) = (t.length : Int) := by rw [sz, L_mk]
    have hbt : bt (mkB t) (i : Int) = (t[i].toNat : Int) := by
      rw [bt_L _ i (by rw [L_mk]; exact hlt)]; simp [L_mk]
    have htk : t.take (i + 1) = t.take i ++ [t[i]] := List.take_succ_eq_append_getElem hlt
    have w1 : wrap64 ((i : Int) + 1) = ((i + 1 : Nat) : Int) := by rw [w64 (by omega) (by omega)]; omega
    refine Ev.step (fun k => by simp only [belvedereref08_Lines.l1]; rfl) ?_
    rw [hsz, hbt, w1]
    refine evPos (by omega) ?_
    refine evPos (by omega) ?_
    by_cases hc : t[i] = 59
    · refine evPos (by rw [hc]; rfl) ?_
      refine evPos (by omega) ?_
      have e : (mkB t).extract 0 ((i : Int)).toNat = mkB (t.take i) := by
        apply L_inj; rw [L_pre, L_mk, L_mk]; simp
      rw [e]
      have hcut : cut 59 t = t.take i := by
        have : t = t.take i ++ 59 :: t.drop (i + 1) := by
          conv => lhs; rw [← List.take_append_drop i t, List.drop_eq_getElem_cons hlt, hc]
        conv => lhs; rw [this]
        exact cut_at h59 _
      have htr := trim_len (t.take i)
      refine Ev.bind (refTrim_eq _ (by rw [sz, L_mk, List.length_take]; omega)) ?_
      rw [L_mk]
      rw [hcut] at hK
      refine ref_end _ (i + 1) ?_ ?_
      · rw [List.length_take] at htr; omega
      · exact hK
    · refine evNeg (fun e => hc ((u8_eq _ 59 (by omega)).1 (by omega))) ?_
      refine ih (i + 1) (by omega) (by omega) ?_
      rw [htk]
      intro h
      rcases List.mem_append.1 h with h | h
      · exact h59 h
      · exact hc (List.mem_singleton.1 h).symm
end
section
variable (s : ByteArray) (hb : (L s).length ≤ 100000)
include hb
theorem ref_read {r : List S44 × Int × Int} (x5 : List S44) (first num : Int) : ∀ (q pre text tail : List UInt8), L s = pre ++ (q ++ 10 :: tail) → (10 : UInt8) ∉ q → text.length ≤ pre.length →
    Ev (fun k => belvedereref08_Lines.l0 k s x5 (mkB (text ++ q)) first num ((pre.length + q.length : Nat) : Int)) r →
    Ev (fun k => belvedereref08_Lines.l0 k s x5 (mkB text) first num (pre.length : Int)) r := by
  intro q
  induction q with
  | nil => intro pre text tail _ _ _ h; simpa using h
  | cons c q ih =>
    intro pre text tail hL h10 htx h
    have hlen : pre.length < (L s).length := by rw [hL]; simp
    have hc : (L s)[pre.length] = c := by simp [hL]
    have hsz := sz s
    have w1 : wrap64 ((pre.length : Int) + 1) = ((pre.length + 1 : Nat) : Int) := by rw [w64 (by omega) (by omega)]; omega
    refine Ev.step (fun k => by simp only [belvedereref08_Lines.l0]; rfl) ?_
    refine evPos (by omega) ?_
    refine evPos (by omega) ?_
    rw [bt_L s pre.length hlen, hc, w1]
    refine evNeg (fun e => h10 (by rw [(u8_eq c 10 (by omega)).1 (by omega)]; simp)) ?_
    refine evPos (by omega) ?_
    refine evPos (by omega) ?_
    have hx : s.extract ((pre.length : Int)).toNat (((pre.length + 1 : Nat) : Int)).toNat = mkB [c] := by
      apply L_inj
      rw [L_ext, L_mk, hL]
      simp
    rw [hx]
    refine evPos (by rw [sz, sz, L_mk, L_mk]; simp; omega) ?_
    have hx2 : mkB text ++ mkB [c] = mkB (text ++ [c]) := by apply L_inj; rw [L_app, L_mk, L_mk, L_mk]
    rw [hx2]
    have := ih (pre ++ [c]) (text ++ [c]) tail (by rw [hL]; simp) (fun e => h10 (by simp [e])) (by simp; omega)
      (by simpa [Nat.add_assoc, Nat.add_comm 1] using h)
    simpa using this
end
end Go.Proofs.YtmpnmjomcbomnaaDoor.T
