/- Plain law of layer 8: what lex.Lines and the document's Lines come to, over lists. 62, 67: the two Line types. -/
import Derived.Test.YtefjppdchgdjlaaDoorLexS
import Derived.Test.YtefjppdchgdjlaaDoorQr
namespace Go.Proofs.YtefjppdchgdjlaaDoor.T
open Go.RowKit Go.Proofs.YtefjppdchgdjlaaDoorW.PrintWords Go.Proofs.YtefjppdchgdjlaaDoorW.PrintLast Go.Proofs.YtefjppdchgdjlaaDoor.P

/-! ### the document's -/
theorem blank_eq (c : UInt8) : belvedereref08_blank.f (c.toNat : Int) = some (isSp c) := by
  unfold belvedereref08_blank.f isSp sp
  by_cases h1 : c = 32
  · subst h1; rfl
  by_cases h2 : c = 9
  · subst h2; rfl
  have n1 : ¬ ((c.toNat : Int) = 32) := fun e => h1 ((u8_eq c 32 (by omega)).1 (by omega))
  have n2 : ¬ ((c.toNat : Int) = 9) := fun e => h2 ((u8_eq c 9 (by omega)).1 (by omega))
  rw [if_neg n1, if_neg n2]
  by_cases h3 : c = 13
  · subst h3; rfl
  · have n3 : ((c.toNat : Int) == 13) = false := beq_eq_false_iff_ne.2 fun e => h3 ((u8_eq c 13 (by omega)).1 (by omega))
    rw [n3]
    simp [h1, h2, h3]
theorem refTrim_right (n : Nat) : ∀ l : List UInt8, l.length = n → n ≤ 9223372036854775807 → Ev (fun k => belvedereref08_Trim.l1 k (mkB l)) (mkB (dropR isSp l)) := by
  induction n with
  | zero =>
    intro l hl _
    obtain rfl := List.eq_nil_of_length_eq_zero hl
    refine Ev.step (fun k => by simp only [belvedereref08_Trim.l1]; rfl) ?_
    exact evNeg (by rw [sz, L_mk]; simp) (Ev.now _)
  | succ n ih =>
    intro l hl hb
    rcases List.eq_nil_or_concat l with rfl | ⟨l', c, rfl⟩
    · simp at hl
    rw [List.concat_eq_append] at *
    have hl' : l'.length = n := by simpa using hl
    have hsz : ((mkB (l' ++ [c])).size : Int) = (n : Int) + 1 := by rw [sz, L_mk, hl]; omega
    have hw : wrap64 (((mkB (l' ++ [c])).size : Int) - 1) = (n : Int) := by rw [hsz, w64 (by omega) (by omega)]; omega
    refine Ev.step (fun k => by simp only [belvedereref08_Trim.l1]; rfl) ?_
    rw [hw, hsz]
    refine evPos (by omega) ?_
    refine evPos (by omega) ?_
    refine evPos (by omega) ?_
    have hbt : bt (mkB (l' ++ [c])) (n : Int) = (c.toNat : Int) := by
      rw [bt_L _ n (by rw [L_mk]; omega)]
      simp only [L_mk]
      rw [List.getElem_append_right (by omega)]
      simp [hl']
    rw [hbt]
    refine evBnd (blank_eq c) ?_
    rw [dropR_last]
    by_cases hc : isSp c = true
    · rw [if_pos hc]
      refine evPos hc ?_
      refine evPos (by omega) ?_
      have e : (mkB (l' ++ [c])).extract 0 ((n : Int)).toNat = mkB l' := by
        apply L_inj; rw [L_pre, L_mk, L_mk]; simp [← hl']
      rw [e]
      exact ih l' hl' (by omega)
    · rw [if_neg hc]
      exact evNeg hc (Ev.now _)
theorem refTrim_left : ∀ l : List UInt8, l.length ≤ 9223372036854775807 → Ev (fun k => belvedereref08_Trim.l0 k (mkB l)) (mkB (dropR isSp (l.dropWhile isSp))) := by
  intro l
  induction l with
  | nil =>
    intro hb
    refine Ev.step (fun k => by simp only [belvedereref08_Trim.l0]; rfl) ?_
    refine evNeg (by rw [sz, L_mk]; simp) ?_
    refine Ev.step (fun k => by simp only [belvedereref08_Trim.j1]; rfl) ?_
    exact refTrim_right _ _ rfl hb
  | cons c l ih =>
    intro hb
    have hsz : ((mkB (c :: l)).size : Int) = (l.length : Int) + 1 := by rw [sz, L_mk]; simp
    refine Ev.step (fun k => by simp only [belvedereref08_Trim.l0]; rfl) ?_
    rw [hsz]
    refine evPos (by omega) ?_
    refine evPos (by omega) ?_
    have hbt : bt (mkB (c :: l)) 0 = (c.toNat : Int) := bt_head c l
    rw [hbt]
    refine evBnd (blank_eq c) ?_
    by_cases hc : isSp c = true
    · refine evPos hc ?_
      refine evPos (by omega) ?_
      rw [List.dropWhile_cons_of_pos hc]
      have e : (mkB (c :: l)).extract 1 (mkB (c :: l)).size = mkB l := by
        apply L_inj; rw [L_suf, L_mk, L_mk]; rfl
      rw [e]
      exact ih (by simp at hb; omega)
    · refine evNeg hc ?_
      rw [List.dropWhile_cons_of_neg hc]
      refine Ev.step (fun k => by simp only [belvedereref08_Trim.j1]; rfl) ?_
      exact refTrim_right _ _ rfl hb
theorem refTrim_eq (s : ByteArray) (h : s.size ≤ 9223372036854775807) : Ev (fun k => belvedereref08_Trim.f k s) (mkB (trim (L s))) := by
  unfold belvedereref08_Trim.f trim
  rw [dropR_comm]
  have := refTrim_left (L s) (by rw [← sz]; exact h)
  rwa [mk_L] at this
theorem ends_eq (s : ByteArray) (h : s.size ≤ 9223372036854775807) : belvedereref08_ends.f s = some (stroke (L s)) := by
  have hs := sz s
  unfold belvedereref08_ends.f
  rcases List.eq_nil_or_concat (L s) with e | ⟨l, c, e⟩
  · rw [e] at hs ⊢
    simp only [List.length_nil] at hs
    rw [if_neg (by omega)]
    rfl
  · rw [List.concat_eq_append] at e
    rw [e] at hs ⊢
    have hs' : s.size = l.length + 1 := by simpa using hs
    have hw : wrap64 ((s.size : Int) - 1) = (l.length : Int) := by rw [w64 (by omega) (by omega)]; omega
    have c1 : (s.size : Int) > 0 := by omega
    have c2 : (0 : Int) ≤ (l.length : Int) := by omega
    have c3 : (l.length : Int) < (s.size : Int) := by omega
    rw [hw, if_pos c1, if_pos c2, if_pos c3]
    rw [bt_L s l.length (by rw [e]; simp)]
    have : (L s)[l.length]'(by rw [e]; simp) = c := by simp [e]
    rw [this]
    unfold stroke
    simp only [List.getLast?_append, List.getLast?_singleton, Option.some_or]
    by_cases hc : c = 92
    · subst hc; rfl
    · have n : ((c.toNat : Int) == 92) = false := beq_eq_false_iff_ne.2 fun e => hc ((u8_eq c 92 (by omega)).1 (by omega))
      rw [n]
      simp [hc]

def fin (t : List UInt8) : List UInt8 := if t.head? = some 35 then [] else t
section
variable {x0 : ByteArray} {x5 : List S67} {x7 x8 x9 : Int} {r : List S67 × Int × Int}
theorem ref_end (t : List UInt8) (i : Nat) (hi : t.length ≤ i)
    (hK : Ev (fun k => belvedereref08_Lines.j5 k x0 x5 x7 x8 x9 (mkB (fin t))) r) : Ev (fun k => belvedereref08_Lines.l1 k x0 x5 x7 x8 x9 (mkB t) (i : Int)) r := by
  refine Ev.step (fun k => by simp only [belvedereref08_Lines.l1]; rfl) ?_
  refine evNeg (by rw [sz, L_mk]; omega) ?_
  cases t with
  | nil =>
    refine evPos (by rw [tl, L_mk]) ?_
    refine Ev.step (fun k => by simp only [belvedereref08_Lines.j4]; rfl) ?_
    exact evNeg (by simp) hK
  | cons c t =>
    refine evNeg (by rw [tl, L_mk]; simp) ?_
    refine evPos (by rw [sz, L_mk]; simp <;> omega) ?_
    refine Ev.step (fun k => by simp only [belvedereref08_Lines.j4]; rfl) ?_
    have hbt : bt (mkB (c :: t)) 0 = (c.toNat : Int) := bt_head c t
    rw [hbt]
    unfold fin at hK
    by_cases hc : c = 35
    · subst hc
      rw [if_pos (show (35 :: t).head? = some 35 from rfl)] at hK
      exact evPos (by decide) hK
    · rw [if_neg (by simpa using hc)] at hK
      refine evNeg ?_ hK
      simp only [beq_iff_eq]
      exact fun e => hc ((u8_eq c 35 (by omega)).1 (by omega))
theorem ref_loop (t : List UInt8) (ht : clean t) (hb : t.length ≤ 4294967296)
    (hK : Ev (fun k => belvedereref08_Lines.j5 k x0 x5 x7 x8 x9 (mkB (fin (trim (cut 59 t))))) r) :
    ∀ (d i : Nat), t.length - i = d → i ≤ t.length → (59 : UInt8) ∉ t.take i → Ev (fun k => belvedereref08_Lines.l1 k x0 x5 x7 x8 x9 (mkB t) (i : Int)) r := by
  intro d
  induction d with
  | zero =>
    intro i hd hi h59
    have hi' : i = t.length := by omega
    rw [hi', List.take_length] at h59
    rw [cut_none h59, trim_clean ht] at hK
    exact ref_end t i (by omega) hK
  | succ d ih =>
    intro i hd hi h59
    have hlt : i < t.length := by omega
    have hsz : ((mkB t).size : Int) = (t.length : Int) := by rw [sz, L_mk]
    have hbt : bt (mkB t) (i : Int) = (t[i].toNat : Int) := by
      rw [bt_L _ i (by rw [L_mk]; exact hlt)]; simp [L_mk]
    have htk : t.take (i + 1) = t.take i ++ [t[i]] := List.take_succ_eq_append_getElem hlt
    have w1 : wrap64 ((i : Int) + 1) = ((i + 1 : Nat) : Int) := by rw [w64 (by omega) (by omega)]; omega
    refine Ev.step (fun k => by simp only [belvedereref08_Lines.l1]; rfl) ?_
    rw [hsz, hbt, w1]
    refine evPos (by omega) ?_
    refine evPos (by omega) ?_
    by_cases hc : t[i] = 59
    · refine evPos (by rw [hc]; rfl) ?_
      refine evPos (by omega) ?_
      have e : (mkB t).extract 0 ((i : Int)).toNat = mkB (t.take i) := by
        apply L_inj; rw [L_pre, L_mk, L_mk]; simp
      rw [e]
      have hcut : cut 59 t = t.take i := by
        have : t = t.take i ++ 59 :: t.drop (i + 1) := by
          conv => lhs; rw [← List.take_append_drop i t, List.drop_eq_getElem_cons hlt, hc]
        conv => lhs; rw [this]
        exact cut_at h59 _
      have htr := trim_len (t.take i)
      refine Ev.bind (refTrim_eq _ (by rw [sz, L_mk, List.length_take]; omega)) ?_
      rw [L_mk]
      rw [hcut] at hK
      refine ref_end _ (i + 1) ?_ ?_
      · rw [List.length_take] at htr; omega
      · exact hK
    · refine evNeg (fun e => hc ((u8_eq _ 59 (by omega)).1 (by omega))) ?_
      refine ih (i + 1) (by omega) (by omega) ?_
      rw [htk]
      intro h
      rcases List.mem_append.1 h with h | h
      · exact h59 h
      · exact hc (List.mem_singleton.1 h).symm
end
section
variable (s : ByteArray) (hb : (L s).length ≤ 100000)
include hb
theorem ref_read {r : List S67 × Int × Int} (x5 : List S67) (first num : Int) : ∀ (q pre text tail : List UInt8), L s = pre ++ (q ++ 10 :: tail) → (10 : UInt8) ∉ q → text.length ≤ pre.length →
    Ev (fun k => belvedereref08_Lines.l0 k s x5 (mkB (text ++ q)) first num ((pre.length + q.length : Nat) : Int)) r →
    Ev (fun k => belvedereref08_Lines.l0 k s x5 (mkB text) first num (pre.length : Int)) r := by
  intro q
  induction q with
  | nil => intro pre text tail _ _ _ h; simpa using h
  | cons c q ih =>
    intro pre text tail hL h10 htx h
    have hlen : pre.length < (L s).length := by rw [hL]; simp
    have hc : (L s)[pre.length] = c := by simp [hL]
    have hsz := sz s
    have w1 : wrap64 ((pre.length : Int) + 1) = ((pre.length + 1 : Nat) : Int) := by rw [w64 (by omega) (by omega)]; omega
    refine Ev.step (fun k => by simp only [belvedereref08_Lines.l0]; rfl) ?_
    refine evPos (by omega) ?_
    refine evPos (by omega) ?_
    rw [bt_L s pre.length hlen, hc, w1]
    refine evNeg (fun e => h10 (by rw [(u8_eq c 10 (by omega)).1 (by omega)]; simp)) ?_
    refine evPos (by omega) ?_
    refine evPos (by omega) ?_
    have hx : s.extract ((pre.length : Int)).toNat (((pre.length + 1 : Nat) : Int)).toNat = mkB [c] := by
      apply L_inj
      rw [L_ext, L_mk, hL]
      simp
    rw [hx]
    refine evPos (by rw [sz, sz, L_mk, L_mk]; simp; omega) ?_
    have hx2 : mkB text ++ mkB [c] = mkB (text ++ [c]) := by apply L_inj; rw [L_app, L_mk, L_mk, L_mk]
    rw [hx2]
    have := ih (pre ++ [c]) (text ++ [c]) tail (by rw [hL]; simp) (fun e => h10 (by simp [e])) (by simp; omega)
      (by simpa [Nat.add_assoc, Nat.add_comm 1] using h)
    simpa using this
end
end Go.Proofs.YtefjppdchgdjlaaDoor.T
