/- Plain law of layer 9, the document's part. 40, 42, 46, 52: the block's and the field's struct types. -/
import Derived.Test.YtefjppdchgdjlaaDoorLexR
import Derived.Test.YtefjppdchgdjlaaDoorBlkP
import Derived.Test.YtefjppdchgdjlaaDoorPlugR
namespace Go.Proofs.YtefjppdchgdjlaaDoor.T
open Go.RowKit Go.Proofs.YtefjppdchgdjlaaDoorW.PrintWords Go.Proofs.YtefjppdchgdjlaaDoorW.PrintLast Go.Proofs.YtefjppdchgdjlaaDoor.P

def wordC : ByteArray := ⟨#[97, 98, 99, 100, 101, 102, 103, 104, 105, 106, 107, 108, 109, 110, 111, 112, 113, 114, 115, 116, 117, 118, 119, 120, 121, 122, 48, 49, 50, 51, 52, 53, 54, 55, 56, 57, 95]⟩
theorem wordC_fin : ∀ n : Fin 256, (L wordC).contains (UInt8.ofNat n.val) = isW (UInt8.ofNat n.val) := by decide +kernel
theorem wordC_eq (c : UInt8) : (L wordC).contains c = isW c := by
  have := wordC_fin ⟨c.toNat, c.toNat_lt⟩
  simpa using this
section
variable {s cs : ByteArray} {r : Bool}
theorem among_l1 (hcs : (L cs).length ≤ 1000) (hs : (L s).length ≤ 4294967296) (i : Nat) (hi : i < (L s).length) : ∀ (d j : Nat) (ok : Bool), (L cs).length - j = d → j ≤ (L cs).length →
    ((ok = true ∨ ((L cs).drop j).contains (L s)[i] = true) → Ev (fun k => belvedereref09_among.l0 k s cs ((i + 1 : Nat) : Int)) r) → ((ok = false ∧ ((L cs).drop j).contains (L s)[i] = false) → r = false) →
    Ev (fun k => belvedereref09_among.l1 k s cs (i : Int) ok (j : Int)) r := by
  have wi : wrap64 ((i : Int) + 1) = ((i + 1 : Nat) : Int) := by rw [w64 (by omega) (by omega)]; omega
  intro d
  induction d with
  | zero =>
    intro j ok hd hj hT hF
    have hj' : j = (L cs).length := by omega
    refine Ev.step (fun k => by simp only [belvedereref09_among.l1]; rfl) ?_
    refine evNeg (by rw [sz]; omega) ?_
    rw [hj', List.drop_length] at hT hF
    cases ok with
    | true => rw [wi]; exact evPos rfl (hT (.inl rfl))
    | false => rw [hF ⟨rfl, rfl⟩]; exact evNeg (by simp) (Ev.now _)
  | succ d ih =>
    intro j ok hd hj hT hF
    have hlt : j < (L cs).length := by omega
    have wj : wrap64 ((j : Int) + 1) = ((j + 1 : Nat) : Int) := by rw [w64 (by omega) (by omega)]; omega
    have hdrop : (L cs).drop j = (L cs)[j] :: (L cs).drop (j + 1) := List.drop_eq_getElem_cons hlt
    refine Ev.step (fun k => by simp only [belvedereref09_among.l1]; rfl) ?_
    refine evPos (by rw [sz]; omega) ?_
    cases ok with
    | true =>
      refine evPos rfl ?_
      rw [wj]
      exact ih (j + 1) true (by omega) (by omega) (fun _ => hT (.inl rfl)) (fun h => by cases h.1)
    | false =>
      refine evNeg (by simp) ?_
      refine evPos (by omega) ?_
      refine evPos (by omega) ?_
      refine evPos (by rw [sz]; omega) ?_
      rw [wj, bt_L cs j hlt, bt_L s i hi]
      have hb : ((((L cs)[j].toNat : Nat) : Int) == (((L s)[i].toNat : Nat) : Int)) = ((L cs)[j] == (L s)[i]) := by
        by_cases e : (L cs)[j] = (L s)[i]
        · rw [e]; simp
        · have e2 : ((L cs)[j] == (L s)[i]) = false := beq_eq_false_iff_ne.mpr e
          rw [e2, beq_eq_false_iff_ne]
          intro h
          exact e (UInt8.toNat_inj.1 (by omega))
      rw [hb]
      rw [hdrop, List.contains_cons] at hT hF
      refine ih (j + 1) _ (by omega) (by omega) (fun h => hT (.inr ?_)) (fun h => hF ⟨rfl, ?_⟩)
      · rcases h with h | h
        · rw [show ((L s)[i] == (L cs)[j]) = ((L cs)[j] == (L s)[i]) from Bool.beq_comm, h]; rfl
        · rw [h, Bool.or_true]
      · rw [show ((L s)[i] == (L cs)[j]) = ((L cs)[j] == (L s)[i]) from Bool.beq_comm, h.1, h.2]; rfl
theorem among_l0 (hcs : (L cs).length ≤ 1000) (hs : (L s).length ≤ 4294967296) : ∀ (d i : Nat), (L s).length - i = d → i ≤ (L s).length →
    Ev (fun k => belvedereref09_among.l0 k s cs (i : Int)) (((L s).drop i).all ((L cs).contains ·) && decide (1 ≤ (L s).length) && decide ((L s).length ≤ 32)) := by
  intro d
  induction d with
  | zero =>
    intro i hd hi
    have hi' : i = (L s).length := by omega
    refine Ev.step (fun k => by simp only [belvedereref09_among.l0]; rfl) ?_
    refine evNeg (by rw [sz]; omega) ?_
    rw [hi', List.drop_length, List.all_nil, Bool.true_and]
    by_cases h : 1 ≤ (L s).length
    · refine evPos (by rw [sz]; omega) ?_
      rw [decide_eq_true h, Bool.true_and]
      have : decide ((s.size : Int) < 33) = decide ((L s).length ≤ 32) := by rw [sz]; exact decide_eq_decide.2 (by omega)
      rw [this]; exact Ev.now _
    · refine evNeg (by rw [sz]; omega) ?_
      rw [decide_eq_false h, Bool.false_and]; exact Ev.now _
  | succ d ih =>
    intro i hd hi
    have hlt : i < (L s).length := by omega
    refine Ev.step (fun k => by simp only [belvedereref09_among.l0]; rfl) ?_
    refine evPos (by rw [sz]; omega) ?_
    have := ih (i + 1) (by omega) (by omega)
    have hdrop : (L s).drop i = (L s)[i] :: (L s).drop (i + 1) := List.drop_eq_getElem_cons hlt
    rw [hdrop, List.all_cons]
    refine among_l1 hcs hs i hlt _ 0 false rfl (Nat.zero_le _) (fun h => ?_) (fun h => ?_)
    · rw [List.drop_zero] at h
      rcases h with h | h
      · cases h
      · rw [h, Bool.true_and]; exact this
    · rw [List.drop_zero] at h
      rw [h.2]; rfl
end
theorem refWord_eq (s : ByteArray) (hs : s.size < 4294967281) : Ev (fun k => belvedereref09_Word.f k s) (wordP (L s)) := by
  unfold belvedereref09_Word.f
  have := among_l0 (s := s) (cs := wordC) (by decide) (by rw [← sz]; omega) _ 0 rfl (Nat.zero_le _)
  rw [List.drop_zero, show (fun x => (L wordC).contains x) = isW from funext wordC_eq] at this
  exact Ev.bind this (Ev.now _)

theorem isBl_fin : ∀ n : Fin 256, isBl (UInt8.ofNat n.val) = isSp (UInt8.ofNat n.val) := by decide +kernel
theorem isBl_eq (c : UInt8) : isBl c = isSp c := by
  have := isBl_fin ⟨c.toNat, c.toNat_lt⟩
  simpa using this
theorem blank9_eq (c : UInt8) : belvedereref09_blank.f (c.toNat : Int) = some (isSp c) := by
  rw [blank_val, isBl_eq]
theorem refHead_eq (s : ByteArray) (hs : s.size < 4294967281) : Ev (fun k => belvedereref09_head.f k s) (mkB (headR (L s)).1, (headR (L s)).2) := by
  have hz := sz s
  unfold belvedereref09_head.f headR
  by_cases h9 : 9 ≤ (L s).length
  · refine evNeg (by omega) ?_
    refine evPos (by decide) ?_
    refine evPos (by omega) ?_
    rw [tl, L_pre]
    by_cases hd : (L s).take 6 = defineL
    · refine evPos hd ?_
      refine evPos (by omega) ?_
      have h6 : 6 < (L s).length := by omega
      have hb : bt s 6 = ((L s)[6].toNat : Int) := bt_L s 6 h6
      rw [hb, List.getElem?_eq_getElem h6]
      refine evBnd (blank9_eq _) ?_
      have wz : wrap64 ((s.size : Int) - 1) = (((L s).length - 1 : Nat) : Int) := by rw [w64 (by omega) (by omega)]; omega
      cases hsp : isSp (L s)[6] with
      | false =>
        refine evNeg (by simp) ?_
        rw [if_neg (fun h => by have := h.2.2.1; simp [hsp] at this)]
        exact Ev.now _
      | true =>
        refine evPos rfl ?_
        rw [wz]
        refine evPos (by omega) ?_
        refine evPos (by omega) ?_
        have hl : (L s).length - 1 < (L s).length := by omega
        rw [bt_L s _ hl]
        by_cases hc : (L s)[(L s).length - 1] = 123
        · refine evPos (by rw [hc]; rfl) ?_
          refine evPos (by omega) ?_
          refine evPos (by omega) ?_
          rw [if_pos ⟨h9, hd, by simp [hsp], by rw [last_get _ (by omega), hc]⟩]
          have e : L (s.extract 6 (((L s).length - 1 : Nat) : Int).toNat) = ((L s).drop 6).dropLast := by
            rw [L_ext, Int.toNat_natCast, List.dropLast_eq_take, List.length_drop]
            congr 1 <;> omega
          refine Ev.bind (refTrim_eq _ (by rw [sz, e]; simp; omega)) ?_
          rw [e, tl, L_mk]
          exact Ev.now _
        · refine evNeg (fun h => hc ?_) ?_
          · exact UInt8.toNat_inj.1 (by have : (((L s)[(L s).length - 1]).toNat : Int) = 123 := h; have h2 : (123 : UInt8).toNat = 123 := rfl; omega)
          · rw [if_neg (fun h => hc (by have := h.2.2.2; rw [last_get _ (by omega)] at this; exact Option.some.inj this))]
            exact Ev.now _
    · refine evNeg hd ?_
      rw [if_neg (fun h => hd h.2.1)]
      exact Ev.now _
  · refine evPos (by omega) ?_
    rw [if_neg (fun h => h9 h.1)]
    exact Ev.now _
theorem wlen_wl (s : ByteArray) : wlen s = wl (L s) := by
  unfold wlen wl L
  rw [show (fun c => !isBl c) = nsp from funext fun c => by rw [isBl_eq]; rfl]
def rF (f : FD) : S52 := ⟨f.1, mkB f.2.1, mkB f.2.2⟩
def rB (b : BD) : S46 := ⟨b.1, mkB b.2.1, b.2.2.map rF⟩
theorem rdR (out : List BD) (h : 0 < out.length) : rd_T46 (out.map rB) (((out.map rB).length : Int) - 1) = rB (lastB out) := by
  unfold rd_T46 lastB
  have e : (((out.map rB).length : Int) - 1).toNat = out.length - 1 := by simp
  have hl : out.length - 1 < out.length := by omega
  rw [e, List.getD_eq_getElem?_getD, List.getD_eq_getElem?_getD, List.getElem?_map, List.getElem?_eq_getElem hl]; rfl
theorem rdF (fs : List FD) (i : Nat) (h : i < fs.length) : rd_T52 (fs.map rF) (i : Int) = rF fs[i] := by
  unfold rd_T52
  rw [List.getD_eq_getElem?_getD, Int.toNat_natCast, List.getElem?_map, List.getElem?_eq_getElem h]; rfl
theorem find_from (fs : List FD) (name : List UInt8) (a : Int) (k : ByteArray) (hb : fs.length ≤ 4294967296) : ∀ (d i : Nat), fs.length - i = d → i ≤ fs.length →
    Ev (fun n => belvedereref09_Find.l0 n (mkB name) (i : Int) a k (fs.map rF)) (if (fs.drop i).any (fun f => f.2.1 == name) then ((i + (fs.drop i).findIdx (fun f => f.2.1 == name) : Nat) : Int) else -1) := by
  intro d
  induction d with
  | zero =>
    intro i hd hi
    have hi' : i = fs.length := by omega
    refine Ev.step (fun k => by simp only [belvedereref09_Find.l0]; rfl) ?_
    refine evNeg (by rw [List.length_map]; omega) ?_
    rw [hi', List.drop_length]
    exact Ev.now _
  | succ d ih =>
    intro i hd hi
    have hlt : i < fs.length := by omega
    have hdrop : fs.drop i = fs[i] :: fs.drop (i + 1) := List.drop_eq_getElem_cons hlt
    refine Ev.step (fun k => by simp only [belvedereref09_Find.l0]; rfl) ?_
    refine evPos (by rw [List.length_map]; omega) ?_
    refine evPos (by omega) ?_
    rw [rdF fs i hlt, hdrop, List.any_cons, List.findIdx_cons]
    have hc : ((rF fs[i]).f1.toList = (mkB name).toList) ↔ fs[i].2.1 = name := by
      show (mkB fs[i].2.1).toList = _ ↔ _
      rw [tl, tl, L_mk, L_mk]
    by_cases he : fs[i].2.1 = name
    · refine evPos (hc.2 he) ?_
      have hb2 : (fs[i].2.1 == name) = true := beq_iff_eq.mpr he
      rw [hb2]
      simp only [Bool.true_or, if_true, cond_true, Nat.add_zero]
      exact Ev.now _
    · refine evNeg (fun h => he (hc.1 h)) ?_
      have hb2 : (fs[i].2.1 == name) = false := beq_eq_false_iff_ne.mpr he
      rw [hb2]
      simp only [Bool.false_or, cond_false]
      have w1 : wrap64 ((i : Int) + 1) = ((i + 1 : Nat) : Int) := by rw [w64 (by omega) (by omega)]; omega
      rw [w1]
      have := ih (i + 1) (by omega) (by omega)
      rw [show i + ((fs.drop (i + 1)).findIdx (fun f => f.2.1 == name) + 1) = i + 1 + (fs.drop (i + 1)).findIdx (fun f => f.2.1 == name) by omega]
      exact this
theorem find_eq (b : BD) (name : List UInt8) (hb : b.2.2.length ≤ 4294967296) : Ev (fun n => belvedereref09_Find.f n (rB b).f0 (rB b).f1 (rB b).f2 (mkB name)) (if hasF b name then ((b.2.2.findIdx (fun f => f.2.1 == name) : Nat) : Int) else -1) := by
  unfold belvedereref09_Find.f
  have := find_from b.2.2 name (rB b).f0 (rB b).f1 hb _ 0 rfl (Nat.zero_le _)
  rw [List.drop_zero, Nat.zero_add] at this
  exact this

theorem refLine_eq (at_ : Int) (t : List UInt8) (out : List BD) (op : Bool) (hI : Inv out op) (ht : t.length ≤ 4096) : Ev (fun k => ref_line k (out.map rB) op (e2 (at_, t))) (mS rB (stepB at_ t out op)) := by
  have hz : (mkB t).size < 4294967281 := by rw [sz, L_mk]; omega
  unfold ref_line
  cases op with
  | false =>
    refine evPos rfl ?_
    refine Ev.bind (refHead_eq _ hz) ?_
    rw [show L (e2 (at_, t)).f1 = t from L_mk t]
    by_cases hh : (headR t).2 = false
    · rw [show stepB at_ t out false = (some 3, out, false) by rw [stepB_false, if_pos hh]]
      exact evPos hh (Ev.now _)
    · refine evNeg hh ?_
      have hT : (headR t).2 = true := by simpa using hh
      have hk := headR_kind t hT
      have hkl : (headR t).1.length ≤ t.length := by rw [hk]; have := trim_len (t.drop 6).dropLast; simp at this; omega
      refine Ev.bind (refWord_eq _ (by rw [sz, L_mk]; omega)) ?_
      rw [L_mk]
      by_cases hw : wordP (headR t).1 = false
      · rw [show stepB at_ t out false = (some 11, out, false) by rw [stepB_false, if_neg hh, if_pos hw]]
        exact evPos hw (Ev.now _)
      · refine evNeg hw ?_
        by_cases hl : 1024 ≤ out.length
        · rw [show stepB at_ t out false = (some 10, out, false) by rw [stepB_false, if_neg hh, if_neg hw, if_pos hl]]
          exact evPos (by rw [List.length_map]; omega) (Ev.now _)
        · rw [show stepB at_ t out false = (none, out ++ [(at_, (headR t).1, [])], true) by rw [stepB_false, if_neg hh, if_neg hw, if_neg hl]]
          refine evNeg (by rw [List.length_map]; omega) ?_
          have e : mS rB (none, out ++ [(at_, (headR t).1, [])], true) = (none, out.map rB ++ [⟨at_, mkB (headR t).1, []⟩], true) := by
            unfold mS; rw [List.map_append]; rfl
          rw [e]
          exact Ev.now _
  | true =>
    have hp := hI.pos rfl
    have hlast := hI.last hp
    refine evNeg (by simp) ?_
    rw [show (e2 (at_, t)).f1 = mkB t from rfl, show (e2 (at_, t)).f0 = at_ from rfl, tl, L_mk]
    by_cases h1 : t = [125]
    · rw [show stepB at_ t out true = (none, out, false) by rw [stepB_true, if_pos h1]]
      exact evPos h1 (Ev.now _)
    · refine evNeg h1 ?_
      refine evNeg (by rw [List.length_map]; simp; exact ⟨hp, hI.len, by omega⟩) ?_
      rw [rdR out hp, wlen_wl, L_mk]
      have en : (mkB t).extract 0 (wl t) = mkB (t.take (wl t)) := by apply L_inj; rw [L_pre, L_mk, L_mk]
      have er : L ((mkB t).extract (wl t) (mkB t).size) = t.drop (wl t) := by rw [L_suf, L_mk]
      rw [en]
      refine Ev.bind (refTrim_eq _ (by rw [sz, er]; simp; omega)) ?_
      rw [er, tl, L_mk, show (mkB t).size = t.length by rw [sz, L_mk]]
      by_cases h2 : t.take (wl t) = defineL ∧ wl t < t.length
      · rw [show stepB at_ t out true = (some 3, out, true) by rw [stepB_true, if_neg h1, if_pos h2]]
        exact evPos h2 (Ev.now _)
      · refine evNeg h2 ?_
        refine Ev.bind (refWord_eq _ (by rw [sz, L_mk]; simp; omega)) ?_
        rw [L_mk]
        by_cases hw : wordP (t.take (wl t)) = false
        · rw [show stepB at_ t out true = (some 11, out, true) by rw [stepB_true, if_neg h1, if_neg h2, if_pos hw]]
          exact evPos hw (Ev.now _)
        · refine evNeg hw ?_
          refine Ev.bind (find_eq (lastB out) (t.take (wl t)) (by omega)) ?_
          by_cases hh : hasF (lastB out) (t.take (wl t)) = true
          · rw [show stepB at_ t out true = (some 7, out, true) by rw [stepB_true, if_neg h1, if_neg h2, if_neg hw, if_pos hh]]
            exact evPos (by rw [if_pos hh]; omega) (Ev.now _)
          · refine evNeg (by rw [if_neg hh]; decide) ?_
            by_cases h3 : 64 ≤ (lastB out).2.2.length
            · rw [show stepB at_ t out true = (some 10, out, true) by rw [stepB_true, if_neg h1, if_neg h2, if_neg hw, if_neg hh, if_pos h3]]
              exact evPos (by show (64 : Int) ≤ (((lastB out).2.2.map rF).length : Int); rw [List.length_map]; omega) (Ev.now _)
            · rw [show stepB at_ t out true = (none, out.set (out.length - 1) ((lastB out).1, (lastB out).2.1, (lastB out).2.2 ++ [(at_, t.take (wl t), trim (t.drop (wl t)))]), true) by rw [stepB_true, if_neg h1, if_neg h2, if_neg hw, if_neg hh, if_neg h3]]
              refine evNeg (by show ¬ (64 : Int) ≤ (((lastB out).2.2.map rF).length : Int); rw [List.length_map]; omega) ?_
              have := set_toNat rB out hp ((lastB out).1, (lastB out).2.1, (lastB out).2.2 ++ [(at_, t.take (wl t), trim (t.drop (wl t)))])
              have e : rB ((lastB out).1, (lastB out).2.1, (lastB out).2.2 ++ [(at_, t.take (wl t), trim (t.drop (wl t)))]) = ⟨(rB (lastB out)).f0, (rB (lastB out)).f1, (rB (lastB out)).f2 ++ [⟨at_, mkB (t.take (wl t)), mkB (trim (t.drop (wl t)))⟩]⟩ := by
                unfold rB; rw [List.map_append]; rfl
              unfold mS
              dsimp only
              rw [← this, e]
              exact Ev.now _
def o2 (r : List BD × Int × Int) : List S46 × Int × Int := (r.1.map rB, r.2.1, r.2.2)
theorem ref_go_eq : ∀ (ls : List (Int × List UInt8)) (out : List BD) (op : Bool), Inv out op → (∀ x ∈ ls, x.2.length ≤ 4096) → Ev (fun k => ref_go k (ls.map e2) (out.map rB) op) (o2 (goB ls out op))
  | [], out, op, hI, _ => by
    refine Ev.congr (f := fun _ => some (o2 (goB [] out op))) (fun k => ?_) (Ev.now _)
    show ref_go k [] (out.map rB) op = _
    unfold ref_go goB
    cases op with
    | true =>
      have hp := hI.pos rfl
      rw [if_pos rfl, if_pos rfl, if_pos (by rw [List.length_map]; exact ⟨hp, hI.len⟩), rdR out hp]
      rfl
    | false => rw [if_neg (by simp), if_neg (by simp)]; rfl
  | (at_, t) :: ls, out, op, hI, hl => by
    refine Ev.congr (f := fun k => (ref_line k (out.map rB) op (e2 (at_, t))).bind fun r => match r.1 with
      | some e => some ([], (e2 (at_, t)).f0, e)
      | none => ref_go k (ls.map e2) r.2.1 r.2.2) (fun k => by rw [List.map_cons, ref_go]; rfl) ?_
    refine Ev.bind (refLine_eq at_ t out op hI (hl _ List.mem_cons_self)) ?_
    rw [goB]
    cases hs : (stepB at_ t out op).1 with
    | some e =>
      rw [show (mS rB (stepB at_ t out op)).1 = some e from hs]
      exact Ev.now _
    | none =>
      rw [show (mS rB (stepB at_ t out op)).1 = none from hs]
      exact ref_go_eq ls _ _ (hI.step hs) (fun x hx => hl x (List.mem_cons_of_mem _ hx))
theorem refParse_eq (s : ByteArray) : Ev (fun k => belvedereref09_Parse.f k s) (o2 (parseB (L s))) := by
  unfold belvedereref09_Parse.f parseB
  refine Ev.bind (refLines_eq s) ?_
  unfold out2
  dsimp only
  by_cases h : (linesOf (L s)).2.2 = 0
  · rw [if_pos h]
    have hl := linesOf_len (L s)
    refine evPos h ?_
    refine evPos (by rw [List.length_map]; omega) ?_
    exact ref_go_eq _ _ _ inv0 (lines_short _)
  · rw [if_neg h]
    exact evNeg h (Ev.now _)
end Go.Proofs.YtefjppdchgdjlaaDoor.T
