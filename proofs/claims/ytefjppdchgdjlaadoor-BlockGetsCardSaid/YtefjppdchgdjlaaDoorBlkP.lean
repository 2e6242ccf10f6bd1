/- Plain law of layer 9, the program's part: what a line does to the blocks read so far. 40, 42, 46, 52: the block's and the field's struct types. -/
import Derived.Test.YtefjppdchgdjlaaDoorLexS
import Derived.Test.YtefjppdchgdjlaaDoorPlugQ
namespace Go.Proofs.YtefjppdchgdjlaaDoor.T
open Go.RowKit Go.Proofs.YtefjppdchgdjlaaDoorW.PrintWords Go.Proofs.YtefjppdchgdjlaaDoorW.PrintLast Go.Proofs.YtefjppdchgdjlaaDoor.P

/-! ### words -/
def isW (c : UInt8) : Bool := isWordB (c.toNat : Int)
def wordP (l : List UInt8) : Bool := l.all isW && decide (1 ≤ l.length) && decide (l.length ≤ 32)
theorem block_word_eq (s : ByteArray) (h : s.size < 4294967281) : block_word.f s = some (wordP (L s)) := by
  unfold block_word.f wordP allB
  rw [if_pos h, sz s]
  rfl
/-! ### heads -/
def defineL : List UInt8 := [100, 101, 102, 105, 110, 101]
def headR (l : List UInt8) : List UInt8 × Bool :=
  if 9 ≤ l.length ∧ l.take 6 = defineL ∧ l[6]?.map isSp = some true ∧ l.getLast? = some 123 then (trim (l.drop 6).dropLast, (trim (l.drop 6).dropLast != [])) else ([], false)
theorem last_get (l : List UInt8) (h : 0 < l.length) : l.getLast? = some l[l.length - 1] := by
  rw [List.getLast?_eq_getElem?, List.getElem?_eq_getElem (by omega)]
theorem cutPrefix9_eq (s : ByteArray) (h : s.size < 4294967281) : strings_CutPrefix.f s (⟨#[100, 101, 102, 105, 110, 101]⟩ : ByteArray) = some (if (L s).take 6 = defineL then (mkB ((L s).drop 6), true) else (s, false)) := by
  have hz := sz s
  unfold strings_CutPrefix.f stringslite_CutPrefix.f stringslite_HasPrefix.f
  rw [show (⟨#[100, 101, 102, 105, 110, 101]⟩ : ByteArray).size = 6 from rfl]
  by_cases h0 : (s.size : Int) ≥ ((6 : Nat) : Int)
  · have hl : ((s.extract 0 (((6 : Nat) : Int)).toNat).toList == (⟨#[100, 101, 102, 105, 110, 101]⟩ : ByteArray).toList) = decide ((L s).take 6 = defineL) := by
      rw [tl, tl, Int.toNat_natCast, L_pre]
      rw [Bool.eq_iff_iff, beq_iff_eq, decide_eq_true_iff]; rfl
    rw [if_pos h0, if_pos (by omega), if_pos (by omega), hl]
    simp only [Option.bind_some]
    by_cases hd : (L s).take 6 = defineL
    · rw [decide_eq_true hd, if_pos rfl, if_pos (by omega), if_pos (by omega), if_pos hd]
      simp only [Option.bind_some, Int.toNat_natCast]
      congr 2
      apply L_inj
      rw [L_suf, L_mk]
    · rw [decide_eq_false hd, if_neg (by simp), if_neg hd]; rfl
  · rw [if_neg h0]
    have hd : ¬ (L s).take 6 = defineL := fun e => by have := congrArg List.length e; simp [defineL] at this; omega
    rw [if_neg hd]
    simp
theorem cutSuffix9_eq (s : ByteArray) (h : s.size < 4294967281) : strings_CutSuffix.f s (⟨#[123]⟩ : ByteArray) = some (if (L s).getLast? = some 123 then (mkB (L s).dropLast, true) else (s, false)) := by
  have hz := sz s
  unfold strings_CutSuffix.f stringslite_CutSuffix.f stringslite_HasSuffix.f
  rw [show (⟨#[123]⟩ : ByteArray).size = 1 from rfl]
  by_cases h0 : (s.size : Int) ≥ ((1 : Nat) : Int)
  · have hw : wrap64 ((s.size : Int) - ((1 : Nat) : Int)) = ((s.size - 1 : Nat) : Int) := by rw [w64 (by omega) (by omega)]; omega
    have hl : ((s.extract (s.size - 1) s.size).toList == (⟨#[123]⟩ : ByteArray).toList) = decide ((L s).getLast? = some 123) := by
      rw [tl, tl, L_suf, hz]
      rcases List.eq_nil_or_concat (L s) with e | ⟨l, c, e⟩
      · rw [e] at hz; simp only [List.length_nil] at hz; omega
      · rw [List.concat_eq_append] at e
        rw [e, L_lit]
        simp [List.drop_append]
        by_cases hcc : c = 123 <;> simp [hcc]
    rw [if_pos h0, hw, if_pos (by omega), if_pos (by omega)]
    simp only [Option.bind_some, Int.toNat_natCast]
    rw [hl]
    by_cases hd : (L s).getLast? = some 123
    · rw [decide_eq_true hd, if_pos rfl, if_pos (by omega), if_pos (by omega), if_pos hd]
      simp only [Option.bind_some]
      congr 2
      apply L_inj
      rw [L_pre, L_mk, List.dropLast_eq_take, hz]
    · rw [decide_eq_false hd, if_neg (by simp), if_neg hd]; rfl
  · rw [if_neg h0]
    have e : L s = [] := List.eq_nil_of_length_eq_zero (by omega)
    rw [e]
    simp
theorem trimLeft9_eq (s : ByteArray) : strings_TrimLeft.f s (⟨#[32, 9, 13]⟩ : ByteArray) = some (mkB ((L s).dropWhile isSp)) := by
  unfold strings_TrimLeft.f
  rw [if_pos ⟨by decide, by decide⟩]
  rfl
theorem dropWhile_self {p : UInt8 → Bool} {l : List UInt8} : l.dropWhile p = l ↔ ∀ c, l.head? = some c → p c = false := by
  cases l with
  | nil => simp
  | cons c l =>
    rw [List.dropWhile_cons]
    by_cases h : p c = true
    · rw [if_pos h]
      constructor
      · intro e
        have := (List.dropWhile_sublist (l := l) p).length_le
        have := congrArg List.length e
        simp at this; omega
      · intro e; rw [e c rfl] at h; cases h
    · rw [if_neg h]
      constructor
      · intro _ d hd; cases hd; simpa using h
      · intro _; rfl
theorem trim_one (c : UInt8) (h : isSp c = true) : trim [c] = [] := by
  simp [trim, dropR, h]
/-- The program's way to a head's kind. -/
theorem head_same (l : List UInt8) : (l.take 6 = defineL ∧ (l.drop 6).getLast? = some 123 ∧ trim (l.drop 6).dropLast ≠ [] ∧ (l.drop 6).dropLast.dropWhile isSp ≠ (l.drop 6).dropLast) ↔ (headR l).2 = true := by
  unfold headR
  constructor
  · rintro ⟨h1, h2, h3, h4⟩
    generalize hk : (l.drop 6).dropLast = k at h3 h4
    have hlen : k.length = l.length - 6 - 1 := by rw [← hk]; simp
    match k, hk with
    | [], _ => exact absurd rfl h3
    | [c], _ =>
      exfalso
      by_cases hc : isSp c = true
      · exact h3 (trim_one c hc)
      · exact h4 (dropWhile_self.2 (fun d hd => by cases hd; simpa using hc))
    | c :: d :: k', hk =>
      have hc : isSp c = true := by
        cases hc : isSp c with
        | true => rfl
        | false => exact absurd (dropWhile_self.2 (fun d hd => by cases hd; exact hc)) h4
      simp only [List.length_cons] at hlen
      have h6 : l[6]? = some c := by
        have e : (l.drop 6).dropLast[0]? = some c := by rw [hk]; rfl
        rw [List.dropLast_eq_take, List.getElem?_take, List.getElem?_drop] at e
        split at e
        · exact e
        · cases e
      have hl : l.getLast? = some 123 := by
        rw [← h2, List.getLast?_drop, if_neg (by omega)]
      rw [if_pos ⟨by omega, h1, by rw [h6]; simp [hc], hl⟩]
      simp [h3]
  · intro h
    split at h
    · rename_i hc
      obtain ⟨h9, h1, h6, hl⟩ := hc
      have h2 : (l.drop 6).getLast? = some 123 := by rw [List.getLast?_drop, if_neg (by omega), hl]
      refine ⟨h1, h2, by simpa using h, fun e => ?_⟩
      have := dropWhile_self.1 e
      have h6' : 6 < l.length := by omega
      have hh : (l.drop 6).dropLast.head? = some l[6] := by
        rw [List.head?_eq_getElem?, List.dropLast_eq_take, List.getElem?_take, List.getElem?_drop, if_pos (by simp; omega), List.getElem?_eq_getElem h6']
      have h7 := this _ hh
      rw [List.getElem?_eq_getElem h6'] at h6
      simp [h7] at h6
    · cases h
theorem headR_kind (l : List UInt8) (h : (headR l).2 = true) : (headR l).1 = trim (l.drop 6).dropLast := by
  unfold headR at h ⊢
  split
  · rfl
  · rename_i hc; rw [if_neg hc] at h; cases h

/-! ### a line's first word -/
def nsp (c : UInt8) : Bool := !isSp c
def wl (l : List UInt8) : Nat := (l.takeWhile nsp).length
theorem wl_le (l : List UInt8) : wl l ≤ l.length := (List.takeWhile_prefix _).length_le
theorem indexAny_wl : ∀ l : List UInt8, Lib.indexAny l [32, 9, 13] = if wl l < l.length then (wl l : Int) else -1
  | [] => rfl
  | c :: l => by
    have ih := indexAny_wl l
    unfold wl at ih ⊢
    rw [Lib.indexAny, List.takeWhile_cons, show ([32, 9, 13] : List UInt8).contains c = isSp c from rfl]
    by_cases h : isSp c = true
    · have hn : nsp c = false := by simp [nsp, h]
      rw [if_pos h, hn]
      simp
    · have h' : isSp c = false := by simpa using h
      have hn : nsp c = true := by simp [nsp, h']
      rw [if_neg h, ih, hn]
      simp only [if_true, List.length_cons]
      by_cases hw : (l.takeWhile nsp).length < l.length
      · rw [if_pos hw, if_neg (fun e => by have := beq_iff_eq.1 e; omega), if_pos (by omega)]; push_cast; rfl
      · rw [if_neg hw, if_pos (by decide), if_neg (by omega)]
theorem take_all {l : List UInt8} {n : Nat} (h : ¬ n < l.length) : l.take n = l := List.take_of_length_le (by omega)
theorem parted_eq (s : ByteArray) (h : s.size < 4294967281) : block_parted.f s = some (mkB ((L s).take (wl (L s))), mkB (trim ((L s).drop (wl (L s))))) := by
  have hz := sz s
  unfold block_parted.f strings_IndexAny.f
  rw [if_pos ⟨h, by decide, by decide, by decide⟩]
  simp only [Option.bind_some]
  have e : Lib.indexAny s.data.toList (⟨#[32, 9, 13]⟩ : ByteArray).data.toList = if wl (L s) < (L s).length then (wl (L s) : Int) else -1 := indexAny_wl (L s)
  rw [e]
  by_cases hw : wl (L s) < (L s).length
  · rw [if_pos hw, if_neg (by omega), if_pos (by omega), if_pos (by omega)]
    simp only [Int.toNat_natCast]
    rw [lexTrim_eq _ (by rw [sz, L_suf]; simp; omega), L_suf]
    simp only [Option.bind_some]
    congr 2
    apply L_inj
    rw [L_pre, L_mk]
  · rw [if_neg hw, if_pos (by omega), take_all hw, List.drop_of_length_le (by omega), mk_L]
    rfl

/-! ### blocks -/
abbrev FD := Int × List UInt8 × List UInt8
abbrev BD := Int × List UInt8 × List FD
def eF (f : FD) : S42 := ⟨f.1, mkB f.2.1, mkB f.2.2⟩
def eB (b : BD) : S40 := ⟨b.1, mkB b.2.1, b.2.2.map eF⟩
def lastB (out : List BD) : BD := out.getD (out.length - 1) (0, [], [])
def hasF (b : BD) (name : List UInt8) : Bool := b.2.2.any fun f => f.2.1 == name
theorem rdB (out : List BD) (h : 0 < out.length) : rd_T40 (out.map eB) (((out.map eB).length : Int) - 1) = eB (lastB out) := by
  unfold rd_T40 lastB
  have e : (((out.map eB).length : Int) - 1).toNat = out.length - 1 := by simp
  have hl : out.length - 1 < out.length := by omega
  rw [e, List.getD_eq_getElem?_getD, List.getD_eq_getElem?_getD, List.getElem?_map, List.getElem?_eq_getElem hl]; rfl
theorem mk_beq (a b : List UInt8) : ((mkB a).toList == (mkB b).toList) = (a == b) := by rw [tl, tl, L_mk, L_mk]
theorem firstOf_has {α : Type} (p : α → Bool) (l : List α) : decide (firstOf p l < 0) = !(l.any p) := by
  unfold firstOf
  cases h : l.any p with
  | true =>
    rw [if_pos (List.findIdx_lt_length.2 (by obtain ⟨x, hx, hp⟩ := List.any_eq_true.1 h; exact ⟨x, hx, hp⟩))]
    exact decide_eq_false (by omega)
  | false =>
    rw [if_neg (fun hc => by
      obtain ⟨x, hx, hp⟩ := List.findIdx_lt_length.1 hc
      rw [List.any_eq_false] at h
      exact h x hx hp)]
    rfl
theorem get_has (b : BD) (name : List UInt8) (hb : b.2.2.length < 4294967281) : ∃ v, bblock_Block_Get.f (eB b).f0 (eB b).f1 (eB b).f2 (mkB name) = some (v, hasF b name) := by
  unfold bblock_Block_Get.f
  rw [if_pos (by show (b.2.2.map eF).length < _; rw [List.length_map]; exact hb)]
  unfold getB
  have hany : ((eB b).f2).any (fun x : S42 => x.f1.toList == (mkB name).toList) = hasF b name := by
    show (b.2.2.map eF).any _ = _
    rw [List.any_map]
    unfold hasF
    congr 1
    funext f
    exact mk_beq _ _
  have h := firstOf_has (fun x : S42 => x.f1.toList == (mkB name).toList) (eB b).f2
  rw [hany] at h
  by_cases hn : firstOf (fun x : S42 => x.f1.toList == (mkB name).toList) (eB b).f2 < 0
  · rw [decide_eq_true hn] at h
    have : hasF b name = false := by simpa using h
    rw [this]
    exact ⟨_, by simp only [if_pos hn]; rfl⟩
  · rw [decide_eq_false hn] at h
    have : hasF b name = true := by simpa using h
    rw [this]
    exact ⟨_, by simp only [if_neg hn]; rfl⟩
/-! ### one line -/
def stepB (at_ : Int) (t : List UInt8) (out : List BD) (op : Bool) : Option Int × List BD × Bool :=
  if op = false then
    if (headR t).2 = false then (some 3, out, op) else if wordP (headR t).1 = false then (some 11, out, op) else if 1024 ≤ out.length then (some 10, out, op) else (none, out ++ [(at_, (headR t).1, [])], true)
  else if t = [125] then (none, out, false) else
    if t.take (wl t) = defineL ∧ wl t < t.length then (some 3, out, op) else if wordP (t.take (wl t)) = false then (some 11, out, op) else
    if hasF (lastB out) (t.take (wl t)) = true then (some 7, out, op) else if 64 ≤ (lastB out).2.2.length then (some 10, out, op) else
    (none, out.set (out.length - 1) ((lastB out).1, (lastB out).2.1, (lastB out).2.2 ++ [(at_, t.take (wl t), trim (t.drop (wl t)))]), op)
theorem stepB_false (at_ : Int) (t : List UInt8) (out : List BD) : stepB at_ t out false = if (headR t).2 = false then (some 3, out, false) else if wordP (headR t).1 = false then (some 11, out, false) else if 1024 ≤ out.length then (some 10, out, false) else (none, out ++ [(at_, (headR t).1, [])], true) := if_pos rfl
theorem stepB_true (at_ : Int) (t : List UInt8) (out : List BD) : stepB at_ t out true = if t = [125] then (none, out, false) else
    if t.take (wl t) = defineL ∧ wl t < t.length then (some 3, out, true) else if wordP (t.take (wl t)) = false then (some 11, out, true) else
    if hasF (lastB out) (t.take (wl t)) = true then (some 7, out, true) else if 64 ≤ (lastB out).2.2.length then (some 10, out, true) else
    (none, out.set (out.length - 1) ((lastB out).1, (lastB out).2.1, (lastB out).2.2 ++ [(at_, t.take (wl t), trim (t.drop (wl t)))]), true) := if_neg (by simp)
def mS {α : Type} (f : BD → α) (r : Option Int × List BD × Bool) : Option Int × List α × Bool := (r.1, r.2.1.map f, r.2.2)
structure Inv (out : List BD) (op : Bool) : Prop where
  len : out.length ≤ 1024
  pos : op = true → 0 < out.length
  fs : ∀ b ∈ out, b.2.2.length ≤ 64
theorem Inv.last {out : List BD} {op : Bool} (h : Inv out op) (hp : 0 < out.length) : (lastB out).2.2.length ≤ 64 := by
  have hl : out.length - 1 < out.length := by omega
  have e : lastB out = out[out.length - 1] := by unfold lastB; rw [List.getD_eq_getElem?_getD, List.getElem?_eq_getElem hl]; rfl
  rw [e]
  exact h.fs _ (List.getElem_mem hl)
theorem set_toNat {α : Type} (f : BD → α) (out : List BD) (h : 0 < out.length) (b : BD) : (out.map f).set (((out.map f).length : Int) - 1).toNat (f b) = (out.set (out.length - 1) b).map f := by
  have e : (((out.map f).length : Int) - 1).toNat = out.length - 1 := by simp
  rw [e, List.map_set]
theorem head_eq (at_ : Int) (t : List UInt8) (out : List BD) (ht : t.length ≤ 4096) : block_head.f (out.map eB) false (e1 (at_, t)) = some (mS eB (stepB at_ t out false)) := by
  rw [stepB_false]
  unfold block_head.f e1
  dsimp only
  have hz : (mkB t).size < 4294967281 := by rw [sz, L_mk]; omega
  rw [cutPrefix9_eq _ hz, L_mk]
  simp only [Option.bind_some]
  have hsame := head_same t
  by_cases h1 : t.take 6 = defineL
  · rw [if_pos h1]
    dsimp only
    rw [cutSuffix9_eq _ (by rw [sz, L_mk]; simp; omega), L_mk]
    simp only [Option.bind_some]
    by_cases h2 : (t.drop 6).getLast? = some 123
    · rw [if_pos h2]
      dsimp only
      rw [lexTrim_eq _ (by rw [sz, L_mk]; simp; omega), L_mk]
      simp only [Option.bind_some]
      rw [if_neg (by simp), if_neg (by simp), tl, L_mk]
      by_cases h3 : trim (t.drop 6).dropLast = []
      · have hf : (headR t).2 = false := Bool.eq_false_iff.2 (fun h => (hsame.2 h).2.2.1 h3)
        rw [if_pos h3, if_pos hf]; rfl
      · rw [if_neg h3, trimLeft9_eq, L_mk]
        simp only [Option.bind_some]
        rw [tl, L_mk, tl, L_mk]
        by_cases h4 : (t.drop 6).dropLast.dropWhile isSp = (t.drop 6).dropLast
        · have hf : (headR t).2 = false := Bool.eq_false_iff.2 (fun h => (hsame.2 h).2.2.2 h4)
          rw [if_pos h4, if_pos hf]; rfl
        · have hT : (headR t).2 = true := hsame.1 ⟨h1, h2, h3, h4⟩
          have hk := headR_kind t hT
          rw [if_neg h4, block_word_eq _ (by rw [sz, L_mk]; have := trim_len (t.drop 6).dropLast; simp at this; omega), L_mk]
          simp only [Option.bind_some]
          rw [if_neg (show ¬ (headR t).2 = false by rw [hT]; simp), hk]
          cases hw : wordP (trim (t.drop 6).dropLast) with
          | false => rw [if_pos rfl, if_pos rfl]; rfl
          | true =>
            rw [if_neg (show ¬ true = false by simp), if_neg (show ¬ true = false by simp)]
            by_cases hl : 1024 ≤ out.length
            · rw [if_pos (by rw [List.length_map]; omega), if_pos hl]; rfl
            · rw [if_neg (by rw [List.length_map]; omega), if_neg hl]
              show some (none, out.map eB ++ [_], true) = some (none, (out ++ [_]).map eB, true)
              rw [List.map_append]; rfl
    · have hf : (headR t).2 = false := Bool.eq_false_iff.2 (fun h => h2 (hsame.2 h).2.1)
      rw [if_neg h2]
      dsimp only
      rw [lexTrim_eq _ (by rw [sz, L_mk]; simp; omega)]
      simp only [Option.bind_some]
      rw [if_neg (by simp), if_pos trivial, if_pos hf]; rfl
  · have hf : (headR t).2 = false := Bool.eq_false_iff.2 (fun h => h1 (hsame.2 h).1)
    rw [if_neg h1]
    dsimp only
    rw [cutSuffix9_eq _ hz, L_mk]
    simp only [Option.bind_some]
    have hb : (if t.getLast? = some 123 then (mkB t.dropLast, true) else (mkB t, false)).1.size ≤ 9223372036854775807 := by
      split
      · rw [sz, L_mk]; simp; omega
      · rw [sz, L_mk]; omega
    rw [lexTrim_eq _ hb]
    simp only [Option.bind_some]
    rw [if_pos trivial, if_pos hf]; rfl
theorem field_eq (at_ : Int) (t : List UInt8) (out : List BD) (hI : Inv out true) (ht : t.length ≤ 4096) : block_field.f (out.map eB) true (e1 (at_, t)) = some (mS eB (stepB at_ t out true)) := by
  have hp := hI.pos rfl
  have hlast := hI.last hp
  rw [stepB_true]
  unfold block_field.f
  show (if (mkB t).toList = [125] then _ else _) = _
  rw [tl, L_mk]
  by_cases h1 : t = [125]
  · rw [if_pos h1, if_pos h1]; rfl
  · rw [if_neg h1, if_neg h1, if_neg (by rw [List.length_map]; simp; exact ⟨hp, hI.len⟩), rdB out hp]
    show ((block_parted.f (mkB t)).bind _) = _
    rw [parted_eq _ (by rw [sz, L_mk]; omega), L_mk]
    simp only [Option.bind_some]
    obtain ⟨v, hv⟩ := get_has (lastB out) (t.take (wl t)) (by omega)
    rw [hv]
    simp only [Option.bind_some]
    rw [tl, L_mk]
    show (if t.take (wl t) = defineL ∧ t.take (wl t) ≠ (mkB t).toList then _ else _) = _
    rw [tl, L_mk]
    have hne : (t.take (wl t) ≠ t) ↔ wl t < t.length := by
      constructor
      · intro h; exact Nat.lt_of_not_le (fun hc => h (List.take_of_length_le hc))
      · intro h e; have := congrArg List.length e; simp at this; omega
    by_cases h2 : t.take (wl t) = defineL ∧ wl t < t.length
    · rw [if_pos ⟨h2.1, hne.2 h2.2⟩, if_pos h2]; rfl
    · rw [if_neg (fun h => h2 ⟨h.1, hne.1 h.2⟩), if_neg h2, block_word_eq _ (by rw [sz, L_mk]; simp; omega), L_mk]
      simp only [Option.bind_some]
      cases hw : wordP (t.take (wl t)) with
      | false => rw [if_pos rfl, if_pos rfl]; rfl
      | true =>
        rw [if_neg (show ¬ true = false by simp), if_neg (show ¬ true = false by simp)]
        cases hh : hasF (lastB out) (t.take (wl t)) with
        | true => rw [if_pos rfl, if_pos rfl]; rfl
        | false =>
          rw [if_neg (show ¬ false = true by simp), if_neg (show ¬ false = true by simp)]
          by_cases h3 : 64 ≤ (lastB out).2.2.length
          · rw [if_pos (by show (64 : Int) ≤ (((lastB out).2.2.map eF).length : Int); rw [List.length_map]; omega), if_pos h3]; rfl
          · rw [if_neg (by show ¬ (64 : Int) ≤ (((lastB out).2.2.map eF).length : Int); rw [List.length_map]; omega), if_neg h3]
            have := set_toNat eB out hp ((lastB out).1, (lastB out).2.1, (lastB out).2.2 ++ [(at_, t.take (wl t), trim (t.drop (wl t)))])
            show some (none, (out.map eB).set _ _, true) = some (none, (out.set _ _).map eB, true)
            rw [← this]
            have e : eB ((lastB out).1, (lastB out).2.1, (lastB out).2.2 ++ [(at_, t.take (wl t), trim (t.drop (wl t)))]) = ⟨(eB (lastB out)).f0, (eB (lastB out)).f1, (eB (lastB out)).f2 ++ [⟨at_, mkB (t.take (wl t)), mkB (trim (t.drop (wl t)))⟩]⟩ := by
              unfold eB; rw [List.map_append]; rfl
            rw [e]
            rfl
theorem Inv.step {at_ : Int} {t : List UInt8} {out : List BD} {op : Bool} (h : Inv out op) (hn : (stepB at_ t out op).1 = none) : Inv (stepB at_ t out op).2.1 (stepB at_ t out op).2.2 := by
  cases op with
  | false =>
    rw [stepB_false] at hn ⊢
    split at hn
    · cases hn
    rename_i a1
    split at hn
    · cases hn
    rename_i a2
    split at hn
    · cases hn
    rename_i a3
    rw [if_neg a1, if_neg a2, if_neg a3]
    refine ⟨by simp; omega, fun _ => by simp, fun b hb => ?_⟩
    rcases List.mem_append.1 hb with hb | hb
    · exact h.fs b hb
    · simp at hb; rw [hb]; simp
  | true =>
    rw [stepB_true] at hn ⊢
    by_cases a0 : t = [125]
    · rw [if_pos a0]
      exact ⟨h.len, fun e => (by cases e), h.fs⟩
    rw [if_neg a0] at hn ⊢
    split at hn
    · cases hn
    rename_i a1
    split at hn
    · cases hn
    rename_i a2
    split at hn
    · cases hn
    rename_i a3
    split at hn
    · cases hn
    rename_i a4
    rw [if_neg a1, if_neg a2, if_neg a3, if_neg a4]
    refine ⟨by simp; exact h.len, fun _ => by simp; exact h.pos rfl, fun b hb => ?_⟩
    rcases List.mem_or_eq_of_mem_set hb with hb | hb
    · exact h.fs b hb
    · rw [hb]; simp; omega

/-! ### all lines -/
def goB : List (Int × List UInt8) → List BD → Bool → List BD × Int × Int
  | [], out, op => if op = true then ([], (lastB out).1, 4) else (out, 0, 0)
  | (at_, t) :: ls, out, op => match (stepB at_ t out op).1 with
    | some e => ([], at_, e)
    | none => goB ls (stepB at_ t out op).2.1 (stepB at_ t out op).2.2
def parseB (l : List UInt8) : List BD × Int × Int := if (linesOf l).2.2 = 0 then goB (linesOf l).1 [] false else ([], (linesOf l).2.1, (linesOf l).2.2)
def o1 (r : List BD × Int × Int) : List S40 × Int × Int × Option Int := (r.1.map eB, r.2.1, r.2.2, errO r.2.2)
theorem step_err {at_ : Int} {t : List UInt8} {out : List BD} {op : Bool} {e : Int} (h : (stepB at_ t out op).1 = some e) : e ≠ 0 := by
  unfold stepB at h
  repeat' split at h
  all_goals first | (cases h; decide) | cases h
theorem wrong_eq (at_ e : Int) (he : e ≠ 0) : block_wrong.f at_ (some e) = some (o1 ([], at_, e)) := by
  unfold block_wrong.f block_number.f o1 errO
  rw [if_neg he]
  rfl
theorem progLine_eq (at_ : Int) (t : List UInt8) (out : List BD) (op : Bool) (hI : Inv out op) (ht : t.length ≤ 4096) : (if op = true then block_field.f (out.map eB) op (e1 (at_, t)) else block_head.f (out.map eB) op (e1 (at_, t))) = some (mS eB (stepB at_ t out op)) := by
  cases op with
  | true => rw [if_pos rfl]; exact field_eq at_ t out hI ht
  | false => rw [if_neg (by simp)]; exact head_eq at_ t out ht
theorem parse_go_eq : ∀ (ls : List (Int × List UInt8)) (out : List BD) (op : Bool), Inv out op → (∀ x ∈ ls, x.2.length ≤ 4096) → parse_go (ls.map e1) (out.map eB) op = some (o1 (goB ls out op))
  | [], out, op, hI, _ => by
    show parse_go [] (out.map eB) op = _
    unfold parse_go goB
    cases op with
    | true =>
      have hp := hI.pos rfl
      rw [if_pos rfl, if_pos rfl, if_pos (by rw [List.length_map]; exact hp), rdB out hp]
      exact wrong_eq _ _ (by decide)
    | false => rw [if_neg (by simp), if_neg (by simp)]; rfl
  | (at_, t) :: ls, out, op, hI, hl => by
    rw [List.map_cons, parse_go, progLine_eq at_ t out op hI (hl _ List.mem_cons_self), goB]
    simp only [Option.bind_some]
    cases hs : (stepB at_ t out op).1 with
    | some e =>
      rw [show (mS eB (stepB at_ t out op)).1 = some e from hs]
      exact wrong_eq _ _ (step_err hs)
    | none =>
      rw [show (mS eB (stepB at_ t out op)).1 = none from hs]
      exact parse_go_eq ls _ _ (hI.step hs) (fun x hx => hl x (List.mem_cons_of_mem _ hx))
theorem go_short : ∀ (ps : List (List UInt8)) (acc : List UInt8) (a b : Int) (out : List (Int × List UInt8)), (∀ x ∈ out, x.2.length ≤ 4096) → ∀ x ∈ (go ps acc a b out).1, x.2.length ≤ 4096 := by
  intro ps
  induction ps with
  | nil => intro acc a b out h; simpa [go] using h
  | cons p ps ih =>
    intro acc a b out h
    rw [go]
    split
    · exact ih _ _ _ _ h
    · split
      · exact ih _ _ _ _ h
      · split
        · intro x hx; cases hx
        · rename_i h4
          refine ih _ _ _ _ (fun x hx => ?_)
          rcases List.mem_append.1 hx with hx | hx
          · exact h x hx
          · simp at hx; rw [hx]; simp; omega
theorem lines_short (l : List UInt8) : ∀ x ∈ (linesOf l).1, x.2.length ≤ 4096 := by
  unfold linesOf
  split
  · intro x hx; cases hx
  · exact go_short _ _ _ _ _ (fun x hx => by cases hx)
theorem go_out_len : ∀ (ps : List (List UInt8)) (acc : List UInt8) (a b : Int) (out : List (Int × List UInt8)), (go ps acc a b out).1.length ≤ out.length + ps.length := by
  intro ps
  induction ps with
  | nil => intro acc a b out; simp [go]
  | cons p ps ih =>
    intro acc a b out
    rw [go]
    split
    · have := ih (acc ++ p.dropLast) a (b + 1) out; simp; omega
    · split
      · have := ih [] (b + 1) (b + 1) out; simp; omega
      · split
        · simp
        · have := ih [] (b + 1) (b + 1) (out ++ [(a, said (acc ++ strip p))]); simp at this ⊢; omega
theorem linesOf_len (l : List UInt8) : (linesOf l).1.length ≤ 1000000 := by
  unfold linesOf
  split
  · simp
  · have h1 := go_out_len (pieces l) [] 1 1 []
    have h2 := pieces_len l
    simp at h1; omega
theorem inv0 : Inv [] false := ⟨by simp, fun h => (by cases h), fun b hb => (by cases hb)⟩
theorem blockParse_eq (s : ByteArray) : Ev (fun k => block_Parse.f k s) (o1 (parseB (L s))) := by
  unfold block_Parse.f parseB
  refine Ev.bind (lexLines_eq s) ?_
  unfold out1
  dsimp only
  by_cases h : (linesOf (L s)).2.2 = 0
  · rw [if_pos h, show errO (linesOf (L s)).2.2 = none by unfold errO; rw [if_pos h]]
    have hl := linesOf_len (L s)
    refine evNow (fun _ => ?_)
    dsimp only
    rw [if_pos (by rw [List.length_map]; omega)]
    exact parse_go_eq _ _ _ inv0 (lines_short _)
  · rw [if_neg h, show errO (linesOf (L s)).2.2 = some (linesOf (L s)).2.2 by unfold errO; rw [if_neg h]]
    exact evNow (fun _ => wrong_eq _ _ h)
end Go.Proofs.YtefjppdchgdjlaaDoor.T
