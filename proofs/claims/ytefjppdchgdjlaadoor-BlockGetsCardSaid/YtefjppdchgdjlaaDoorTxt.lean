/- Plain words on texts: bytes as lists, rounds, trimming, cutting, parting at a byte. No program in sight. -/
import Derived.Test.YtefjppdchgdjlaaDoorWMore
import Derived.Lib.SplitLaws
import Derived.Lib.SlTrimSet
import Derived.Lib.PathFns
namespace Go.Proofs.YtefjppdchgdjlaaDoor.T
open Go.RowKit Go.Proofs.YtefjppdchgdjlaaDoorW.PrintWords Go.Proofs.YtefjppdchgdjlaaDoorW.PrintLast

/-! ### rounds -/
theorem evPos {α : Type} {c : Prop} [Decidable c] {f g : Nat → Option α} {r : α} (h : c) (k : Ev f r) : Ev (fun n => if c then f n else g n) r :=
  Ev.congr (fun _ => if_pos h) k
theorem evNeg {α : Type} {c : Prop} [Decidable c] {f g : Nat → Option α} {r : α} (h : ¬ c) (k : Ev g r) : Ev (fun n => if c then f n else g n) r :=
  Ev.congr (fun _ => if_neg h) k
theorem evBnd {α β : Type} {o : Option α} {f : Nat → α → Option β} {a : α} {r : β} (h : o = some a) (k : Ev (fun n => f n a) r) : Ev (fun n => o.bind (f n)) r :=
  Ev.congr (fun n => by rw [h]; rfl) k
theorem evNow {α : Type} {g : Nat → Option α} {r : α} (h : ∀ n, g n = some r) : Ev g r := ⟨0, fun n _ => h n⟩

/-! ### numbers -/
theorem w64 {x : Int} (h0 : -9223372036854775808 ≤ x) (h1 : x ≤ 9223372036854775807) : wrap64 x = x := by
  unfold wrap64; omega

/-! ### bytes as lists -/
def L (s : ByteArray) : List UInt8 := s.data.toList
def mkB (l : List UInt8) : ByteArray := ⟨l.toArray⟩
theorem L_mk (l : List UInt8) : L (mkB l) = l := by simp [L, mkB]
theorem L_lit (a : Array UInt8) : L (⟨a⟩ : ByteArray) = a.toList := rfl
theorem mk_L (s : ByteArray) : mkB (L s) = s := Lib.mk_data s
theorem L_inj {s t : ByteArray} (h : L s = L t) : s = t := by rw [← mk_L s, ← mk_L t, h]
theorem sz (s : ByteArray) : s.size = (L s).length := Lib.size_eq s
theorem tl (s : ByteArray) : s.toList = L s := Lib.toList_data s
theorem L_app (s t : ByteArray) : L (s ++ t) = L s ++ L t := by simp [L]
theorem L_ext (s : ByteArray) (a b : Nat) : L (s.extract a b) = ((L s).drop a).take (b - a) := Lib.extract_data s a b
theorem L_pre (s : ByteArray) (k : Nat) : L (s.extract 0 k) = (L s).take k := by rw [L_ext]; simp
theorem L_suf (s : ByteArray) (k : Nat) : L (s.extract k s.size) = (L s).drop k := by
  rw [L_ext, sz, List.take_of_length_le (by simp)]
theorem bt_L (s : ByteArray) (i : Nat) (h : i < (L s).length) : bt s (i : Int) = ((L s)[i].toNat : Int) := by
  have h' : (i : Int).toNat < s.size := by rw [sz]; simpa using h
  unfold bt
  rw [dif_pos h']
  simp [ByteArray.getElem_eq_getElem_data, L]
theorem bt_mk (l : List UInt8) (i : Nat) (h : i < l.length) : bt (mkB l) (i : Int) = (l[i].toNat : Int) := by
  have := bt_L (mkB l) i (by rw [L_mk]; exact h)
  simpa [L_mk] using this
theorem bt_head (c : UInt8) (l : List UInt8) : bt (mkB (c :: l)) 0 = (c.toNat : Int) := by
  have := bt_mk (c :: l) 0 (by simp)
  simpa using this
theorem u8_eq (c : UInt8) (n : Nat) (hn : n < 256) : ((c.toNat : Int) = (n : Int)) ↔ c = UInt8.ofNat n := by
  constructor
  · intro h
    have h2 : c.toNat = n := by omega
    rw [← h2]; simp
  · rintro rfl
    simp [Nat.mod_eq_of_lt hn]

/-! ### trimming -/
def sp : List UInt8 := [32, 9, 13]
def isSp (c : UInt8) : Bool := sp.contains c
def dropR (p : UInt8 → Bool) (l : List UInt8) : List UInt8 := (l.reverse.dropWhile p).reverse
def trim (l : List UInt8) : List UInt8 := (dropR isSp l).dropWhile isSp
theorem trim_lib (l : List UInt8) : Lib.trimS l [32, 9, 13] = trim l := rfl
theorem dropR_nil (p : UInt8 → Bool) : dropR p [] = [] := rfl
theorem dropR_cons (p : UInt8 → Bool) (a : UInt8) (l : List UInt8) : dropR p (a :: l) = if dropR p l = [] ∧ p a = true then [] else a :: dropR p l := by
  unfold dropR
  rw [List.reverse_cons, List.dropWhile_append]
  by_cases h : (l.reverse.dropWhile p).isEmpty = true
  · rw [if_pos h]
    have h' : l.reverse.dropWhile p = [] := by simpa using h
    rw [h']
    by_cases hp : p a = true
    · simp [hp]
    · simp [hp]
  · rw [if_neg h]
    have h' : l.reverse.dropWhile p ≠ [] := by simpa using h
    simp [h']
theorem dropR_comm (p : UInt8 → Bool) (l : List UInt8) : (dropR p l).dropWhile p = dropR p (l.dropWhile p) := by
  induction l with
  | nil => rfl
  | cons a l ih =>
    rw [dropR_cons]
    by_cases hp : p a = true
    · rw [List.dropWhile_cons_of_pos hp, ← ih]
      by_cases h : dropR p l = []
      · rw [if_pos ⟨h, hp⟩, h]
      · rw [if_neg (fun e => h e.1), List.dropWhile_cons_of_pos hp]
    · rw [List.dropWhile_cons_of_neg hp, dropR_cons, if_neg (fun e => hp e.2), List.dropWhile_cons_of_neg hp]
theorem dropR_last (p : UInt8 → Bool) (l : List UInt8) (c : UInt8) : dropR p (l ++ [c]) = if p c = true then dropR p l else l ++ [c] := by
  unfold dropR
  rw [List.reverse_append, List.reverse_cons, List.reverse_nil, List.nil_append, List.singleton_append]
  by_cases h : p c = true
  · rw [if_pos h, List.dropWhile_cons_of_pos h]
  · rw [if_neg h, List.dropWhile_cons_of_neg h]; simp
theorem trim_len (l : List UInt8) : (trim l).length ≤ l.length := by
  unfold trim dropR
  have h1 := (List.dropWhile_suffix isSp (l := (l.reverse.dropWhile isSp).reverse)).length_le
  have h2 := (List.dropWhile_suffix isSp (l := l.reverse)).length_le
  simp at h1 h2
  simp
  omega
/-- nothing to trim at either end. -/
def clean (l : List UInt8) : Prop := (∀ c, l.head? = some c → isSp c = false) ∧ (∀ c, l.getLast? = some c → isSp c = false)
theorem dropR_clean {l : List UInt8} (h : ∀ c, l.getLast? = some c → isSp c = false) : dropR isSp l = l := by
  rcases List.eq_nil_or_concat l with rfl | ⟨l', c, rfl⟩
  · rfl
  · rw [List.concat_eq_append] at *
    rw [dropR_last, if_neg (by rw [h c (by simp)]; simp)]
theorem dropW_clean {l : List UInt8} (h : ∀ c, l.head? = some c → isSp c = false) : l.dropWhile isSp = l := by
  cases l with
  | nil => rfl
  | cons a l => rw [List.dropWhile_cons_of_neg (by rw [h a rfl]; simp)]
theorem trim_clean {l : List UInt8} (h : clean l) : trim l = l := by
  unfold trim; rw [dropR_clean h.2, dropW_clean h.1]
theorem mem_tw {p : UInt8 → Bool} {l : List UInt8} {c : UInt8} (h : c ∈ l.takeWhile p) : p c = true := by
  induction l with
  | nil => cases h
  | cons a l ih =>
    by_cases hp : p a = true
    · rw [List.takeWhile_cons_of_pos hp] at h
      rcases List.mem_cons.1 h with h | h
      · exact h ▸ hp
      · exact ih h
    · rw [List.takeWhile_cons_of_neg hp] at h; cases h
theorem dropR_pre (p : UInt8 → Bool) (l : List UInt8) : ∃ t, l = dropR p l ++ t ∧ ∀ c ∈ t, p c = true := by
  refine ⟨(l.reverse.takeWhile p).reverse, ?_, ?_⟩
  · unfold dropR
    rw [← List.reverse_append, List.takeWhile_append_dropWhile, List.reverse_reverse]
  · intro c hc
    rw [List.mem_reverse] at hc
    exact mem_tw hc
theorem dropW_head (p : UInt8 → Bool) (l : List UInt8) : ∀ c, (l.dropWhile p).head? = some c → p c = false := by
  intro c hc
  induction l with
  | nil => cases hc
  | cons a l ih =>
    by_cases hp : p a = true
    · rw [List.dropWhile_cons_of_pos hp] at hc; exact ih hc
    · rw [List.dropWhile_cons_of_neg hp] at hc
      have : a = c := by simpa using hc
      subst this
      simpa using hp
theorem dropR_end (p : UInt8 → Bool) (l : List UInt8) : ∀ c, (dropR p l).getLast? = some c → p c = false := by
  intro c hc
  unfold dropR at hc
  rw [List.getLast?_reverse] at hc
  exact dropW_head p _ c hc
theorem dropW_last (p : UInt8 → Bool) (l : List UInt8) (h : l.dropWhile p ≠ []) : (l.dropWhile p).getLast? = l.getLast? := by
  conv => rhs; rw [← List.takeWhile_append_dropWhile (p := p) (l := l)]
  rw [List.getLast?_append]
  cases hl : (l.dropWhile p).getLast? with
  | none => exact absurd (List.getLast?_eq_none_iff.1 hl) h
  | some c => rfl
theorem clean_trim (l : List UInt8) : clean (trim l) := by
  refine ⟨dropW_head isSp _, ?_⟩
  intro c hc
  unfold trim at hc
  by_cases h : (dropR isSp l).dropWhile isSp = []
  · rw [h] at hc; cases hc
  · rw [dropW_last _ _ h] at hc
    exact dropR_end _ _ c hc
theorem trim_trim (l : List UInt8) : trim (trim l) = trim l := trim_clean (clean_trim l)
/-- A text is blanks, what trim leaves, blanks. -/
theorem trim_parts (l : List UInt8) : ∃ a b, l = a ++ trim l ++ b ∧ (∀ c ∈ a, isSp c = true) ∧ (∀ c ∈ b, isSp c = true) := by
  obtain ⟨b, hb, hbs⟩ := dropR_pre isSp l
  refine ⟨(dropR isSp l).takeWhile isSp, b, ?_, fun c hc => mem_tw hc, hbs⟩
  unfold trim
  rw [List.takeWhile_append_dropWhile]
  exact hb
theorem dropR_blank {p : UInt8 → Bool} {b : List UInt8} (hb : ∀ c ∈ b, p c = true) (l : List UInt8) : dropR p (l ++ b) = dropR p l := by
  unfold dropR
  rw [List.reverse_append, List.dropWhile_append_of_pos (by simpa using hb)]
theorem dropW_blank {p : UInt8 → Bool} {a : List UInt8} (ha : ∀ c ∈ a, p c = true) (l : List UInt8) : (a ++ l).dropWhile p = l.dropWhile p :=
  List.dropWhile_append_of_pos ha
theorem trim_blanks {a b l : List UInt8} (ha : ∀ c ∈ a, isSp c = true) (hb : ∀ c ∈ b, isSp c = true) : trim (a ++ l ++ b) = trim l := by
  unfold trim
  rw [dropR_blank hb, dropR_comm, dropR_comm, dropW_blank ha]
theorem trim_wrap {a b l : List UInt8} (ha : ∀ c ∈ a, isSp c = true) (hb : ∀ c ∈ b, isSp c = true) (hl : clean l) : trim (a ++ l ++ b) = l := by
  rw [trim_blanks ha hb, trim_clean hl]

/-! ### what a line says, without comments -/
def cut (c : UInt8) (l : List UInt8) : List UInt8 := l.takeWhile (· != c)
def said (l : List UInt8) : List UInt8 := if (trim l).head? = some 35 then [] else trim (cut 59 l)
theorem cut_len (c : UInt8) (l : List UInt8) : (cut c l).length ≤ l.length := (List.takeWhile_prefix _).length_le
theorem said_len (l : List UInt8) : (said l).length ≤ l.length := by
  unfold said
  split
  · simp
  · exact Nat.le_trans (trim_len _) (cut_len _ _)
theorem cut_none {c : UInt8} {l : List UInt8} (h : c ∉ l) : cut c l = l := by
  induction l with
  | nil => rfl
  | cons a l ih =>
    have h1 : a ≠ c := fun e => h (by simp [e])
    have h2 : cut c l = l := ih (fun e => h (by simp [e]))
    unfold cut at h2 ⊢
    rw [List.takeWhile_cons_of_pos (by simpa using h1), h2]
theorem cut_at {c : UInt8} {a : List UInt8} (h : c ∉ a) (b : List UInt8) : cut c (a ++ c :: b) = a := by
  unfold cut
  rw [List.takeWhile_append_of_pos (by intro x hx; simpa using fun e : x = c => h (e ▸ hx))]
  simp
theorem cut_split (c : UInt8) (t : List UInt8) (h : c ∈ t) : ∃ y, t = cut c t ++ c :: y := by
  induction t with
  | nil => cases h
  | cons d t ih =>
    by_cases e : d = c
    · subst e; exact ⟨t, by simp [cut]⟩
    · have h2 : c ∈ t := by
        rcases List.mem_cons.1 h with h | h
        · exact absurd h.symm e
        · exact h
      obtain ⟨y, hy⟩ := ih h2
      refine ⟨y, ?_⟩
      have e2 : cut c (d :: t) = d :: cut c t := by unfold cut; rw [List.takeWhile_cons_of_pos (by simpa using e)]
      rw [e2, List.cons_append, ← hy]
theorem cut_not (c : UInt8) (l : List UInt8) : c ∉ cut c l := by
  unfold cut
  intro h
  have := mem_tw h
  simp at this
theorem cut_blanks {a l : List UInt8} (ha : ∀ c ∈ a, isSp c = true) : cut 59 (a ++ l) = a ++ cut 59 l := by
  unfold cut
  rw [List.takeWhile_append_of_pos]
  intro x hx
  have := ha x hx
  by_cases h : x = 59
  · subst h; exact absurd this (by decide)
  · simpa using h
theorem trim_cut (l : List UInt8) : trim (cut 59 l) = trim (cut 59 (trim l)) := by
  obtain ⟨a, b, h, ha, hb⟩ := trim_parts l
  generalize trim l = t at h
  subst h
  rw [List.append_assoc, cut_blanks ha]
  by_cases hc : (59 : UInt8) ∈ t
  · obtain ⟨y, hy⟩ := cut_split 59 t hc
    have hx := cut_not 59 t
    generalize cut 59 t = x at hy hx
    subst hy
    rw [show x ++ 59 :: y ++ b = x ++ 59 :: (y ++ b) by simp, cut_at hx]
    have := trim_blanks (l := x) ha (b := []) (by simp)
    simpa using this
  · rw [cut_none hc]
    have hc2 : (59 : UInt8) ∉ t ++ b := by
      intro h
      rcases List.mem_append.1 h with h | h
      · exact hc h
      · exact absurd (hb _ h) (by decide)
    rw [cut_none hc2, ← List.append_assoc, trim_blanks ha hb]
/-- As the document's answer has it: cut behind trimming, then look at the first byte. -/
theorem said_other (l : List UInt8) : (if (trim (cut 59 (trim l))).head? = some 35 then [] else trim (cut 59 (trim l))) = said l := by
  unfold said
  rw [trim_cut l]
  have hcl := clean_trim l
  generalize trim l = t at hcl ⊢
  have hh : (trim (cut 59 t)).head? = some 35 ↔ t.head? = some 35 := by
    cases t with
    | nil => simp [cut, trim, dropR]
    | cons d t =>
      have hd : isSp d = false := hcl.1 d rfl
      by_cases h59 : d = 59
      · subst h59
        constructor
        · intro h; simp [cut, trim, dropR] at h
        · intro h; simp at h
      · have e : cut 59 (d :: t) = d :: cut 59 t := by unfold cut; rw [List.takeWhile_cons_of_pos (by simpa using h59)]
        rw [e]
        unfold trim
        rw [dropR_cons, if_neg (by rw [hd]; simp), List.dropWhile_cons_of_neg (by rw [hd]; simp)]
        simp
  by_cases h : t.head? = some 35
  · rw [if_pos h, if_pos (hh.2 h)]
  · rw [if_neg h, if_neg (fun e => h (hh.1 e))]
theorem clean_said (l : List UInt8) : clean (said l) := by
  unfold said
  split
  · exact ⟨(fun c h => by cases h), (fun c h => by cases h)⟩
  · exact clean_trim _

/-! ### lines -/
def stroke (l : List UInt8) : Bool := l.getLast? == some 92
def strip (l : List UInt8) : List UInt8 := if stroke l then l.dropLast else l
/-- The pieces of a text between its line ends. -/
def pieces : List UInt8 → List (List UInt8)
  | [] => [[]]
  | c :: l => if c = 10 then [] :: pieces l else match pieces l with
    | [] => [[c]]
    | p :: ps => (c :: p) :: ps
theorem pieces_ne (l : List UInt8) : pieces l ≠ [] := by
  cases l with
  | nil => simp [pieces]
  | cons c l =>
    unfold pieces
    split
    · simp
    · split <;> simp
def flat : List (List UInt8) → List UInt8
  | [] => []
  | p :: ps => p ++ 10 :: flat ps
theorem flat_pieces (l : List UInt8) : flat (pieces l) = l ++ [10] := by
  induction l with
  | nil => rfl
  | cons c l ih =>
    unfold pieces
    by_cases h : c = 10
    · rw [if_pos h]; simp [flat, ih, h]
    · rw [if_neg h]
      cases hp : pieces l with
      | nil => exact absurd hp (pieces_ne l)
      | cons p ps =>
        rw [hp] at ih
        simp only [flat] at ih ⊢
        rw [List.cons_append, ih]; rfl
theorem pieces_no10 (l : List UInt8) : ∀ p ∈ pieces l, (10 : UInt8) ∉ p := by
  induction l with
  | nil => intro p hp; simp [pieces] at hp; simp [hp]
  | cons c l ih =>
    intro p hp
    unfold pieces at hp
    by_cases h : c = 10
    · rw [if_pos h] at hp
      rcases List.mem_cons.1 hp with rfl | hp
      · simp
      · exact ih p hp
    · rw [if_neg h] at hp
      cases hq : pieces l with
      | nil => exact absurd hq (pieces_ne l)
      | cons q qs =>
        rw [hq] at hp ih
        simp only at hp
        rcases List.mem_cons.1 hp with rfl | hp
        · intro h10
          rcases List.mem_cons.1 h10 with h10 | h10
          · exact h h10.symm
          · exact ih q (by simp) h10
        · exact ih p (by simp [hp])
theorem pieces_len (l : List UInt8) : (pieces l).length ≤ l.length + 1 := by
  induction l with
  | nil => simp [pieces]
  | cons c l ih =>
    unfold pieces
    by_cases h : c = 10
    · rw [if_pos h]; simp; omega
    · rw [if_neg h]
      cases hq : pieces l with
      | nil => simp
      | cons q qs => rw [hq] at ih; simp at ih ⊢; omega
/-- all bytes of some pieces. -/
def tot : List (List UInt8) → Nat
  | [] => 0
  | p :: ps => p.length + tot ps
theorem tot_le (l : List UInt8) : tot (pieces l) ≤ l.length := by
  induction l with
  | nil => simp [pieces, tot]
  | cons c l ih =>
    unfold pieces
    by_cases h : c = 10
    · rw [if_pos h]; simp [tot]; omega
    · rw [if_neg h]
      cases hq : pieces l with
      | nil => exact absurd hq (pieces_ne l)
      | cons q qs => rw [hq] at ih; simp [tot] at ih ⊢; omega
theorem tot_drop (ps : List (List UInt8)) (i : Nat) : tot (ps.drop i) ≤ tot ps := by
  induction ps generalizing i with
  | nil => simp
  | cons p ps ih =>
    cases i with
    | zero => simp
    | succ i => have := ih i; simp [tot]; omega
/-- Lines: what each says, its number. ps: the pieces that are left; acc: what a longer line has till now; first, num: where it begins, the next piece's number. -/
def go : List (List UInt8) → List UInt8 → Int → Int → List (Int × List UInt8) → List (Int × List UInt8) × Int × Int
  | [], _, _, _, out => (out, 0, 0)
  | p :: ps, acc, first, num, out =>
    if stroke p = true ∧ ps ≠ [] then go ps (acc ++ p.dropLast) first (num + 1) out
    else if said (acc ++ strip p) = [] then go ps [] (num + 1) (num + 1) out
    else if (said (acc ++ strip p)).length > 4096 then ([], first, 2)
    else go ps [] (num + 1) (num + 1) (out ++ [(first, said (acc ++ strip p))])
def linesOf (l : List UInt8) : List (Int × List UInt8) × Int × Int := if l.length > 65536 then ([], 0, 2) else go (pieces l) [] 1 1 []

/-! ### the library's functions -/
theorem index_one (c : UInt8) (l : List UInt8) : (c ∉ l ∧ Lib.index l [c] = -1) ∨ (∃ a b, l = a ++ c :: b ∧ c ∉ a ∧ Lib.index l [c] = (a.length : Int)) := by
  induction l with
  | nil => exact .inl ⟨by simp, rfl⟩
  | cons d l ih =>
    by_cases h : d = c
    · subst h
      refine .inr ⟨[], l, rfl, by simp, ?_⟩
      rw [Lib.index, if_pos (by simp [List.isPrefixOf])]; rfl
    · have hp : ([c] : List UInt8).isPrefixOf (d :: l) = false := by simp [List.isPrefixOf, Ne.symm h]
      rw [Lib.index, if_neg (by rw [hp]; simp)]
      rcases ih with ⟨hn, hi⟩ | ⟨a, b, rfl, ha, hi⟩
      · refine .inl ⟨fun hc => ?_, by rw [hi]; rfl⟩
        rcases List.mem_cons.1 hc with hc | hc
        · exact h hc.symm
        · exact hn hc
      · refine .inr ⟨d :: a, b, rfl, fun hc => ?_, ?_⟩
        · rcases List.mem_cons.1 hc with hc | hc
          · exact h hc.symm
          · exact ha hc
        · rw [hi, if_neg (by simp <;> omega)]
          simp
theorem lib_cut (c : UInt8) (l : List UInt8) : (Lib.cut l [c]).1 = cut c l := by
  unfold Lib.cut
  rcases index_one c l with ⟨hn, hi⟩ | ⟨a, b, rfl, ha, hi⟩
  · rw [hi, if_neg (by omega), cut_none hn]
  · rw [hi, if_pos (by omega), cut_at ha]
    simp
theorem splitK_pieces : ∀ (l : List UInt8), Lib.splitK [10] 0 (Lib.count l [10]) l = pieces l := by
  intro l
  induction l with
  | nil => rfl
  | cons c l ih =>
    by_cases h : c = 10
    · subst h
      rw [Lib.count_cons_eq, Nat.add_comm, Lib.splitK]
      have hi : Lib.index (10 :: l) [10] = 0 := by rw [Lib.index, if_pos (by simp [List.isPrefixOf])]
      rw [hi, if_neg (by decide)]
      unfold pieces
      rw [if_pos rfl]
      simpa using ih
    · rw [Lib.count_cons_ne c 10 l h]
      have hp : ([10] : List UInt8).isPrefixOf (c :: l) = false := by simp [List.isPrefixOf, Ne.symm h]
      unfold pieces
      rw [if_neg h, ← ih]
      cases hk : Lib.count l [10] with
      | zero => rfl
      | succ k =>
        rw [Lib.splitK, Lib.splitK]
        rcases index_one 10 l with ⟨hn, hi⟩ | ⟨a, b, hl, ha, hi⟩
        · have hi2 : Lib.index (c :: l) [10] = -1 := by rw [Lib.index, if_neg (by rw [hp]; simp), hi]; rfl
          rw [hi, hi2]; rfl
        · have hi2 : Lib.index (c :: l) [10] = (a.length : Int) + 1 := by
            rw [Lib.index, if_neg (by rw [hp]; simp), hi, if_neg (by simp <;> omega)]
          rw [hi, hi2, if_neg (by simp <;> omega), if_neg (by simp <;> omega)]
          have e1 : ((a.length : Int) + 1).toNat = a.length + 1 := by omega
          have e2 : ((a.length : Int)).toNat = a.length := by omega
          rw [e1, e2]
          simp
theorem split_pieces (s : ByteArray) : (Lib.splitB (⟨#[10]⟩ : ByteArray) 0 (Lib.countB s (⟨#[10]⟩ : ByteArray)) s).map L = pieces (L s) := by
  have := Lib.splitB_data (⟨#[10]⟩ : ByteArray) 0 (Lib.countB s (⟨#[10]⟩ : ByteArray)) s
  refine Eq.trans ?_ (splitK_pieces (L s))
  exact this
end Go.Proofs.YtefjppdchgdjlaaDoor.T
