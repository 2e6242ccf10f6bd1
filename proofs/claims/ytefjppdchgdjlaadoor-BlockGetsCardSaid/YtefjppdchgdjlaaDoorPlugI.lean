/- Plugs, part I: strings.IndexAny at a cutset of ASCII bytes and ANY text (the shelf asks an ASCII text). -/
import Derived.Test.YtefjppdchgdjlaaDoorPlug
import Derived.Laws.RangeAny
import Derived.WalkMore
import Derived.Lib.OthersKept
namespace Go.Proofs.YtefjppdchgdjlaaDoor.P
open Go.RowKit Go.Shelf Go.Lib Go.Proofs.YtefjppdchgdjlaaDoorW.PrintWords Go.Proofs.YtefjppdchgdjlaaDoorW.PrintLast

theorem encode_high (r : Int) (h0 : 128 ≤ r) :
    (∃ b0 b1 : UInt8, Utf8.encode r = ⟨#[b0, b1]⟩ ∧ 128 ≤ b1.toNat) ∨ (∃ b0 b1 b2 : UInt8, Utf8.encode r = ⟨#[b0, b1, b2]⟩ ∧ 128 ≤ b2.toNat) ∨
      (∃ b0 b1 b2 b3 : UInt8, Utf8.encode r = ⟨#[b0, b1, b2, b3]⟩ ∧ 128 ≤ b3.toNat) := by
  have hb : ∀ c : Nat, 128 ≤ (UInt8.ofNat (0x80 + c % 64)).toNat := fun c => by
    rw [UInt8.toNat_ofNat']; omega
  unfold Utf8.encode
  have hc : ∃ c : Nat, (if Utf8.valid r then r.toNat else Utf8.runeError) = c ∧ 128 ≤ c := by
    refine ⟨_, rfl, ?_⟩
    split
    · omega
    · decide
  obtain ⟨c, hc, hc1⟩ := hc
  simp only [hc]
  have h1 : ¬ c < 0x80 := by omega
  rw [if_neg h1]
  split
  · exact Or.inl ⟨_, _, rfl, hb _⟩
  · split
    · exact Or.inr (Or.inl ⟨_, _, _, rfl, hb _⟩)
    · exact Or.inr (Or.inr ⟨_, _, _, _, rfl, hb _⟩)

theorem indexByte_none : ∀ (l : List UInt8) (c : UInt8), (∀ b ∈ l, b.toNat < 128) → 128 ≤ c.toNat → Lib.indexByte l c = -1
  | [], _, _, _ => rfl
  | x :: l, c, h, hc => by
    have hx : x ≠ c := fun e => by have := h x List.mem_cons_self; rw [e] at this; omega
    have ih := indexByte_none l c (fun b hb => h b (List.mem_cons_of_mem _ hb)) hc
    unfold Lib.indexByte
    simp [hx, ih]
theorem size_list' (s : ByteArray) : s.data.toList.length = s.size := by rw [Array.length_toList]; rfl
set_option maxHeartbeats 4000000 in
set_option maxRecDepth 100000 in
theorem idxRune_valid2 (s : ByteArray) (hs : s.size < 4294967281) (ha : ∀ (j : Nat) b, s.data.toList[j]? = some b → b.toNat < 128) (r : Int) (h0 : 128 ≤ r) (hne : r ≠ 65533) (hv : Lib.validRune r = true)
    (b0 b1 : UInt8) (he : Utf8.encode r = ⟨#[b0, b1]⟩) (hb : 128 ≤ b1.toNat) (w : World) :
    Calls Tryd.prog 70 #[.string s, .int .i32 r] w fun e w' => e = .returned (.int .i64 (-1)) ∧ Drawn0 w w' := by
  have HA := Aside0.mk ha
  have HB := Aside0.mk hb
  have HI : Aside0 (∀ t : ByteArray, (∀ b ∈ t.data.toList, b.toNat < 128) → Lib.indexByte t.data.toList b1 = -1) := ⟨fun t ht => indexByte_none _ _ ht hb⟩
  have hval := Any.utf8_ValidRune { Tryd.lays153 with } r
  rw [hv] at hval
  have c1 : decide (r < 128) = false := decide_eq_false (by omega)
  have c2 : (r == 65533) = false := beq_eq_false_iff_ne.mpr hne
  have c0 : decide (0 ≤ r) = true := decide_eq_true (by omega)
  have hIB : ∀ (k : Nat) (c : Int) (hc : c = (b1.toNat : Int)) (w : World), Calls Tryd.prog 81 #[.string (s.extract k s.size), .int .u8 c] w fun e w' => e = .returned (.int .i64 (-1)) ∧ w' = w := by
    intro k c hc w
    rw [hc]
    have hh := Any.strings_IndexByte { Tryd.lays153 with } (s.extract k s.size) (b1.toNat : Int) w
    rw [show ((b1.toNat : Int)).toNat.toUInt8 = b1 by simp, HI.out _ (fun b hbm => ?_)] at hh
    · exact hh
    · obtain ⟨j, hj, rfl⟩ := List.getElem_of_mem hbm
      have hj' : j < (s.extract k s.size).size := by rw [← size_list']; exact hj
      have e1 : (s.extract k s.size).data.toList[j]? = s.data.toList[k + j]? := by
        rw [ByteArray.data_extract, Array.toList_extract]
        simp only [List.extract_eq_take_drop, List.getElem?_take, List.getElem?_drop]
        rw [if_pos]
        rw [ByteArray.size_extract] at hj'; omega
      exact HA.out (k + j) _ (by rw [← e1]; exact List.getElem?_eq_getElem hj)
  clear ha hb hv
  by_cases hl : 1 < s.size
  · have hlz : decide ((1 : Int) < (s.size : Int)) = true := decide_eq_true (by omega)
    have hlz' : decide (1 < s.size) = true := decide_eq_true hl
    have hx : (s[1]'hl).toNat < 128 := HA.out 1 _ (Lib.data_getElem? s 1 hl)
    have hq : (((s[1]'hl).toNat : Int) != (b1.toNat : Int)) = true := bne_iff_ne.mpr (by have := HB.out; omega)
    have hq2 : (((s[1]'hl).toNat : Int) == (b1.toNat : Int)) = false := beq_eq_false_iff_ne.mpr (by have := HB.out; omega)
    have hq3 : (((s[1]'hl).toNat : Int) != ((((⟨#[b0, b1]⟩ : ByteArray)[1]'(by show 1 < 2; omega)).toNat : Int))) = true := hq
    have hlT : ((1 : Int) < (s.size : Int)) = True := eq_true (by omega)
    have hlT' : (1 < s.size) = True := eq_true hl
    have hlS : ((2 : Int) ≤ (s.size : Int)) = True := eq_true (by omega)
    have hlS' : (2 ≤ s.size) = True := eq_true hl
    have hw2 : IntKind.i64.wrap 2 = 2 := by kernel_rfl
    clear h0 hne hx
    go_enter Tryd.func70, Tryd.ntmps70
    go_wp2_with (go_at_call 82; refine (hval _).mono ?_; rintro e w' ⟨rfl, hw⟩; rw [hw])
    repeat (go_quiet (fail); try go_wp2_with (go_at_call 82; refine (hval _).mono ?_; rintro e w' ⟨rfl, hw⟩; rw [hw]))
    go_step3
    go_wp2
    go_loopg [9, 10] 1 (fun kq v9 v10 wx => kq = 1 ∧ v9 = .int .i64 1 ∧ v10 = .int .i64 0 ∧ Drawn0 w wx)
    case atStart => exact ⟨rfl, rfl, rfl, by repeat (first | exact Drawn0.refl _ | apply Drawn0.step)⟩
    case round =>
      obtain ⟨rfl, rfl, rfl, ⟨m1, rfl⟩⟩ := hrel
      go_wp2
      go_step3
      go_wp2
      go_quiet (fail)
      go_wp2
      go_quiet (first | (go_at_call 81; refine (hIB _ _ (by rfl) _).mono fun e w'' h => ⟨h.1, _, h.2⟩))
      go_wp2
      go_simp
      go_ret
      exact ⟨rfl, by repeat (first | exact Drawn0.refl _ | apply Drawn0.step)⟩
  · have hlz : decide ((1 : Int) < (s.size : Int)) = false := decide_eq_false (by omega)
    have hlz' : decide (1 < s.size) = false := decide_eq_false hl
    clear h0 hne hIB
    go_enter Tryd.func70, Tryd.ntmps70
    go_wp2_with (go_at_call 82; refine (hval _).mono ?_; rintro e w' ⟨rfl, hw⟩; rw [hw])
    repeat (go_quiet (fail); try go_wp2_with (go_at_call 82; refine (hval _).mono ?_; rintro e w' ⟨rfl, hw⟩; rw [hw]))
    go_step3
    go_wp2
    go_loopg [9, 10] 1 (fun kq v9 v10 wx => kq = 1 ∧ v9 = .int .i64 1 ∧ v10 = .int .i64 0 ∧ Drawn0 w wx)
    case atStart => exact ⟨rfl, rfl, rfl, by repeat (first | exact Drawn0.refl _ | apply Drawn0.step)⟩
    case round =>
      obtain ⟨rfl, rfl, rfl, ⟨m1, rfl⟩⟩ := hrel
      go_wp2
      go_simp
      go_ret
      exact ⟨rfl, by repeat (first | exact Drawn0.refl _ | apply Drawn0.step)⟩
set_option maxHeartbeats 4000000 in
set_option maxRecDepth 100000 in
theorem idxRune_valid3 (s : ByteArray) (hs : s.size < 4294967281) (ha : ∀ (j : Nat) b, s.data.toList[j]? = some b → b.toNat < 128) (r : Int) (h0 : 128 ≤ r) (hne : r ≠ 65533) (hv : Lib.validRune r = true)
    (b0 b1 b2 : UInt8) (he : Utf8.encode r = ⟨#[b0, b1, b2]⟩) (hb : 128 ≤ b2.toNat) (w : World) :
    Calls Tryd.prog 70 #[.string s, .int .i32 r] w fun e w' => e = .returned (.int .i64 (-1)) ∧ Drawn0 w w' := by
  have HA := Aside0.mk ha
  have HB := Aside0.mk hb
  have HI : Aside0 (∀ t : ByteArray, (∀ b ∈ t.data.toList, b.toNat < 128) → Lib.indexByte t.data.toList b2 = -1) := ⟨fun t ht => indexByte_none _ _ ht hb⟩
  have hval := Any.utf8_ValidRune { Tryd.lays153 with } r
  rw [hv] at hval
  have c1 : decide (r < 128) = false := decide_eq_false (by omega)
  have c2 : (r == 65533) = false := beq_eq_false_iff_ne.mpr hne
  have c0 : decide (0 ≤ r) = true := decide_eq_true (by omega)
  have hIB : ∀ (k : Nat) (c : Int) (hc : c = (b2.toNat : Int)) (w : World), Calls Tryd.prog 81 #[.string (s.extract k s.size), .int .u8 c] w fun e w' => e = .returned (.int .i64 (-1)) ∧ w' = w := by
    intro k c hc w
    rw [hc]
    have hh := Any.strings_IndexByte { Tryd.lays153 with } (s.extract k s.size) (b2.toNat : Int) w
    rw [show ((b2.toNat : Int)).toNat.toUInt8 = b2 by simp, HI.out _ (fun b hbm => ?_)] at hh
    · exact hh
    · obtain ⟨j, hj, rfl⟩ := List.getElem_of_mem hbm
      have hj' : j < (s.extract k s.size).size := by rw [← size_list']; exact hj
      have e1 : (s.extract k s.size).data.toList[j]? = s.data.toList[k + j]? := by
        rw [ByteArray.data_extract, Array.toList_extract]
        simp only [List.extract_eq_take_drop, List.getElem?_take, List.getElem?_drop]
        rw [if_pos]
        rw [ByteArray.size_extract] at hj'; omega
      exact HA.out (k + j) _ (by rw [← e1]; exact List.getElem?_eq_getElem hj)
  clear ha hb hv
  by_cases hl : 2 < s.size
  · have hlz : decide ((2 : Int) < (s.size : Int)) = true := decide_eq_true (by omega)
    have hlz' : decide (2 < s.size) = true := decide_eq_true hl
    have hx : (s[2]'hl).toNat < 128 := HA.out 2 _ (Lib.data_getElem? s 2 hl)
    have hq : (((s[2]'hl).toNat : Int) != (b2.toNat : Int)) = true := bne_iff_ne.mpr (by have := HB.out; omega)
    have hq2 : (((s[2]'hl).toNat : Int) == (b2.toNat : Int)) = false := beq_eq_false_iff_ne.mpr (by have := HB.out; omega)
    have hq3 : (((s[2]'hl).toNat : Int) != ((((⟨#[b0, b1, b2]⟩ : ByteArray)[2]'(by show 2 < 3; omega)).toNat : Int))) = true := hq
    have hlT : ((2 : Int) < (s.size : Int)) = True := eq_true (by omega)
    have hlT' : (2 < s.size) = True := eq_true hl
    have hlS : ((3 : Int) ≤ (s.size : Int)) = True := eq_true (by omega)
    have hlS' : (3 ≤ s.size) = True := eq_true hl
    have hw2 : IntKind.i64.wrap 3 = 3 := by kernel_rfl
    clear h0 hne hx
    go_enter Tryd.func70, Tryd.ntmps70
    go_wp2_with (go_at_call 82; refine (hval _).mono ?_; rintro e w' ⟨rfl, hw⟩; rw [hw])
    repeat (go_quiet (fail); try go_wp2_with (go_at_call 82; refine (hval _).mono ?_; rintro e w' ⟨rfl, hw⟩; rw [hw]))
    go_step3
    go_wp2
    go_loopg [9, 10] 1 (fun kq v9 v10 wx => kq = 1 ∧ v9 = .int .i64 2 ∧ v10 = .int .i64 0 ∧ Drawn0 w wx)
    case atStart => exact ⟨rfl, rfl, rfl, by repeat (first | exact Drawn0.refl _ | apply Drawn0.step)⟩
    case round =>
      obtain ⟨rfl, rfl, rfl, ⟨m1, rfl⟩⟩ := hrel
      go_wp2
      go_step3
      go_wp2
      go_quiet (fail)
      go_wp2
      go_quiet (first | (go_at_call 81; refine (hIB _ _ (by rfl) _).mono fun e w'' h => ⟨h.1, _, h.2⟩))
      go_wp2
      go_simp
      go_ret
      exact ⟨rfl, by repeat (first | exact Drawn0.refl _ | apply Drawn0.step)⟩
  · have hlz : decide ((2 : Int) < (s.size : Int)) = false := decide_eq_false (by omega)
    have hlz' : decide (2 < s.size) = false := decide_eq_false hl
    clear h0 hne hIB
    go_enter Tryd.func70, Tryd.ntmps70
    go_wp2_with (go_at_call 82; refine (hval _).mono ?_; rintro e w' ⟨rfl, hw⟩; rw [hw])
    repeat (go_quiet (fail); try go_wp2_with (go_at_call 82; refine (hval _).mono ?_; rintro e w' ⟨rfl, hw⟩; rw [hw]))
    go_step3
    go_wp2
    go_loopg [9, 10] 1 (fun kq v9 v10 wx => kq = 1 ∧ v9 = .int .i64 2 ∧ v10 = .int .i64 0 ∧ Drawn0 w wx)
    case atStart => exact ⟨rfl, rfl, rfl, by repeat (first | exact Drawn0.refl _ | apply Drawn0.step)⟩
    case round =>
      obtain ⟨rfl, rfl, rfl, ⟨m1, rfl⟩⟩ := hrel
      go_wp2
      go_simp
      go_ret
      exact ⟨rfl, by repeat (first | exact Drawn0.refl _ | apply Drawn0.step)⟩
set_option maxHeartbeats 4000000 in
set_option maxRecDepth 100000 in
theorem idxRune_valid4 (s : ByteArray) (hs : s.size < 4294967281) (ha : ∀ (j : Nat) b, s.data.toList[j]? = some b → b.toNat < 128) (r : Int) (h0 : 128 ≤ r) (hne : r ≠ 65533) (hv : Lib.validRune r = true)
    (b0 b1 b2 b3 : UInt8) (he : Utf8.encode r = ⟨#[b0, b1, b2, b3]⟩) (hb : 128 ≤ b3.toNat) (w : World) :
    Calls Tryd.prog 70 #[.string s, .int .i32 r] w fun e w' => e = .returned (.int .i64 (-1)) ∧ Drawn0 w w' := by
  have HA := Aside0.mk ha
  have HB := Aside0.mk hb
  have HI : Aside0 (∀ t : ByteArray, (∀ b ∈ t.data.toList, b.toNat < 128) → Lib.indexByte t.data.toList b3 = -1) := ⟨fun t ht => indexByte_none _ _ ht hb⟩
  have hval := Any.utf8_ValidRune { Tryd.lays153 with } r
  rw [hv] at hval
  have c1 : decide (r < 128) = false := decide_eq_false (by omega)
  have c2 : (r == 65533) = false := beq_eq_false_iff_ne.mpr hne
  have c0 : decide (0 ≤ r) = true := decide_eq_true (by omega)
  have hIB : ∀ (k : Nat) (c : Int) (hc : c = (b3.toNat : Int)) (w : World), Calls Tryd.prog 81 #[.string (s.extract k s.size), .int .u8 c] w fun e w' => e = .returned (.int .i64 (-1)) ∧ w' = w := by
    intro k c hc w
    rw [hc]
    have hh := Any.strings_IndexByte { Tryd.lays153 with } (s.extract k s.size) (b3.toNat : Int) w
    rw [show ((b3.toNat : Int)).toNat.toUInt8 = b3 by simp, HI.out _ (fun b hbm => ?_)] at hh
    · exact hh
    · obtain ⟨j, hj, rfl⟩ := List.getElem_of_mem hbm
      have hj' : j < (s.extract k s.size).size := by rw [← size_list']; exact hj
      have e1 : (s.extract k s.size).data.toList[j]? = s.data.toList[k + j]? := by
        rw [ByteArray.data_extract, Array.toList_extract]
        simp only [List.extract_eq_take_drop, List.getElem?_take, List.getElem?_drop]
        rw [if_pos]
        rw [ByteArray.size_extract] at hj'; omega
      exact HA.out (k + j) _ (by rw [← e1]; exact List.getElem?_eq_getElem hj)
  clear ha hb hv
  by_cases hl : 3 < s.size
  · have hlz : decide ((3 : Int) < (s.size : Int)) = true := decide_eq_true (by omega)
    have hlz' : decide (3 < s.size) = true := decide_eq_true hl
    have hx : (s[3]'hl).toNat < 128 := HA.out 3 _ (Lib.data_getElem? s 3 hl)
    have hq : (((s[3]'hl).toNat : Int) != (b3.toNat : Int)) = true := bne_iff_ne.mpr (by have := HB.out; omega)
    have hq2 : (((s[3]'hl).toNat : Int) == (b3.toNat : Int)) = false := beq_eq_false_iff_ne.mpr (by have := HB.out; omega)
    have hq3 : (((s[3]'hl).toNat : Int) != ((((⟨#[b0, b1, b2, b3]⟩ : ByteArray)[3]'(by show 3 < 4; omega)).toNat : Int))) = true := hq
    have hlT : ((3 : Int) < (s.size : Int)) = True := eq_true (by omega)
    have hlT' : (3 < s.size) = True := eq_true hl
    have hlS : ((4 : Int) ≤ (s.size : Int)) = True := eq_true (by omega)
    have hlS' : (4 ≤ s.size) = True := eq_true hl
    have hw2 : IntKind.i64.wrap 4 = 4 := by kernel_rfl
    clear h0 hne hx
    go_enter Tryd.func70, Tryd.ntmps70
    go_wp2_with (go_at_call 82; refine (hval _).mono ?_; rintro e w' ⟨rfl, hw⟩; rw [hw])
    repeat (go_quiet (fail); try go_wp2_with (go_at_call 82; refine (hval _).mono ?_; rintro e w' ⟨rfl, hw⟩; rw [hw]))
    go_step3
    go_wp2
    go_loopg [9, 10] 1 (fun kq v9 v10 wx => kq = 1 ∧ v9 = .int .i64 3 ∧ v10 = .int .i64 0 ∧ Drawn0 w wx)
    case atStart => exact ⟨rfl, rfl, rfl, by repeat (first | exact Drawn0.refl _ | apply Drawn0.step)⟩
    case round =>
      obtain ⟨rfl, rfl, rfl, ⟨m1, rfl⟩⟩ := hrel
      go_wp2
      go_step3
      go_wp2
      go_quiet (fail)
      go_wp2
      go_quiet (first | (go_at_call 81; refine (hIB _ _ (by rfl) _).mono fun e w'' h => ⟨h.1, _, h.2⟩))
      go_wp2
      go_simp
      go_ret
      exact ⟨rfl, by repeat (first | exact Drawn0.refl _ | apply Drawn0.step)⟩
  · have hlz : decide ((3 : Int) < (s.size : Int)) = false := decide_eq_false (by omega)
    have hlz' : decide (3 < s.size) = false := decide_eq_false hl
    clear h0 hne hIB
    go_enter Tryd.func70, Tryd.ntmps70
    go_wp2_with (go_at_call 82; refine (hval _).mono ?_; rintro e w' ⟨rfl, hw⟩; rw [hw])
    repeat (go_quiet (fail); try go_wp2_with (go_at_call 82; refine (hval _).mono ?_; rintro e w' ⟨rfl, hw⟩; rw [hw]))
    go_step3
    go_wp2
    go_loopg [9, 10] 1 (fun kq v9 v10 wx => kq = 1 ∧ v9 = .int .i64 3 ∧ v10 = .int .i64 0 ∧ Drawn0 w wx)
    case atStart => exact ⟨rfl, rfl, rfl, by repeat (first | exact Drawn0.refl _ | apply Drawn0.step)⟩
    case round =>
      obtain ⟨rfl, rfl, rfl, ⟨m1, rfl⟩⟩ := hrel
      go_wp2
      go_simp
      go_ret
      exact ⟨rfl, by repeat (first | exact Drawn0.refl _ | apply Drawn0.step)⟩
set_option maxHeartbeats 4000000 in
set_option maxRecDepth 100000 in
theorem idxRune_bad (s : ByteArray) (r : Int) (h0 : 128 ≤ r) (hne : r ≠ 65533) (hv : Lib.validRune r = false) (w : World) :
    Calls Tryd.prog 70 #[.string s, .int .i32 r] w fun e w' => e = .returned (.int .i64 (-1)) ∧ Drawn0 w w' := by
  have hval := Any.utf8_ValidRune { Tryd.lays153 with } r
  rw [hv] at hval
  have c1 : decide (r < 128) = false := decide_eq_false (by omega)
  have c2 : (r == 65533) = false := beq_eq_false_iff_ne.mpr hne
  have c0 : decide (0 ≤ r) = true := decide_eq_true (by omega)
  clear h0 hne hv
  go_enter Tryd.func70, Tryd.ntmps70
  go_wp2_with (go_at_call 82; refine (hval _).mono ?_; rintro e w' ⟨rfl, hw⟩; rw [hw])
  repeat (go_quiet (fail); try go_wp2_with (go_at_call 82; refine (hval _).mono ?_; rintro e w' ⟨rfl, hw⟩; rw [hw]))
  go_simp
  go_ret
  exact ⟨rfl, by repeat (first | exact Drawn0.refl _ | apply Drawn0.step)⟩
set_option maxHeartbeats 4000000 in
set_option maxRecDepth 100000 in
theorem idxRune_error (s : ByteArray) (ha : ∀ (j : Nat) b, s.data.toList[j]? = some b → b.toNat < 128) (w : World) :
    Calls Tryd.prog 70 #[.string s, .int .i32 65533] w fun e w' => e = .returned (.int .i64 (-1)) ∧ Below w.heap.size w w' := by
  have HA := Aside0.mk ha
  clear ha
  go_enter Tryd.func70, Tryd.ntmps70
  go_wp2
  repeat (go_quiet (fail); try go_wp2)
  go_loopg [5, 6] s.size (fun g _ _ wx => ∃ i : Nat, i + g = s.size ∧ wx = w.iter s i)
  case atStart => exact ⟨0, by omega, rfl⟩
  case round =>
    obtain ⟨i, hig, rfl⟩ := hrel
    cases gk with
    | zero =>
      obtain rfl : i = s.size := by omega
      have hnx := run_next_end (P := Tryd.prog) w s s.size
      go_wp2
      go_simp
      go_ret
      exact ⟨rfl, (Below.refl _ _).alloc (Nat.le_refl _) _⟩
    | succ g =>
      have hi : i < s.size := by omega
      obtain ⟨x, hx⟩ : ∃ x : UInt8, s[i]'hi = x := ⟨_, rfl⟩
      have hx128 : x.toNat < 128 := HA.out i x (by rw [← hx]; exact Lib.data_getElem? s i hi)
      have hnx := fun ty => run_next_ascii (P := Tryd.prog) w s i ty hi (by rw [hx]; exact hx128)
      rw [hx] at hnx
      have hq : ((x.toNat : Int) == 65533) = false := beq_eq_false_iff_ne.mpr (by omega)
      clear hx hx128
      go_wp2
      go_roundg g
      case measure => omega
      case rel => exact ⟨i + 1, by omega, rfl⟩
theorem idxRune_high (s : ByteArray) (hs : s.size < 4294967281) (ha : ∀ (j : Nat) b, s.data.toList[j]? = some b → b.toNat < 128) (r : Int) (h0 : 128 ≤ r) (w : World) :
    Calls Tryd.prog 70 #[.string s, .int .i32 r] w fun e w' => e = .returned (.int .i64 (-1)) ∧ Below w.heap.size w w' := by
  by_cases he : r = 65533
  · rw [he]; exact idxRune_error s ha w
  · cases hv : Lib.validRune r with
    | false => exact (idxRune_bad s r h0 he hv w).mono fun e w' h => ⟨h.1, h.2.below⟩
    | true =>
      rcases encode_high r h0 with ⟨b0, b1, e, hb⟩ | ⟨b0, b1, b2, e, hb⟩ | ⟨b0, b1, b2, b3, e, hb⟩
      · exact (idxRune_valid2 s hs ha r h0 he hv b0 b1 e hb w).mono fun e w' h => ⟨h.1, h.2.below⟩
      · exact (idxRune_valid3 s hs ha r h0 he hv b0 b1 b2 e hb w).mono fun e w' h => ⟨h.1, h.2.below⟩
      · exact (idxRune_valid4 s hs ha r h0 he hv b0 b1 b2 b3 e hb w).mono fun e w' h => ⟨h.1, h.2.below⟩
/-- What a high byte's decoding goes over holds high bytes alone. -/
theorem decode_over (s : ByteArray) (pos : Nat) (h : pos < s.size) (ha : 128 ≤ (s[pos]'h).toNat) :
    1 ≤ (Utf8.decode s pos).2 ∧ pos + (Utf8.decode s pos).2 ≤ s.size ∧ ∀ k, k < (Utf8.decode s pos).2 → ∀ hk : pos + k < s.size, 128 ≤ (s[pos + k]'hk).toNat := by
  have hget : ∀ k (hk : pos + k < s.size), s.get! (pos + k) = s[pos + k]'hk := fun k hk => by
    show s.get! (pos + k) = _
    simp [ByteArray.get!, getElem!_pos, hk]
    rfl
  have h0 : (s.get! (pos + 0)).toNat = (s[pos]'h).toNat := by rw [get_at s pos h]
  have hone : ∀ k, k < 1 → ∀ hk : pos + k < s.size, 128 ≤ (s[pos + k]'hk).toNat := fun k hk hk' => by
    obtain rfl : k = 0 := by omega
    exact ha
  have hc : ∀ k, (decide (pos + k < s.size) && (s.get! (pos + k)).toNat / 64 == 2) = true → pos + k < s.size ∧ ∀ hk : pos + k < s.size, 128 ≤ (s[pos + k]'hk).toNat := fun k e => by
    rw [Bool.and_eq_true, decide_eq_true_iff, beq_iff_eq] at e
    refine ⟨e.1, fun hk => ?_⟩
    rw [← hget k hk]; omega
  unfold Utf8.decode
  simp only [h0]
  rw [if_neg (by omega)]
  split
  · rename_i e
    rw [Bool.and_eq_true] at e
    have e1 := hc 1 e.2
    split
    · refine ⟨by show 1 ≤ 2; omega, e1.1, fun k hk hk' => ?_⟩
      have hk : k < 2 := hk
      rcases (by omega : k = 0 ∨ k = 1) with rfl | rfl
      · exact ha
      · exact e1.2 hk'
    · exact ⟨by decide, by show pos + 1 ≤ _; omega, hone⟩
  · split
    · rename_i e
      simp only [Bool.and_eq_true] at e
      have e1 := hc 1 (by simpa using e.1.2)
      have e2 := hc 2 (by simpa using e.2)
      split
      · refine ⟨by show 1 ≤ 3; omega, e2.1, fun k hk hk' => ?_⟩
        have hk : k < 3 := hk
        rcases (by omega : k = 0 ∨ k = 1 ∨ k = 2) with rfl | rfl | rfl
        · exact ha
        · exact e1.2 hk'
        · exact e2.2 hk'
      · exact ⟨by decide, by show pos + 1 ≤ _; omega, hone⟩
    · split
      · rename_i e
        simp only [Bool.and_eq_true] at e
        have e1 := hc 1 (by simpa using e.1.1.2)
        have e2 := hc 2 (by simpa using e.1.2)
        have e3 := hc 3 (by simpa using e.2)
        split
        · refine ⟨by show 1 ≤ 4; omega, e3.1, fun k hk hk' => ?_⟩
          have hk : k < 4 := hk
          rcases (by omega : k = 0 ∨ k = 1 ∨ k = 2 ∨ k = 3) with rfl | rfl | rfl | rfl
          · exact ha
          · exact e1.2 hk'
          · exact e2.2 hk'
          · exact e3.2 hk'
        · exact ⟨by decide, by show pos + 1 ≤ _; omega, hone⟩
      · exact ⟨by decide, by show pos + 1 ≤ _; omega, hone⟩
theorem noAny_over (s chars : ByteArray) (hac : ∀ (j : Nat) b, chars.data.toList[j]? = some b → b.toNat < 128) (i : Nat) (h : Lib.NoAny s.data.toList chars.data.toList i) :
    ∀ n, i + n ≤ s.size → (∀ k, k < n → ∀ hk : i + k < s.size, 128 ≤ (s[i + k]'hk).toNat) → Lib.NoAny s.data.toList chars.data.toList (i + n)
  | 0, _, _ => h
  | n + 1, hn, hh => by
    have ih := noAny_over s chars hac i h n (by omega) (fun k hk => hh k (by omega))
    have hlt : i + n < s.size := by omega
    refine Lib.NoAny.succ ih (Lib.data_getElem? s (i + n) hlt) ?_
    rw [Bool.eq_false_iff]
    intro hc
    rw [List.contains_iff_mem] at hc
    obtain ⟨j, hj, he⟩ := List.getElem_of_mem hc
    have := hac j _ (List.getElem?_eq_getElem hj)
    rw [he] at this
    have := hh n (by omega) hlt
    omega
set_option maxHeartbeats 8000000 in
set_option maxRecDepth 1000000 in
theorem indexAny_short (s chars : ByteArray) (w : World) (h2 : 2 ≤ chars.size) (hcs : chars.size < 4294967281) (h8 : s.size ≤ 8) (hac : ∀ (j : Nat) b, chars.data.toList[j]? = some b → b.toNat < 128) :
    Calls Tryd.prog 53 #[.string s, .string chars] w fun e w' => e = .returned (.int .i64 (Lib.indexAny s.data.toList chars.data.toList)) ∧ Below w.heap.size w w' := by
  have HA := Aside0.mk hac
  clear hac
  have hemp : chars.toList.isEmpty = false := by
    rw [Lib.toList_data]
    cases h : chars.data.toList with
    | nil => have := Lib.size_eq chars; rw [h, List.length_nil] at this; omega
    | cons _ _ => rfl
  have hn1 : ((chars.size : Int) == 1) = false := beq_eq_false_iff_ne.2 (by omega)
  have h8z : decide ((8 : Int) < (s.size : Int)) = false := decide_eq_false (by omega)
  have HC := Aside0.mk hcs
  clear hcs
  have HB := Aside0.mk (Below.refl w.heap.size w)
  go_enter Tryd.func53, Tryd.ntmps53
  go_wp2_with (go_at_call 71; refine (Any.strings_shouldUseASCIISet { Tryd.lays153 with } _ _).mono ?_; rintro e w' ⟨rfl, hw⟩; rw [hw, h8z])
  go_loopg [9, 10] s.size (fun g _ _ wx => ∃ i : Nat, Aside0 (i ≤ s.size ∧ s.size ≤ i + g) ∧ wx.heap[w.heap.size]? = some (.stringIter s i) ∧ Aside0 (Below w.heap.size w wx) ∧ Aside0 (Lib.NoAny s.data.toList chars.data.toList i))
  case atStart => exact ⟨0, ⟨by omega, by omega⟩, by simp [World.iter_heap], ⟨(Below.refl _ _).alloc (Nat.le_refl _) _⟩, ⟨Lib.NoAny.zero _ _⟩⟩
  case round =>
    clear HB
    obtain ⟨i, HI, hit, HB, HN⟩ := hrel
    by_cases hi : i < s.size
    · by_cases hx128 : (s[i]'hi).toNat < 128
      · obtain ⟨x, hx⟩ : ∃ x : UInt8, s[i]'hi = x := ⟨_, rfl⟩
        rw [hx] at hx128
        have Hx : Aside0 (s.data.toList[i]? = some x) := ⟨by rw [← hx]; exact Lib.data_getElem? s i hi⟩
        have hnx := fun ty => run_next_ascii_at (P := Tryd.prog) wr w.heap.size s i ty hit hi (by rw [hx]; exact hx128)
        rw [hx] at hnx
        have HB' : Aside0 (Below w.heap.size w (wr.iterAt w.heap.size s (i + 1))) := ⟨below_iterAt HB.out (Nat.le_refl _) s (i + 1)⟩
        have hit' := iterAt_heap wr w.heap.size s i (i + 1) hit
        have HI' : Aside0 (i < s.size) := ⟨hi⟩
        have hIR := fun W => Any.strings_IndexRune_ascii { Tryd.lays153 with } chars (x.toNat : Int) W (by omega) (by omega)
        rw [show ((x.toNat : Int)).toNat.toUInt8 = x by simp] at hIR
        have hcon := Lib.contains_iff_indexByte chars.data.toList x
        clear hit hx HB hi hx128
        cases hin : chars.data.toList.contains x with
        | false =>
          rw [hin] at hcon
          have hlt : decide ((0 : Int) ≤ Lib.indexByte chars.data.toList x) = false := hcon.symm
          have HN' : Aside0 (Lib.NoAny s.data.toList chars.data.toList (i + 1)) := ⟨HN.out.succ Hx.out hin⟩
          clear hcon hin
          go_wp2_with (go_at_call 70; refine (hIR _).mono ?_; rintro e w' ⟨rfl, hw⟩; rw [hw])
          go_roundg (s.size - (i + 1))
          case measure => have := HI.out; have := HI'.out; omega
          case rel => exact ⟨i + 1, ⟨by have := HI'.out; omega, by omega⟩, hit', HB', HN'⟩
        | true =>
          rw [hin] at hcon
          have hge : decide ((0 : Int) ≤ Lib.indexByte chars.data.toList x) = true := hcon.symm
          have HR : Aside0 (Lib.indexAny s.data.toList chars.data.toList = (i : Int)) := ⟨Lib.indexAny_hit HN.out Hx.out hin⟩
          clear hcon hin
          go_wp2_with (go_at_call 70; refine (hIR _).mono ?_; rintro e w' ⟨rfl, hw⟩; rw [hw])
          go_ret
          exact ⟨by rw [HR.out]; first | rfl | (simp; done) | (simp [*]; done), HB'.out⟩
      · have hd := decode_high s i hi (by omega)
        have hov := decode_over s i hi (by omega)
        have HN' : Aside0 (Lib.NoAny s.data.toList chars.data.toList (i + (Utf8.decode s i).2)) := ⟨noAny_over s chars HA.out i HN.out _ hov.2.1 hov.2.2⟩
        have hnx := fun ty => run_next_any_at (P := Tryd.prog) wr w.heap.size s i ty hit hi
        obtain ⟨c, hc⟩ : ∃ c, (Utf8.decode s i).1 = c := ⟨_, rfl⟩
        obtain ⟨n, hn⟩ : ∃ n, (Utf8.decode s i).2 = n := ⟨_, rfl⟩
        rw [hc, hn] at hnx
        rw [hn] at HN' hov
        rw [hc] at hd
        have HB' : Aside0 (Below w.heap.size w (wr.iterAt w.heap.size s (i + n))) := ⟨below_iterAt HB.out (Nat.le_refl _) s (i + n)⟩
        have hit' : Aside0 ((wr.iterAt w.heap.size s (i + n)).heap[w.heap.size]? = some (.stringIter s (i + n))) := ⟨iterAt_heap wr w.heap.size s i (i + n) hit⟩
        have hIR := fun W => idxRune_high chars HC.out HA.out (c : Int) (by omega) W
        have HI' : Aside0 (i < s.size ∧ 1 ≤ n ∧ i + n ≤ s.size) := ⟨⟨hi, hov.1, hov.2.1⟩⟩
        have hlt : decide ((0 : Int) ≤ -1) = false := rfl
        have hsz : Aside0 (w.heap.size < (wr.iterAt w.heap.size s (i + n)).heap.size) := ⟨(Array.getElem?_eq_some_iff.1 hit'.out).1⟩
        clear hit HB hi hx128 hd hov hc hn
        go_wp2_with (go_at_call 70; refine (hIR _).mono ?_; rintro e w4 ⟨rfl, hb4⟩; have HB4 := Aside0.mk (below_step HB'.out hb4); have hit4 : Aside0 (w4.heap[w.heap.size]? = some (.stringIter s (i + n))) := Aside0.mk ((hb4.block _ hsz.out).trans hit'.out); clear hb4)
        go_roundg (s.size - (i + n))
        case measure => have := HI.out; have := HI'.out; omega
        case rel => exact ⟨i + n, ⟨HI'.out.2.2, by omega⟩, hit4.out, HB4, HN'⟩
    · have hnx := fun ty => run_next_end_at (P := Tryd.prog) wr w.heap.size s i ty hit hi
      have HR : Aside0 (Lib.indexAny s.data.toList chars.data.toList = -1) := ⟨Lib.indexAny_none (by have := HI.out; rw [← Lib.size_eq, show s.size = i by omega]; exact HN.out)⟩
      clear hi HN
      go_wp2
      go_ret
      exact ⟨by rw [HR.out]; first | rfl | (simp; done) | (simp [*]; done), HB.out⟩
/-- strings.IndexAny at ASCII chars of two bytes or more, and any text. -/
theorem indexAny_any (s chars : ByteArray) (w : World) (h2 : 2 ≤ chars.size) (hs : s.size < 4294967281) (hcs : chars.size < 4294967281) (hac : ∀ (j : Nat) b, chars.data.toList[j]? = some b → b.toNat < 128) :
    Calls Tryd.prog 53 #[.string s, .string chars] w fun e w' => e = .returned (.int .i64 (Lib.indexAny s.data.toList chars.data.toList)) ∧ Below w.heap.size w w' := by
  by_cases h8 : s.size ≤ 8
  · exact indexAny_short s chars w h2 hcs h8 hac
  · have h116 : (Tryd.prog.info? (Tryd.lays153_ren.t 116)).map (fun i => (i.zero, i.size)) = some (some (.agg (Array.replicate 256 (.bool false))), 256) := by kernel_rfl
    refine (Any.strings_IndexAny_long Tryd.lays153 (zero_of_info h116).1 (zero_of_info h116).2 s chars w h2 (by omega) hs hcs hac).mono fun e w' ⟨h1, h3⟩ => ⟨h1, ?_⟩
    rw [h3]
    exact ((Below.refl _ _).alloc (Nat.le_refl _) _).alloc (by simp) _
/-! ### the plugs -/
def strings_IndexAny.f (a0 a1 : ByteArray) : Option Int := if a0.size < 4294967281 ∧ 2 ≤ a1.size ∧ a1.size < 4294967281 ∧ a1.data.toList.all (fun b => decide (b.toNat < 128)) = true then some (Lib.indexAny a0.data.toList a1.data.toList) else none
theorem strings_IndexAny.calls (a0 : ByteArray) (a1 : ByteArray) (r : Int) (w : World) (h : strings_IndexAny.f a0 a1 = some r) :
    Calls Tryd.prog 53 #[.string a0, .string a1] w fun e w' => e = .returned (.int .i64 r) ∧ Below w.heap.size w w' := by
  unfold strings_IndexAny.f at h
  split at h
  · rename_i hc
    obtain rfl := Option.some.inj h
    exact indexAny_any a0 a1 w hc.2.1 hc.1 hc.2.2.1 (ascii_of_all hc.2.2.2)
  · cases h
def strings_TrimLeft.f (a0 a1 : ByteArray) : Option ByteArray := if a1.size < 4294967281 ∧ a1.data.toList.all (fun b => decide (b.toNat < 128)) = true then some ⟨(Lib.trimLeftS a0.data.toList a1.data.toList).toArray⟩ else none
theorem strings_TrimLeft.calls (a0 : ByteArray) (a1 : ByteArray) (r : ByteArray) (w : World) (h : strings_TrimLeft.f a0 a1 = some r) :
    Calls Tryd.prog 42 #[.string a0, .string a1] w fun e w' => e = .returned (.string r) ∧ Below w.heap.size w w' := by
  unfold strings_TrimLeft.f at h
  split at h
  · rename_i hc
    obtain rfl := Option.some.inj h
    exact Any.strings_TrimLeft_laid Tryd.lays161 (by kernel_rfl) a0 a1 w hc.1 (ascii_of_all hc.2)
  · cases h
end Go.Proofs.YtefjppdchgdjlaaDoor.P
