/- Plugs of the block chapter, part B: all, word, Name (a function value without captured variables), Get. -/
import Derived.Test.YtefjppdchgdjlaaDoorPlug
import Derived.Test.YtefjppdchgdjlaaDoorPk
namespace Go.Proofs.YtefjppdchgdjlaaDoor.P
open Go.RowKit Go.Extern.Stop Go.Stop Go.Extern Go.Proofs.YtefjppdchgdjlaaDoorW.PrintWords Go.Proofs.YtefjppdchgdjlaaDoorW.PrintLast

def isSmall (c : Int) : Bool := decide (97 ≤ c) && decide (c ≤ 122)
def isDigit (c : Int) : Bool := decide (48 ≤ c) && decide (c ≤ 57)
theorem small_calls (c : Int) (w : World) : Calls Tryd.prog 31 #[.int .u8 c] w fun e w' => e = .returned (.bool (isSmall c)) ∧ Drawn0 w w' := by
  unfold isSmall
  by_cases h1 : 97 ≤ c
  · have b1 : decide (97 ≤ c) = true := decide_eq_true h1
    by_cases h2 : c ≤ 122
    · have b2 : decide (c ≤ 122) = true := decide_eq_true h2
      rw [b1, b2]; clear h1 h2
      go_enter Tryd.func31, Tryd.ntmps31
      go_wp2
      repeat (go_quiet (fail); try go_wp2)
      go_ret
      exact ⟨by first | rfl | (simp; done) | (simp [*]; done), by repeat (first | exact Drawn0.refl _ | apply Drawn0.step)⟩
    · have b2 : decide (c ≤ 122) = false := decide_eq_false h2
      rw [b1, b2]; clear h1 h2
      go_enter Tryd.func31, Tryd.ntmps31
      go_wp2
      repeat (go_quiet (fail); try go_wp2)
      go_ret
      exact ⟨by first | rfl | (simp; done) | (simp [*]; done), by repeat (first | exact Drawn0.refl _ | apply Drawn0.step)⟩
  · have b1 : decide (97 ≤ c) = false := decide_eq_false h1
    rw [b1]; clear h1
    go_enter Tryd.func31, Tryd.ntmps31
    go_wp2
    repeat (go_quiet (fail); try go_wp2)
    go_ret
    exact ⟨by first | rfl | (simp; done) | (simp [*]; done), by repeat (first | exact Drawn0.refl _ | apply Drawn0.step)⟩
theorem digit_calls (c : Int) (w : World) : Calls Tryd.prog 32 #[.int .u8 c] w fun e w' => e = .returned (.bool (isDigit c)) ∧ Drawn0 w w' := by
  unfold isDigit
  by_cases h1 : 48 ≤ c
  · have b1 : decide (48 ≤ c) = true := decide_eq_true h1
    by_cases h2 : c ≤ 57
    · have b2 : decide (c ≤ 57) = true := decide_eq_true h2
      rw [b1, b2]; clear h1 h2
      go_enter Tryd.func32, Tryd.ntmps32
      go_wp2
      repeat (go_quiet (fail); try go_wp2)
      go_ret
      exact ⟨by first | rfl | (simp; done) | (simp [*]; done), by repeat (first | exact Drawn0.refl _ | apply Drawn0.step)⟩
    · have b2 : decide (c ≤ 57) = false := decide_eq_false h2
      rw [b1, b2]; clear h1 h2
      go_enter Tryd.func32, Tryd.ntmps32
      go_wp2
      repeat (go_quiet (fail); try go_wp2)
      go_ret
      exact ⟨by first | rfl | (simp; done) | (simp [*]; done), by repeat (first | exact Drawn0.refl _ | apply Drawn0.step)⟩
  · have b1 : decide (48 ≤ c) = false := decide_eq_false h1
    rw [b1]; clear h1
    go_enter Tryd.func32, Tryd.ntmps32
    go_wp2
    repeat (go_quiet (fail); try go_wp2)
    go_ret
    exact ⟨by first | rfl | (simp; done) | (simp [*]; done), by repeat (first | exact Drawn0.refl _ | apply Drawn0.step)⟩

/-- What block.word asks of a byte. -/
def isWordB (c : Int) : Bool := isSmall c || isDigit c || c == 95
theorem word1_calls (c : Int) (w : World) : Calls Tryd.prog 54 #[.int .u8 c] w fun e w' => e = .returned (.bool (isWordB c)) ∧ Drawn0 w w' := by
  unfold isWordB
  have hs := small_calls c
  have hd := digit_calls c
  cases h1 : isSmall c with
  | true =>
    rw [h1] at hs
    go_enter Tryd.func54, Tryd.ntmps54
    go_wp2_with (go_at_call 31; refine (hs _).mono ?_; rintro e w' ⟨rfl, q, rfl⟩)
    repeat (go_quiet (fail); try go_wp2)
    go_ret
    exact ⟨by first | rfl | (simp; done) | (simp [*]; done), by repeat (first | exact Drawn0.refl _ | apply Drawn0.step)⟩
  | false =>
    rw [h1] at hs
    cases h2 : isDigit c with
    | true =>
      rw [h2] at hd
      go_enter Tryd.func54, Tryd.ntmps54
      go_wp2_with (first | (go_at_call 31; refine (hs _).mono ?_; rintro e w' ⟨rfl, q, rfl⟩) | (go_at_call 32; refine (hd _).mono ?_; rintro e w' ⟨rfl, q, rfl⟩))
      repeat (go_quiet (fail); try go_wp2)
      go_ret
      exact ⟨by first | rfl | (simp; done) | (simp [*]; done), by repeat (first | exact Drawn0.refl _ | apply Drawn0.step)⟩
    | false =>
      rw [h2] at hd
      go_enter Tryd.func54, Tryd.ntmps54
      go_wp2_with (first | (go_at_call 31; refine (hs _).mono ?_; rintro e w' ⟨rfl, q, rfl⟩) | (go_at_call 32; refine (hd _).mono ?_; rintro e w' ⟨rfl, q, rfl⟩))
      repeat (go_quiet (fail); try go_wp2)
      go_ret
      exact ⟨by first | rfl | (simp; done) | (simp [*]; done), by repeat (first | exact Drawn0.refl _ | apply Drawn0.step)⟩

/-- What block.Name asks of a byte. -/
def isNameB (c : Int) : Bool := isSmall c || (decide (65 ≤ c) && decide (c ≤ 90)) || isDigit c || c == 95 || c == 45 || c == 46
set_option maxHeartbeats 4000000 in
theorem name1_calls (c : Int) (w : World) : Calls Tryd.prog 30 #[.int .u8 c] w fun e w' => e = .returned (.bool (isNameB c)) ∧ Drawn0 w w' := by
  unfold isNameB
  have hs := small_calls c
  have hd := digit_calls c
  cases h0 : isSmall c with
  | true =>
    rw [h0] at hs
    go_enter Tryd.func30, Tryd.ntmps30
    go_wp2_with (first | (go_at_call 31; refine (hs _).mono ?_; rintro e w' ⟨rfl, q, rfl⟩) | (go_at_call 32; refine (hd _).mono ?_; rintro e w' ⟨rfl, q, rfl⟩))
    repeat (go_quiet (first | (go_at_call 31; refine (hs _).mono ?_; rintro e w' ⟨rfl, q, rfl⟩) | (go_at_call 32; refine (hd _).mono ?_; rintro e w' ⟨rfl, q, rfl⟩)); try go_wp2_with (first | (go_at_call 31; refine (hs _).mono ?_; rintro e w' ⟨rfl, q, rfl⟩) | (go_at_call 32; refine (hd _).mono ?_; rintro e w' ⟨rfl, q, rfl⟩)))
    go_ret
    exact ⟨by first | rfl | (simp; done) | (simp [*]; done), by repeat (first | exact Drawn0.refl _ | apply Drawn0.step)⟩
  | false =>
    rw [h0] at hs
    by_cases h1 : 65 ≤ c
    · have b1 : decide (65 ≤ c) = true := decide_eq_true h1
      rw [b1]; clear h1
      by_cases h2 : c ≤ 90
      · have b2 : decide (c ≤ 90) = true := decide_eq_true h2
        rw [b2]; clear h2
        go_enter Tryd.func30, Tryd.ntmps30
        go_wp2_with (first | (go_at_call 31; refine (hs _).mono ?_; rintro e w' ⟨rfl, q, rfl⟩) | (go_at_call 32; refine (hd _).mono ?_; rintro e w' ⟨rfl, q, rfl⟩))
        repeat (go_quiet (first | (go_at_call 31; refine (hs _).mono ?_; rintro e w' ⟨rfl, q, rfl⟩) | (go_at_call 32; refine (hd _).mono ?_; rintro e w' ⟨rfl, q, rfl⟩)); try go_wp2_with (first | (go_at_call 31; refine (hs _).mono ?_; rintro e w' ⟨rfl, q, rfl⟩) | (go_at_call 32; refine (hd _).mono ?_; rintro e w' ⟨rfl, q, rfl⟩)))
        go_ret
        exact ⟨by first | rfl | (simp; done) | (simp [*]; done), by repeat (first | exact Drawn0.refl _ | apply Drawn0.step)⟩
      · have b2 : decide (c ≤ 90) = false := decide_eq_false h2
        rw [b2]; clear h2
        cases h3 : isDigit c with
        | true =>
          rw [h3] at hd
          go_enter Tryd.func30, Tryd.ntmps30
          go_wp2_with (first | (go_at_call 31; refine (hs _).mono ?_; rintro e w' ⟨rfl, q, rfl⟩) | (go_at_call 32; refine (hd _).mono ?_; rintro e w' ⟨rfl, q, rfl⟩))
          repeat (go_quiet (first | (go_at_call 31; refine (hs _).mono ?_; rintro e w' ⟨rfl, q, rfl⟩) | (go_at_call 32; refine (hd _).mono ?_; rintro e w' ⟨rfl, q, rfl⟩)); try go_wp2_with (first | (go_at_call 31; refine (hs _).mono ?_; rintro e w' ⟨rfl, q, rfl⟩) | (go_at_call 32; refine (hd _).mono ?_; rintro e w' ⟨rfl, q, rfl⟩)))
          go_ret
          exact ⟨by first | rfl | (simp; done) | (simp [*]; done), by repeat (first | exact Drawn0.refl _ | apply Drawn0.step)⟩
        | false =>
          rw [h3] at hd
          cases h4 : (c == 95) with
          | true =>
            go_enter Tryd.func30, Tryd.ntmps30
            go_wp2_with (first | (go_at_call 31; refine (hs _).mono ?_; rintro e w' ⟨rfl, q, rfl⟩) | (go_at_call 32; refine (hd _).mono ?_; rintro e w' ⟨rfl, q, rfl⟩))
            repeat (go_quiet (first | (go_at_call 31; refine (hs _).mono ?_; rintro e w' ⟨rfl, q, rfl⟩) | (go_at_call 32; refine (hd _).mono ?_; rintro e w' ⟨rfl, q, rfl⟩)); try go_wp2_with (first | (go_at_call 31; refine (hs _).mono ?_; rintro e w' ⟨rfl, q, rfl⟩) | (go_at_call 32; refine (hd _).mono ?_; rintro e w' ⟨rfl, q, rfl⟩)))
            go_ret
            exact ⟨by first | rfl | (simp; done) | (simp [*]; done), by repeat (first | exact Drawn0.refl _ | apply Drawn0.step)⟩
          | false =>
            cases h5 : (c == 45) with
            | true =>
              go_enter Tryd.func30, Tryd.ntmps30
              go_wp2_with (first | (go_at_call 31; refine (hs _).mono ?_; rintro e w' ⟨rfl, q, rfl⟩) | (go_at_call 32; refine (hd _).mono ?_; rintro e w' ⟨rfl, q, rfl⟩))
              repeat (go_quiet (first | (go_at_call 31; refine (hs _).mono ?_; rintro e w' ⟨rfl, q, rfl⟩) | (go_at_call 32; refine (hd _).mono ?_; rintro e w' ⟨rfl, q, rfl⟩)); try go_wp2_with (first | (go_at_call 31; refine (hs _).mono ?_; rintro e w' ⟨rfl, q, rfl⟩) | (go_at_call 32; refine (hd _).mono ?_; rintro e w' ⟨rfl, q, rfl⟩)))
              go_ret
              exact ⟨by first | rfl | (simp; done) | (simp [*]; done), by repeat (first | exact Drawn0.refl _ | apply Drawn0.step)⟩
            | false =>
              cases h6 : (c == 46) with
              | true =>
                go_enter Tryd.func30, Tryd.ntmps30
                go_wp2_with (first | (go_at_call 31; refine (hs _).mono ?_; rintro e w' ⟨rfl, q, rfl⟩) | (go_at_call 32; refine (hd _).mono ?_; rintro e w' ⟨rfl, q, rfl⟩))
                repeat (go_quiet (first | (go_at_call 31; refine (hs _).mono ?_; rintro e w' ⟨rfl, q, rfl⟩) | (go_at_call 32; refine (hd _).mono ?_; rintro e w' ⟨rfl, q, rfl⟩)); try go_wp2_with (first | (go_at_call 31; refine (hs _).mono ?_; rintro e w' ⟨rfl, q, rfl⟩) | (go_at_call 32; refine (hd _).mono ?_; rintro e w' ⟨rfl, q, rfl⟩)))
                go_ret
                exact ⟨by first | rfl | (simp; done) | (simp [*]; done), by repeat (first | exact Drawn0.refl _ | apply Drawn0.step)⟩
              | false =>
                go_enter Tryd.func30, Tryd.ntmps30
                go_wp2_with (first | (go_at_call 31; refine (hs _).mono ?_; rintro e w' ⟨rfl, q, rfl⟩) | (go_at_call 32; refine (hd _).mono ?_; rintro e w' ⟨rfl, q, rfl⟩))
                repeat (go_quiet (first | (go_at_call 31; refine (hs _).mono ?_; rintro e w' ⟨rfl, q, rfl⟩) | (go_at_call 32; refine (hd _).mono ?_; rintro e w' ⟨rfl, q, rfl⟩)); try go_wp2_with (first | (go_at_call 31; refine (hs _).mono ?_; rintro e w' ⟨rfl, q, rfl⟩) | (go_at_call 32; refine (hd _).mono ?_; rintro e w' ⟨rfl, q, rfl⟩)))
                go_ret
                exact ⟨by first | rfl | (simp; done) | (simp [*]; done), by repeat (first | exact Drawn0.refl _ | apply Drawn0.step)⟩
    · have b1 : decide (65 ≤ c) = false := decide_eq_false h1
      rw [b1]; clear h1
      cases h3 : isDigit c with
      | true =>
        rw [h3] at hd
        go_enter Tryd.func30, Tryd.ntmps30
        go_wp2_with (first | (go_at_call 31; refine (hs _).mono ?_; rintro e w' ⟨rfl, q, rfl⟩) | (go_at_call 32; refine (hd _).mono ?_; rintro e w' ⟨rfl, q, rfl⟩))
        repeat (go_quiet (first | (go_at_call 31; refine (hs _).mono ?_; rintro e w' ⟨rfl, q, rfl⟩) | (go_at_call 32; refine (hd _).mono ?_; rintro e w' ⟨rfl, q, rfl⟩)); try go_wp2_with (first | (go_at_call 31; refine (hs _).mono ?_; rintro e w' ⟨rfl, q, rfl⟩) | (go_at_call 32; refine (hd _).mono ?_; rintro e w' ⟨rfl, q, rfl⟩)))
        go_ret
        exact ⟨by first | rfl | (simp; done) | (simp [*]; done), by repeat (first | exact Drawn0.refl _ | apply Drawn0.step)⟩
      | false =>
        rw [h3] at hd
        cases h4 : (c == 95) with
        | true =>
          go_enter Tryd.func30, Tryd.ntmps30
          go_wp2_with (first | (go_at_call 31; refine (hs _).mono ?_; rintro e w' ⟨rfl, q, rfl⟩) | (go_at_call 32; refine (hd _).mono ?_; rintro e w' ⟨rfl, q, rfl⟩))
          repeat (go_quiet (first | (go_at_call 31; refine (hs _).mono ?_; rintro e w' ⟨rfl, q, rfl⟩) | (go_at_call 32; refine (hd _).mono ?_; rintro e w' ⟨rfl, q, rfl⟩)); try go_wp2_with (first | (go_at_call 31; refine (hs _).mono ?_; rintro e w' ⟨rfl, q, rfl⟩) | (go_at_call 32; refine (hd _).mono ?_; rintro e w' ⟨rfl, q, rfl⟩)))
          go_ret
          exact ⟨by first | rfl | (simp; done) | (simp [*]; done), by repeat (first | exact Drawn0.refl _ | apply Drawn0.step)⟩
        | false =>
          cases h5 : (c == 45) with
          | true =>
            go_enter Tryd.func30, Tryd.ntmps30
            go_wp2_with (first | (go_at_call 31; refine (hs _).mono ?_; rintro e w' ⟨rfl, q, rfl⟩) | (go_at_call 32; refine (hd _).mono ?_; rintro e w' ⟨rfl, q, rfl⟩))
            repeat (go_quiet (first | (go_at_call 31; refine (hs _).mono ?_; rintro e w' ⟨rfl, q, rfl⟩) | (go_at_call 32; refine (hd _).mono ?_; rintro e w' ⟨rfl, q, rfl⟩)); try go_wp2_with (first | (go_at_call 31; refine (hs _).mono ?_; rintro e w' ⟨rfl, q, rfl⟩) | (go_at_call 32; refine (hd _).mono ?_; rintro e w' ⟨rfl, q, rfl⟩)))
            go_ret
            exact ⟨by first | rfl | (simp; done) | (simp [*]; done), by repeat (first | exact Drawn0.refl _ | apply Drawn0.step)⟩
          | false =>
            cases h6 : (c == 46) with
            | true =>
              go_enter Tryd.func30, Tryd.ntmps30
              go_wp2_with (first | (go_at_call 31; refine (hs _).mono ?_; rintro e w' ⟨rfl, q, rfl⟩) | (go_at_call 32; refine (hd _).mono ?_; rintro e w' ⟨rfl, q, rfl⟩))
              repeat (go_quiet (first | (go_at_call 31; refine (hs _).mono ?_; rintro e w' ⟨rfl, q, rfl⟩) | (go_at_call 32; refine (hd _).mono ?_; rintro e w' ⟨rfl, q, rfl⟩)); try go_wp2_with (first | (go_at_call 31; refine (hs _).mono ?_; rintro e w' ⟨rfl, q, rfl⟩) | (go_at_call 32; refine (hd _).mono ?_; rintro e w' ⟨rfl, q, rfl⟩)))
              go_ret
              exact ⟨by first | rfl | (simp; done) | (simp [*]; done), by repeat (first | exact Drawn0.refl _ | apply Drawn0.step)⟩
            | false =>
              go_enter Tryd.func30, Tryd.ntmps30
              go_wp2_with (first | (go_at_call 31; refine (hs _).mono ?_; rintro e w' ⟨rfl, q, rfl⟩) | (go_at_call 32; refine (hd _).mono ?_; rintro e w' ⟨rfl, q, rfl⟩))
              repeat (go_quiet (first | (go_at_call 31; refine (hs _).mono ?_; rintro e w' ⟨rfl, q, rfl⟩) | (go_at_call 32; refine (hd _).mono ?_; rintro e w' ⟨rfl, q, rfl⟩)); try go_wp2_with (first | (go_at_call 31; refine (hs _).mono ?_; rintro e w' ⟨rfl, q, rfl⟩) | (go_at_call 32; refine (hd _).mono ?_; rintro e w' ⟨rfl, q, rfl⟩)))
              go_ret
              exact ⟨by first | rfl | (simp; done) | (simp [*]; done), by repeat (first | exact Drawn0.refl _ | apply Drawn0.step)⟩

/-- What block.all says, of a plain predicate on a byte. -/
def allB (p : Int → Bool) (s : ByteArray) : Bool := (s.data.toList.all fun b => p b.toNat) && decide (1 ≤ s.size) && decide (s.size ≤ 32)
theorem size_list (s : ByteArray) : s.data.toList.length = s.size := by rw [Array.length_toList]; rfl
theorem at_list (s : ByteArray) (k : Nat) (h : k < s.size) : s.data.toList.getD k 0 = s[k]'h := by
  have h2 : k < s.data.toList.length := by rw [size_list]; exact h
  rw [List.getD_eq_getElem?_getD, List.getElem?_eq_getElem h2]
  simp only [Option.getD_some, Array.getElem_toList]
  rfl
theorem all_take_succ {α : Type} (p : α → Bool) (d : α) : ∀ (l : List α) (k : Nat), k < l.length → (l.take (k + 1)).all p = ((l.take k).all p && p (l.getD k d))
  | [], k, h => by simp at h
  | x :: l, 0, _ => by simp
  | x :: l, k + 1, h => by
    have := all_take_succ p d l k (by simpa using h)
    simp only [List.take_succ_cons, List.all_cons, this, List.getD_cons_succ, Bool.and_assoc]
theorem all_of_not {α : Type} (p : α → Bool) (d : α) (l : List α) (k : Nat) (h : k < l.length) (hp : p (l.getD k d) = false) : l.all p = false := by
  rw [List.all_eq_false]
  refine ⟨l[k], List.getElem_mem h, ?_⟩
  rw [List.getD_eq_getElem?_getD, List.getElem?_eq_getElem h] at hp
  simpa using hp
set_option maxHeartbeats 4000000 in
set_option maxRecDepth 100000 in
theorem all_calls (s : ByteArray) (g : Nat) (p : Int → Bool) (eg : ∀ args w, (callFunc g args).run Tryd.prog w = .ok (.enter g args) w)
    (hp : ∀ c w, Calls Tryd.prog g #[.int .u8 c] w fun e w' => e = .returned (.bool (p c)) ∧ Drawn0 w w') (hsz : s.size < 4294967281) (w : World) :
    Calls Tryd.prog 29 #[.string s, .func (.func g) #[] #[]] w fun e w' => e = .returned (.bool (allB p s)) ∧ Drawn0 w w' := by
  go_enter Tryd.func29, Tryd.ntmps29
  go_wp2
  repeat (go_quiet (fail); try go_wp2)
  go_loopg [5, 8] s.size (fun kq _ v8 w' => ∃ k : Nat, k ≤ s.size ∧ s.size - k ≤ kq ∧ v8 = .int .i64 k ∧ Drawn0 w w' ∧ Aside0 ((s.data.toList.take k).all (fun b => p b.toNat) = true))
  case atStart => exact ⟨0, Nat.zero_le _, by omega, rfl, Drawn0.refl _, ⟨by simp⟩⟩
  case round =>
    obtain ⟨k, hk, hg, rfl, ⟨m1, rfl⟩, A⟩ := hrel
    by_cases hlt : k < s.size
    · have hltz : decide ((k : Int) < (s.size : Int)) = true := decide_eq_true (by omega)
      have hlen : k < s.data.toList.length := by rw [size_list]; exact hlt
      have hb := at_list s k hlt
      have hcall := hp ((s[k]'hlt).toNat : Int)
      cases hq : p ((s[k]'hlt).toNat : Int) with
      | true =>
        rw [hq] at hcall
        have B : Aside0 ((s.data.toList.take (k + 1)).all (fun b => p b.toNat) = true) := ⟨by rw [all_take_succ _ 0 _ _ hlen, A.out, hb, hq]; rfl⟩
        clear hb hq hp A
        go_wp2_with (go_at_fn g; refine (hcall _).mono ?_; rintro e w' ⟨rfl, q', rfl⟩)
        go_roundg (s.size - (k + 1))
        case measure => omega
        case rel => exact ⟨k + 1, by omega, by omega, by go_num, by repeat (first | exact Drawn0.refl _ | apply Drawn0.step), B⟩
      | false =>
        rw [hq] at hcall
        have B : Aside0 (allB p s = false) := ⟨by
          unfold allB
          rw [all_of_not _ 0 _ _ hlen (by show p _ = false; rw [hb, hq])]; rfl⟩
        clear hb hq hp A
        go_wp2_with (go_at_fn g; refine (hcall _).mono ?_; rintro e w' ⟨rfl, q', rfl⟩)
        go_ret
        exact ⟨by rw [B.out]; first | rfl | (simp; done) | (simp [*]; done), by repeat (first | exact Drawn0.refl _ | apply Drawn0.step)⟩
    · have hltz : decide ((k : Int) < (s.size : Int)) = false := decide_eq_false (by omega)
      obtain rfl : k = s.size := by omega
      have B : Aside0 (allB p s = (decide (1 ≤ s.size) && decide (s.size ≤ 32))) := ⟨by
        have := A.out
        rw [List.take_of_length_le (by rw [size_list]; exact Nat.le_refl _)] at this
        unfold allB; rw [this]; rfl⟩
      clear A hp
      by_cases h1 : 1 ≤ s.size
      · by_cases h2 : s.size ≤ 32
        · have b1 : decide ((1 : Int) ≤ (s.size : Int)) = true := decide_eq_true (by omega)
          have b2 : decide ((s.size : Int) ≤ (32 : Int)) = true := decide_eq_true (by omega)
          go_wp2
          repeat (go_quiet (fail); try go_wp2)
          go_ret
          exact ⟨by rw [B.out, decide_eq_true h1, decide_eq_true h2]; first | rfl | (simp; done) | (simp [*]; done), by repeat (first | exact Drawn0.refl _ | apply Drawn0.step)⟩
        · have b1 : decide ((1 : Int) ≤ (s.size : Int)) = true := decide_eq_true (by omega)
          have b2 : decide ((s.size : Int) ≤ (32 : Int)) = false := decide_eq_false (by omega)
          go_wp2
          repeat (go_quiet (fail); try go_wp2)
          go_ret
          exact ⟨by rw [B.out, decide_eq_true h1, decide_eq_false h2]; first | rfl | (simp; done) | (simp [*]; done), by repeat (first | exact Drawn0.refl _ | apply Drawn0.step)⟩
      · have b1 : decide ((1 : Int) ≤ (s.size : Int)) = false := decide_eq_false (by omega)
        go_wp2
        repeat (go_quiet (fail); try go_wp2)
        go_ret
        exact ⟨by rw [B.out, decide_eq_false h1]; first | rfl | (simp; done) | (simp [*]; done), by repeat (first | exact Drawn0.refl _ | apply Drawn0.step)⟩

theorem e54 : ∀ args w, (callFunc 54 args).run Tryd.prog w = .ok (.enter 54 args) w := fun _ _ => by kernel_rfl
theorem e30 : ∀ args w, (callFunc 30 args).run Tryd.prog w = .ok (.enter 30 args) w := fun _ _ => by kernel_rfl
theorem e28 : ∀ args w, (callFunc 28 args).run Tryd.prog w = .ok (.enter 28 args) w := fun _ _ => by kernel_rfl

def block_word.f (a0 : ByteArray) : Option Bool := if a0.size < 4294967281 then some (allB isWordB a0) else none
theorem block_word.calls (a0 : ByteArray) (r : Bool) (w : World) (h : block_word.f a0 = some r) :
    Calls Tryd.prog 39 #[.string a0] w fun e w' => e = .returned (.bool r) ∧ Drawn0 w w' := by
  unfold block_word.f at h
  split at h
  · rename_i hc
    obtain rfl := Option.some.inj h
    have hall := all_calls a0 54 isWordB e54 word1_calls hc
    clear h hc
    generalize hb : allB isWordB a0 = b at hall ⊢
    clear hb
    go_enter Tryd.func39, Tryd.ntmps39
    go_wp2_with (go_at_call 29; refine (hall _).mono ?_; rintro e w' ⟨rfl, q, rfl⟩)
    go_ret
    exact ⟨by first | rfl | (simp; done) | (simp [*]; done), by repeat (first | exact Drawn0.refl _ | apply Drawn0.step)⟩
  · cases h
def block_Name.f (a0 : ByteArray) : Option Bool := if a0.size < 4294967281 then some (allB isNameB a0) else none
theorem block_Name.calls (a0 : ByteArray) (r : Bool) (w : World) (h : block_Name.f a0 = some r) :
    Calls Tryd.prog 15 #[.string a0] w fun e w' => e = .returned (.bool r) ∧ Drawn0 w w' := by
  unfold block_Name.f at h
  split at h
  · rename_i hc
    obtain rfl := Option.some.inj h
    have hall := all_calls a0 30 isNameB e30 name1_calls hc
    clear h hc
    generalize hb : allB isNameB a0 = b at hall ⊢
    clear hb
    go_enter Tryd.func15, Tryd.ntmps15
    go_wp2_with (go_at_call 29; refine (hall _).mono ?_; rintro e w' ⟨rfl, q, rfl⟩)
    go_ret
    exact ⟨by first | rfl | (simp; done) | (simp [*]; done), by repeat (first | exact Drawn0.refl _ | apply Drawn0.step)⟩
  · cases h

/-! ### Get: a closure over the name, a row of fields -/
theorem get1_calls (x : S42) (name : ByteArray) (nb : Addr) (w : World) (hn : w.cell? nb = some (.string name)) :
    Calls Tryd.prog 28 #[.agg #[.int .i64 x.f0, .string x.f1, .string x.f2], .pointer (some nb)] w fun e w' => e = .returned (.bool (x.f1.toList == name.toList)) ∧ Below w.heap.size w w' := by
  have hu42 := Tryd.underlying42
  have HN := Aside0.mk hn
  clear hn
  have HB := Aside0.mk (Below.refl w.heap.size w)
  go_enter Tryd.func28, Tryd.ntmps28
  go_wp2_with (first | ((with_reducible refine gate_dst (N := 2) rfl ?_); refine box_event ?hg (N := 2) ?hd (cs := #[.int .i64 x.f0, .string x.f1, .string x.f2]) (t := 42) ?hr ?_; (case hd => rfl); (case hg => rfl); (case hr => first | (go_simp; done) | (go_simp; rfl)); intro gb hg w3 hbox hb; have n0_ := Aside0.mk (below_step (by repeat (first | (with_reducible first | exact HB.out | apply below_alloc | apply pw_below_drewN | apply below_drew1) | exact HB.out)) hb); have n1_ := Aside0.mk (hbox); clear HB; have HB := n0_; have BK := n1_; clear n0_ n1_; clear hb hbox hg; have hc0 := (blk_cell BK.out 0).trans rfl; have hc1 := (blk_cell BK.out 1).trans rfl; have hc2 := (blk_cell BK.out 2).trans rfl; have hnn := pw_cell_below HB.out HN.out))
  go_ret
  exact ⟨by first | rfl | (simp; done) | (simp [*]; done), by repeat (first | (with_reducible first | exact HB.out | apply below_alloc | apply pw_below_drewN | apply below_drew1) | exact HB.out)⟩

def firstOf {α : Type} (p : α → Bool) (l : List α) : Int := if l.findIdx p < l.length then (l.findIdx p : Int) else -1
theorem firstOf_hit {α : Type} (p : α → Bool) (d : α) (l : List α) (k : Nat) (h : k < l.length) (hk : p (l.getD k d) = true) (ha : ∀ j, j < k → p (l.getD j d) = false) : firstOf p l = k := by
  have hd : ∀ j (hj : j < l.length), l.getD j d = l[j] := fun j hj => by rw [List.getD_eq_getElem?_getD, List.getElem?_eq_getElem hj]; rfl
  have : l.findIdx p = k := (List.findIdx_eq h).mpr ⟨by rw [← hd k h]; exact hk, fun j hj => by have := ha j hj; rw [hd j (by omega)] at this; exact this⟩
  unfold firstOf; rw [this, if_pos h]
theorem firstOf_miss {α : Type} (p : α → Bool) (d : α) (l : List α) (ha : ∀ j, j < l.length → p (l.getD j d) = false) : firstOf p l = -1 := by
  have hd : ∀ j (hj : j < l.length), l.getD j d = l[j] := fun j hj => by rw [List.getD_eq_getElem?_getD, List.getElem?_eq_getElem hj]; rfl
  have : l.findIdx p = l.length := List.findIdx_eq_length.mpr fun x hx => by
    obtain ⟨j, hj, rfl⟩ := List.getElem_of_mem hx
    have := ha j hj; rw [hd j hj] at this; exact this
  unfold firstOf; rw [this, if_neg (Nat.lt_irrefl _)]
set_option maxHeartbeats 4000000 in
set_option maxRecDepth 100000 in
theorem indexFunc42 (g : Nat) (lb : Array Value) (p : S42 → Bool) (eg : ∀ args w, (callFunc g args).run Tryd.prog w = .ok (.enter g args) w) (A : Option Addr) (c : Nat) (l : List S42) (w : World)
    (hr : Kd.C k42 w A l.length l) (hlen : l.length < 4294967281)
    (hp : ∀ (x : S42) (W : World), Below w.heap.size w W → Calls Tryd.prog g (#[.agg #[.int .i64 x.f0, .string x.f1, .string x.f2]] ++ lb) W fun e w' => e = .returned (.bool (p x)) ∧ Below W.heap.size W w') :
    Calls Tryd.prog 27 #[.slice A l.length c, .func (.func g) #[] lb] w fun e w' => e = .returned (.int .i64 (firstOf p l)) ∧ Below w.heap.size w w' := by
  have hu42 := Tryd.underlying42
  have HR := Aside0.mk hr
  clear hr
  have HP := Aside0.mk hp
  clear hp
  have HB := Aside0.mk (Below.refl w.heap.size w)
  go_enter Tryd.func27, Tryd.ntmps27
  go_wp2
  go_loopg [5, 8] l.length (fun kq _ v8 w' => ∃ x : Int, v8 = .int .i64 x ∧ Aside0 (0 ≤ x ∧ x ≤ (l.length : Int) ∧ l.length - x.toNat ≤ kq) ∧ Aside0 (Below w.heap.size w w') ∧ Aside0 (∀ j, j < x.toNat → p (l.getD j z42) = false))
  case atStart => exact ⟨0, rfl, ⟨Int.le_refl _, by omega, by omega⟩, HB, ⟨fun j hj => absurd hj (Nat.not_lt_zero _)⟩⟩
  case round =>
    clear HB
    obtain ⟨x, rfl, HX, HB, A1⟩ := hrel
    by_cases hlt : x < (l.length : Int)
    · have hltz : decide (x < (l.length : Int)) = true := decide_eq_true hlt
      have p115 : 0 ≤ x := HX.out.1
      have q115 : x < (l.length : Int) := hlt
      obtain ⟨ad115, e115, hx0, hx1, hx2⟩ := at_T42 HR.out x p115 q115
      cases e115
      replace hx0 := (HB.out.cell (World.block_lt_of_cell? w _ hx0)).trans hx0
      replace hx1 := (HB.out.cell (World.block_lt_of_cell? w _ hx1)).trans hx1
      replace hx2 := (HB.out.cell (World.block_lt_of_cell? w _ hx2)).trans hx2
      have hcall := HP.out (rd_T42 l x) wr HB.out
      have hrd : Aside0 (rd_T42 l x = l.getD x.toNat z42) := ⟨rfl⟩
      have hwr : Aside0 (wrap64 (x + 1) = x + 1) := ⟨IntWalk.wrap64_in _ ⟨by omega, by omega⟩⟩
      have HXn : Aside0 (x.toNat < l.length ∧ (x + 1).toNat = x.toNat + 1 ∧ ((x.toNat : Nat) : Int) = x) := ⟨by omega, by omega, by omega⟩
      clear hlt
      replace p115 := eq_true p115
      replace q115 := eq_true q115
      cases hq : p (rd_T42 l x) with
      | true =>
        rw [hq] at hcall
        have B : Aside0 (firstOf p l = x) := ⟨by rw [firstOf_hit p z42 l x.toNat HXn.out.1 (by rw [← hrd.out]; exact hq) A1.out]; exact HXn.out.2.2⟩
        clear hq A1 hrd HP
        go_wp2_with (go_at_fn g; refine hcall.mono ?_; rintro e w' ⟨rfl, hb'⟩; have HB' := Aside0.mk (below_step HB.out hb'); clear hb')
        go_ret
        exact ⟨by rw [B.out]; first | rfl | (simp; done) | (simp [*]; done), HB'.out⟩
      | false =>
        rw [hq] at hcall
        have B : Aside0 (∀ j, j < (x + 1).toNat → p (l.getD j z42) = false) := ⟨fun j hj => by
          by_cases e : j = x.toNat
          · rw [e, ← hrd.out]; exact hq
          · exact A1.out j (by have := HXn.out.2.1; omega)⟩
        have D : Aside0 (l.length - (x + 1).toNat < l.length - x.toNat ∧ 0 ≤ x + 1 ∧ x + 1 ≤ (l.length : Int)) := ⟨by have := HXn.out; have := HX.out; omega, by have := HX.out; omega, by have := HXn.out; omega⟩
        clear hq A1 hrd
        go_wp2_with (go_at_fn g; refine hcall.mono ?_; rintro e w' ⟨rfl, hb'⟩; have HB' := Aside0.mk (below_step HB.out hb'); clear hb')
        go_roundg (l.length - (x + 1).toNat)
        case measure => have := D.out; have := HX.out; omega
        case rel => exact ⟨x + 1, by rw [hwr.out], ⟨D.out.2.1, D.out.2.2, Nat.le_refl _⟩, HB', B⟩
    · have hltz : decide (x < (l.length : Int)) = false := decide_eq_false hlt
      have B : Aside0 (firstOf p l = -1) := ⟨firstOf_miss p z42 l (by rw [show l.length = x.toNat by have := HX.out; omega]; exact A1.out)⟩
      clear A1 HP hlt
      go_wp2
      go_ret
      exact ⟨by rw [B.out]; first | rfl | (simp; done) | (simp [*]; done), HB.out⟩

/-- The value of a block's field. -/
def getB (l : List S42) (name : ByteArray) : ByteArray × Bool :=
  let i := firstOf (fun x : S42 => x.f1.toList == name.toList) l
  if i < 0 then (⟨#[]⟩, false) else ((rd_T42 l i).f2, true)
theorem firstOf_range {α : Type} (p : α → Bool) (l : List α) : firstOf p l < l.length := by
  unfold firstOf
  split <;> omega
def bblock_Block_Get.f (a0_0 : Int) (a0_1 : ByteArray) (l0_2 : List S42) (a1 : ByteArray) : Option (ByteArray × Bool) := if l0_2.length < 4294967281 then some (getB l0_2 a1) else none
set_option maxHeartbeats 4000000 in
set_option maxRecDepth 100000 in
theorem bblock_Block_Get.calls (a0_0 : Int) (a0_1 : ByteArray) (A0_2 : Option Addr) (c0_2 : Nat) (l0_2 : List S42) (a1 : ByteArray) (r1 : ByteArray) (r2 : Bool) (w : World) (hr0_2 : Kd.C k42 w A0_2 l0_2.length l0_2) (hc0_2 : l0_2.length ≤ c0_2) (h : bblock_Block_Get.f a0_0 a0_1 l0_2 a1 = some (r1, r2)) :
    Calls Tryd.prog 13 #[.agg #[.int .i64 a0_0, .string a0_1, .slice A0_2 l0_2.length c0_2], .string a1] w fun e w' => e = .returned (.tuple #[.string r1, .bool r2]) ∧ Below w.heap.size w w' := by
  unfold bblock_Block_Get.f at h
  split at h
  case isFalse => cases h
  rename_i hlen
  have h := Option.some.inj h
  have hu40 := Tryd.underlying40
  have hu42 := Tryd.underlying42
  have HR := Aside0.mk hr0_2
  clear hr0_2
  have HB := Aside0.mk (Below.refl w.heap.size w)
  have HG := Aside0.mk h
  unfold getB at HG
  have HL := Aside0.mk hlen
  clear h
  obtain ⟨i, hi⟩ : ∃ i, i = firstOf (fun x : S42 => x.f1.toList == a1.toList) l0_2 := ⟨_, rfl⟩
  have HI := Aside0.mk hi
  have hrg : i < (l0_2.length : Int) := hi ▸ firstOf_range (fun x : S42 => x.f1.toList == a1.toList) l0_2
  clear hi
  rw [← HI.out] at HG
  have CALL : ∀ (W : World) (nb : Addr), Aside0 (Below w.heap.size w W) → W.cell? nb = some (.string a1) → Calls Tryd.prog 27 #[.slice A0_2 l0_2.length c0_2, .func (.func 28) #[] #[.pointer (some nb)]] W fun e w' => e = .returned (.int .i64 i) ∧ Below W.heap.size W w' := by
    intro W nb hW hn
    rw [HI.out]
    exact indexFunc42 28 #[.pointer (some nb)] (fun x : S42 => x.f1.toList == a1.toList) e28 A0_2 c0_2 l0_2 W (Kd.C_below HR.out hW.out) HL.out (fun x W' hb => get1_calls x a1 nb W' (pw_cell_below hb hn))
  clear hlen
  by_cases hneg : i < 0
  · have b0 : decide (i < 0) = true := decide_eq_true hneg
    have HG2 := HG.out
    rw [if_pos hneg] at HG2
    injection HG2 with g1 g2
    subst g1; subst g2
    clear HG hneg
    go_enter Tryd.func13, Tryd.ntmps13
    go_wp2_with (first | ((with_reducible refine gate_dst (N := 2) rfl ?_); refine box_event ?hg (N := 2) ?hd (cs := #[.int .i64 a0_0, .string a0_1, .slice A0_2 l0_2.length c0_2]) (t := 40) ?hr ?_; (case hd => rfl); (case hg => rfl); (case hr => first | (go_simp; done) | (go_simp; rfl)); intro gb hg w3 hbox hb; have n0_ := Aside0.mk (below_step (by repeat (first | (with_reducible first | exact HB.out | apply below_alloc | apply pw_below_drewN | apply below_drew1) | exact HB.out)) hb); have n1_ := Aside0.mk (hbox); clear HB; have HB := n0_; have BK := n1_; clear n0_ n1_; clear hb hbox hg; have hc2 : (w3.alloc (.cells #[.string a1] 9)).cell? ⟨gb, 2, none⟩ = some (.slice A0_2 l0_2.length c0_2) := by rw [World.cell?_alloc_lt _ _ _ (World.block_lt_of_cell? w3 _ ((blk_cell BK.out 2).trans rfl))]; exact (blk_cell BK.out 2).trans rfl) | (go_at_call 27; refine (CALL _ _ ⟨by repeat (first | (with_reducible first | exact HB.out | apply below_alloc | apply pw_below_drewN | apply below_drew1) | exact HB.out)⟩ (by simp)).mono ?_; rintro e w4 ⟨rfl, hb4⟩; have HB4 := Aside0.mk (below_step (by repeat (first | (with_reducible first | exact HB.out | apply below_alloc | apply pw_below_drewN | apply below_drew1) | exact HB.out)) hb4); clear hb4))
    go_ret2
    exact ⟨by first | rfl | (simp; done) | (simp [*]; done), HB4.out⟩
  · have b0 : decide (i < 0) = false := decide_eq_false hneg
    have HG2 := HG.out
    rw [if_neg hneg] at HG2
    injection HG2 with g1 g2
    subst g1; subst g2
    have p115 : 0 ≤ i := by omega
    obtain ⟨ad115, e115, hx0, hx1, hx2⟩ := at_T42 HR.out i p115 hrg
    cases e115
    have HX2 := Aside0.mk hx2
    clear HG hneg hx0 hx1 hx2
    replace p115 := eq_true p115
    replace hrg := eq_true hrg
    go_enter Tryd.func13, Tryd.ntmps13
    go_wp2_with (first | ((with_reducible refine gate_dst (N := 2) rfl ?_); refine box_event ?hg (N := 2) ?hd (cs := #[.int .i64 a0_0, .string a0_1, .slice (some ad115) l0_2.length c0_2]) (t := 40) ?hr ?_; (case hd => rfl); (case hg => rfl); (case hr => first | (go_simp; done) | (go_simp; rfl)); intro gb hg w3 hbox hb; have n0_ := Aside0.mk (below_step (by repeat (first | (with_reducible first | exact HB.out | apply below_alloc | apply pw_below_drewN | apply below_drew1) | exact HB.out)) hb); have n1_ := Aside0.mk (hbox); clear HB; have HB := n0_; have BK := n1_; clear n0_ n1_; clear hb hbox hg; have hc2 : (w3.alloc (.cells #[.string a1] 9)).cell? ⟨gb, 2, none⟩ = some (.slice (some ad115) l0_2.length c0_2) := by rw [World.cell?_alloc_lt _ _ _ (World.block_lt_of_cell? w3 _ ((blk_cell BK.out 2).trans rfl))]; exact (blk_cell BK.out 2).trans rfl) | (go_at_call 27; refine (CALL _ _ ⟨by repeat (first | (with_reducible first | exact HB.out | apply below_alloc | apply pw_below_drewN | apply below_drew1) | exact HB.out)⟩ (by simp)).mono ?_; rintro e w4 ⟨rfl, hb4⟩; have HB4 := Aside0.mk (below_step (by repeat (first | (with_reducible first | exact HB.out | apply below_alloc | apply pw_below_drewN | apply below_drew1) | exact HB.out)) hb4); have hx24 := pw_cell_below HB4.out HX2.out; have hc24 := pw_cell_below hb4 hc2; clear hb4 hc2))
    go_ret2
    exact ⟨by first | rfl | (simp; done) | (simp [*]; done), HB4.out⟩
end Go.Proofs.YtefjppdchgdjlaaDoor.P
