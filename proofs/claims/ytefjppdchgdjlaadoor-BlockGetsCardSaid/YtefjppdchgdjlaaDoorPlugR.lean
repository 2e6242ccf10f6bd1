/- The document's Parse over its blocks: by hand (its elements share rows for a while). -/
import Derived.Test.YtefjppdchgdjlaaDoorQr
import Derived.Test.YtefjppdchgdjlaaDoorPlugO
namespace Go.Proofs.YtefjppdchgdjlaaDoor.P
open Go.RowKit Go.Proofs.YtefjppdchgdjlaaDoorW.PrintWords Go.Proofs.YtefjppdchgdjlaaDoorW.PrintLast Go.Proofs.YtefjppdchgdjlaaDoorW.PrintMore
set_option linter.unusedVariables false
set_option linter.unusedSimpArgs false

theorem info46 : (Tryd.prog.info? 46).map (fun i => (i.zero, i.size, i.bytes)) = some (some (.agg #[(.int .i64 0), (.string ⟨#[]⟩), (.slice none 0 0)]), 3, 48) := by kernel_rfl
theorem info52 : (Tryd.prog.info? 52).map (fun i => (i.zero, i.size, i.bytes)) = some (some (.agg #[(.int .i64 0), (.string ⟨#[]⟩), (.string ⟨#[]⟩)]), 3, 40) := by kernel_rfl
def isBl (c : UInt8) : Bool := c == 32 || c == 9 || c == 13
/-- How long a line's first word is. -/
def wlen (s : ByteArray) : Nat := (s.data.toList.takeWhile (fun c => !isBl c)).length
theorem wlen_le (s : ByteArray) : wlen s ≤ s.size := by
  unfold wlen
  rw [← size_list s]
  exact (List.takeWhile_prefix _).length_le
theorem tw_len {α : Type} (p : α → Bool) (d : α) : ∀ (l : List α) (n : Nat), n ≤ l.length → (∀ j, j < n → p (l.getD j d) = true) → (n < l.length → p (l.getD n d) = false) → (l.takeWhile p).length = n
  | [], n, h, _, _ => by simp at h; simp [h]
  | x :: l, 0, _, _, h2 => by
    have := h2 (by simp)
    simp at this
    simp [List.takeWhile_cons, this]
  | x :: l, n + 1, h, h1, h2 => by
    have h0 := h1 0 (by omega)
    simp at h0
    rw [List.takeWhile_cons, if_pos h0, List.length_cons, tw_len p d l n (by simpa using h) (fun j hj => by have := h1 (j + 1) (by omega); simpa using this) (fun hl => by have := h2 (by simpa using hl); simpa using this)]
theorem blank_val (c : UInt8) : belvedereref09_blank.f (c.toNat : Int) = some (isBl c) := by
  unfold belvedereref09_blank.f isBl
  have h : ∀ n : Nat, n < 256 → (((c.toNat : Int) = (n : Int)) ↔ c = UInt8.ofNat n) := fun n hn => by
    constructor
    · intro e
      have e2 : c.toNat = n := by omega
      rw [← e2]; simp
    · intro e
      rw [e]; simp [UInt8.toNat_ofNat', Nat.mod_eq_of_lt hn]
  by_cases h1 : c = 32
  · subst h1; rfl
  by_cases h2 : c = 9
  · subst h2; rfl
  by_cases h3 : c = 13
  · subst h3; rfl
  have e1 : ¬ (c.toNat : Int) = 32 := fun e => h1 ((h 32 (by omega)).1 e)
  have e2 : ¬ (c.toNat : Int) = 9 := fun e => h2 ((h 9 (by omega)).1 e)
  have e3 : ¬ (c.toNat : Int) = 13 := fun e => h3 ((h 13 (by omega)).1 e)
  rw [if_neg e1, if_neg e2]
  have b1 : (c == 32) = false := beq_eq_false_iff_ne.mpr h1
  have b2 : (c == 9) = false := beq_eq_false_iff_ne.mpr h2
  have b3 : (c == 13) = false := beq_eq_false_iff_ne.mpr h3
  have b4 : ((c.toNat : Int) == 13) = false := beq_eq_false_iff_ne.mpr e3
  rw [b1, b2, b3, b4]; rfl

/-- One line of the document's reader. -/
def ref_line (k : Nat) (out : List S46) (op : Bool) (l : S67) : Option (Option Int × List S46 × Bool) :=
  if op = false then (belvedereref09_head.f k l.f1).bind fun kk => if kk.2 = false then some (some 3, out, op) else
    (belvedereref09_Word.f k kk.1).bind fun wd => if wd = false then some (some 11, out, op) else if 1024 ≤ (out.length : Int) then some (some 10, out, op) else some (none, out ++ [⟨l.f0, kk.1, []⟩], true)
  else if l.f1.toList = [125] then some (none, out, false) else
  if ¬ (0 < out.length ∧ out.length ≤ 1024 ∧ l.f1.size < 4294967281) then none else
  (belvedereref08_Trim.f k (l.f1.extract (wlen l.f1) l.f1.size)).bind fun value =>
    if (l.f1.extract 0 (wlen l.f1)).toList = [100, 101, 102, 105, 110, 101] ∧ wlen l.f1 < l.f1.size then some (some 3, out, op) else
    (belvedereref09_Word.f k (l.f1.extract 0 (wlen l.f1))).bind fun wd => if wd = false then some (some 11, out, op) else
    (belvedereref09_Find.f k (rd_T46 out ((out.length : Int) - 1)).f0 (rd_T46 out ((out.length : Int) - 1)).f1 (rd_T46 out ((out.length : Int) - 1)).f2 (l.f1.extract 0 (wlen l.f1))).bind fun at_ =>
    if at_ ≥ 0 then some (some 7, out, op) else if 64 ≤ ((rd_T46 out ((out.length : Int) - 1)).f2.length : Int) then some (some 10, out, op) else
    some (none, out.set ((out.length : Int) - 1).toNat ⟨(rd_T46 out ((out.length : Int) - 1)).f0, (rd_T46 out ((out.length : Int) - 1)).f1, (rd_T46 out ((out.length : Int) - 1)).f2 ++ [⟨l.f0, l.f1.extract 0 (wlen l.f1), value⟩]⟩, op)
def ref_go (k : Nat) : List S67 → List S46 → Bool → Option (List S46 × Int × Int)
  | [], out, op => if op = true then (if 0 < out.length ∧ out.length ≤ 1024 then some ([], (rd_T46 out ((out.length : Int) - 1)).f0, 4) else none) else some (out, 0, 0)
  | l :: ls, out, op => (ref_line k out op l).bind fun r => match r.1 with
    | some e => some ([], l.f0, e)
    | none => ref_go k ls r.2.1 r.2.2
def belvedereref09_Parse.f (k : Nat) (a0 : ByteArray) : Option (List S46 × Int × Int) :=
  (belvedereref08_Lines.f k a0).bind fun r => if r.2.2 = 0 then (if r.1.length < 4294967281 then ref_go k r.1 [] false else none) else some ([], r.2.1, r.2.2)
theorem ref_line.mono (k : Nat) (out : List S46) (op : Bool) (l : S67) : LeO (ref_line k out op l) (ref_line (k + 1) out op l) := by
  unfold ref_line
  repeat' first
  | (with_reducible exact LeO.refl _)
  | exact belvedereref09_head.mono _ _
  | exact belvedereref09_Word.mono _ _
  | exact belvedereref08_Trim.mono _ _
  | exact belvedereref09_Find.mono _ _ _ _ _
  | (with_reducible refine LeO.ite ?_ ?_)
  | (with_reducible refine LeO.bind ?_ (fun _ => ?_))
theorem ref_go.mono (k : Nat) : ∀ (ls : List S67) (out : List S46) (op : Bool), LeO (ref_go k ls out op) (ref_go (k + 1) ls out op)
  | [], _, _ => LeO.refl _
  | l :: ls, out, op => by
    unfold ref_go
    refine LeO.bind (ref_line.mono k out op l) (fun r => ?_)
    cases h : r.1 with
    | some e => exact LeO.refl _
    | none => exact ref_go.mono k ls _ _
theorem belvedereref09_Parse.mono (a0 : ByteArray) (k : Nat) : LeO (belvedereref09_Parse.f k a0) (belvedereref09_Parse.f (k + 1) a0) := by
  unfold belvedereref09_Parse.f
  refine LeO.bind (belvedereref08_Lines.mono a0 k) (fun r => LeO.ite (LeO.ite (ref_go.mono k _ _ _) (LeO.refl _)) (LeO.refl _))
set_option maxHeartbeats 16000000 in
set_option maxRecDepth 100000 in
theorem belvedereref09_Parse.calls (k : Nat) (a0 : ByteArray) (r1 : List S46) (r2 r3 : Int) (w : World) (h : belvedereref09_Parse.f k a0 = some (r1, r2, r3)) :
    Calls Tryd.prog 8 #[.string a0] w fun e w' => ∃ v0_ : Value, e = .returned (.tuple #[v0_, .int .i64 r2, .int .i64 r3]) ∧ Kd.S k46 46 w' w.heap.size (fun _ => True) v0_ r1 ∧ Below w.heap.size w w' := by
  have hu46 := Tryd.underlying46
  have hu52 := Tryd.underlying52
  have hu67 := Tryd.underlying67
  unfold belvedereref09_Parse.f at h
  obtain ⟨⟨ls, at_, er⟩, e1, h⟩ := Option.bind_eq_some_iff.mp h
  dsimp only at h
  have h21 := fun W => belvedereref08_Lines.calls k a0 ls at_ er W e1
  clear e1
  have HB := Aside0.mk (Below.refl w.heap.size w)
  by_cases her : er = 0
  · rw [if_pos her] at h
    subst her
    split at h
    case isFalse => cases h
    rename_i hlen
    have HLEN := Aside0.mk hlen
    have HP := Aside0.mk h
    clear h hlen
    go_enter Tryd.func8, Tryd.ntmps8
    go_wp2_with (first | (go_at_call 21; refine (h21 _).mono ?_; rintro e wN ⟨v1, rfl, ho, hb⟩; have HO := Aside0.mk ho; have HB1 : Aside0 (Below w.heap.size w wN) := ⟨below_step (by repeat (first | (with_reducible first | exact HB.out | apply below_alloc | apply pw_below_drewN | apply below_drew1) | exact HB.out)) hb⟩; clear HB hb; obtain ⟨Av, cv, ev⟩ := Kd.R_slice ho; subst ev; clear ho; have HB := HB1; clear HB1))
    go_loopg [8, 9, 10] ls.length (fun kq v8 v9 v10 w' => ∃ (x : Int) (op : Bool) (out : List S46) (A0 : Option Addr) (c0 : Nat), v8 = .slice A0 out.length c0 ∧ v9 = .bool op ∧ v10 = .int .i64 x ∧ Aside0 (0 ≤ x ∧ x ≤ (ls.length : Int) ∧ ls.length - x.toNat ≤ kq) ∧ Aside0 (Below wN.heap.size wN w') ∧ Aside0 (Kd.S k46 46 w' wN.heap.size (fun _ => True) (.slice A0 out.length c0) out) ∧ Aside0 (ref_go k (ls.drop x.toNat) out op = some (r1, r2, r3)))
    case atStart => exact ⟨0, false, [], none, 0, rfl, rfl, rfl, ⟨Int.le_refl _, by omega, by omega⟩, ⟨Below.refl _ _⟩, ⟨Kd.S_nil _ _ _ _ _⟩, HP⟩
    case round =>
      clear HP
      obtain ⟨x, op, out, A0, c0, rfl, rfl, rfl, HX, SB, HS, HP⟩ := hrel
      by_cases hlt : x < (ls.length : Int)
      · have hltz : decide (x < (ls.length : Int)) = true := decide_eq_true hlt
        have p115 : 0 ≤ x := HX.out.1
        have q115 : x < (ls.length : Int) := hlt
        obtain ⟨ad115, e115, hx0, hx1⟩ := at_T67 (Kd.R_reads' HO.out).2.2 x p115 q115
        cases e115
        replace hx0 := (SB.out.cell (World.block_lt_of_cell? wN _ hx0)).trans hx0
        replace hx1 := (SB.out.cell (World.block_lt_of_cell? wN _ hx1)).trans hx1
        have hg0 : ref_go k (rd_T67 ls x :: ls.drop (x + 1).toNat) out op = some (r1, r2, r3) := by
          have e : ls.drop x.toNat = rd_T67 ls x :: ls.drop (x + 1).toNat := by
            rw [show (x + 1).toNat = x.toNat + 1 by omega]
            have hl : x.toNat < ls.length := by omega
            rw [List.drop_eq_getElem_cons hl]
            congr 1
            show ls[x.toNat] = ls.getD x.toNat z67
            rw [List.getD_eq_getElem?_getD, List.getElem?_eq_getElem hl]
            rfl
          rw [← e]
          exact HP.out
        unfold ref_go at hg0
        have hwr : Aside0 (wrap64 (x + 1) = x + 1) := ⟨IntWalk.wrap64_in _ ⟨by omega, by have := HLEN.out; omega⟩⟩
        have D : Aside0 (ls.length - (x + 1).toNat < ls.length - x.toNat ∧ 0 ≤ x + 1 ∧ x + 1 ≤ (ls.length : Int)) := ⟨by omega, by omega, by omega⟩
        obtain ⟨⟨er, out2, op2⟩, e2, hg1⟩ := Option.bind_eq_some_iff.mp hg0
        clear hg0 HP
        generalize rd_T67 ls x = l at hx0 hx1 e2 hg1
        replace p115 := eq_true p115
        replace q115 := eq_true q115
        clear hlt
        have BL := Aside0.mk (blk_new wr (.cells #[.int .i64 l.f0, .string l.f1] 67 (0, 0)))
        have hl0 : (wr.alloc (.cells #[.int .i64 l.f0, .string l.f1] 67 (0, 0))).cell? ⟨wr.heap.size, 0, none⟩ = some (.int .i64 l.f0) := (blk_cell BL.out 0).trans rfl
        have hl1 : (wr.alloc (.cells #[.int .i64 l.f0, .string l.f1] 67 (0, 0))).cell? ⟨wr.heap.size, 1, none⟩ = some (.string l.f1) := (blk_cell BL.out 1).trans rfl
        unfold ref_line at e2
        cases op with
        | false =>
          rw [if_pos rfl] at e2
          obtain ⟨⟨kk, ok⟩, e3, e2⟩ := Option.bind_eq_some_iff.mp e2
          have h22 := fun W => belvedereref09_head.calls k l.f1 kk ok W e3
          clear e3
          dsimp only at e2
          cases ok with
          | false =>
            rw [if_pos rfl] at e2
            obtain ⟨rfl, rfl, rfl⟩ : some 3 = er ∧ out = out2 ∧ false = op2 := by simpa using e2
            clear e2
            dsimp only at hg1
            obtain ⟨rfl, rfl, rfl⟩ : ([] : List S46) = r1 ∧ l.f0 = r2 ∧ 3 = r3 := by simpa using hg1
            clear hg1
            go_wp2_with (first | (go_at_call 22; refine (h22 _).mono ?_; rintro e w' ⟨rfl, q, rfl⟩))
            repeat (go_quiet (fail); try go_wp2)
            go_ret3
            exact ⟨_, rfl, Kd.S_nil _ _ _ _ _, below_step HB.out (below_step (by repeat (first | (with_reducible first | exact SB.out | apply below_alloc | apply pw_below_drewN | apply below_drew1) | exact SB.out)) (by repeat (first | (with_reducible exact Below.refl _ _) | apply below_alloc | apply pw_below_drewN | apply below_drew1)))⟩
          | true =>
            rw [if_neg (by decide)] at e2
            obtain ⟨wd, e3, e2⟩ := Option.bind_eq_some_iff.mp e2
            have h23 := fun W => belvedereref09_Word.calls k kk wd W e3
            clear e3
            cases wd with
            | false =>
              rw [if_pos rfl] at e2
              obtain ⟨rfl, rfl, rfl⟩ : some 11 = er ∧ out = out2 ∧ false = op2 := by simpa using e2
              clear e2
              dsimp only at hg1
              obtain ⟨rfl, rfl, rfl⟩ : ([] : List S46) = r1 ∧ l.f0 = r2 ∧ 11 = r3 := by simpa using hg1
              clear hg1
              go_wp2_with (first | (go_at_call 22; refine (h22 _).mono ?_; rintro e w' ⟨rfl, q, rfl⟩) | (go_at_call 23; refine (h23 _).mono ?_; rintro e w' ⟨rfl, q, rfl⟩))
              repeat (go_quiet (fail); try go_wp2)
              go_ret3
              exact ⟨_, rfl, Kd.S_nil _ _ _ _ _, below_step HB.out (below_step (by repeat (first | (with_reducible first | exact SB.out | apply below_alloc | apply pw_below_drewN | apply below_drew1) | exact SB.out)) (by repeat (first | (with_reducible exact Below.refl _ _) | apply below_alloc | apply pw_below_drewN | apply below_drew1)))⟩
            | true =>
              rw [if_neg (by decide)] at e2
              by_cases hL : 1024 ≤ (out.length : Int)
              · rw [if_pos hL] at e2
                obtain ⟨rfl, rfl, rfl⟩ : some 10 = er ∧ out = out2 ∧ false = op2 := by simpa using e2
                clear e2
                dsimp only at hg1
                have hL1 : decide (1024 ≤ (out.length : Int)) = true := decide_eq_true hL
                have hL2 : decide (1024 ≤ out.length) = true := decide_eq_true (by omega)
                clear hL
                obtain ⟨rfl, rfl, rfl⟩ : ([] : List S46) = r1 ∧ l.f0 = r2 ∧ 10 = r3 := by simpa using hg1
                clear hg1
                go_wp2_with (first | (go_at_call 22; refine (h22 _).mono ?_; rintro e w' ⟨rfl, q, rfl⟩) | (go_at_call 23; refine (h23 _).mono ?_; rintro e w' ⟨rfl, q, rfl⟩))
                repeat (go_quiet (fail); try go_wp2)
                go_ret3
                exact ⟨_, rfl, Kd.S_nil _ _ _ _ _, below_step HB.out (below_step (by repeat (first | (with_reducible first | exact SB.out | apply below_alloc | apply pw_below_drewN | apply below_drew1) | exact SB.out)) (by repeat (first | (with_reducible exact Below.refl _ _) | apply below_alloc | apply pw_below_drewN | apply below_drew1)))⟩
              · rw [if_neg hL] at e2
                obtain ⟨rfl, rfl, rfl⟩ : none = er ∧ out ++ [⟨l.f0, kk, []⟩] = out2 ∧ true = op2 := by simpa using e2
                clear e2
                dsimp only at hg1
                have hL1 : decide (1024 ≤ (out.length : Int)) = false := decide_eq_false hL
                have hL2 : decide (1024 ≤ out.length) = false := decide_eq_false (by omega)
                have HL : Aside0 (out.length < 1024) := ⟨by omega⟩
                clear hL
                go_wp2_with (first | (go_at_call 22; refine (h22 _).mono ?_; rintro e w' ⟨rfl, q, rfl⟩) | (go_at_call 23; refine (h23 _).mono ?_; rintro e w' ⟨rfl, q, rfl⟩) | ((with_reducible refine gate_builtin (b := .append) (xs := #[.tmp 60, .tmp 65]) rfl ?_); at_builtin; go_loud (refine Kd.S_append k46 (w0 := wN) wN.heap.size rfl (.tmp 60) (.tmp 65) 31 46 (.agg #[(.int .i64 0), (.string ⟨#[]⟩), (.slice none 0 0)]) 48 rfl Tryd.underlying31 info46 rfl (by decide) (by omega) (.slice A0 out.length c0) out (⟨l.f0, kk, []⟩ : S46) [.int .i64 l.f0, .string kk, .slice none 0 0] (fun _ => True) (fun _ => False) rfl ?aX ?aP (fun _ hk => hk.elim) ?aF ?aO ?aB ?aS ?aL ?_); (case aX => first | rfl | (go_simp; done) | (go_simp; rfl)); (case aP => exact k46_mkM _ _ _ (⟨l.f0, kk, []⟩ : S46) (Kd.R_nil _ _ _ _ _)); (case aB => exact (by repeat (first | (with_reducible first | exact SB.out | apply below_alloc | apply pw_below_drewN | apply below_drew1) | exact SB.out))); (case aF => exact (fun _ _ => trivial)); (case aO => exact Kd.S_mono (by (with_reducible repeat (first | apply Kd.S_alloc | apply Kd.S_drewN | apply Kd.S_drew)); exact HS.out) (fun _ _ => ⟨trivial, fun hk => hk⟩)); (case aS => exact (below_size (by repeat (first | (with_reducible first | exact SB.out | apply below_alloc | apply pw_below_drewN | apply below_drew1) | exact SB.out)))); (case aL => have := HL.out; omega); intro v4 w4 ho hb hg hat; have HS2 := Aside0.mk ho; have SB2 := Aside0.mk hb; clear ho hb hg hat))
                obtain ⟨A4, c4, ev4⟩ := Kd.S_slice HS2.out
                subst ev4
                go_roundg (ls.length - (x + 1).toNat)
                case measure => have := D.out; have := HX.out; omega
                case rel => exact ⟨x + 1, true, out ++ [⟨l.f0, kk, []⟩], A4, c4, rfl, rfl, by rw [hwr.out], ⟨D.out.2.1, D.out.2.2, Nat.le_refl _⟩, SB2, HS2, ⟨hg1⟩⟩
        | true =>
          rw [if_neg (by decide)] at e2
          by_cases hE : l.f1.toList = [125]
          · rw [if_pos hE] at e2
            obtain ⟨rfl, rfl, rfl⟩ : none = er ∧ out = out2 ∧ false = op2 := by simpa using e2
            clear e2
            dsimp only at hg1
            have hE1 : (l.f1.toList == [125]) = true := beq_iff_eq.mpr hE
            clear hE
            go_wp2
            go_roundg (ls.length - (x + 1).toNat)
            case measure => have := D.out; have := HX.out; omega
            case rel => exact ⟨x + 1, false, out, A0, c0, rfl, rfl, by rw [hwr.out], ⟨D.out.2.1, D.out.2.2, Nat.le_refl _⟩, ⟨(by repeat (first | (with_reducible first | exact SB.out | apply below_alloc | apply pw_below_drewN | apply below_drew1) | exact SB.out))⟩, ⟨(by (with_reducible repeat (first | apply Kd.S_alloc | apply Kd.S_drewN | apply Kd.S_drew)); exact HS.out)⟩, ⟨hg1⟩⟩
          · rw [if_neg hE] at e2
            have hE1 : (l.f1.toList == [125]) = false := beq_eq_false_iff_ne.mpr hE
            clear hE
            by_cases hN : ¬ (0 < out.length ∧ out.length ≤ 1024 ∧ l.f1.size < 4294967281)
            · rw [if_pos hN] at e2; cases e2
            rw [if_neg hN] at e2
            obtain ⟨hpos, hle, hsz⟩ := Classical.not_not.mp hN
            clear hN
            obtain ⟨value, e3, e2⟩ := Option.bind_eq_some_iff.mp e2
            obtain ⟨wo, hwo⟩ : ∃ wo, wo = wr := ⟨_, rfl⟩
            subst hwo
            obtain ⟨g, cap, evg, hgb, hglt, cells0, hgc⟩ := Kd.S_form HS.out hpos
            obtain ⟨rfl, rfl⟩ : A0 = some ⟨g, 0, none⟩ ∧ c0 = cap := by injection evg with x1 _ x3; exact ⟨x1, x3⟩
            have GBO := Aside0.mk hgc
            have HGB : Aside0 (wN.heap.size ≤ g ∧ g < wo.heap.size) := ⟨⟨hgb, hglt⟩⟩
            clear evg hgb hglt hgc
            obtain ⟨i, hi⟩ : ∃ i : Int, (out.length : Int) - 1 = i := ⟨_, rfl⟩
            rw [hi] at e2
            have hi3 : wrap64 i = i := IntWalk.wrap64_in _ ⟨by omega, by omega⟩
            have hiw : wrap64 ((out.length : Int) - 1) = i := by rw [hi]; exact hi3
            have hiw2 : IntKind.i64.wrap ((out.length : Int) - 1) = i := by rw [← hiw]; exact i64_w _
            have i0 : 0 ≤ i := by omega
            have i1 : i < (out.length : Int) := by omega
            have HI : Aside0 (0 ≤ i ∧ i < (out.length : Int)) := ⟨⟨i0, i1⟩⟩
            obtain ⟨ad, A2, c2, ea, k0, k1, k2, hl2, g2⟩ := at_T46 (Kd.F_now (Kd.S_F HS.out)) i i0 i1
            cases ea
            generalize hb : rd_T46 out i = b at e2 k0 k1 k2 hl2 g2
            have HBE : Aside0 (rd_T46 out i = b) := ⟨hb⟩
            have CB := Aside0.mk g2
            have HL2 := Aside0.mk hl2
            clear g2 hl2 hb hi
            have K2 : Aside0 (wo.cell? ⟨g, i.toNat * 3 + 2, none⟩ = some (.slice A2 b.f2.length c2)) := ⟨by simp only [add_plain] at k2; exact k2⟩
            replace k0 := pw_cell_below (below_alloc (Below.refl _ _) (.cells #[.int .i64 l.f0, .string l.f1] 67 (0, 0))) k0
            replace k1 := pw_cell_below (below_alloc (Below.refl _ _) (.cells #[.int .i64 l.f0, .string l.f1] 67 (0, 0))) k1
            replace k2 := pw_cell_below (below_alloc (Below.refl _ _) (.cells #[.int .i64 l.f0, .string l.f1] 67 (0, 0))) k2
            simp only [add_plain] at k0 k1 k2
            have i0T : (0 ≤ i) = True := eq_true i0
            have i1T : (i < (out.length : Int)) = True := eq_true i1
            clear i0 i1 hpos hle
            have HSZ := Aside0.mk hsz
            clear hsz
            have E2 := Aside0.mk e2
            have E3 := Aside0.mk e3
            have HG1 := Aside0.mk hg1
            clear e2 e3 hg1
            go_wp2
            go_loopg [14] l.f1.size (fun kq v14 w' => ∃ n : Nat, v14 = .int .i64 (n : Int) ∧ Aside0 (n ≤ l.f1.size ∧ l.f1.size - n ≤ kq) ∧ (∃ q, w' = (wo.alloc (.cells #[.int .i64 l.f0, .string l.f1] 67 (0, 0))).drewN q) ∧ Aside0 (∀ j, j < n → (fun c => !isBl c) (l.f1.data.toList.getD j 0) = true))
            case atStart => exact ⟨0, rfl, ⟨by omega, by omega⟩, ⟨0, rfl⟩, ⟨fun j hj => absurd hj (Nat.not_lt_zero _)⟩⟩
            case round =>
              obtain ⟨n, rfl, HN, ⟨q, rfl⟩, AL⟩ := hrel
              by_cases hlt : n < l.f1.size
              · have hltz : decide ((n : Int) < (l.f1.size : Int)) = true := decide_eq_true (by omega)
                have hlen : n < l.f1.data.toList.length := by rw [size_list]; exact hlt
                have hb := at_list l.f1 n hlt
                have h24 := fun W => belvedereref09_blank.calls _ _ W (blank_val (l.f1[n]'hlt))
                cases hq : isBl (l.f1[n]'hlt) with
                | false =>
                  rw [hq] at h24
                  have B : Aside0 (∀ j, j < n + 1 → (fun c => !isBl c) (l.f1.data.toList.getD j 0) = true) := ⟨fun j hj => by
                    by_cases e : j = n
                    · subst e; show (!isBl _) = true; rw [hb, hq]; rfl
                    · exact AL.out j (by omega)⟩
                  clear hb hq AL
                  have hwn : Aside0 (wrap64 ((n : Int) + 1) = ((n : Int) + 1)) := ⟨IntWalk.wrap64_in _ ⟨by omega, by have := HSZ.out; omega⟩⟩
                  go_wp2_with (first | (go_at_call 24; refine (h24 _).mono ?_; rintro e w' ⟨rfl, q24, rfl⟩))
                  go_roundg (l.f1.size - (n + 1))
                  case measure => have := HN.out; omega
                  case rel => have hs_ := HSZ.out; have hn_ := HN.out; exact ⟨n + 1, (by rw [hwn.out]; rfl), ⟨by omega, Nat.le_refl _⟩, by first | exact ⟨_, rfl⟩ | exact ⟨_, by simp only [World.drewN_drewN]; rfl⟩, B⟩
                | true =>
                  rw [hq] at h24
                  have hw : wlen l.f1 = n := tw_len _ 0 _ n (Nat.le_of_lt hlen) AL.out (fun _ => by show (!isBl _) = false; rw [hb, hq]; rfl)
                  clear hb hq AL
                  have e3 := E3.out
                  have e2 := E2.out
                  rw [hw] at e3 e2
                  clear E2 E3 hw
                  have h25 := fun W => belvedereref08_Trim.calls k (l.f1.extract n l.f1.size) value W e3
                  clear e3
                  have hnT : ((n : Int) ≤ (l.f1.size : Int)) = True := eq_true (by have := HN.out; omega)
                  have hnT2 : (n ≤ l.f1.size) = True := eq_true HN.out.1
                  go_wp2_with (first | (go_at_call 24; refine (h24 _).mono ?_; rintro e w' ⟨rfl, q24, rfl⟩))
                  go_quiet ((rename_i nq_; refine (h25 _).mono ?_; rintro e w' ⟨rfl, ⟨q3, rfl⟩⟩; exact ⟨rfl, nq_ + q3, by simp only [World.drewN_drewN, Nat.add_assoc]⟩))
                  obtain ⟨w3, hw3⟩ : ∃ w3 : World, (wo.alloc (.cells #[.int .i64 l.f0, .string l.f1] 67 (0, 0))).drewN (q + q24 + nq) = w3 := ⟨_, rfl⟩
                  try simp only [World.drewN_drewN]
                  rw [hw3]
                  have k03 : w3.cell? ⟨g, i.toNat * 3, none⟩ = some (.int .i64 b.f0) := hw3 ▸ k0
                  have k13 : w3.cell? ⟨g, i.toNat * 3 + 1, none⟩ = some (.string b.f1) := hw3 ▸ k1
                  have k23 : w3.cell? ⟨g, i.toNat * 3 + 2, none⟩ = some (.slice A2 b.f2.length c2) := hw3 ▸ k2
                  have BL3 : Aside0 (w3.heap[wo.heap.size]? = some (.cells #[.int .i64 l.f0, .string l.f1] 67 (0, 0))) := ⟨hw3 ▸ BL.out⟩
                  have BW3 : Aside0 (Below wo.heap.size wo w3) := ⟨hw3 ▸ pw_below_drewN (below_alloc (Below.refl _ _) (.cells #[.int .i64 l.f0, .string l.f1] 67 (0, 0))) _⟩
                  have SB3 : Aside0 (Below wN.heap.size wN w3) := ⟨below_step SB.out BW3.out⟩
                  have HS3 : Aside0 (Kd.S k46 46 w3 wN.heap.size (fun _ => True) (.slice (some ⟨g, 0, none⟩) out.length c0) out) := ⟨Kd.S_below HS.out BW3.out⟩
                  clear hw3 k0 k1 k2 hl0 hl1
                  go_upto_block 4 with (fail)
                  obtain ⟨bb, hbb⟩ : ∃ bb : Nat, w3.heap.size = bb := ⟨_, rfl⟩
                  obtain ⟨w5, hw5⟩ : ∃ w5 : World, w3.alloc (.cells #[.int .i64 b.f0, .string b.f1, .slice A2 b.f2.length c2] 46) = w5 := ⟨_, rfl⟩
                  rw [hbb, hw5]
                  have hbw : Aside0 (wo.heap.size < bb ∧ wN.heap.size ≤ bb) := ⟨hbb ▸ blk_lt BL3.out, hbb ▸ below_size SB3.out⟩
                  have h35 : Below w3.heap.size w3 w5 := hw5 ▸ below_alloc (Below.refl _ _) _
                  have BB : Aside0 (w5.heap[bb]? = some (.cells #[.int .i64 b.f0, .string b.f1, .slice A2 b.f2.length c2] 46 (0, 0))) := ⟨hbb ▸ hw5 ▸ blk_new w3 _⟩
                  have BL5 : Aside0 (w5.heap[wo.heap.size]? = some (.cells #[.int .i64 l.f0, .string l.f1] 67 (0, 0))) := ⟨blk_step BL3.out h35⟩
                  have SB5 : Aside0 (Below wN.heap.size wN w5) := ⟨below_step SB3.out h35⟩
                  have BW : Aside0 (Below wo.heap.size wo w5) := ⟨below_step BW3.out h35⟩
                  have HS5 : Aside0 (Kd.S k46 46 w5 wN.heap.size (fun k => True ∧ k ≠ bb) (.slice (some ⟨g, 0, none⟩) out.length c0) out) := ⟨Kd.S_below (Kd.S_elderB HS3.out bb (by omega)) h35⟩
                  clear SB BL HS hw5 hbb h35 BL3 BW3 SB3 HS3 k03 k13 k23
                  have SB := SB5
                  have BL := BL5
                  have HS := HS5
                  clear SB5 BL5 HS5
                  have hl0 : w5.cell? ⟨wo.heap.size, 0, none⟩ = some (.int .i64 l.f0) := (blk_cell BL.out 0).trans rfl
                  have hl1 : w5.cell? ⟨wo.heap.size, 1, none⟩ = some (.string l.f1) := (blk_cell BL.out 1).trans rfl
                  have hb0 : w5.cell? ⟨bb, 0, none⟩ = some (.int .i64 b.f0) := (blk_cell BB.out 0).trans rfl
                  have hb1 : w5.cell? ⟨bb, 1, none⟩ = some (.string b.f1) := (blk_cell BB.out 1).trans rfl
                  have hb2 : w5.cell? ⟨bb, 2, none⟩ = some (.slice A2 b.f2.length c2) := (blk_cell BB.out 2).trans rfl
                  have hfb : w5.frozen? ⟨bb, 2, none⟩ = false := blk_frozen BB.out 2
                  by_cases hD : (l.f1.extract 0 n).toList = [100, 101, 102, 105, 110, 101] ∧ n < l.f1.size
                  · rw [if_pos hD] at e2
                    have hD1 : ((l.f1.extract 0 n).toList == [100, 101, 102, 105, 110, 101]) = true := beq_iff_eq.mpr hD.1
                    have hD2 : decide ((n : Int) < (l.f1.size : Int)) = true := decide_eq_true (by have := hD.2; omega)
                    clear hD
                    have hg1 := HG1.out
                    clear HG1
                    obtain ⟨rfl, rfl, rfl⟩ : some 3 = er ∧ out = out2 ∧ true = op2 := by simpa using e2
                    clear e2
                    dsimp only at hg1
                    obtain ⟨rfl, rfl, rfl⟩ : ([] : List S46) = r1 ∧ l.f0 = r2 ∧ 3 = r3 := by simpa using hg1
                    clear hg1
                    go_wp2_with (first | (go_at_call 23; refine (h23 _).mono ?_; rintro e w' ⟨rfl, q, rfl⟩))
                    repeat (go_quiet (fail); try go_wp2)
                    go_ret3
                    exact ⟨_, rfl, Kd.S_nil _ _ _ _ _, below_step HB.out (below_step (by repeat (first | (with_reducible first | exact SB.out | apply below_alloc | apply pw_below_drewN | apply below_drew1) | exact SB.out)) (by repeat (first | (with_reducible exact Below.refl _ _) | apply below_alloc | apply pw_below_drewN | apply below_drew1)))⟩
                  rw [if_neg hD] at e2
                  obtain ⟨wd, e3, e2⟩ := Option.bind_eq_some_iff.mp e2
                  have h23 := fun W => belvedereref09_Word.calls k (l.f1.extract 0 n) wd W e3
                  clear e3
                  have hD2 : ((l.f1.extract 0 n).toList == [100, 101, 102, 105, 110, 101]) = false ∨ ((l.f1.extract 0 n).toList == [100, 101, 102, 105, 110, 101]) = true ∧ decide ((n : Int) < (l.f1.size : Int)) = false := by
                    by_cases hx : (l.f1.extract 0 n).toList = [100, 101, 102, 105, 110, 101]
                    · exact Or.inr ⟨beq_iff_eq.mpr hx, decide_eq_false (fun e => hD ⟨hx, by omega⟩)⟩
                    · exact Or.inl (beq_eq_false_iff_ne.mpr hx)
                  clear hD
                  have hg1 := HG1.out
                  clear HG1
                  cases wd with
                  | false =>
                    rw [if_pos rfl] at e2
                    obtain ⟨rfl, rfl, rfl⟩ : some 11 = er ∧ out = out2 ∧ true = op2 := by simpa using e2
                    clear e2
                    dsimp only at hg1
                    rcases hD2 with hD1 | ⟨hD1, hD3⟩
                    · skip
                      obtain ⟨rfl, rfl, rfl⟩ : ([] : List S46) = r1 ∧ l.f0 = r2 ∧ 11 = r3 := by simpa using hg1
                      clear hg1
                      go_wp2_with (first | (go_at_call 23; refine (h23 _).mono ?_; rintro e w' ⟨rfl, q, rfl⟩))
                      repeat (go_quiet (fail); try go_wp2)
                      go_ret3
                      exact ⟨_, rfl, Kd.S_nil _ _ _ _ _, below_step HB.out (below_step (by repeat (first | (with_reducible first | exact SB.out | apply below_alloc | apply pw_below_drewN | apply below_drew1) | exact SB.out)) (by repeat (first | (with_reducible exact Below.refl _ _) | apply below_alloc | apply pw_below_drewN | apply below_drew1)))⟩
                    · exact absurd (hltz.symm.trans hD3) (by decide)
                  | true =>
                    rw [if_neg (by decide)] at e2
                    obtain ⟨fi, e3, e2⟩ := Option.bind_eq_some_iff.mp e2
                    have h14 := fun W (hb : Aside0 (Below wo.heap.size wo W)) => belvedereref09_Find.calls k b.f0 b.f1 A2 c2 b.f2 (l.f1.extract 0 n) fi W (Kd.C_below CB.out hb.out) HL2.out e3
                    clear e3
                    by_cases hF : fi ≥ 0
                    · rw [if_pos hF] at e2
                      have hF1 : decide (0 ≤ fi) = true := decide_eq_true hF
                      clear hF
                      obtain ⟨rfl, rfl, rfl⟩ : some 7 = er ∧ out = out2 ∧ true = op2 := by simpa using e2
                      clear e2
                      dsimp only at hg1
                      rcases hD2 with hD1 | ⟨hD1, hD3⟩
                      · skip
                        obtain ⟨rfl, rfl, rfl⟩ : ([] : List S46) = r1 ∧ l.f0 = r2 ∧ 7 = r3 := by simpa using hg1
                        clear hg1
                        go_wp2_with (first | (go_at_call 23; refine (h23 _).mono ?_; rintro e w' ⟨rfl, q, rfl⟩) | (go_at_call 14; refine (h14 _ ⟨by first | exact BW.out | exact pw_below_drewN BW.out _⟩).mono ?_; rintro e w6 ⟨rfl, hb⟩; have SB2 : Aside0 (Below wN.heap.size wN w6) := ⟨below_step SB.out (by first | exact hb | exact below_q hb)⟩; have BW2 : Aside0 (Below wo.heap.size wo w6) := ⟨below_step BW.out (by first | exact hb | exact below_q hb)⟩; have BL2 : Aside0 (w6.heap[wo.heap.size]? = some (.cells #[.int .i64 l.f0, .string l.f1] 67 (0, 0))) := ⟨blk_step BL.out (by first | exact hb | exact below_q hb)⟩; have BB2 : Aside0 (w6.heap[bb]? = some (.cells #[.int .i64 b.f0, .string b.f1, .slice A2 b.f2.length c2] 46 (0, 0))) := ⟨blk_step BB.out (by first | exact hb | exact below_q hb)⟩; have HS2 : Aside0 (Kd.S k46 46 w6 wN.heap.size (fun k => True ∧ k ≠ bb) (.slice (some ⟨g, 0, none⟩) out.length c0) out) := ⟨Kd.S_below HS.out (by first | exact hb | exact below_q hb)⟩; clear SB BW BL BB HS hb; have SB := SB2; have BW := BW2; have BL := BL2; have BB := BB2; have HS := HS2; clear SB2 BW2 BL2 BB2 HS2; have hl0 : w6.cell? ⟨wo.heap.size, 0, none⟩ = some (.int .i64 l.f0) := (blk_cell BL.out 0).trans rfl; have hl1 : w6.cell? ⟨wo.heap.size, 1, none⟩ = some (.string l.f1) := (blk_cell BL.out 1).trans rfl; have hb0 : w6.cell? ⟨bb, 0, none⟩ = some (.int .i64 b.f0) := (blk_cell BB.out 0).trans rfl; have hb1 : w6.cell? ⟨bb, 1, none⟩ = some (.string b.f1) := (blk_cell BB.out 1).trans rfl; have hb2 : w6.cell? ⟨bb, 2, none⟩ = some (.slice A2 b.f2.length c2) := (blk_cell BB.out 2).trans rfl; have hfb : w6.frozen? ⟨bb, 2, none⟩ = false := blk_frozen BB.out 2))
                        repeat (go_quiet (fail); try go_wp2)
                        go_ret3
                        exact ⟨_, rfl, Kd.S_nil _ _ _ _ _, below_step HB.out (below_step (by repeat (first | (with_reducible first | exact SB.out | apply below_alloc | apply pw_below_drewN | apply below_drew1) | exact SB.out)) (by repeat (first | (with_reducible exact Below.refl _ _) | apply below_alloc | apply pw_below_drewN | apply below_drew1)))⟩
                      · exact absurd (hltz.symm.trans hD3) (by decide)
                    rw [if_neg hF] at e2
                    have hF1 : decide (0 ≤ fi) = false := decide_eq_false (by omega)
                    clear hF
                    by_cases hL : 64 ≤ (b.f2.length : Int)
                    · rw [if_pos hL] at e2
                      have hL1 : decide (64 ≤ (b.f2.length : Int)) = true := decide_eq_true hL
                      have hL2 : decide (64 ≤ b.f2.length) = true := decide_eq_true (by omega)
                      clear hL
                      obtain ⟨rfl, rfl, rfl⟩ : some 10 = er ∧ out = out2 ∧ true = op2 := by simpa using e2
                      clear e2
                      dsimp only at hg1
                      rcases hD2 with hD1 | ⟨hD1, hD3⟩
                      · skip
                        obtain ⟨rfl, rfl, rfl⟩ : ([] : List S46) = r1 ∧ l.f0 = r2 ∧ 10 = r3 := by simpa using hg1
                        clear hg1
                        go_wp2_with (first | (go_at_call 23; refine (h23 _).mono ?_; rintro e w' ⟨rfl, q, rfl⟩) | (go_at_call 14; refine (h14 _ ⟨by first | exact BW.out | exact pw_below_drewN BW.out _⟩).mono ?_; rintro e w6 ⟨rfl, hb⟩; have SB2 : Aside0 (Below wN.heap.size wN w6) := ⟨below_step SB.out (by first | exact hb | exact below_q hb)⟩; have BW2 : Aside0 (Below wo.heap.size wo w6) := ⟨below_step BW.out (by first | exact hb | exact below_q hb)⟩; have BL2 : Aside0 (w6.heap[wo.heap.size]? = some (.cells #[.int .i64 l.f0, .string l.f1] 67 (0, 0))) := ⟨blk_step BL.out (by first | exact hb | exact below_q hb)⟩; have BB2 : Aside0 (w6.heap[bb]? = some (.cells #[.int .i64 b.f0, .string b.f1, .slice A2 b.f2.length c2] 46 (0, 0))) := ⟨blk_step BB.out (by first | exact hb | exact below_q hb)⟩; have HS2 : Aside0 (Kd.S k46 46 w6 wN.heap.size (fun k => True ∧ k ≠ bb) (.slice (some ⟨g, 0, none⟩) out.length c0) out) := ⟨Kd.S_below HS.out (by first | exact hb | exact below_q hb)⟩; clear SB BW BL BB HS hb; have SB := SB2; have BW := BW2; have BL := BL2; have BB := BB2; have HS := HS2; clear SB2 BW2 BL2 BB2 HS2; have hl0 : w6.cell? ⟨wo.heap.size, 0, none⟩ = some (.int .i64 l.f0) := (blk_cell BL.out 0).trans rfl; have hl1 : w6.cell? ⟨wo.heap.size, 1, none⟩ = some (.string l.f1) := (blk_cell BL.out 1).trans rfl; have hb0 : w6.cell? ⟨bb, 0, none⟩ = some (.int .i64 b.f0) := (blk_cell BB.out 0).trans rfl; have hb1 : w6.cell? ⟨bb, 1, none⟩ = some (.string b.f1) := (blk_cell BB.out 1).trans rfl; have hb2 : w6.cell? ⟨bb, 2, none⟩ = some (.slice A2 b.f2.length c2) := (blk_cell BB.out 2).trans rfl; have hfb : w6.frozen? ⟨bb, 2, none⟩ = false := blk_frozen BB.out 2))
                        repeat (go_quiet (fail); try go_wp2)
                        go_ret3
                        exact ⟨_, rfl, Kd.S_nil _ _ _ _ _, below_step HB.out (below_step (by repeat (first | (with_reducible first | exact SB.out | apply below_alloc | apply pw_below_drewN | apply below_drew1) | exact SB.out)) (by repeat (first | (with_reducible exact Below.refl _ _) | apply below_alloc | apply pw_below_drewN | apply below_drew1)))⟩
                      · exact absurd (hltz.symm.trans hD3) (by decide)
                    rw [if_neg hL] at e2
                    have hL1 : decide (64 ≤ (b.f2.length : Int)) = false := decide_eq_false hL
                    have hL2 : decide (64 ≤ b.f2.length) = false := decide_eq_false (by omega)
                    have HLF : Aside0 (b.f2.length < 64) := ⟨by omega⟩
                    clear hL
                    obtain ⟨rfl, rfl, rfl⟩ : none = er ∧ out.set i.toNat ⟨b.f0, b.f1, b.f2 ++ [(⟨l.f0, l.f1.extract 0 n, value⟩ : S52)]⟩ = out2 ∧ true = op2 := by simpa using e2
                    clear e2
                    dsimp only at hg1
                    rcases hD2 with hD1 | ⟨hD1, hD3⟩
                    · skip
                      go_wp2_with (first | (go_at_call 23; refine (h23 _).mono ?_; rintro e w' ⟨rfl, q, rfl⟩) | (go_at_call 14; refine (h14 _ ⟨by first | exact BW.out | exact pw_below_drewN BW.out _⟩).mono ?_; rintro e w6 ⟨rfl, hb⟩; have SB2 : Aside0 (Below wN.heap.size wN w6) := ⟨below_step SB.out (by first | exact hb | exact below_q hb)⟩; have BW2 : Aside0 (Below wo.heap.size wo w6) := ⟨below_step BW.out (by first | exact hb | exact below_q hb)⟩; have BL2 : Aside0 (w6.heap[wo.heap.size]? = some (.cells #[.int .i64 l.f0, .string l.f1] 67 (0, 0))) := ⟨blk_step BL.out (by first | exact hb | exact below_q hb)⟩; have BB2 : Aside0 (w6.heap[bb]? = some (.cells #[.int .i64 b.f0, .string b.f1, .slice A2 b.f2.length c2] 46 (0, 0))) := ⟨blk_step BB.out (by first | exact hb | exact below_q hb)⟩; have HS2 : Aside0 (Kd.S k46 46 w6 wN.heap.size (fun k => True ∧ k ≠ bb) (.slice (some ⟨g, 0, none⟩) out.length c0) out) := ⟨Kd.S_below HS.out (by first | exact hb | exact below_q hb)⟩; clear SB BW BL BB HS hb; have SB := SB2; have BW := BW2; have BL := BL2; have BB := BB2; have HS := HS2; clear SB2 BW2 BL2 BB2 HS2; have hl0 : w6.cell? ⟨wo.heap.size, 0, none⟩ = some (.int .i64 l.f0) := (blk_cell BL.out 0).trans rfl; have hl1 : w6.cell? ⟨wo.heap.size, 1, none⟩ = some (.string l.f1) := (blk_cell BL.out 1).trans rfl; have hb0 : w6.cell? ⟨bb, 0, none⟩ = some (.int .i64 b.f0) := (blk_cell BB.out 0).trans rfl; have hb1 : w6.cell? ⟨bb, 1, none⟩ = some (.string b.f1) := (blk_cell BB.out 1).trans rfl; have hb2 : w6.cell? ⟨bb, 2, none⟩ = some (.slice A2 b.f2.length c2) := (blk_cell BB.out 2).trans rfl; have hfb : w6.frozen? ⟨bb, 2, none⟩ = false := blk_frozen BB.out 2; have HSB := Kd.S_mono (Kd.S_bound HS.out) (ok' := fun k => (k ≠ bb) ∧ ¬ w6.heap.size ≤ k) (fun k hk => ⟨hk.1.2, by have := hk.2.2.1; omega⟩); obtain ⟨oki, c, hcl, hM, hcc, hfr, hoki, hH⟩ := Kd.S_elem HSB z46 i HI.out.1 HI.out.2; obtain ⟨v2x, ec, hR2⟩ := k46_openM hM; subst ec; rw [show out.getD i.toNat z46 = b from HBE.out] at hR2 hcc hH; have ev2 : v2x = .slice A2 b.f2.length c2 := Option.some.inj ((hcc 2 v2x rfl).symm.trans (pw_cell_below BW.out K2.out)); subst ev2; have HR := Aside0.mk hR2; have HH := Aside0.mk hH; have HOK := Aside0.mk hoki; have HCC := Aside0.mk hcc; have GB : Aside0 (w6.heap[g]? = some (.cells cells0 46 (0, 0))) := ⟨blk_step GBO.out BW.out⟩; have GNE : Aside0 (g ≠ bb) := ⟨by have := HGB.out.2; have := hbw.out.1; omega⟩; have HBS : Aside0 (bb < w6.heap.size ∧ g < w6.heap.size) := ⟨blk_lt BB.out, blk_lt GB.out⟩; clear HSB hcl hM hcc hR2 hH hoki hfr) | ((with_reducible refine gate_builtin (b := .append) (xs := #[.tmp 133, .tmp 139]) rfl ?_); at_builtin; refine Kd.R_append k52 (w0 := wN) wN.heap.size rfl (.tmp 133) (.tmp 139) 44 52 (.agg #[(.int .i64 0), (.string ⟨#[]⟩), (.string ⟨#[]⟩)]) 40 rfl Tryd.underlying44 info52 rfl (by decide) (by omega) (.slice A2 b.f2.length c2) b.f2 (⟨l.f0, l.f1.extract 0 n, value⟩ : S52) [.int .i64 l.f0, .string (l.f1.extract 0 n), .string value] (fun k => oki k ∨ w6.heap.size ≤ k) (fun _ => False) rfl ?aX ?aP (fun _ hk => hk.elim) ?aF ?aO ?aB ?aS ?aL ?_; (case aX => first | rfl | (go_simp; done) | (go_simp; rfl)); (case aP => exact k52_mkM _ _ _ (⟨l.f0, l.f1.extract 0 n, value⟩ : S52)); (case aF => exact (fun _ hk => Or.inr hk)); (case aO => exact Kd.R_mono HR.out (fun _ hk => Or.inl hk)); (case aB => exact SB.out); (case aS => exact below_size SB.out); (case aL => have := HLF.out; omega); intro v8 w8 hs hb hg hat; obtain ⟨A1, c1, ev⟩ := Kd.R_slice hs; rw [show (b.f2 ++ [(⟨l.f0, l.f1.extract 0 n, value⟩ : S52)]).length = b.f2.length + 1 by simp] at ev; subst ev; have NBg : some g ≠ (Value.slice A2 b.f2.length c2).ownBlock := Kd.R_ne HR.out GB.out (by decide); have NBb : some bb ≠ (Value.slice A2 b.f2.length c2).ownBlock := Kd.R_ne HR.out BB.out (by decide); have GB8 := blk_grown GB.out hg NBg; have BB8 := blk_grown BB.out hg NBb; have HS8 := Aside0.mk hs; have SB8 := Aside0.mk hb; have HH8 := Aside0.mk (Kd.H_grown HH.out hg (fun k e => HR.out.1 k e)); clear hs hb hg hat; have hfb8 : w8.frozen? ⟨bb, 2, none⟩ = false := blk_frozen BB8 2; have hcb8 : w8.cell? ⟨bb, 2, none⟩ = some (.slice A2 b.f2.length c2) := (blk_cell BB8 2).trans rfl; have PB9 := blk_put (cs := #[.int .i64 b.f0, .string b.f1, .slice A2 b.f2.length c2]) BB8 2 (.slice A1 (b.f2.length + 1) c1) rfl; have hb90 := (blk_cell PB9 0).trans rfl; have hb91 := (blk_cell PB9 1).trans rfl; have hb92 := (blk_cell PB9 2).trans rfl; have GB9 := blk_far GB8 (p := ⟨bb, 2, none⟩) GNE.out (.slice A1 (b.f2.length + 1) c1); have hg90 := (blk_cell GB9 (i.toNat * 3)).trans ((blk_cell GB.out (i.toNat * 3)).symm.trans (HCC.out 0 _ rfl)); have hg91 := (blk_cell GB9 (i.toNat * 3 + 1)).trans ((blk_cell GB.out (i.toNat * 3 + 1)).symm.trans (HCC.out 1 _ rfl)); have hg92 := (blk_cell GB9 (i.toNat * 3 + 2)).trans ((blk_cell GB.out (i.toNat * 3 + 2)).symm.trans (HCC.out 2 _ rfl)); have hfg0 := blk_frozen GB9 (i.toNat * 3); have hfg1 := blk_frozen GB9 (i.toNat * 3 + 1); have hfg2 := blk_frozen GB9 (i.toNat * 3 + 2); have PB9 := Aside0.mk PB9; have GB9 := Aside0.mk GB9; clear GB8 BB8 NBg NBb))
                      have HR9 := Aside0.mk (Kd.R_far (p := ⟨bb, 2, none⟩) HS8.out (fun k hk e => by have e' : k = bb := e; rcases hk with hk | hk; exact (HOK.out k hk).1.1 e'; have := HBS.out.1; omega) (.slice A1 (b.f2.length + 1) c1))
                      have HH9 := Aside0.mk (Kd.H_far (p := ⟨bb, 2, none⟩) HH8.out (fun k hk => hk.1) (.slice A1 (b.f2.length + 1) c1))
                      have hSeg : Kd.S k46 46 ((((w8.setCell ⟨bb, 2, none⟩ (.slice A1 (b.f2.length + 1) c1)).setCell ⟨g, i.toNat * 3, none⟩ (.int .i64 b.f0)).setCell ⟨g, i.toNat * 3 + 1, none⟩ (.string b.f1)).setCell ⟨g, i.toNat * 3 + 2, none⟩ (.slice A1 (b.f2.length + 1) c1)) wN.heap.size (fun k => k ≠ bb) (.slice (some ⟨g, 0, none⟩) out.length c0) (out.set i.toNat ⟨b.f0, b.f1, b.f2 ++ [(⟨l.f0, l.f1.extract 0 n, value⟩ : S52)]⟩) := (Kd.S_seg (okg := fun k => w6.heap.size ≤ k) (ok := fun k => k ≠ bb) (okp := fun k => oki k ∨ w6.heap.size ≤ k) (seg := [.int .i64 b.f0, .string b.f1, (.slice A1 (b.f2.length + 1) c1)]) (j := 0) (x' := (⟨b.f0, b.f1, b.f2 ++ [(⟨l.f0, l.f1.extract 0 n, value⟩ : S52)]⟩ : S46)) HH9.out HI.out.1 HI.out.2 (by show 0 + 3 ≤ 3; omega) (k46_mkM _ _ _ (⟨b.f0, b.f1, b.f2 ++ [(⟨l.f0, l.f1.extract 0 n, value⟩ : S52)]⟩ : S46) HR9.out) (fun _ hk => hk) (fun k hk => ⟨by have := HBS.out.1; omega, by have := HBS.out.2; omega⟩)).1
                      have HSEG := Aside0.mk hSeg
                      clear hSeg
                      have SB9 := Aside0.mk (below_set (g := g) (j := i.toNat * 3 + 2) (v := (.slice A1 (b.f2.length + 1) c1)) (below_set (g := g) (j := i.toNat * 3 + 1) (v := .string b.f1) (below_set (g := g) (j := i.toNat * 3) (v := .int .i64 b.f0) (below_set (g := bb) (j := 2) (v := (.slice A1 (b.f2.length + 1) c1)) SB8.out hbw.out.2) HGB.out.1) HGB.out.1) HGB.out.1)
                      go_roundg (ls.length - (x + 1).toNat)
                      case measure => have := D.out; have := HX.out; omega
                      case rel => exact ⟨x + 1, true, out.set i.toNat ⟨b.f0, b.f1, b.f2 ++ [(⟨l.f0, l.f1.extract 0 n, value⟩ : S52)]⟩, some ⟨g, 0, none⟩, c0, by rw [List.length_set], rfl, by rw [hwr.out], ⟨D.out.2.1, D.out.2.2, Nat.le_refl _⟩, SB9, ⟨by rw [List.length_set]; exact Kd.S_mono HSEG.out (fun _ _ => trivial)⟩, ⟨hg1⟩⟩
                    · exact absurd (hltz.symm.trans hD3) (by decide)
              · have hltz : decide ((n : Int) < (l.f1.size : Int)) = false := decide_eq_false (by omega)
                have hw : wlen l.f1 = n := tw_len _ 0 _ n (by rw [size_list]; exact HN.out.1) AL.out (fun h => by rw [size_list] at h; omega)
                clear AL
                have h24 : True := trivial
                have e3 := E3.out
                have e2 := E2.out
                rw [hw] at e3 e2
                clear E2 E3 hw
                have h25 := fun W => belvedereref08_Trim.calls k (l.f1.extract n l.f1.size) value W e3
                clear e3
                have hnT : ((n : Int) ≤ (l.f1.size : Int)) = True := eq_true (by have := HN.out; omega)
                have hnT2 : (n ≤ l.f1.size) = True := eq_true HN.out.1
                go_wp2_with (first | (go_at_call 24; refine (h24 _).mono ?_; rintro e w' ⟨rfl, q24, rfl⟩))
                go_quiet ((rename_i nq_; refine (h25 _).mono ?_; rintro e w' ⟨rfl, ⟨q3, rfl⟩⟩; exact ⟨rfl, nq_ + q3, by simp only [World.drewN_drewN, Nat.add_assoc]⟩))
                obtain ⟨w3, hw3⟩ : ∃ w3 : World, (wo.alloc (.cells #[.int .i64 l.f0, .string l.f1] 67 (0, 0))).drewN (q + nq) = w3 := ⟨_, rfl⟩
                try simp only [World.drewN_drewN]
                rw [hw3]
                have k03 : w3.cell? ⟨g, i.toNat * 3, none⟩ = some (.int .i64 b.f0) := hw3 ▸ k0
                have k13 : w3.cell? ⟨g, i.toNat * 3 + 1, none⟩ = some (.string b.f1) := hw3 ▸ k1
                have k23 : w3.cell? ⟨g, i.toNat * 3 + 2, none⟩ = some (.slice A2 b.f2.length c2) := hw3 ▸ k2
                have BL3 : Aside0 (w3.heap[wo.heap.size]? = some (.cells #[.int .i64 l.f0, .string l.f1] 67 (0, 0))) := ⟨hw3 ▸ BL.out⟩
                have BW3 : Aside0 (Below wo.heap.size wo w3) := ⟨hw3 ▸ pw_below_drewN (below_alloc (Below.refl _ _) (.cells #[.int .i64 l.f0, .string l.f1] 67 (0, 0))) _⟩
                have SB3 : Aside0 (Below wN.heap.size wN w3) := ⟨below_step SB.out BW3.out⟩
                have HS3 : Aside0 (Kd.S k46 46 w3 wN.heap.size (fun _ => True) (.slice (some ⟨g, 0, none⟩) out.length c0) out) := ⟨Kd.S_below HS.out BW3.out⟩
                clear hw3 k0 k1 k2 hl0 hl1
                go_upto_block 4 with (fail)
                obtain ⟨bb, hbb⟩ : ∃ bb : Nat, w3.heap.size = bb := ⟨_, rfl⟩
                obtain ⟨w5, hw5⟩ : ∃ w5 : World, w3.alloc (.cells #[.int .i64 b.f0, .string b.f1, .slice A2 b.f2.length c2] 46) = w5 := ⟨_, rfl⟩
                rw [hbb, hw5]
                have hbw : Aside0 (wo.heap.size < bb ∧ wN.heap.size ≤ bb) := ⟨hbb ▸ blk_lt BL3.out, hbb ▸ below_size SB3.out⟩
                have h35 : Below w3.heap.size w3 w5 := hw5 ▸ below_alloc (Below.refl _ _) _
                have BB : Aside0 (w5.heap[bb]? = some (.cells #[.int .i64 b.f0, .string b.f1, .slice A2 b.f2.length c2] 46 (0, 0))) := ⟨hbb ▸ hw5 ▸ blk_new w3 _⟩
                have BL5 : Aside0 (w5.heap[wo.heap.size]? = some (.cells #[.int .i64 l.f0, .string l.f1] 67 (0, 0))) := ⟨blk_step BL3.out h35⟩
                have SB5 : Aside0 (Below wN.heap.size wN w5) := ⟨below_step SB3.out h35⟩
                have BW : Aside0 (Below wo.heap.size wo w5) := ⟨below_step BW3.out h35⟩
                have HS5 : Aside0 (Kd.S k46 46 w5 wN.heap.size (fun k => True ∧ k ≠ bb) (.slice (some ⟨g, 0, none⟩) out.length c0) out) := ⟨Kd.S_below (Kd.S_elderB HS3.out bb (by omega)) h35⟩
                clear SB BL HS hw5 hbb h35 BL3 BW3 SB3 HS3 k03 k13 k23
                have SB := SB5
                have BL := BL5
                have HS := HS5
                clear SB5 BL5 HS5
                have hl0 : w5.cell? ⟨wo.heap.size, 0, none⟩ = some (.int .i64 l.f0) := (blk_cell BL.out 0).trans rfl
                have hl1 : w5.cell? ⟨wo.heap.size, 1, none⟩ = some (.string l.f1) := (blk_cell BL.out 1).trans rfl
                have hb0 : w5.cell? ⟨bb, 0, none⟩ = some (.int .i64 b.f0) := (blk_cell BB.out 0).trans rfl
                have hb1 : w5.cell? ⟨bb, 1, none⟩ = some (.string b.f1) := (blk_cell BB.out 1).trans rfl
                have hb2 : w5.cell? ⟨bb, 2, none⟩ = some (.slice A2 b.f2.length c2) := (blk_cell BB.out 2).trans rfl
                have hfb : w5.frozen? ⟨bb, 2, none⟩ = false := blk_frozen BB.out 2
                by_cases hD : (l.f1.extract 0 n).toList = [100, 101, 102, 105, 110, 101] ∧ n < l.f1.size
                · exact absurd hD.2 hlt
                rw [if_neg hD] at e2
                obtain ⟨wd, e3, e2⟩ := Option.bind_eq_some_iff.mp e2
                have h23 := fun W => belvedereref09_Word.calls k (l.f1.extract 0 n) wd W e3
                clear e3
                have hD2 : ((l.f1.extract 0 n).toList == [100, 101, 102, 105, 110, 101]) = false ∨ ((l.f1.extract 0 n).toList == [100, 101, 102, 105, 110, 101]) = true ∧ decide ((n : Int) < (l.f1.size : Int)) = false := by
                  by_cases hx : (l.f1.extract 0 n).toList = [100, 101, 102, 105, 110, 101]
                  · exact Or.inr ⟨beq_iff_eq.mpr hx, decide_eq_false (fun e => hD ⟨hx, by omega⟩)⟩
                  · exact Or.inl (beq_eq_false_iff_ne.mpr hx)
                clear hD
                have hg1 := HG1.out
                clear HG1
                cases wd with
                | false =>
                  rw [if_pos rfl] at e2
                  obtain ⟨rfl, rfl, rfl⟩ : some 11 = er ∧ out = out2 ∧ true = op2 := by simpa using e2
                  clear e2
                  dsimp only at hg1
                  rcases hD2 with hD1 | ⟨hD1, hD3⟩
                  · skip
                    obtain ⟨rfl, rfl, rfl⟩ : ([] : List S46) = r1 ∧ l.f0 = r2 ∧ 11 = r3 := by simpa using hg1
                    clear hg1
                    go_wp2_with (first | (go_at_call 23; refine (h23 _).mono ?_; rintro e w' ⟨rfl, q, rfl⟩))
                    repeat (go_quiet (fail); try go_wp2)
                    go_ret3
                    exact ⟨_, rfl, Kd.S_nil _ _ _ _ _, below_step HB.out (below_step (by repeat (first | (with_reducible first | exact SB.out | apply below_alloc | apply pw_below_drewN | apply below_drew1) | exact SB.out)) (by repeat (first | (with_reducible exact Below.refl _ _) | apply below_alloc | apply pw_below_drewN | apply below_drew1)))⟩
                  · skip
                    obtain ⟨rfl, rfl, rfl⟩ : ([] : List S46) = r1 ∧ l.f0 = r2 ∧ 11 = r3 := by simpa using hg1
                    clear hg1
                    go_wp2_with (first | (go_at_call 23; refine (h23 _).mono ?_; rintro e w' ⟨rfl, q, rfl⟩))
                    repeat (go_quiet (fail); try go_wp2)
                    go_ret3
                    exact ⟨_, rfl, Kd.S_nil _ _ _ _ _, below_step HB.out (below_step (by repeat (first | (with_reducible first | exact SB.out | apply below_alloc | apply pw_below_drewN | apply below_drew1) | exact SB.out)) (by repeat (first | (with_reducible exact Below.refl _ _) | apply below_alloc | apply pw_below_drewN | apply below_drew1)))⟩
                | true =>
                  rw [if_neg (by decide)] at e2
                  obtain ⟨fi, e3, e2⟩ := Option.bind_eq_some_iff.mp e2
                  have h14 := fun W (hb : Aside0 (Below wo.heap.size wo W)) => belvedereref09_Find.calls k b.f0 b.f1 A2 c2 b.f2 (l.f1.extract 0 n) fi W (Kd.C_below CB.out hb.out) HL2.out e3
                  clear e3
                  by_cases hF : fi ≥ 0
                  · rw [if_pos hF] at e2
                    have hF1 : decide (0 ≤ fi) = true := decide_eq_true hF
                    clear hF
                    obtain ⟨rfl, rfl, rfl⟩ : some 7 = er ∧ out = out2 ∧ true = op2 := by simpa using e2
                    clear e2
                    dsimp only at hg1
                    rcases hD2 with hD1 | ⟨hD1, hD3⟩
                    · skip
                      obtain ⟨rfl, rfl, rfl⟩ : ([] : List S46) = r1 ∧ l.f0 = r2 ∧ 7 = r3 := by simpa using hg1
                      clear hg1
                      go_wp2_with (first | (go_at_call 23; refine (h23 _).mono ?_; rintro e w' ⟨rfl, q, rfl⟩) | (go_at_call 14; refine (h14 _ ⟨by first | exact BW.out | exact pw_below_drewN BW.out _⟩).mono ?_; rintro e w6 ⟨rfl, hb⟩; have SB2 : Aside0 (Below wN.heap.size wN w6) := ⟨below_step SB.out (by first | exact hb | exact below_q hb)⟩; have BW2 : Aside0 (Below wo.heap.size wo w6) := ⟨below_step BW.out (by first | exact hb | exact below_q hb)⟩; have BL2 : Aside0 (w6.heap[wo.heap.size]? = some (.cells #[.int .i64 l.f0, .string l.f1] 67 (0, 0))) := ⟨blk_step BL.out (by first | exact hb | exact below_q hb)⟩; have BB2 : Aside0 (w6.heap[bb]? = some (.cells #[.int .i64 b.f0, .string b.f1, .slice A2 b.f2.length c2] 46 (0, 0))) := ⟨blk_step BB.out (by first | exact hb | exact below_q hb)⟩; have HS2 : Aside0 (Kd.S k46 46 w6 wN.heap.size (fun k => True ∧ k ≠ bb) (.slice (some ⟨g, 0, none⟩) out.length c0) out) := ⟨Kd.S_below HS.out (by first | exact hb | exact below_q hb)⟩; clear SB BW BL BB HS hb; have SB := SB2; have BW := BW2; have BL := BL2; have BB := BB2; have HS := HS2; clear SB2 BW2 BL2 BB2 HS2; have hl0 : w6.cell? ⟨wo.heap.size, 0, none⟩ = some (.int .i64 l.f0) := (blk_cell BL.out 0).trans rfl; have hl1 : w6.cell? ⟨wo.heap.size, 1, none⟩ = some (.string l.f1) := (blk_cell BL.out 1).trans rfl; have hb0 : w6.cell? ⟨bb, 0, none⟩ = some (.int .i64 b.f0) := (blk_cell BB.out 0).trans rfl; have hb1 : w6.cell? ⟨bb, 1, none⟩ = some (.string b.f1) := (blk_cell BB.out 1).trans rfl; have hb2 : w6.cell? ⟨bb, 2, none⟩ = some (.slice A2 b.f2.length c2) := (blk_cell BB.out 2).trans rfl; have hfb : w6.frozen? ⟨bb, 2, none⟩ = false := blk_frozen BB.out 2))
                      repeat (go_quiet (fail); try go_wp2)
                      go_ret3
                      exact ⟨_, rfl, Kd.S_nil _ _ _ _ _, below_step HB.out (below_step (by repeat (first | (with_reducible first | exact SB.out | apply below_alloc | apply pw_below_drewN | apply below_drew1) | exact SB.out)) (by repeat (first | (with_reducible exact Below.refl _ _) | apply below_alloc | apply pw_below_drewN | apply below_drew1)))⟩
                    · skip
                      obtain ⟨rfl, rfl, rfl⟩ : ([] : List S46) = r1 ∧ l.f0 = r2 ∧ 7 = r3 := by simpa using hg1
                      clear hg1
                      go_wp2_with (first | (go_at_call 23; refine (h23 _).mono ?_; rintro e w' ⟨rfl, q, rfl⟩) | (go_at_call 14; refine (h14 _ ⟨by first | exact BW.out | exact pw_below_drewN BW.out _⟩).mono ?_; rintro e w6 ⟨rfl, hb⟩; have SB2 : Aside0 (Below wN.heap.size wN w6) := ⟨below_step SB.out (by first | exact hb | exact below_q hb)⟩; have BW2 : Aside0 (Below wo.heap.size wo w6) := ⟨below_step BW.out (by first | exact hb | exact below_q hb)⟩; have BL2 : Aside0 (w6.heap[wo.heap.size]? = some (.cells #[.int .i64 l.f0, .string l.f1] 67 (0, 0))) := ⟨blk_step BL.out (by first | exact hb | exact below_q hb)⟩; have BB2 : Aside0 (w6.heap[bb]? = some (.cells #[.int .i64 b.f0, .string b.f1, .slice A2 b.f2.length c2] 46 (0, 0))) := ⟨blk_step BB.out (by first | exact hb | exact below_q hb)⟩; have HS2 : Aside0 (Kd.S k46 46 w6 wN.heap.size (fun k => True ∧ k ≠ bb) (.slice (some ⟨g, 0, none⟩) out.length c0) out) := ⟨Kd.S_below HS.out (by first | exact hb | exact below_q hb)⟩; clear SB BW BL BB HS hb; have SB := SB2; have BW := BW2; have BL := BL2; have BB := BB2; have HS := HS2; clear SB2 BW2 BL2 BB2 HS2; have hl0 : w6.cell? ⟨wo.heap.size, 0, none⟩ = some (.int .i64 l.f0) := (blk_cell BL.out 0).trans rfl; have hl1 : w6.cell? ⟨wo.heap.size, 1, none⟩ = some (.string l.f1) := (blk_cell BL.out 1).trans rfl; have hb0 : w6.cell? ⟨bb, 0, none⟩ = some (.int .i64 b.f0) := (blk_cell BB.out 0).trans rfl; have hb1 : w6.cell? ⟨bb, 1, none⟩ = some (.string b.f1) := (blk_cell BB.out 1).trans rfl; have hb2 : w6.cell? ⟨bb, 2, none⟩ = some (.slice A2 b.f2.length c2) := (blk_cell BB.out 2).trans rfl; have hfb : w6.frozen? ⟨bb, 2, none⟩ = false := blk_frozen BB.out 2))
                      repeat (go_quiet (fail); try go_wp2)
                      go_ret3
                      exact ⟨_, rfl, Kd.S_nil _ _ _ _ _, below_step HB.out (below_step (by repeat (first | (with_reducible first | exact SB.out | apply below_alloc | apply pw_below_drewN | apply below_drew1) | exact SB.out)) (by repeat (first | (with_reducible exact Below.refl _ _) | apply below_alloc | apply pw_below_drewN | apply below_drew1)))⟩
                  rw [if_neg hF] at e2
                  have hF1 : decide (0 ≤ fi) = false := decide_eq_false (by omega)
                  clear hF
                  by_cases hL : 64 ≤ (b.f2.length : Int)
                  · rw [if_pos hL] at e2
                    have hL1 : decide (64 ≤ (b.f2.length : Int)) = true := decide_eq_true hL
                    have hL2 : decide (64 ≤ b.f2.length) = true := decide_eq_true (by omega)
                    clear hL
                    obtain ⟨rfl, rfl, rfl⟩ : some 10 = er ∧ out = out2 ∧ true = op2 := by simpa using e2
                    clear e2
                    dsimp only at hg1
                    rcases hD2 with hD1 | ⟨hD1, hD3⟩
                    · skip
                      obtain ⟨rfl, rfl, rfl⟩ : ([] : List S46) = r1 ∧ l.f0 = r2 ∧ 10 = r3 := by simpa using hg1
                      clear hg1
                      go_wp2_with (first | (go_at_call 23; refine (h23 _).mono ?_; rintro e w' ⟨rfl, q, rfl⟩) | (go_at_call 14; refine (h14 _ ⟨by first | exact BW.out | exact pw_below_drewN BW.out _⟩).mono ?_; rintro e w6 ⟨rfl, hb⟩; have SB2 : Aside0 (Below wN.heap.size wN w6) := ⟨below_step SB.out (by first | exact hb | exact below_q hb)⟩; have BW2 : Aside0 (Below wo.heap.size wo w6) := ⟨below_step BW.out (by first | exact hb | exact below_q hb)⟩; have BL2 : Aside0 (w6.heap[wo.heap.size]? = some (.cells #[.int .i64 l.f0, .string l.f1] 67 (0, 0))) := ⟨blk_step BL.out (by first | exact hb | exact below_q hb)⟩; have BB2 : Aside0 (w6.heap[bb]? = some (.cells #[.int .i64 b.f0, .string b.f1, .slice A2 b.f2.length c2] 46 (0, 0))) := ⟨blk_step BB.out (by first | exact hb | exact below_q hb)⟩; have HS2 : Aside0 (Kd.S k46 46 w6 wN.heap.size (fun k => True ∧ k ≠ bb) (.slice (some ⟨g, 0, none⟩) out.length c0) out) := ⟨Kd.S_below HS.out (by first | exact hb | exact below_q hb)⟩; clear SB BW BL BB HS hb; have SB := SB2; have BW := BW2; have BL := BL2; have BB := BB2; have HS := HS2; clear SB2 BW2 BL2 BB2 HS2; have hl0 : w6.cell? ⟨wo.heap.size, 0, none⟩ = some (.int .i64 l.f0) := (blk_cell BL.out 0).trans rfl; have hl1 : w6.cell? ⟨wo.heap.size, 1, none⟩ = some (.string l.f1) := (blk_cell BL.out 1).trans rfl; have hb0 : w6.cell? ⟨bb, 0, none⟩ = some (.int .i64 b.f0) := (blk_cell BB.out 0).trans rfl; have hb1 : w6.cell? ⟨bb, 1, none⟩ = some (.string b.f1) := (blk_cell BB.out 1).trans rfl; have hb2 : w6.cell? ⟨bb, 2, none⟩ = some (.slice A2 b.f2.length c2) := (blk_cell BB.out 2).trans rfl; have hfb : w6.frozen? ⟨bb, 2, none⟩ = false := blk_frozen BB.out 2))
                      repeat (go_quiet (fail); try go_wp2)
                      go_ret3
                      exact ⟨_, rfl, Kd.S_nil _ _ _ _ _, below_step HB.out (below_step (by repeat (first | (with_reducible first | exact SB.out | apply below_alloc | apply pw_below_drewN | apply below_drew1) | exact SB.out)) (by repeat (first | (with_reducible exact Below.refl _ _) | apply below_alloc | apply pw_below_drewN | apply below_drew1)))⟩
                    · skip
                      obtain ⟨rfl, rfl, rfl⟩ : ([] : List S46) = r1 ∧ l.f0 = r2 ∧ 10 = r3 := by simpa using hg1
                      clear hg1
                      go_wp2_with (first | (go_at_call 23; refine (h23 _).mono ?_; rintro e w' ⟨rfl, q, rfl⟩) | (go_at_call 14; refine (h14 _ ⟨by first | exact BW.out | exact pw_below_drewN BW.out _⟩).mono ?_; rintro e w6 ⟨rfl, hb⟩; have SB2 : Aside0 (Below wN.heap.size wN w6) := ⟨below_step SB.out (by first | exact hb | exact below_q hb)⟩; have BW2 : Aside0 (Below wo.heap.size wo w6) := ⟨below_step BW.out (by first | exact hb | exact below_q hb)⟩; have BL2 : Aside0 (w6.heap[wo.heap.size]? = some (.cells #[.int .i64 l.f0, .string l.f1] 67 (0, 0))) := ⟨blk_step BL.out (by first | exact hb | exact below_q hb)⟩; have BB2 : Aside0 (w6.heap[bb]? = some (.cells #[.int .i64 b.f0, .string b.f1, .slice A2 b.f2.length c2] 46 (0, 0))) := ⟨blk_step BB.out (by first | exact hb | exact below_q hb)⟩; have HS2 : Aside0 (Kd.S k46 46 w6 wN.heap.size (fun k => True ∧ k ≠ bb) (.slice (some ⟨g, 0, none⟩) out.length c0) out) := ⟨Kd.S_below HS.out (by first | exact hb | exact below_q hb)⟩; clear SB BW BL BB HS hb; have SB := SB2; have BW := BW2; have BL := BL2; have BB := BB2; have HS := HS2; clear SB2 BW2 BL2 BB2 HS2; have hl0 : w6.cell? ⟨wo.heap.size, 0, none⟩ = some (.int .i64 l.f0) := (blk_cell BL.out 0).trans rfl; have hl1 : w6.cell? ⟨wo.heap.size, 1, none⟩ = some (.string l.f1) := (blk_cell BL.out 1).trans rfl; have hb0 : w6.cell? ⟨bb, 0, none⟩ = some (.int .i64 b.f0) := (blk_cell BB.out 0).trans rfl; have hb1 : w6.cell? ⟨bb, 1, none⟩ = some (.string b.f1) := (blk_cell BB.out 1).trans rfl; have hb2 : w6.cell? ⟨bb, 2, none⟩ = some (.slice A2 b.f2.length c2) := (blk_cell BB.out 2).trans rfl; have hfb : w6.frozen? ⟨bb, 2, none⟩ = false := blk_frozen BB.out 2))
                      repeat (go_quiet (fail); try go_wp2)
                      go_ret3
                      exact ⟨_, rfl, Kd.S_nil _ _ _ _ _, below_step HB.out (below_step (by repeat (first | (with_reducible first | exact SB.out | apply below_alloc | apply pw_below_drewN | apply below_drew1) | exact SB.out)) (by repeat (first | (with_reducible exact Below.refl _ _) | apply below_alloc | apply pw_below_drewN | apply below_drew1)))⟩
                  rw [if_neg hL] at e2
                  have hL1 : decide (64 ≤ (b.f2.length : Int)) = false := decide_eq_false hL
                  have hL2 : decide (64 ≤ b.f2.length) = false := decide_eq_false (by omega)
                  have HLF : Aside0 (b.f2.length < 64) := ⟨by omega⟩
                  clear hL
                  obtain ⟨rfl, rfl, rfl⟩ : none = er ∧ out.set i.toNat ⟨b.f0, b.f1, b.f2 ++ [(⟨l.f0, l.f1.extract 0 n, value⟩ : S52)]⟩ = out2 ∧ true = op2 := by simpa using e2
                  clear e2
                  dsimp only at hg1
                  rcases hD2 with hD1 | ⟨hD1, hD3⟩
                  · skip
                    go_wp2_with (first | (go_at_call 23; refine (h23 _).mono ?_; rintro e w' ⟨rfl, q, rfl⟩) | (go_at_call 14; refine (h14 _ ⟨by first | exact BW.out | exact pw_below_drewN BW.out _⟩).mono ?_; rintro e w6 ⟨rfl, hb⟩; have SB2 : Aside0 (Below wN.heap.size wN w6) := ⟨below_step SB.out (by first | exact hb | exact below_q hb)⟩; have BW2 : Aside0 (Below wo.heap.size wo w6) := ⟨below_step BW.out (by first | exact hb | exact below_q hb)⟩; have BL2 : Aside0 (w6.heap[wo.heap.size]? = some (.cells #[.int .i64 l.f0, .string l.f1] 67 (0, 0))) := ⟨blk_step BL.out (by first | exact hb | exact below_q hb)⟩; have BB2 : Aside0 (w6.heap[bb]? = some (.cells #[.int .i64 b.f0, .string b.f1, .slice A2 b.f2.length c2] 46 (0, 0))) := ⟨blk_step BB.out (by first | exact hb | exact below_q hb)⟩; have HS2 : Aside0 (Kd.S k46 46 w6 wN.heap.size (fun k => True ∧ k ≠ bb) (.slice (some ⟨g, 0, none⟩) out.length c0) out) := ⟨Kd.S_below HS.out (by first | exact hb | exact below_q hb)⟩; clear SB BW BL BB HS hb; have SB := SB2; have BW := BW2; have BL := BL2; have BB := BB2; have HS := HS2; clear SB2 BW2 BL2 BB2 HS2; have hl0 : w6.cell? ⟨wo.heap.size, 0, none⟩ = some (.int .i64 l.f0) := (blk_cell BL.out 0).trans rfl; have hl1 : w6.cell? ⟨wo.heap.size, 1, none⟩ = some (.string l.f1) := (blk_cell BL.out 1).trans rfl; have hb0 : w6.cell? ⟨bb, 0, none⟩ = some (.int .i64 b.f0) := (blk_cell BB.out 0).trans rfl; have hb1 : w6.cell? ⟨bb, 1, none⟩ = some (.string b.f1) := (blk_cell BB.out 1).trans rfl; have hb2 : w6.cell? ⟨bb, 2, none⟩ = some (.slice A2 b.f2.length c2) := (blk_cell BB.out 2).trans rfl; have hfb : w6.frozen? ⟨bb, 2, none⟩ = false := blk_frozen BB.out 2; have HSB := Kd.S_mono (Kd.S_bound HS.out) (ok' := fun k => (k ≠ bb) ∧ ¬ w6.heap.size ≤ k) (fun k hk => ⟨hk.1.2, by have := hk.2.2.1; omega⟩); obtain ⟨oki, c, hcl, hM, hcc, hfr, hoki, hH⟩ := Kd.S_elem HSB z46 i HI.out.1 HI.out.2; obtain ⟨v2x, ec, hR2⟩ := k46_openM hM; subst ec; rw [show out.getD i.toNat z46 = b from HBE.out] at hR2 hcc hH; have ev2 : v2x = .slice A2 b.f2.length c2 := Option.some.inj ((hcc 2 v2x rfl).symm.trans (pw_cell_below BW.out K2.out)); subst ev2; have HR := Aside0.mk hR2; have HH := Aside0.mk hH; have HOK := Aside0.mk hoki; have HCC := Aside0.mk hcc; have GB : Aside0 (w6.heap[g]? = some (.cells cells0 46 (0, 0))) := ⟨blk_step GBO.out BW.out⟩; have GNE : Aside0 (g ≠ bb) := ⟨by have := HGB.out.2; have := hbw.out.1; omega⟩; have HBS : Aside0 (bb < w6.heap.size ∧ g < w6.heap.size) := ⟨blk_lt BB.out, blk_lt GB.out⟩; clear HSB hcl hM hcc hR2 hH hoki hfr) | ((with_reducible refine gate_builtin (b := .append) (xs := #[.tmp 133, .tmp 139]) rfl ?_); at_builtin; refine Kd.R_append k52 (w0 := wN) wN.heap.size rfl (.tmp 133) (.tmp 139) 44 52 (.agg #[(.int .i64 0), (.string ⟨#[]⟩), (.string ⟨#[]⟩)]) 40 rfl Tryd.underlying44 info52 rfl (by decide) (by omega) (.slice A2 b.f2.length c2) b.f2 (⟨l.f0, l.f1.extract 0 n, value⟩ : S52) [.int .i64 l.f0, .string (l.f1.extract 0 n), .string value] (fun k => oki k ∨ w6.heap.size ≤ k) (fun _ => False) rfl ?aX ?aP (fun _ hk => hk.elim) ?aF ?aO ?aB ?aS ?aL ?_; (case aX => first | rfl | (go_simp; done) | (go_simp; rfl)); (case aP => exact k52_mkM _ _ _ (⟨l.f0, l.f1.extract 0 n, value⟩ : S52)); (case aF => exact (fun _ hk => Or.inr hk)); (case aO => exact Kd.R_mono HR.out (fun _ hk => Or.inl hk)); (case aB => exact SB.out); (case aS => exact below_size SB.out); (case aL => have := HLF.out; omega); intro v8 w8 hs hb hg hat; obtain ⟨A1, c1, ev⟩ := Kd.R_slice hs; rw [show (b.f2 ++ [(⟨l.f0, l.f1.extract 0 n, value⟩ : S52)]).length = b.f2.length + 1 by simp] at ev; subst ev; have NBg : some g ≠ (Value.slice A2 b.f2.length c2).ownBlock := Kd.R_ne HR.out GB.out (by decide); have NBb : some bb ≠ (Value.slice A2 b.f2.length c2).ownBlock := Kd.R_ne HR.out BB.out (by decide); have GB8 := blk_grown GB.out hg NBg; have BB8 := blk_grown BB.out hg NBb; have HS8 := Aside0.mk hs; have SB8 := Aside0.mk hb; have HH8 := Aside0.mk (Kd.H_grown HH.out hg (fun k e => HR.out.1 k e)); clear hs hb hg hat; have hfb8 : w8.frozen? ⟨bb, 2, none⟩ = false := blk_frozen BB8 2; have hcb8 : w8.cell? ⟨bb, 2, none⟩ = some (.slice A2 b.f2.length c2) := (blk_cell BB8 2).trans rfl; have PB9 := blk_put (cs := #[.int .i64 b.f0, .string b.f1, .slice A2 b.f2.length c2]) BB8 2 (.slice A1 (b.f2.length + 1) c1) rfl; have hb90 := (blk_cell PB9 0).trans rfl; have hb91 := (blk_cell PB9 1).trans rfl; have hb92 := (blk_cell PB9 2).trans rfl; have GB9 := blk_far GB8 (p := ⟨bb, 2, none⟩) GNE.out (.slice A1 (b.f2.length + 1) c1); have hg90 := (blk_cell GB9 (i.toNat * 3)).trans ((blk_cell GB.out (i.toNat * 3)).symm.trans (HCC.out 0 _ rfl)); have hg91 := (blk_cell GB9 (i.toNat * 3 + 1)).trans ((blk_cell GB.out (i.toNat * 3 + 1)).symm.trans (HCC.out 1 _ rfl)); have hg92 := (blk_cell GB9 (i.toNat * 3 + 2)).trans ((blk_cell GB.out (i.toNat * 3 + 2)).symm.trans (HCC.out 2 _ rfl)); have hfg0 := blk_frozen GB9 (i.toNat * 3); have hfg1 := blk_frozen GB9 (i.toNat * 3 + 1); have hfg2 := blk_frozen GB9 (i.toNat * 3 + 2); have PB9 := Aside0.mk PB9; have GB9 := Aside0.mk GB9; clear GB8 BB8 NBg NBb))
                    have HR9 := Aside0.mk (Kd.R_far (p := ⟨bb, 2, none⟩) HS8.out (fun k hk e => by have e' : k = bb := e; rcases hk with hk | hk; exact (HOK.out k hk).1.1 e'; have := HBS.out.1; omega) (.slice A1 (b.f2.length + 1) c1))
                    have HH9 := Aside0.mk (Kd.H_far (p := ⟨bb, 2, none⟩) HH8.out (fun k hk => hk.1) (.slice A1 (b.f2.length + 1) c1))
                    have hSeg : Kd.S k46 46 ((((w8.setCell ⟨bb, 2, none⟩ (.slice A1 (b.f2.length + 1) c1)).setCell ⟨g, i.toNat * 3, none⟩ (.int .i64 b.f0)).setCell ⟨g, i.toNat * 3 + 1, none⟩ (.string b.f1)).setCell ⟨g, i.toNat * 3 + 2, none⟩ (.slice A1 (b.f2.length + 1) c1)) wN.heap.size (fun k => k ≠ bb) (.slice (some ⟨g, 0, none⟩) out.length c0) (out.set i.toNat ⟨b.f0, b.f1, b.f2 ++ [(⟨l.f0, l.f1.extract 0 n, value⟩ : S52)]⟩) := (Kd.S_seg (okg := fun k => w6.heap.size ≤ k) (ok := fun k => k ≠ bb) (okp := fun k => oki k ∨ w6.heap.size ≤ k) (seg := [.int .i64 b.f0, .string b.f1, (.slice A1 (b.f2.length + 1) c1)]) (j := 0) (x' := (⟨b.f0, b.f1, b.f2 ++ [(⟨l.f0, l.f1.extract 0 n, value⟩ : S52)]⟩ : S46)) HH9.out HI.out.1 HI.out.2 (by show 0 + 3 ≤ 3; omega) (k46_mkM _ _ _ (⟨b.f0, b.f1, b.f2 ++ [(⟨l.f0, l.f1.extract 0 n, value⟩ : S52)]⟩ : S46) HR9.out) (fun _ hk => hk) (fun k hk => ⟨by have := HBS.out.1; omega, by have := HBS.out.2; omega⟩)).1
                    have HSEG := Aside0.mk hSeg
                    clear hSeg
                    have SB9 := Aside0.mk (below_set (g := g) (j := i.toNat * 3 + 2) (v := (.slice A1 (b.f2.length + 1) c1)) (below_set (g := g) (j := i.toNat * 3 + 1) (v := .string b.f1) (below_set (g := g) (j := i.toNat * 3) (v := .int .i64 b.f0) (below_set (g := bb) (j := 2) (v := (.slice A1 (b.f2.length + 1) c1)) SB8.out hbw.out.2) HGB.out.1) HGB.out.1) HGB.out.1)
                    go_roundg (ls.length - (x + 1).toNat)
                    case measure => have := D.out; have := HX.out; omega
                    case rel => exact ⟨x + 1, true, out.set i.toNat ⟨b.f0, b.f1, b.f2 ++ [(⟨l.f0, l.f1.extract 0 n, value⟩ : S52)]⟩, some ⟨g, 0, none⟩, c0, by rw [List.length_set], rfl, by rw [hwr.out], ⟨D.out.2.1, D.out.2.2, Nat.le_refl _⟩, SB9, ⟨by rw [List.length_set]; exact Kd.S_mono HSEG.out (fun _ _ => trivial)⟩, ⟨hg1⟩⟩
                  · skip
                    go_wp2_with (first | (go_at_call 23; refine (h23 _).mono ?_; rintro e w' ⟨rfl, q, rfl⟩) | (go_at_call 14; refine (h14 _ ⟨by first | exact BW.out | exact pw_below_drewN BW.out _⟩).mono ?_; rintro e w6 ⟨rfl, hb⟩; have SB2 : Aside0 (Below wN.heap.size wN w6) := ⟨below_step SB.out (by first | exact hb | exact below_q hb)⟩; have BW2 : Aside0 (Below wo.heap.size wo w6) := ⟨below_step BW.out (by first | exact hb | exact below_q hb)⟩; have BL2 : Aside0 (w6.heap[wo.heap.size]? = some (.cells #[.int .i64 l.f0, .string l.f1] 67 (0, 0))) := ⟨blk_step BL.out (by first | exact hb | exact below_q hb)⟩; have BB2 : Aside0 (w6.heap[bb]? = some (.cells #[.int .i64 b.f0, .string b.f1, .slice A2 b.f2.length c2] 46 (0, 0))) := ⟨blk_step BB.out (by first | exact hb | exact below_q hb)⟩; have HS2 : Aside0 (Kd.S k46 46 w6 wN.heap.size (fun k => True ∧ k ≠ bb) (.slice (some ⟨g, 0, none⟩) out.length c0) out) := ⟨Kd.S_below HS.out (by first | exact hb | exact below_q hb)⟩; clear SB BW BL BB HS hb; have SB := SB2; have BW := BW2; have BL := BL2; have BB := BB2; have HS := HS2; clear SB2 BW2 BL2 BB2 HS2; have hl0 : w6.cell? ⟨wo.heap.size, 0, none⟩ = some (.int .i64 l.f0) := (blk_cell BL.out 0).trans rfl; have hl1 : w6.cell? ⟨wo.heap.size, 1, none⟩ = some (.string l.f1) := (blk_cell BL.out 1).trans rfl; have hb0 : w6.cell? ⟨bb, 0, none⟩ = some (.int .i64 b.f0) := (blk_cell BB.out 0).trans rfl; have hb1 : w6.cell? ⟨bb, 1, none⟩ = some (.string b.f1) := (blk_cell BB.out 1).trans rfl; have hb2 : w6.cell? ⟨bb, 2, none⟩ = some (.slice A2 b.f2.length c2) := (blk_cell BB.out 2).trans rfl; have hfb : w6.frozen? ⟨bb, 2, none⟩ = false := blk_frozen BB.out 2; have HSB := Kd.S_mono (Kd.S_bound HS.out) (ok' := fun k => (k ≠ bb) ∧ ¬ w6.heap.size ≤ k) (fun k hk => ⟨hk.1.2, by have := hk.2.2.1; omega⟩); obtain ⟨oki, c, hcl, hM, hcc, hfr, hoki, hH⟩ := Kd.S_elem HSB z46 i HI.out.1 HI.out.2; obtain ⟨v2x, ec, hR2⟩ := k46_openM hM; subst ec; rw [show out.getD i.toNat z46 = b from HBE.out] at hR2 hcc hH; have ev2 : v2x = .slice A2 b.f2.length c2 := Option.some.inj ((hcc 2 v2x rfl).symm.trans (pw_cell_below BW.out K2.out)); subst ev2; have HR := Aside0.mk hR2; have HH := Aside0.mk hH; have HOK := Aside0.mk hoki; have HCC := Aside0.mk hcc; have GB : Aside0 (w6.heap[g]? = some (.cells cells0 46 (0, 0))) := ⟨blk_step GBO.out BW.out⟩; have GNE : Aside0 (g ≠ bb) := ⟨by have := HGB.out.2; have := hbw.out.1; omega⟩; have HBS : Aside0 (bb < w6.heap.size ∧ g < w6.heap.size) := ⟨blk_lt BB.out, blk_lt GB.out⟩; clear HSB hcl hM hcc hR2 hH hoki hfr) | ((with_reducible refine gate_builtin (b := .append) (xs := #[.tmp 133, .tmp 139]) rfl ?_); at_builtin; refine Kd.R_append k52 (w0 := wN) wN.heap.size rfl (.tmp 133) (.tmp 139) 44 52 (.agg #[(.int .i64 0), (.string ⟨#[]⟩), (.string ⟨#[]⟩)]) 40 rfl Tryd.underlying44 info52 rfl (by decide) (by omega) (.slice A2 b.f2.length c2) b.f2 (⟨l.f0, l.f1.extract 0 n, value⟩ : S52) [.int .i64 l.f0, .string (l.f1.extract 0 n), .string value] (fun k => oki k ∨ w6.heap.size ≤ k) (fun _ => False) rfl ?aX ?aP (fun _ hk => hk.elim) ?aF ?aO ?aB ?aS ?aL ?_; (case aX => first | rfl | (go_simp; done) | (go_simp; rfl)); (case aP => exact k52_mkM _ _ _ (⟨l.f0, l.f1.extract 0 n, value⟩ : S52)); (case aF => exact (fun _ hk => Or.inr hk)); (case aO => exact Kd.R_mono HR.out (fun _ hk => Or.inl hk)); (case aB => exact SB.out); (case aS => exact below_size SB.out); (case aL => have := HLF.out; omega); intro v8 w8 hs hb hg hat; obtain ⟨A1, c1, ev⟩ := Kd.R_slice hs; rw [show (b.f2 ++ [(⟨l.f0, l.f1.extract 0 n, value⟩ : S52)]).length = b.f2.length + 1 by simp] at ev; subst ev; have NBg : some g ≠ (Value.slice A2 b.f2.length c2).ownBlock := Kd.R_ne HR.out GB.out (by decide); have NBb : some bb ≠ (Value.slice A2 b.f2.length c2).ownBlock := Kd.R_ne HR.out BB.out (by decide); have GB8 := blk_grown GB.out hg NBg; have BB8 := blk_grown BB.out hg NBb; have HS8 := Aside0.mk hs; have SB8 := Aside0.mk hb; have HH8 := Aside0.mk (Kd.H_grown HH.out hg (fun k e => HR.out.1 k e)); clear hs hb hg hat; have hfb8 : w8.frozen? ⟨bb, 2, none⟩ = false := blk_frozen BB8 2; have hcb8 : w8.cell? ⟨bb, 2, none⟩ = some (.slice A2 b.f2.length c2) := (blk_cell BB8 2).trans rfl; have PB9 := blk_put (cs := #[.int .i64 b.f0, .string b.f1, .slice A2 b.f2.length c2]) BB8 2 (.slice A1 (b.f2.length + 1) c1) rfl; have hb90 := (blk_cell PB9 0).trans rfl; have hb91 := (blk_cell PB9 1).trans rfl; have hb92 := (blk_cell PB9 2).trans rfl; have GB9 := blk_far GB8 (p := ⟨bb, 2, none⟩) GNE.out (.slice A1 (b.f2.length + 1) c1); have hg90 := (blk_cell GB9 (i.toNat * 3)).trans ((blk_cell GB.out (i.toNat * 3)).symm.trans (HCC.out 0 _ rfl)); have hg91 := (blk_cell GB9 (i.toNat * 3 + 1)).trans ((blk_cell GB.out (i.toNat * 3 + 1)).symm.trans (HCC.out 1 _ rfl)); have hg92 := (blk_cell GB9 (i.toNat * 3 + 2)).trans ((blk_cell GB.out (i.toNat * 3 + 2)).symm.trans (HCC.out 2 _ rfl)); have hfg0 := blk_frozen GB9 (i.toNat * 3); have hfg1 := blk_frozen GB9 (i.toNat * 3 + 1); have hfg2 := blk_frozen GB9 (i.toNat * 3 + 2); have PB9 := Aside0.mk PB9; have GB9 := Aside0.mk GB9; clear GB8 BB8 NBg NBb))
                    have HR9 := Aside0.mk (Kd.R_far (p := ⟨bb, 2, none⟩) HS8.out (fun k hk e => by have e' : k = bb := e; rcases hk with hk | hk; exact (HOK.out k hk).1.1 e'; have := HBS.out.1; omega) (.slice A1 (b.f2.length + 1) c1))
                    have HH9 := Aside0.mk (Kd.H_far (p := ⟨bb, 2, none⟩) HH8.out (fun k hk => hk.1) (.slice A1 (b.f2.length + 1) c1))
                    have hSeg : Kd.S k46 46 ((((w8.setCell ⟨bb, 2, none⟩ (.slice A1 (b.f2.length + 1) c1)).setCell ⟨g, i.toNat * 3, none⟩ (.int .i64 b.f0)).setCell ⟨g, i.toNat * 3 + 1, none⟩ (.string b.f1)).setCell ⟨g, i.toNat * 3 + 2, none⟩ (.slice A1 (b.f2.length + 1) c1)) wN.heap.size (fun k => k ≠ bb) (.slice (some ⟨g, 0, none⟩) out.length c0) (out.set i.toNat ⟨b.f0, b.f1, b.f2 ++ [(⟨l.f0, l.f1.extract 0 n, value⟩ : S52)]⟩) := (Kd.S_seg (okg := fun k => w6.heap.size ≤ k) (ok := fun k => k ≠ bb) (okp := fun k => oki k ∨ w6.heap.size ≤ k) (seg := [.int .i64 b.f0, .string b.f1, (.slice A1 (b.f2.length + 1) c1)]) (j := 0) (x' := (⟨b.f0, b.f1, b.f2 ++ [(⟨l.f0, l.f1.extract 0 n, value⟩ : S52)]⟩ : S46)) HH9.out HI.out.1 HI.out.2 (by show 0 + 3 ≤ 3; omega) (k46_mkM _ _ _ (⟨b.f0, b.f1, b.f2 ++ [(⟨l.f0, l.f1.extract 0 n, value⟩ : S52)]⟩ : S46) HR9.out) (fun _ hk => hk) (fun k hk => ⟨by have := HBS.out.1; omega, by have := HBS.out.2; omega⟩)).1
                    have HSEG := Aside0.mk hSeg
                    clear hSeg
                    have SB9 := Aside0.mk (below_set (g := g) (j := i.toNat * 3 + 2) (v := (.slice A1 (b.f2.length + 1) c1)) (below_set (g := g) (j := i.toNat * 3 + 1) (v := .string b.f1) (below_set (g := g) (j := i.toNat * 3) (v := .int .i64 b.f0) (below_set (g := bb) (j := 2) (v := (.slice A1 (b.f2.length + 1) c1)) SB8.out hbw.out.2) HGB.out.1) HGB.out.1) HGB.out.1)
                    go_roundg (ls.length - (x + 1).toNat)
                    case measure => have := D.out; have := HX.out; omega
                    case rel => exact ⟨x + 1, true, out.set i.toNat ⟨b.f0, b.f1, b.f2 ++ [(⟨l.f0, l.f1.extract 0 n, value⟩ : S52)]⟩, some ⟨g, 0, none⟩, c0, by rw [List.length_set], rfl, by rw [hwr.out], ⟨D.out.2.1, D.out.2.2, Nat.le_refl _⟩, SB9, ⟨by rw [List.length_set]; exact Kd.S_mono HSEG.out (fun _ _ => trivial)⟩, ⟨hg1⟩⟩
      · have hltz : decide (x < (ls.length : Int)) = false := decide_eq_false hlt
        have hxe : x.toNat = ls.length := by have := HX.out; omega
        have hg0 := HP.out
        rw [hxe, List.drop_length] at hg0
        clear HP hlt hxe
        unfold ref_go at hg0
        cases op with
        | true =>
          rw [if_pos rfl] at hg0
          split at hg0
          case isFalse => cases hg0
          rename_i hpos
          obtain ⟨hpos, hle⟩ := hpos
          obtain ⟨i, hi⟩ : ∃ i : Int, (out.length : Int) - 1 = i := ⟨_, rfl⟩
          rw [hi] at hg0
          have hi3 : wrap64 i = i := IntWalk.wrap64_in _ ⟨by omega, by omega⟩
          have hiw : wrap64 ((out.length : Int) - 1) = i := by rw [hi]; exact hi3
          have hiw2 : IntKind.i64.wrap ((out.length : Int) - 1) = i := by rw [← hiw]; exact i64_w _
          have i0 : 0 ≤ i := by omega
          have i1 : i < (out.length : Int) := by omega
          obtain ⟨ad, A2, c2, ea, k0, k1, k2, hl2, g2⟩ := at_T46 (Kd.F_now (Kd.S_F HS.out)) i i0 i1
          subst ea
          have i0T : (0 ≤ i) = True := eq_true i0
          have i1T : (i < (out.length : Int)) = True := eq_true i1
          clear i0 i1 hpos hle k1 k2 hl2 g2
          obtain ⟨rfl, rfl, rfl⟩ : ([] : List S46) = r1 ∧ (rd_T46 out i).f0 = r2 ∧ 4 = r3 := by simpa using hg0
          clear hg0
          go_wp2
          go_quiet (fail)
          go_wp2
          go_ret3
          exact ⟨_, rfl, Kd.S_nil _ _ _ _ _, below_step HB.out (pw_below_drewN SB.out _)⟩
        | false =>
          rw [if_neg (by decide)] at hg0
          obtain ⟨rfl, rfl, rfl⟩ : out = r1 ∧ 0 = r2 ∧ 0 = r3 := by simpa using hg0
          clear hg0
          go_wp2
          go_ret3
          exact ⟨_, rfl, Kd.S_lower HS.out (below_size HB.out), below_step HB.out SB.out⟩

  · rw [if_neg her] at h
    obtain ⟨rfl, rfl, rfl⟩ : ([] : List S46) = r1 ∧ at_ = r2 ∧ er = r3 := by simpa using h
    clear h
    have her0 : (er == 0) = false := beq_eq_false_iff_ne.mpr her
    go_enter Tryd.func8, Tryd.ntmps8
    go_wp2_with (first | (go_at_call 21; refine (h21 _).mono ?_; rintro e wN ⟨v1, rfl, ho, hb⟩; have HO := Aside0.mk ho; have HB1 : Aside0 (Below w.heap.size w wN) := ⟨below_step (by repeat (first | (with_reducible first | exact HB.out | apply below_alloc | apply pw_below_drewN | apply below_drew1) | exact HB.out)) hb⟩; clear HB hb; obtain ⟨Av, cv, ev⟩ := Kd.R_slice ho; subst ev; clear ho; have HB := HB1; clear HB1))
    go_ret3
    exact ⟨_, rfl, Kd.S_nil _ _ _ _ _, HB.out⟩
end Go.Proofs.YtefjppdchgdjlaaDoor.P
