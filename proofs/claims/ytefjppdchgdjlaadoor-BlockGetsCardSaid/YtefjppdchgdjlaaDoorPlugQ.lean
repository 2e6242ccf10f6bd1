/- block.Parse over the parser's state. -/
import Derived.Test.YtefjppdchgdjlaaDoorPlugP
namespace Go.Proofs.YtefjppdchgdjlaaDoor.P
open Go.RowKit Go.Proofs.YtefjppdchgdjlaaDoorW.PrintWords Go.Proofs.YtefjppdchgdjlaaDoorW.PrintLast Go.Proofs.YtefjppdchgdjlaaDoorW.PrintMore
set_option linter.unusedVariables false
set_option linter.unusedSimpArgs false

/-- The parser goes on, line by line. -/
def parse_go : List S62 → List S40 → Bool → Option (List S40 × Int × Int × Option Int)
  | [], out, op => if op = true then (if 0 < out.length then block_wrong.f (rd_T40 out ((out.length : Int) - 1)).f0 (some 4) else none) else some (out, 0, 0, none)
  | l :: ls, out, op => (if op = true then block_field.f out op l else block_head.f out op l).bind fun r => match r.1 with
    | some e => block_wrong.f l.f0 (some e)
    | none => parse_go ls r.2.1 r.2.2
def block_Parse.f (k : Nat) (a0 : ByteArray) : Option (List S40 × Int × Int × Option Int) :=
  (lex_Lines.f k a0).bind fun r => match r.2.2 with
    | some e => block_wrong.f r.2.1 (some e)
    | none => if r.1.length < 4294967281 then parse_go r.1 [] false else none
theorem block_Parse.mono (a0 : ByteArray) (k : Nat) : LeO (block_Parse.f k a0) (block_Parse.f (k + 1) a0) := LeO.bind (lex_Lines.mono a0 k) (fun _ => LeO.refl _)
set_option maxHeartbeats 8000000 in
set_option maxRecDepth 100000 in
theorem block_Parse.calls (k : Nat) (a0 : ByteArray) (r1 : List S40) (r2 r3 : Int) (r4 : Option Int) (w : World) (hG : Glob w) (h : block_Parse.f k a0 = some (r1, r2, r3, r4)) :
    Calls Tryd.prog 7 #[.string a0] w fun e w' => ∃ v0_ : Value, e = .returned (.tuple #[v0_, .agg #[.int .i64 r2, .int .i64 r3], errW r4]) ∧ Kd.S k40 40 w' w.heap.size (fun _ => True) v0_ r1 ∧ Below w.heap.size w w' := by
  have hu26 := Tryd.underlying26
  have hu28 := Tryd.underlying28
  have hu24 := Tryd.underlying24
  have hu40 := Tryd.underlying40
  have hu60 := Tryd.underlying60
  have hu62 := Tryd.underlying62
  have HG := Aside0.mk hG
  clear hG
  unfold block_Parse.f at h
  obtain ⟨⟨ls, at_, er⟩, e1, h⟩ := Option.bind_eq_some_iff.mp h
  dsimp only at h
  have h17 := fun W (hg : Glob W) => lex_Lines.calls k a0 ls at_ er W hg e1
  clear e1
  have HB := Aside0.mk (Below.refl w.heap.size w)
  cases er with
  | some e =>
    have h18 := fun W (hg : Glob W) => block_wrong.calls at_ (some e) r1 r2 r3 r4 W hg h
    clear h
    simp only [errW_none, errW_some] at h18
    go_enter Tryd.func7, Tryd.ntmps7
    go_wp2_with (first | (go_at_call 17; refine (h17 _ (Glob.below HG.out (by repeat (first | (with_reducible first | exact HB.out | apply below_alloc | apply pw_below_drewN | apply below_drew1) | exact HB.out)))).mono ?_; rintro e wN ⟨v1, rfl, ho, hb⟩; have PL : Aside0 (wN.heap[w.heap.size]? = some (.cells #[.int .i64 0, .int .i64 0] 26 (0, 0))) := ⟨blk_step (blk_new w _) hb⟩; have HO := Aside0.mk ho; have HB1 : Aside0 (Below w.heap.size w wN) := ⟨below_step (by repeat (first | (with_reducible first | exact HB.out | apply below_alloc | apply pw_below_drewN | apply below_drew1) | exact HB.out)) hb⟩; clear HB hb ho; have HB := HB1; clear HB1; (try simp only [errW_none, errW_some])) | (go_at_call 18; refine (h18 _ (Glob.below HG.out (by repeat (first | (with_reducible first | exact HB.out | apply below_alloc | apply pw_below_drewN | apply below_drew1) | exact HB.out)))).mono ?_; rintro e w2 ⟨v2, rfl, ho2, hb2⟩; have PL2 : Aside0 (w2.heap[w.heap.size]? = some (.cells #[.int .i64 0, .int .i64 0] 26 (0, 0))) := ⟨blk_step PL.out (by first | exact hb2 | exact below_q hb2)⟩; have HO2 := Aside0.mk ho2; have HSZ : Aside0 (w.heap.size < _) := ⟨blk_lt PL.out⟩; have HB1 : Aside0 (Below w.heap.size w w2) := ⟨below_step (by repeat (first | (with_reducible first | exact HB.out | apply below_alloc | apply pw_below_drewN | apply below_drew1) | exact HB.out)) hb2⟩; clear HB PL hb2 ho2; have HB := HB1; have PL := PL2; clear HB1 PL2; have hc0 : w2.cell? ⟨w.heap.size, 0, none⟩ = some (.int .i64 0) := (blk_cell PL.out 0).trans rfl; have hc1 : w2.cell? ⟨w.heap.size, 1, none⟩ = some (.int .i64 0) := (blk_cell PL.out 1).trans rfl; have hf0 : w2.frozen? ⟨w.heap.size, 0, none⟩ = false := blk_frozen PL.out 0; have hf1 : w2.frozen? ⟨w.heap.size, 1, none⟩ = false := blk_frozen PL.out 1))
    have PE := Aside0.mk (blk_put (blk_put (cs := #[.int .i64 0, .int .i64 0]) PL.out 0 (.int .i64 r2) rfl) 1 (.int .i64 r3) rfl)
    have HO3 := Aside0.mk (Kd.S_far (p := ⟨w.heap.size, 1, none⟩) (Kd.S_far (p := ⟨w.heap.size, 0, none⟩) (Kd.S_bound HO2.out) (fun k hk e => by have := hk.2.1; have := HSZ.out; have e' : k = w.heap.size := e; omega) (.int .i64 r2)) (fun k hk e => by have := hk.2.1; have := HSZ.out; have e' : k = w.heap.size := e; omega) (.int .i64 r3))
    have HB3 := Aside0.mk (below_set (g := w.heap.size) (j := 1) (v := .int .i64 r3) (below_set (g := w.heap.size) (j := 0) (v := .int .i64 r2) HB.out (Nat.le_refl _)) (Nat.le_refl _))
    (try simp only [Exit.inBlock, Exit.then])
    refine bodyPost_ret (results_list (rs := [.tmp 2, .cell 3 26, .tmp 4]) rfl (by simp) (.tmp (.cell w.heap.size 26 #[.int .i64 r2, .int .i64 r3] (0, 0) _ rfl PE.out hu26 rfl (by kernel_rfl) (.tmp .nil)))) rfl ?_
    exact ⟨_, rfl, Kd.S_lower (Kd.S_mono HO3.out (fun _ _ => trivial)) (Nat.le_of_lt HSZ.out), HB3.out⟩
  | none =>
    dsimp only at h
    split at h
    case isFalse => cases h
    rename_i hlen
    have HLEN := Aside0.mk hlen
    have HP := Aside0.mk h
    clear h hlen
    go_enter Tryd.func7, Tryd.ntmps7
    go_wp2_with (first | (go_at_call 17; refine (h17 _ (Glob.below HG.out (by repeat (first | (with_reducible first | exact HB.out | apply below_alloc | apply pw_below_drewN | apply below_drew1) | exact HB.out)))).mono ?_; rintro e wN ⟨v1, rfl, ho, hb⟩; have PL : Aside0 (wN.heap[w.heap.size]? = some (.cells #[.int .i64 0, .int .i64 0] 26 (0, 0))) := ⟨blk_step (blk_new w _) hb⟩; have HO := Aside0.mk ho; have HB1 : Aside0 (Below w.heap.size w wN) := ⟨below_step (by repeat (first | (with_reducible first | exact HB.out | apply below_alloc | apply pw_below_drewN | apply below_drew1) | exact HB.out)) hb⟩; clear HB hb; obtain ⟨Av, cv, ev⟩ := Kd.R_slice ho; subst ev; clear ho; have HB := HB1; clear HB1; (try simp only [errW_none, errW_some])) | ((with_reducible refine gate_dst (N := 26) rfl ?_); refine box_event ?hg (N := 26) ?hd (cs := #[.slice none 0 0, .bool false]) (t := 60) ?hr ?_; (case hd => rfl); (case hg => rfl); (case hr => first | (go_simp; done) | (go_simp; rfl)); intro pb hg w2 hbox hb; have ST : Aside0 (St wN w2 pb (.slice none 0 0) false []) := ⟨⟨hb, hbox, by omega, Kd.S_nil _ _ _ _ _⟩⟩; clear hbox hb hg))
    go_loopg [29] ls.length (fun kq v29 w' => ∃ x : Int, v29 = .int .i64 x ∧ Aside0 (0 ≤ x ∧ x ≤ (ls.length : Int) ∧ ls.length - x.toNat ≤ kq) ∧ ∃ (op : Bool) (out : List S40) (A0 : Option Addr) (c0 : Nat), Aside0 (St wN w' pb (.slice A0 out.length c0) op out) ∧ Aside0 (parse_go (ls.drop x.toNat) out op = some (r1, r2, r3, r4)))
    case atStart => exact ⟨0, rfl, ⟨Int.le_refl _, by omega, by omega⟩, false, [], none, 0, ST, HP⟩
    case round =>
      clear ST HP
      obtain ⟨x, rfl, HX, op, out, A0, c0, ST, HP⟩ := hrel
      by_cases hlt : x < (ls.length : Int)
      · have hltz : decide (x < (ls.length : Int)) = true := decide_eq_true hlt
        have p115 : 0 ≤ x := HX.out.1
        have q115 : x < (ls.length : Int) := hlt
        obtain ⟨ad115, e115, hx0, hx1⟩ := at_T62 (Kd.R_reads' HO.out).2.2 x p115 q115
        cases e115
        replace hx0 := (ST.out.hb.cell (World.block_lt_of_cell? wN _ hx0)).trans hx0
        replace hx1 := (ST.out.hb.cell (World.block_lt_of_cell? wN _ hx1)).trans hx1
        have hop : wr.cell? ⟨pb, 1, none⟩ = some (.bool op) := (blk_cell ST.out.hp 1).trans rfl
        have hg0 : parse_go (rd_T62 ls x :: ls.drop (x + 1).toNat) out op = some (r1, r2, r3, r4) := by
          have e : ls.drop x.toNat = rd_T62 ls x :: ls.drop (x + 1).toNat := by
            rw [show (x + 1).toNat = x.toNat + 1 by omega]
            have hl : x.toNat < ls.length := by omega
            rw [List.drop_eq_getElem_cons hl]
            congr 1
            show ls[x.toNat] = ls.getD x.toNat z62
            rw [List.getD_eq_getElem?_getD, List.getElem?_eq_getElem hl]
            rfl
          rw [← e]
          exact HP.out
        unfold parse_go at hg0
        have hwr : Aside0 (wrap64 (x + 1) = x + 1) := ⟨IntWalk.wrap64_in _ ⟨by omega, by have := HLEN.out; omega⟩⟩
        have D : Aside0 (ls.length - (x + 1).toNat < ls.length - x.toNat ∧ 0 ≤ x + 1 ∧ x + 1 ≤ (ls.length : Int)) := ⟨by omega, by omega, by omega⟩
        obtain ⟨⟨er, out2, op2⟩, e2, hg1⟩ := Option.bind_eq_some_iff.mp hg0
        clear hg0 HP
        generalize rd_T62 ls x = l at hx0 hx1 e2 hg1
        replace p115 := eq_true p115
        replace q115 := eq_true q115
        clear hlt
        have hpb_ := blk_lt ST.out.hp
        have NE : Aside0 (pb ≠ wr.heap.size) := ⟨by omega⟩
        clear hpb_
        have ST2 := Aside0.mk (ST.out.step (below_alloc (Below.refl _ _) (.cells #[.int .i64 l.f0, .string l.f1] 62 (0, 0))))
        have BL := Aside0.mk (blk_new wr (.cells #[.int .i64 l.f0, .string l.f1] 62 (0, 0)))
        have hop2 : (wr.alloc (.cells #[.int .i64 l.f0, .string l.f1] 62 (0, 0))).cell? ⟨pb, 1, none⟩ = some (.bool op) := (blk_cell ST2.out.hp 1).trans rfl
        have hl0 : (wr.alloc (.cells #[.int .i64 l.f0, .string l.f1] 62 (0, 0))).cell? ⟨wr.heap.size, 0, none⟩ = some (.int .i64 l.f0) := (blk_cell BL.out 0).trans rfl
        have hl1 : (wr.alloc (.cells #[.int .i64 l.f0, .string l.f1] 62 (0, 0))).cell? ⟨wr.heap.size, 1, none⟩ = some (.string l.f1) := (blk_cell BL.out 1).trans rfl
        cases op with
        | true =>
          rw [if_pos rfl] at e2
          cases er with
          | none =>
            dsimp only at hg1
            go_wp2_with (first | (go_at_call 19; refine (block_field.calls out true l pb A0 c0 wN _ (by first | exact ST2.out | exact ST2.out.step (pw_below_drewN (Below.refl _ _) _)) none out2 op2 e2).mono ?_; rintro e w3 ⟨rfl, _, v3, hst3⟩; obtain ⟨A3, c3, ev3⟩ := Kd.S_slice hst3.hs; subst ev3; have ST3 := Aside0.mk hst3; clear hst3; (try simp only [errW_none, errW_some])))
            go_roundg (ls.length - (x + 1).toNat)
            case measure => have := D.out; have := HX.out; omega
            case rel => exact ⟨x + 1, by rw [hwr.out], ⟨D.out.2.1, D.out.2.2, Nat.le_refl _⟩, op2, out2, A3, c3, ST3, ⟨hg1⟩⟩
          | some er =>
            dsimp only at hg1
            have h18 := fun W (hg : Glob W) => block_wrong.calls l.f0 (some er) r1 r2 r3 r4 W hg hg1
            simp only [errW_none, errW_some] at h18
            clear hg1
            go_wp2_with (first | (go_at_call 19; refine (block_field.calls out true l pb A0 c0 wN _ (by first | exact ST2.out | exact ST2.out.step (pw_below_drewN (Below.refl _ _) _)) (some er) out2 op2 e2).mono ?_; rintro e w3 ⟨rfl, hbw, v3, hst3⟩; have hbw2 := hbw (by simp); have hl3 : w3.cell? ⟨wr.heap.size, 0, none⟩ = some (.int .i64 l.f0) := (blk_cell (blk_step BL.out (by first | exact hbw2 | exact below_q hbw2)) 0).trans rfl; have HB2 : Aside0 (Below w.heap.size w w3) := ⟨below_step HB.out hst3.hb⟩; have PL1 : Aside0 (w3.heap[w.heap.size]? = some (.cells #[.int .i64 0, .int .i64 0] 26 (0, 0))) := ⟨blk_step PL.out hst3.hb⟩; clear HB PL; have HB := HB2; have PL := PL1; clear HB2 PL1 hst3 hbw hbw2; (try simp only [errW_none, errW_some])) | (go_at_call 18; refine (h18 _ (Glob.below HG.out (by repeat (first | (with_reducible first | exact HB.out | apply below_alloc | apply pw_below_drewN | apply below_drew1) | exact HB.out)))).mono ?_; rintro e w2 ⟨v2, rfl, ho2, hb2⟩; have PL2 : Aside0 (w2.heap[w.heap.size]? = some (.cells #[.int .i64 0, .int .i64 0] 26 (0, 0))) := ⟨blk_step PL.out (by first | exact hb2 | exact below_q hb2)⟩; have HO2 := Aside0.mk ho2; have HSZ : Aside0 (w.heap.size < _) := ⟨blk_lt PL.out⟩; have HB1 : Aside0 (Below w.heap.size w w2) := ⟨below_step (by repeat (first | (with_reducible first | exact HB.out | apply below_alloc | apply pw_below_drewN | apply below_drew1) | exact HB.out)) hb2⟩; clear HB PL hb2 ho2; have HB := HB1; have PL := PL2; clear HB1 PL2; have hc0 : w2.cell? ⟨w.heap.size, 0, none⟩ = some (.int .i64 0) := (blk_cell PL.out 0).trans rfl; have hc1 : w2.cell? ⟨w.heap.size, 1, none⟩ = some (.int .i64 0) := (blk_cell PL.out 1).trans rfl; have hf0 : w2.frozen? ⟨w.heap.size, 0, none⟩ = false := blk_frozen PL.out 0; have hf1 : w2.frozen? ⟨w.heap.size, 1, none⟩ = false := blk_frozen PL.out 1))
            have PE := Aside0.mk (blk_put (blk_put (cs := #[.int .i64 0, .int .i64 0]) PL.out 0 (.int .i64 r2) rfl) 1 (.int .i64 r3) rfl)
            have HO3 := Aside0.mk (Kd.S_far (p := ⟨w.heap.size, 1, none⟩) (Kd.S_far (p := ⟨w.heap.size, 0, none⟩) (Kd.S_bound HO2.out) (fun k hk e => by have := hk.2.1; have := HSZ.out; have e' : k = w.heap.size := e; omega) (.int .i64 r2)) (fun k hk e => by have := hk.2.1; have := HSZ.out; have e' : k = w.heap.size := e; omega) (.int .i64 r3))
            have HB3 := Aside0.mk (below_set (g := w.heap.size) (j := 1) (v := .int .i64 r3) (below_set (g := w.heap.size) (j := 0) (v := .int .i64 r2) HB.out (Nat.le_refl _)) (Nat.le_refl _))
            (try simp only [Exit.inBlock, Exit.then])
            refine bodyPost_ret (results_list (rs := [.tmp 2, .cell 3 26, .tmp 4]) rfl (by simp) (.tmp (.cell w.heap.size 26 #[.int .i64 r2, .int .i64 r3] (0, 0) _ rfl PE.out hu26 rfl (by kernel_rfl) (.tmp .nil)))) rfl ?_
            exact ⟨_, rfl, Kd.S_lower (Kd.S_mono HO3.out (fun _ _ => trivial)) (Nat.le_of_lt HSZ.out), HB3.out⟩
    
        | false =>
          rw [if_neg (by decide)] at e2
          cases er with
          | none =>
            dsimp only at hg1
            go_wp2_with (first | (go_at_call 20; refine (block_head.calls out false l pb A0 c0 wN _ (by first | exact ST2.out | exact ST2.out.step (pw_below_drewN (Below.refl _ _) _)) none out2 op2 e2).mono ?_; rintro e w3 ⟨rfl, _, v3, hst3⟩; obtain ⟨A3, c3, ev3⟩ := Kd.S_slice hst3.hs; subst ev3; have ST3 := Aside0.mk hst3; clear hst3; (try simp only [errW_none, errW_some])))
            go_roundg (ls.length - (x + 1).toNat)
            case measure => have := D.out; have := HX.out; omega
            case rel => exact ⟨x + 1, by rw [hwr.out], ⟨D.out.2.1, D.out.2.2, Nat.le_refl _⟩, op2, out2, A3, c3, ST3, ⟨hg1⟩⟩
          | some er =>
            dsimp only at hg1
            have h18 := fun W (hg : Glob W) => block_wrong.calls l.f0 (some er) r1 r2 r3 r4 W hg hg1
            simp only [errW_none, errW_some] at h18
            clear hg1
            go_wp2_with (first | (go_at_call 20; refine (block_head.calls out false l pb A0 c0 wN _ (by first | exact ST2.out | exact ST2.out.step (pw_below_drewN (Below.refl _ _) _)) (some er) out2 op2 e2).mono ?_; rintro e w3 ⟨rfl, hbw, v3, hst3⟩; have hbw2 := hbw (by simp); have hl3 : w3.cell? ⟨wr.heap.size, 0, none⟩ = some (.int .i64 l.f0) := (blk_cell (blk_step BL.out (by first | exact hbw2 | exact below_q hbw2)) 0).trans rfl; have HB2 : Aside0 (Below w.heap.size w w3) := ⟨below_step HB.out hst3.hb⟩; have PL1 : Aside0 (w3.heap[w.heap.size]? = some (.cells #[.int .i64 0, .int .i64 0] 26 (0, 0))) := ⟨blk_step PL.out hst3.hb⟩; clear HB PL; have HB := HB2; have PL := PL1; clear HB2 PL1 hst3 hbw hbw2; (try simp only [errW_none, errW_some])) | (go_at_call 18; refine (h18 _ (Glob.below HG.out (by repeat (first | (with_reducible first | exact HB.out | apply below_alloc | apply pw_below_drewN | apply below_drew1) | exact HB.out)))).mono ?_; rintro e w2 ⟨v2, rfl, ho2, hb2⟩; have PL2 : Aside0 (w2.heap[w.heap.size]? = some (.cells #[.int .i64 0, .int .i64 0] 26 (0, 0))) := ⟨blk_step PL.out (by first | exact hb2 | exact below_q hb2)⟩; have HO2 := Aside0.mk ho2; have HSZ : Aside0 (w.heap.size < _) := ⟨blk_lt PL.out⟩; have HB1 : Aside0 (Below w.heap.size w w2) := ⟨below_step (by repeat (first | (with_reducible first | exact HB.out | apply below_alloc | apply pw_below_drewN | apply below_drew1) | exact HB.out)) hb2⟩; clear HB PL hb2 ho2; have HB := HB1; have PL := PL2; clear HB1 PL2; have hc0 : w2.cell? ⟨w.heap.size, 0, none⟩ = some (.int .i64 0) := (blk_cell PL.out 0).trans rfl; have hc1 : w2.cell? ⟨w.heap.size, 1, none⟩ = some (.int .i64 0) := (blk_cell PL.out 1).trans rfl; have hf0 : w2.frozen? ⟨w.heap.size, 0, none⟩ = false := blk_frozen PL.out 0; have hf1 : w2.frozen? ⟨w.heap.size, 1, none⟩ = false := blk_frozen PL.out 1))
            have PE := Aside0.mk (blk_put (blk_put (cs := #[.int .i64 0, .int .i64 0]) PL.out 0 (.int .i64 r2) rfl) 1 (.int .i64 r3) rfl)
            have HO3 := Aside0.mk (Kd.S_far (p := ⟨w.heap.size, 1, none⟩) (Kd.S_far (p := ⟨w.heap.size, 0, none⟩) (Kd.S_bound HO2.out) (fun k hk e => by have := hk.2.1; have := HSZ.out; have e' : k = w.heap.size := e; omega) (.int .i64 r2)) (fun k hk e => by have := hk.2.1; have := HSZ.out; have e' : k = w.heap.size := e; omega) (.int .i64 r3))
            have HB3 := Aside0.mk (below_set (g := w.heap.size) (j := 1) (v := .int .i64 r3) (below_set (g := w.heap.size) (j := 0) (v := .int .i64 r2) HB.out (Nat.le_refl _)) (Nat.le_refl _))
            (try simp only [Exit.inBlock, Exit.then])
            refine bodyPost_ret (results_list (rs := [.tmp 2, .cell 3 26, .tmp 4]) rfl (by simp) (.tmp (.cell w.heap.size 26 #[.int .i64 r2, .int .i64 r3] (0, 0) _ rfl PE.out hu26 rfl (by kernel_rfl) (.tmp .nil)))) rfl ?_
            exact ⟨_, rfl, Kd.S_lower (Kd.S_mono HO3.out (fun _ _ => trivial)) (Nat.le_of_lt HSZ.out), HB3.out⟩
    
      · have hltz : decide (x < (ls.length : Int)) = false := decide_eq_false hlt
        have hxe : x.toNat = ls.length := by have := HX.out; omega
        have hg0 := HP.out
        rw [hxe, List.drop_length] at hg0
        clear HP hlt hxe
        unfold parse_go at hg0
        have hop : wr.cell? ⟨pb, 1, none⟩ = some (.bool op) := (blk_cell ST.out.hp 1).trans rfl
        have hv : wr.cell? ⟨pb, 0, none⟩ = some (.slice A0 out.length c0) := (blk_cell ST.out.hp 0).trans rfl
        have HB2 : Aside0 (Below w.heap.size w wr) := ⟨below_step HB.out ST.out.hb⟩
        have PL1 : Aside0 (wr.heap[w.heap.size]? = some (.cells #[.int .i64 0, .int .i64 0] 26 (0, 0))) := ⟨blk_step PL.out ST.out.hb⟩
        clear HB; have HB := HB2; clear HB2
        have HW : Aside0 (w.heap.size < wN.heap.size) := ⟨blk_lt PL.out⟩
        clear PL; have PL := PL1; clear PL1
        cases op with
        | true =>
          rw [if_pos rfl] at hg0
          split at hg0
          case isFalse => cases hg0
          rename_i hpos
          obtain ⟨i, hi⟩ : ∃ i : Int, (out.length : Int) - 1 = i := ⟨_, rfl⟩
          rw [hi] at hg0
          have hmax := (Kd.F_now (Kd.S_F ST.out.hs)).2.1
          have hi3 : wrap64 i = i := IntWalk.wrap64_in _ ⟨by omega, by omega⟩
          have hiw : wrap64 ((out.length : Int) - 1) = i := by rw [hi]; exact hi3
          have hiw2 : IntKind.i64.wrap ((out.length : Int) - 1) = i := by rw [← hiw]; exact i64_w _
          have i0 : 0 ≤ i := by omega
          have i1 : i < (out.length : Int) := by omega
          obtain ⟨ad, A2, c2, ea, hx0, hx1, hx2, _, _⟩ := at_T40 (Kd.F_now (Kd.S_F ST.out.hs)) i i0 i1
          subst ea
          have i0T : (0 ≤ i) = True := eq_true i0
          have i1T : (i < (out.length : Int)) = True := eq_true i1
          have h18 := fun W (hg : Glob W) => block_wrong.calls (rd_T40 out i).f0 (some 4) r1 r2 r3 r4 W hg hg0
          simp only [errW_none, errW_some] at h18
          clear hg0 i0 i1 hx1 hx2 hpos hmax
          go_wp2
          refine start_ (n := 21) (S := fun w' => w'.cell? ⟨pb, 0, none⟩ = some (.slice (some ad) out.length c0) ∧ w'.cell? (ad.add (i.toNat * 3)) = some (.int .i64 (rd_T40 out i).f0)) (ds := [19]) #[false, false, false, false, false, false, false, false, false, false, false, false, false, false, false, false, false, false, false, false, false] (by kernel_rfl) rfl rfl ⟨hv, hx0⟩ (fun hHeld => ?_)
          refine pure_ (i := 0) (N := some 57) (v := ?_) (a' := ?_) #[true, false, false, false, false, false, false, false, false, false, false, false, false, false, false, false, false, false, false, false, false] rfl rfl (by kernel_rfl) (fun _ _ _ h => h) (Or.inl ⟨by rfl, ?_⟩) ?_ ?_
          rotate_left
          · intro w'
            go_simp
            with_reducible rfl
          rotate_left
          · simp only [Act.put, List.setIfInBounds_toArray, List.set_cons_zero, List.set_cons_succ, i64_w, i32_w]
            rfl
          refine pure_ (i := 1) (N := some 58) (v := ?_) (a' := ?_) #[true, true, false, false, false, false, false, false, false, false, false, false, false, false, false, false, false, false, false, false, false] rfl rfl (by kernel_rfl) (fun _ _ _ h => h) (Or.inl ⟨by rfl, ?_⟩) ?_ ?_
          rotate_left
          · intro w'
            go_simp
            with_reducible rfl
          rotate_left
          · simp only [Act.put, List.setIfInBounds_toArray, List.set_cons_zero, List.set_cons_succ, i64_w, i32_w]
            rfl
          refine pure_ (i := 2) (N := some 59) (v := ?_) (a' := ?_) #[true, true, true, false, false, false, false, false, false, false, false, false, false, false, false, false, false, false, false, false, false] rfl rfl (by kernel_rfl) (fun _ _ _ h => h) (Or.inl ⟨by rfl, ?_⟩) ?_ ?_
          rotate_left
          · intro w'
            go_simp
            with_reducible rfl
          rotate_left
          · simp only [Act.put, List.setIfInBounds_toArray, List.set_cons_zero, List.set_cons_succ, i64_w, i32_w]
            rfl
          refine pure_ (i := 4) (N := some 61) (v := ?_) (a' := ?_) #[true, true, true, false, true, false, false, false, false, false, false, false, false, false, false, false, false, false, false, false, false] rfl rfl (by kernel_rfl) (fun _ _ _ h => h) (Or.inl ⟨by rfl, ?_⟩) ?_ ?_
          rotate_left
          · intro w'
            go_simp
            with_reducible rfl
          rotate_left
          · simp only [Act.put, List.setIfInBounds_toArray, List.set_cons_zero, List.set_cons_succ, i64_w, i32_w]
            rfl
          refine pure_ (i := 5) (N := some 62) (v := ?_) (a' := ?_) #[true, true, true, false, true, true, false, false, false, false, false, false, false, false, false, false, false, false, false, false, false] rfl rfl (by kernel_rfl) (fun _ _ _ h => h) (Or.inl ⟨by rfl, ?_⟩) ?_ ?_
          rotate_left
          · intro w'
            go_simp
            with_reducible rfl
          rotate_left
          · simp only [Act.put, List.setIfInBounds_toArray, List.set_cons_zero, List.set_cons_succ, i64_w, i32_w]
            rfl
          refine pure_ (i := 6) (N := some 63) (v := ?_) (a' := ?_) #[true, true, true, false, true, true, true, false, false, false, false, false, false, false, false, false, false, false, false, false, false] rfl rfl (by kernel_rfl) (fun _ _ _ h => h) (Or.inl ⟨by rfl, ?_⟩) ?_ ?_
          rotate_left
          · intro w'
            go_simp
            with_reducible rfl
          rotate_left
          · simp only [Act.put, List.setIfInBounds_toArray, List.set_cons_zero, List.set_cons_succ, i64_w, i32_w]
            rfl
          refine pure_ (i := 13) (N := some 70) (v := ?_) (a' := ?_) #[true, true, true, false, true, true, true, false, false, false, false, false, false, true, false, false, false, false, false, false, false] rfl rfl (by kernel_rfl) (fun _ _ _ h => h) (Or.inl ⟨by rfl, ?_⟩) ?_ ?_
          rotate_left
          · intro w'
            go_simp
            with_reducible rfl
          rotate_left
          · simp only [Act.put, List.setIfInBounds_toArray, List.set_cons_zero, List.set_cons_succ, i64_w, i32_w]
            rfl
          refine take_ (i := 3) (N := some 60) (v := ?_) (a' := ?_) #[true, true, true, true, true, true, true, false, false, false, false, false, false, true, false, false, false, false, false, false, false] rfl rfl (by kernel_rfl) (fun _ _ _ h => h) (Or.inl ⟨by rfl, ?_⟩) hHeld ?_ ?_
          rotate_left
          · rintro w' ⟨s0, s1⟩
            go_simp
            with_reducible rfl
          rotate_left
          · simp only [Act.put, List.setIfInBounds_toArray, List.set_cons_zero, List.set_cons_succ, i64_w, i32_w]
            rfl
          refine take_ (i := 7) (N := some 64) (v := ?_) (a' := ?_) #[true, true, true, true, true, true, true, true, false, false, false, false, false, true, false, false, false, false, false, false, false] rfl rfl (by kernel_rfl) (fun _ _ _ h => h) (Or.inl ⟨by rfl, ?_⟩) hHeld ?_ ?_
          rotate_left
          · rintro w' ⟨s0, s1⟩
            go_simp
            with_reducible rfl
          rotate_left
          · simp only [Act.put, List.setIfInBounds_toArray, List.set_cons_zero, List.set_cons_succ, i64_w, i32_w]
            rfl
          refine pure_ (i := 8) (N := some 65) (v := ?_) (a' := ?_) #[true, true, true, true, true, true, true, true, true, false, false, false, false, true, false, false, false, false, false, false, false] rfl rfl (by kernel_rfl) (fun _ _ _ h => h) (Or.inl ⟨by rfl, ?_⟩) ?_ ?_
          rotate_left
          · intro w'
            go_simp
            with_reducible rfl
          rotate_left
          · simp only [Act.put, List.setIfInBounds_toArray, List.set_cons_zero, List.set_cons_succ, i64_w, i32_w]
            rfl
          refine pure_ (i := 9) (N := some 66) (v := ?_) (a' := ?_) #[true, true, true, true, true, true, true, true, true, true, false, false, false, true, false, false, false, false, false, false, false] rfl rfl (by kernel_rfl) (fun _ _ _ h => h) (Or.inl ⟨by rfl, ?_⟩) ?_ ?_
          rotate_left
          · intro w'
            go_simp
            with_reducible rfl
          rotate_left
          · simp only [Act.put, List.setIfInBounds_toArray, List.set_cons_zero, List.set_cons_succ, i64_w, i32_w]
            rfl
          refine pure_ (i := 10) (N := some 67) (v := ?_) (a' := ?_) #[true, true, true, true, true, true, true, true, true, true, true, false, false, true, false, false, false, false, false, false, false] rfl rfl (by kernel_rfl) (fun _ _ _ h => h) (Or.inl ⟨by rfl, ?_⟩) ?_ ?_
          rotate_left
          · intro w'
            go_simp
            with_reducible rfl
          rotate_left
          · simp only [Act.put, List.setIfInBounds_toArray, List.set_cons_zero, List.set_cons_succ, i64_w, i32_w]
            rfl
          refine pure_ (i := 11) (N := some 68) (v := ?_) (a' := ?_) #[true, true, true, true, true, true, true, true, true, true, true, true, false, true, false, false, false, false, false, false, false] rfl rfl (by kernel_rfl) (fun _ _ _ h => h) (Or.inl ⟨by rfl, ?_⟩) ?_ ?_
          rotate_left
          · intro w'
            go_simp
            with_reducible rfl
          rotate_left
          · simp only [Act.put, List.setIfInBounds_toArray, List.set_cons_zero, List.set_cons_succ, i64_w, i32_w]
            rfl
          refine take_ (i := 12) (N := some 69) (v := ?_) (a' := ?_) #[true, true, true, true, true, true, true, true, true, true, true, true, true, true, false, false, false, false, false, false, false] rfl rfl (by kernel_rfl) (fun _ _ _ h => h) (Or.inl ⟨by rfl, ?_⟩) hHeld ?_ ?_
          rotate_left
          · rintro w' ⟨s0, s1⟩
            go_simp
            with_reducible rfl
          rotate_left
          · simp only [Act.put, List.setIfInBounds_toArray, List.set_cons_zero, List.set_cons_succ, i64_w, i32_w]
            rfl
          refine one_ (i := 14) (N := some 71) #[true, true, true, true, true, true, true, true, true, true, true, true, true, true, true, false, false, false, false, false, false] rfl rfl (by kernel_rfl) (by decide) (fun K hK => ?_)
          refine goes_ Tryd.func18 (by kernel_rfl) rfl #[.int .i64 (rd_T40 out i).f0, .iface 24 (.int .i64 4)] (by rfl) rfl rfl (by simp only [List.map_toArray, List.map_cons, List.map_nil]; rfl) ?_
          with_reducible refine (h18 _ (Glob.below HG.out (by repeat (first | (with_reducible first | exact HB.out | apply below_alloc | apply pw_below_drewN | apply below_drew1) | exact HB.out)))).mono ?_
          rintro e w2 ⟨v2, rfl, ho2, hb2⟩
          refine ⟨_, rfl, ?_⟩
          have PL2 : Aside0 (w2.heap[w.heap.size]? = some (.cells #[.int .i64 0, .int .i64 0] 26 (0, 0))) := ⟨blk_step PL.out (by first | exact hb2 | exact below_q hb2)⟩
          have HO2 := Aside0.mk ho2
          have HSZ : Aside0 (w.heap.size < wr.drew.heap.size) := ⟨blk_lt (blk_drew PL.out)⟩
          have HB1 : Aside0 (Below w.heap.size w w2) := ⟨below_step (by repeat (first | (with_reducible first | exact HB.out | apply below_alloc | apply pw_below_drewN | apply below_drew1) | exact HB.out)) hb2⟩
          have hv2 := pw_cell_below (w := wr.drew) hb2 hv
          have hx2 := pw_cell_below (w := wr.drew) hb2 hx0
          have HB := HB1
          have PL := PL2
          have hc0 : w2.cell? ⟨w.heap.size, 0, none⟩ = some (.int .i64 0) := (blk_cell PL.out 0).trans rfl
          have hc1 : w2.cell? ⟨w.heap.size, 1, none⟩ = some (.int .i64 0) := (blk_cell PL.out 1).trans rfl
          have hf0 : w2.frozen? ⟨w.heap.size, 0, none⟩ = false := blk_frozen PL.out 0
          have hf1 : w2.frozen? ⟨w.heap.size, 1, none⟩ = false := blk_frozen PL.out 1
          refine hK.out _ _ ⟨hv2, hx2⟩ (fun hHeld => ?_)
          clear hK K
          refine norm_ (a' := ?_) ?_ ?_
          rotate_left
          · show Act.put _ (some 71) _ = _
            simp only [Act.put, List.setIfInBounds_toArray, List.set_cons_zero, List.set_cons_succ, i64_w, i32_w]
            rfl
          refine pure_ (i := 15) (N := some 72) (v := ?_) (a' := ?_) #[true, true, true, true, true, true, true, true, true, true, true, true, true, true, true, true, false, false, false, false, false] rfl rfl (by kernel_rfl) (fun _ _ _ h => h) (Or.inl ⟨by rfl, ?_⟩) ?_ ?_
          rotate_left
          · intro w'
            go_simp
            with_reducible rfl
          rotate_left
          · simp only [Act.put, List.setIfInBounds_toArray, List.set_cons_zero, List.set_cons_succ, i64_w, i32_w]
            rfl
          refine pure_ (i := 16) (N := some 73) (v := ?_) (a' := ?_) #[true, true, true, true, true, true, true, true, true, true, true, true, true, true, true, true, true, false, false, false, false] rfl rfl (by kernel_rfl) (fun _ _ _ h => h) (Or.inl ⟨by rfl, ?_⟩) ?_ ?_
          rotate_left
          · intro w'
            go_simp
            with_reducible rfl
          rotate_left
          · simp only [Act.put, List.setIfInBounds_toArray, List.set_cons_zero, List.set_cons_succ, i64_w, i32_w]
            rfl
          refine pure_ (i := 17) (N := some 74) (v := ?_) (a' := ?_) #[true, true, true, true, true, true, true, true, true, true, true, true, true, true, true, true, true, true, false, false, false] rfl rfl (by kernel_rfl) (fun _ _ _ h => h) (Or.inl ⟨by rfl, ?_⟩) ?_ ?_
          rotate_left
          · intro w'
            go_simp
            with_reducible rfl
          rotate_left
          · simp only [Act.put, List.setIfInBounds_toArray, List.set_cons_zero, List.set_cons_succ, i64_w, i32_w]
            rfl
          refine pure_ (i := 18) (N := some 2) (v := ?_) (a' := ?_) #[true, true, true, true, true, true, true, true, true, true, true, true, true, true, true, true, true, true, true, false, false] rfl rfl (by kernel_rfl) (fun _ _ _ h => h) (Or.inl ⟨by rfl, ?_⟩) ?_ ?_
          rotate_left
          · intro w'
            go_simp
            with_reducible rfl
          rotate_left
          · simp only [Act.put, List.setIfInBounds_toArray, List.set_cons_zero, List.set_cons_succ, i64_w, i32_w]
            rfl
          refine last_ (i := 19) (N := none) #[true, true, true, true, true, true, true, true, true, true, true, true, true, true, true, true, true, true, true, true, false] rfl rfl (by kernel_rfl) (by decide) (fun K hK => ?_)
          refine skip_ (w1 := ?_) (by rfl) rfl ?_ ?_
          rotate_left
          · go_simp
            rfl
          refine hK.out _ _ ?_
          clear hK K
          refine pure_ (i := 20) (N := some 4) (v := ?_) (a' := ?_) #[true, true, true, true, true, true, true, true, true, true, true, true, true, true, true, true, true, true, true, true, true] rfl rfl (by kernel_rfl) (fun _ _ _ h => h) (Or.inl ⟨by rfl, ?_⟩) ?_ ?_
          rotate_left
          · intro w'
            go_simp
            with_reducible rfl
          rotate_left
          · simp only [Act.put, List.setIfInBounds_toArray, List.set_cons_zero, List.set_cons_succ, i64_w, i32_w]
            rfl
          refine done_ (by kernel_rfl) ?_
          go_wp2
          have PE := Aside0.mk (blk_put (blk_put (cs := #[.int .i64 0, .int .i64 0]) PL.out 0 (.int .i64 r2) rfl) 1 (.int .i64 r3) rfl)
          have HO3 := Aside0.mk (Kd.S_far (p := ⟨w.heap.size, 1, none⟩) (Kd.S_far (p := ⟨w.heap.size, 0, none⟩) (Kd.S_bound HO2.out) (fun k hk e => by have := hk.2.1; have := HSZ.out; have e' : k = w.heap.size := e; omega) (.int .i64 r2)) (fun k hk e => by have := hk.2.1; have := HSZ.out; have e' : k = w.heap.size := e; omega) (.int .i64 r3))
          have HB3 := Aside0.mk (below_set (g := w.heap.size) (j := 1) (v := .int .i64 r3) (below_set (g := w.heap.size) (j := 0) (v := .int .i64 r2) HB.out (Nat.le_refl _)) (Nat.le_refl _))
          (try simp only [Exit.inBlock, Exit.then])
          refine bodyPost_ret (results_list (rs := [.tmp 2, .cell 3 26, .tmp 4]) rfl (by simp) (.tmp (.cell w.heap.size 26 #[.int .i64 r2, .int .i64 r3] (0, 0) _ rfl PE.out hu26 rfl (by kernel_rfl) (.tmp .nil)))) rfl ?_
          exact ⟨_, rfl, Kd.S_lower (Kd.S_mono HO3.out (fun _ _ => trivial)) (Nat.le_of_lt HSZ.out), HB3.out⟩
    
        | false =>
          rw [if_neg (by decide)] at hg0
          obtain ⟨rfl, rfl, rfl, rfl⟩ : out = r1 ∧ 0 = r2 ∧ 0 = r3 ∧ none = r4 := by simpa using hg0
          clear hg0
          have hc0 : wr.cell? ⟨w.heap.size, 0, none⟩ = some (.int .i64 0) := (blk_cell PL.out 0).trans rfl; have hc1 : wr.cell? ⟨w.heap.size, 1, none⟩ = some (.int .i64 0) := (blk_cell PL.out 1).trans rfl; have hf0 : wr.frozen? ⟨w.heap.size, 0, none⟩ = false := blk_frozen PL.out 0; have hf1 : wr.frozen? ⟨w.heap.size, 1, none⟩ = false := blk_frozen PL.out 1
          have HO2 := Aside0.mk (Kd.S_bound ST.out.hs)
          have HSZ : Aside0 (w.heap.size < wN.heap.size) := HW
          go_wp2
          have PE := Aside0.mk (blk_put (blk_put (cs := #[.int .i64 0, .int .i64 0]) PL.out 0 (.int .i64 0) rfl) 1 (.int .i64 0) rfl)
          have HO3 := Aside0.mk (Kd.S_far (p := ⟨w.heap.size, 1, none⟩) (Kd.S_far (p := ⟨w.heap.size, 0, none⟩) (Kd.S_bound HO2.out) (fun k hk e => by have := hk.2.1; have := HSZ.out; have e' : k = w.heap.size := e; omega) (.int .i64 0)) (fun k hk e => by have := hk.2.1; have := HSZ.out; have e' : k = w.heap.size := e; omega) (.int .i64 0))
          have HB3 := Aside0.mk (below_set (g := w.heap.size) (j := 1) (v := .int .i64 0) (below_set (g := w.heap.size) (j := 0) (v := .int .i64 0) HB.out (Nat.le_refl _)) (Nat.le_refl _))
          (try simp only [Exit.inBlock, Exit.then])
          refine bodyPost_ret (results_list (rs := [.tmp 2, .cell 3 26, .tmp 4]) rfl (by simp) (.tmp (.cell w.heap.size 26 #[.int .i64 0, .int .i64 0] (0, 0) _ rfl PE.out hu26 rfl (by kernel_rfl) (.tmp .nil)))) rfl ?_
          exact ⟨_, rfl, Kd.S_lower (Kd.S_mono HO3.out (fun _ _ => trivial)) (Nat.le_of_lt HSZ.out), HB3.out⟩
end Go.Proofs.YtefjppdchgdjlaaDoor.P
