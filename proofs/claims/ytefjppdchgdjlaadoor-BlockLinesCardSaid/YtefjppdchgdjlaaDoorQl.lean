-- PRINTED by a turned copy of print.py out of the translation. Not trusted: Lean checks it.
import Derived.Test.YtefjppdchgdjlaaDoorQu
namespace Go.Proofs.YtefjppdchgdjlaaDoor.P
open Go.RowKit Go.Proofs.YtefjppdchgdjlaaDoorW.PrintWords Go.Proofs.YtefjppdchgdjlaaDoorW.PrintLast Go.Proofs.YtefjppdchgdjlaaDoorW.PrintMore
attribute [local go_sem] max2_int min2_int max_two min_two max_three min_three max_four min_four   -- for this text's walks alone
set_option linter.unusedVariables false
set_option linter.unusedSimpArgs false

/-! ### belvederelaw09_BlockLines: function 4 -/
mutual
def belvederelaw09_BlockLines.l0 : Nat → List (S40) → Option Int → Int → ByteArray → Int → Int → Int → Option (Bool)
  | 0, _, _, _, _, _, _, _ => none
  | k + 1, x5, x7, x8, x9, x10, x138000, x138001 => if x10 < x8 then (if 1 + x9.size ≤ 9223372036854775807 then (belvederelaw09_BlockLines.l0 k x5 x7 x8 ((⟨#[10]⟩ : ByteArray) ++ x9) (wrap64 (x10 + 1)) x138000 x138001) else (none)) else ((block_Parse.f k x9).bind fun bt138 => ((belvederelaw09_num.f x7).bind fun t145 => ((belvederelaw09_num.f bt138.2.2.2).bind fun t146 => (if t145 = t146 then (belvederelaw09_BlockLines.j1 k x5 x7 x8 bt138.1 ((x5.length : Int) != (bt138.1.length : Int)) x138000 x138001 bt138.2.1 bt138.2.2.1) else (belvederelaw09_BlockLines.j1 k x5 x7 x8 bt138.1 true x138000 x138001 bt138.2.1 bt138.2.2.1)))))
def belvederelaw09_BlockLines.j1 : Nat → List (S40) → Option Int → Int → List (S40) → Bool → Int → Int → Int → Int → Option (Bool)
  | 0, _, _, _, _, _, _, _, _, _ => none
  | k + 1, x5, x7, x8, x11, x56, x138000, x138001, x145000, x145001 => if x56 = true then (some false) else (if x7.isNone = true then (belvederelaw09_BlockLines.l1 k x5 x8 x11 0 0) else (if x138000 = 0 then (if x145000 = 0 then (if x138001 = x145001 then ((belvederelaw09_sure.f k).bind fun t160 => (some t160)) else (some false)) else (if x145000 = (wrap64 (x138000 + x8)) then (if x138001 = x145001 then ((belvederelaw09_sure.f k).bind fun t161 => (some t161)) else (some false)) else (some false))) else (if x145000 = (wrap64 (x138000 + x8)) then (if x138001 = x145001 then ((belvederelaw09_sure.f k).bind fun t162 => (some t162)) else (some false)) else (some false))))
def belvederelaw09_BlockLines.l1 : Nat → List (S40) → Int → List (S40) → Int → Int → Option (Bool)
  | 0, _, _, _, _, _ => none
  | k + 1, x5, x8, x11, x14, x15 => if x15 < (x5.length : Int) then (if 0 ≤ x15 then (if ((rd_T40 x5 x15).f0) ≤ x14 then (belvederelaw09_BlockLines.j3 k x5 x8 x11 x15 true) else (if x15 < (x11.length : Int) then (if ((rd_T40 x11 x15).f0) = (wrap64 (((rd_T40 x5 x15).f0) + x8)) then (belvederelaw09_BlockLines.j3 k x5 x8 x11 x15 ((((rd_T40 x5 x15).f2).length : Int) != (((rd_T40 x11 x15).f2).length : Int))) else (belvederelaw09_BlockLines.j3 k x5 x8 x11 x15 true)) else (none))) else (none)) else ((belvederelaw09_sure.f k).bind fun t148 => (some t148))
def belvederelaw09_BlockLines.j3 : Nat → List (S40) → Int → List (S40) → Int → Bool → Option (Bool)
  | 0, _, _, _, _, _ => none
  | k + 1, x5, x8, x11, x15, x128 => if x128 = true then (some false) else (if 0 ≤ x15 then (if x15 < (x5.length : Int) then (belvederelaw09_BlockLines.l2 k x5 x8 x11 ((rd_T40 x5 x15).f0) x15 0) else (none)) else (none))
def belvederelaw09_BlockLines.l2 : Nat → List (S40) → Int → List (S40) → Int → Int → Int → Option (Bool)
  | 0, _, _, _, _, _, _ => none
  | k + 1, x5, x8, x11, x14, x15, x16 => if 0 ≤ x15 then (if x15 < (x5.length : Int) then (if x16 < (((rd_T40 x5 x15).f2).length : Int) then (if 0 ≤ x16 then (if ((rd_T42 ((rd_T40 x5 x15).f2) x16).f0) ≤ x14 then (some false) else (belvederelaw09_BlockLines.l2 k x5 x8 x11 ((rd_T42 ((rd_T40 x5 x15).f2) x16).f0) x15 (wrap64 (x16 + 1)))) else (none)) else (belvederelaw09_BlockLines.l1 k x5 x8 x11 x14 (wrap64 (x15 + 1)))) else (none)) else (none)
end
def belvederelaw09_BlockLines.f (k : Nat) (a0 : ByteArray) (a1 : Int) : Option (Bool) := if (a0.size : Int) > 4000 then ((belvederelaw09_sure.f k).bind fun t130 => (some t130)) else ((block_Parse.f k a0).bind fun bt131 => (belvederelaw09_BlockLines.l0 k bt131.1 bt131.2.2.2 (wrap64 (Int.tmod (IntKind.u64.wrap (a1)) 6)) a0 0 bt131.2.1 bt131.2.2.1))
theorem belvederelaw09_BlockLines.mono_l : ∀ k, (∀ y0 y1 y2 y3 y4 y5 y6, LeO (belvederelaw09_BlockLines.l0 k y0 y1 y2 y3 y4 y5 y6) (belvederelaw09_BlockLines.l0 (k + 1) y0 y1 y2 y3 y4 y5 y6)) ∧ (∀ y0 y1 y2 y3 y4 y5 y6 y7 y8, LeO (belvederelaw09_BlockLines.j1 k y0 y1 y2 y3 y4 y5 y6 y7 y8) (belvederelaw09_BlockLines.j1 (k + 1) y0 y1 y2 y3 y4 y5 y6 y7 y8)) ∧ (∀ y0 y1 y2 y3 y4, LeO (belvederelaw09_BlockLines.l1 k y0 y1 y2 y3 y4) (belvederelaw09_BlockLines.l1 (k + 1) y0 y1 y2 y3 y4)) ∧ (∀ y0 y1 y2 y3 y4, LeO (belvederelaw09_BlockLines.j3 k y0 y1 y2 y3 y4) (belvederelaw09_BlockLines.j3 (k + 1) y0 y1 y2 y3 y4)) ∧ (∀ y0 y1 y2 y3 y4 y5, LeO (belvederelaw09_BlockLines.l2 k y0 y1 y2 y3 y4 y5) (belvederelaw09_BlockLines.l2 (k + 1) y0 y1 y2 y3 y4 y5))
  | 0 => ⟨fun _ _ _ _ _ _ _ r h => by simp [belvederelaw09_BlockLines.l0] at h, fun _ _ _ _ _ _ _ _ _ r h => by simp [belvederelaw09_BlockLines.j1] at h, fun _ _ _ _ _ r h => by simp [belvederelaw09_BlockLines.l1] at h, fun _ _ _ _ _ r h => by simp [belvederelaw09_BlockLines.j3] at h, fun _ _ _ _ _ _ r h => by simp [belvederelaw09_BlockLines.l2] at h⟩
  | k + 1 => by
    obtain ⟨ih0, ih1, ih2, ih3, ih4⟩ := belvederelaw09_BlockLines.mono_l k
    refine ⟨?_, ?_, ?_, ?_, ?_⟩
    · intro y0 y1 y2 y3 y4 y5 y6
      unfold belvederelaw09_BlockLines.l0
      repeat' first
      | (with_reducible exact ih0 _ _ _ _ _ _ _)
      | (with_reducible exact ih1 _ _ _ _ _ _ _ _ _)
      | (with_reducible exact ih2 _ _ _ _ _)
      | (with_reducible exact ih3 _ _ _ _ _)
      | (with_reducible exact ih4 _ _ _ _ _ _)
      | (with_reducible exact belvederelaw09_sure.mono _)
      | (with_reducible exact block_Parse.mono _ _)
      | (with_reducible exact LeO.refl _)
      | (with_reducible exact LeO.none _)
      | (with_reducible refine LeO.ite ?_ ?_)
      | (with_reducible refine LeO.bind ?_ (fun _ => ?_))
      | exact ih0 _ _ _ _ _ _ _
      | exact ih1 _ _ _ _ _ _ _ _ _
      | exact ih2 _ _ _ _ _
      | exact ih3 _ _ _ _ _
      | exact ih4 _ _ _ _ _ _
      | exact belvederelaw09_sure.mono _
      | exact block_Parse.mono _ _
      | exact LeO.none _
      | refine LeO.ite ?_ ?_
      | refine LeO.bind ?_ (fun _ => ?_)
    · intro y0 y1 y2 y3 y4 y5 y6 y7 y8
      unfold belvederelaw09_BlockLines.j1
      repeat' first
      | (with_reducible exact ih0 _ _ _ _ _ _ _)
      | (with_reducible exact ih1 _ _ _ _ _ _ _ _ _)
      | (with_reducible exact ih2 _ _ _ _ _)
      | (with_reducible exact ih3 _ _ _ _ _)
      | (with_reducible exact ih4 _ _ _ _ _ _)
      | (with_reducible exact belvederelaw09_sure.mono _)
      | (with_reducible exact block_Parse.mono _ _)
      | (with_reducible exact LeO.refl _)
      | (with_reducible exact LeO.none _)
      | (with_reducible refine LeO.ite ?_ ?_)
      | (with_reducible refine LeO.bind ?_ (fun _ => ?_))
      | exact ih0 _ _ _ _ _ _ _
      | exact ih1 _ _ _ _ _ _ _ _ _
      | exact ih2 _ _ _ _ _
      | exact ih3 _ _ _ _ _
      | exact ih4 _ _ _ _ _ _
      | exact belvederelaw09_sure.mono _
      | exact block_Parse.mono _ _
      | exact LeO.none _
      | refine LeO.ite ?_ ?_
      | refine LeO.bind ?_ (fun _ => ?_)
    · intro y0 y1 y2 y3 y4
      unfold belvederelaw09_BlockLines.l1
      repeat' first
      | (with_reducible exact ih0 _ _ _ _ _ _ _)
      | (with_reducible exact ih1 _ _ _ _ _ _ _ _ _)
      | (with_reducible exact ih2 _ _ _ _ _)
      | (with_reducible exact ih3 _ _ _ _ _)
      | (with_reducible exact ih4 _ _ _ _ _ _)
      | (with_reducible exact belvederelaw09_sure.mono _)
      | (with_reducible exact block_Parse.mono _ _)
      | (with_reducible exact LeO.refl _)
      | (with_reducible exact LeO.none _)
      | (with_reducible refine LeO.ite ?_ ?_)
      | (with_reducible refine LeO.bind ?_ (fun _ => ?_))
      | exact ih0 _ _ _ _ _ _ _
      | exact ih1 _ _ _ _ _ _ _ _ _
      | exact ih2 _ _ _ _ _
      | exact ih3 _ _ _ _ _
      | exact ih4 _ _ _ _ _ _
      | exact belvederelaw09_sure.mono _
      | exact block_Parse.mono _ _
      | exact LeO.none _
      | refine LeO.ite ?_ ?_
      | refine LeO.bind ?_ (fun _ => ?_)
    · intro y0 y1 y2 y3 y4
      unfold belvederelaw09_BlockLines.j3
      repeat' first
      | (with_reducible exact ih0 _ _ _ _ _ _ _)
      | (with_reducible exact ih1 _ _ _ _ _ _ _ _ _)
      | (with_reducible exact ih2 _ _ _ _ _)
      | (with_reducible exact ih3 _ _ _ _ _)
      | (with_reducible exact ih4 _ _ _ _ _ _)
      | (with_reducible exact belvederelaw09_sure.mono _)
      | (with_reducible exact block_Parse.mono _ _)
      | (with_reducible exact LeO.refl _)
      | (with_reducible exact LeO.none _)
      | (with_reducible refine LeO.ite ?_ ?_)
      | (with_reducible refine LeO.bind ?_ (fun _ => ?_))
      | exact ih0 _ _ _ _ _ _ _
      | exact ih1 _ _ _ _ _ _ _ _ _
      | exact ih2 _ _ _ _ _
      | exact ih3 _ _ _ _ _
      | exact ih4 _ _ _ _ _ _
      | exact belvederelaw09_sure.mono _
      | exact block_Parse.mono _ _
      | exact LeO.none _
      | refine LeO.ite ?_ ?_
      | refine LeO.bind ?_ (fun _ => ?_)
    · intro y0 y1 y2 y3 y4 y5
      unfold belvederelaw09_BlockLines.l2
      repeat' first
      | (with_reducible exact ih0 _ _ _ _ _ _ _)
      | (with_reducible exact ih1 _ _ _ _ _ _ _ _ _)
      | (with_reducible exact ih2 _ _ _ _ _)
      | (with_reducible exact ih3 _ _ _ _ _)
      | (with_reducible exact ih4 _ _ _ _ _ _)
      | (with_reducible exact belvederelaw09_sure.mono _)
      | (with_reducible exact block_Parse.mono _ _)
      | (with_reducible exact LeO.refl _)
      | (with_reducible exact LeO.none _)
      | (with_reducible refine LeO.ite ?_ ?_)
      | (with_reducible refine LeO.bind ?_ (fun _ => ?_))
      | exact ih0 _ _ _ _ _ _ _
      | exact ih1 _ _ _ _ _ _ _ _ _
      | exact ih2 _ _ _ _ _
      | exact ih3 _ _ _ _ _
      | exact ih4 _ _ _ _ _ _
      | exact belvederelaw09_sure.mono _
      | exact block_Parse.mono _ _
      | exact LeO.none _
      | refine LeO.ite ?_ ?_
      | refine LeO.bind ?_ (fun _ => ?_)
theorem belvederelaw09_BlockLines.mono : ∀ a0 a1 k, LeO (belvederelaw09_BlockLines.f k a0 a1) (belvederelaw09_BlockLines.f (k + 1) a0 a1) := by
  intro a0 a1 k
  obtain ⟨ih0, ih1, ih2, ih3, ih4⟩ := belvederelaw09_BlockLines.mono_l k
  unfold belvederelaw09_BlockLines.f
  repeat' first
      | (with_reducible exact ih0 _ _ _ _ _ _ _)
      | (with_reducible exact ih1 _ _ _ _ _ _ _ _ _)
      | (with_reducible exact ih2 _ _ _ _ _)
      | (with_reducible exact ih3 _ _ _ _ _)
      | (with_reducible exact ih4 _ _ _ _ _ _)
      | (with_reducible exact belvederelaw09_sure.mono _)
      | (with_reducible exact block_Parse.mono _ _)
      | (with_reducible exact LeO.refl _)
      | (with_reducible exact LeO.none _)
      | (with_reducible refine LeO.ite ?_ ?_)
      | (with_reducible refine LeO.bind ?_ (fun _ => ?_))
      | exact ih0 _ _ _ _ _ _ _
      | exact ih1 _ _ _ _ _ _ _ _ _
      | exact ih2 _ _ _ _ _
      | exact ih3 _ _ _ _ _
      | exact ih4 _ _ _ _ _ _
      | exact belvederelaw09_sure.mono _
      | exact block_Parse.mono _ _
      | exact LeO.none _
      | refine LeO.ite ?_ ?_
      | refine LeO.bind ?_ (fun _ => ?_)
set_option maxHeartbeats 8000000 in
set_option maxRecDepth 100000 in
theorem belvederelaw09_BlockLines.calls (k : Nat) (a0 : ByteArray) (a1 : Int) (r : Bool) (w : World) (hG : Glob w) (h : belvederelaw09_BlockLines.f k a0 a1 = some r) :
    Calls Tryd.prog 4 #[.string a0, .int .i64 a1] w fun e w' => e = .returned (.bool r) ∧ Below w.heap.size w w' := by
  have hu26 := Tryd.underlying26
  have hu28 := Tryd.underlying28
  have HG := Aside0.mk hG
  clear hG
  have HB := Aside0.mk (Below.refl w.heap.size w)
  have H : (if (a0.size : Int) > 4000 then ((belvederelaw09_sure.f k).bind fun t130 => (some t130)) else ((block_Parse.f k a0).bind fun bt131 => (belvederelaw09_BlockLines.l0 k bt131.1 bt131.2.2.2 (wrap64 (Int.tmod (IntKind.u64.wrap (a1)) 6)) a0 0 bt131.2.1 bt131.2.2.1))) = some r := h
  clear h
  by_cases c3 : (a0.size : Int) > 4000
  · rw [if_pos c3] at H
    have c3b0 : decide (4000 < (a0.size : Int)) = true := decide_eq_true c3
    have c3b1 : decide (4000 < a0.size) = true := decide_eq_true (by omega)
    clear c3
    replace H := Option.bind_eq_some_iff.mp H
    obtain ⟨t130, A40, H⟩ := H
    replace H : (some t130) = some r := H
    have A4 := Aside0.mk A40
    clear A40
    obtain rfl := Option.some.inj H
    go_enter Tryd.func4, Tryd.ntmps4
    go_wp2_with (first | (go_at_call 6; (with_reducible refine (belvederelaw09_sure.calls k  t130 _ ?side1 A4.out).mono ?_); (case side1 => exact Glob.below HG.out (by repeat (first | (with_reducible first | exact HB.out | apply below_alloc | apply pw_below_drewN | apply below_drew1) | exact HB.out))); rintro e w5 ⟨rfl, hb⟩; have n0_ := Aside0.mk (below_step (by repeat (first | (with_reducible first | exact HB.out | apply below_alloc | apply pw_below_drewN | apply below_drew1) | exact HB.out)) hb); clear HB; have HB := n0_; clear n0_; (try clear hb); (try clear hb2); (try clear hk); (try clear hi)))
    repeat (go_quiet (first | (go_at_call 6; (with_reducible refine (belvederelaw09_sure.calls k  t130 _ ?side1 A4.out).mono ?_); (case side1 => exact Glob.below HG.out (by repeat (first | (with_reducible first | exact HB.out | apply below_alloc | apply pw_below_drewN | apply below_drew1) | exact HB.out))); rintro e w5 ⟨rfl, hb⟩; have n0_ := Aside0.mk (below_step (by repeat (first | (with_reducible first | exact HB.out | apply below_alloc | apply pw_below_drewN | apply below_drew1) | exact HB.out)) hb); clear HB; have HB := n0_; clear n0_; (try clear hb); (try clear hb2); (try clear hk); (try clear hi))); try go_wp2_with (first | (go_at_call 6; (with_reducible refine (belvederelaw09_sure.calls k  t130 _ ?side1 A4.out).mono ?_); (case side1 => exact Glob.below HG.out (by repeat (first | (with_reducible first | exact HB.out | apply below_alloc | apply pw_below_drewN | apply below_drew1) | exact HB.out))); rintro e w5 ⟨rfl, hb⟩; have n0_ := Aside0.mk (below_step (by repeat (first | (with_reducible first | exact HB.out | apply below_alloc | apply pw_below_drewN | apply below_drew1) | exact HB.out)) hb); clear HB; have HB := n0_; clear n0_; (try clear hb); (try clear hb2); (try clear hk); (try clear hi))))
    go_ret
    exact ⟨by first | rfl | (simp [errW_none, errW_some] <;> rfl) | (simp [*, errW_none, errW_some] <;> rfl), by repeat (first | (with_reducible first | exact HB.out | apply below_alloc | apply pw_below_drewN | apply below_drew1) | exact HB.out)⟩
  · rw [if_neg c3] at H
    have c3b0 : decide (4000 < (a0.size : Int)) = false := decide_eq_false c3
    have c3b1 : decide (4000 < a0.size) = false := decide_eq_false (by omega)
    clear c3
    replace H := Option.bind_eq_some_iff.mp H
    obtain ⟨⟨t131, t134, t135, t136⟩, A60, H⟩ := H
    replace H : (belvederelaw09_BlockLines.l0 k t131 t136 (wrap64 (Int.tmod (IntKind.u64.wrap (a1)) 6)) a0 0 t134 t135) = some r := H
    have A6 := Aside0.mk A60
    clear A60
    have H' := Aside0.mk H
    clear H
    go_enter Tryd.func4, Tryd.ntmps4
    go_wp2_with (first | (go_at_call 7; (with_reducible refine (block_Parse.calls k a0 t131 t134 t135 t136 _ ?side1 A6.out).mono ?_); (case side1 => exact Glob.below HG.out (by repeat (first | (with_reducible first | exact HB.out | apply below_alloc | apply pw_below_drewN | apply below_drew1) | exact HB.out))); rintro e w7 ⟨v132, rfl, ho0, hb⟩; have n0_ := Aside0.mk (Kd.S_lower ho0 (below_size (by repeat (first | (with_reducible first | exact HB.out | apply below_alloc | apply pw_below_drewN | apply below_drew1) | exact HB.out)))); have n1_ := Aside0.mk (below_step (by repeat (first | (with_reducible first | exact HB.out | apply below_alloc | apply pw_below_drewN | apply below_drew1) | exact HB.out)) hb); clear HB; have HO133 := n0_; have HB := n1_; clear n0_ n1_; (try clear hb); (try clear hb2); (try clear hk); (try clear hi); (try clear ho0); (try simp only [errW_none, errW_some])) | ((with_reducible refine gate_dst (N := 6) rfl ?_); (try (refine gate_guard (by rfl) ?_; dsimp only)); refine box_event ?hg (N := 6) ?hd (cs := #[.int .i64 0, .int .i64 0]) (t := 26) ?hr ?_; (case hd => rfl); (case hg => rfl); (case hr => first | (go_simp; done) | (go_simp; rfl)); intro gb137 hg w8 hbox hb; have n0_ := Aside0.mk (Kd.S_below (by (with_reducible repeat (first | apply Kd.S_alloc | apply Kd.S_drewN | apply Kd.S_drew)); exact HO133.out) hb); have n1_ := Aside0.mk (below_step (by repeat (first | (with_reducible first | exact HB.out | apply below_alloc | apply pw_below_drewN | apply below_drew1) | exact HB.out)) hb); have n2_ := Aside0.mk (hbox); have n3_ := Aside0.mk ((by rw [hg]; exact (below_size (by repeat (first | (with_reducible first | exact HB.out | apply below_alloc | apply pw_below_drewN | apply below_drew1) | exact HB.out))) : w.heap.size ≤ gb137)); have n4_ := Aside0.mk ((by rw [hg]; exact (below_size (by repeat (first | (with_reducible first | exact HB.out | apply below_alloc | apply pw_below_drewN | apply below_drew1) | exact HB.out))) : w.heap.size ≤ gb137)); clear HO133; clear HB; have HO133 := n0_; have HB := n1_; have BK137 := n2_; have GW137 := n3_; have GE137 := n4_; clear n0_ n1_ n2_ n3_ n4_; clear hb hbox hg; have hcz9_0 : w8.cell? ⟨gb137, 0, none⟩ = some (.int .i64 0) := (blk_cell BK137.out 0).trans rfl; have hcz9_1 : w8.cell? ⟨gb137, 1, none⟩ = some (.int .i64 0) := (blk_cell BK137.out 1).trans rfl; have hfz9_0 := blk_frozen BK137.out 0; have hfz9_1 := blk_frozen BK137.out 1))
    repeat (go_quiet (first | (go_at_call 7; (with_reducible refine (block_Parse.calls k a0 t131 t134 t135 t136 _ ?side1 A6.out).mono ?_); (case side1 => exact Glob.below HG.out (by repeat (first | (with_reducible first | exact HB.out | apply below_alloc | apply pw_below_drewN | apply below_drew1) | exact HB.out))); rintro e w7 ⟨v132, rfl, ho0, hb⟩; have n0_ := Aside0.mk (Kd.S_lower ho0 (below_size (by repeat (first | (with_reducible first | exact HB.out | apply below_alloc | apply pw_below_drewN | apply below_drew1) | exact HB.out)))); have n1_ := Aside0.mk (below_step (by repeat (first | (with_reducible first | exact HB.out | apply below_alloc | apply pw_below_drewN | apply below_drew1) | exact HB.out)) hb); clear HB; have HO133 := n0_; have HB := n1_; clear n0_ n1_; (try clear hb); (try clear hb2); (try clear hk); (try clear hi); (try clear ho0); (try simp only [errW_none, errW_some])) | ((with_reducible refine gate_dst (N := 6) rfl ?_); (try (refine gate_guard (by rfl) ?_; dsimp only)); refine box_event ?hg (N := 6) ?hd (cs := #[.int .i64 0, .int .i64 0]) (t := 26) ?hr ?_; (case hd => rfl); (case hg => rfl); (case hr => first | (go_simp; done) | (go_simp; rfl)); intro gb137 hg w8 hbox hb; have n0_ := Aside0.mk (Kd.S_below (by (with_reducible repeat (first | apply Kd.S_alloc | apply Kd.S_drewN | apply Kd.S_drew)); exact HO133.out) hb); have n1_ := Aside0.mk (below_step (by repeat (first | (with_reducible first | exact HB.out | apply below_alloc | apply pw_below_drewN | apply below_drew1) | exact HB.out)) hb); have n2_ := Aside0.mk (hbox); have n3_ := Aside0.mk ((by rw [hg]; exact (below_size (by repeat (first | (with_reducible first | exact HB.out | apply below_alloc | apply pw_below_drewN | apply below_drew1) | exact HB.out))) : w.heap.size ≤ gb137)); have n4_ := Aside0.mk ((by rw [hg]; exact (below_size (by repeat (first | (with_reducible first | exact HB.out | apply below_alloc | apply pw_below_drewN | apply below_drew1) | exact HB.out))) : w.heap.size ≤ gb137)); clear HO133; clear HB; have HO133 := n0_; have HB := n1_; have BK137 := n2_; have GW137 := n3_; have GE137 := n4_; clear n0_ n1_ n2_ n3_ n4_; clear hb hbox hg; have hcz9_0 : w8.cell? ⟨gb137, 0, none⟩ = some (.int .i64 0) := (blk_cell BK137.out 0).trans rfl; have hcz9_1 : w8.cell? ⟨gb137, 1, none⟩ = some (.int .i64 0) := (blk_cell BK137.out 1).trans rfl; have hfz9_0 := blk_frozen BK137.out 0; have hfz9_1 := blk_frozen BK137.out 1)); try go_wp2_with (first | (go_at_call 7; (with_reducible refine (block_Parse.calls k a0 t131 t134 t135 t136 _ ?side1 A6.out).mono ?_); (case side1 => exact Glob.below HG.out (by repeat (first | (with_reducible first | exact HB.out | apply below_alloc | apply pw_below_drewN | apply below_drew1) | exact HB.out))); rintro e w7 ⟨v132, rfl, ho0, hb⟩; have n0_ := Aside0.mk (Kd.S_lower ho0 (below_size (by repeat (first | (with_reducible first | exact HB.out | apply below_alloc | apply pw_below_drewN | apply below_drew1) | exact HB.out)))); have n1_ := Aside0.mk (below_step (by repeat (first | (with_reducible first | exact HB.out | apply below_alloc | apply pw_below_drewN | apply below_drew1) | exact HB.out)) hb); clear HB; have HO133 := n0_; have HB := n1_; clear n0_ n1_; (try clear hb); (try clear hb2); (try clear hk); (try clear hi); (try clear ho0); (try simp only [errW_none, errW_some])) | ((with_reducible refine gate_dst (N := 6) rfl ?_); (try (refine gate_guard (by rfl) ?_; dsimp only)); refine box_event ?hg (N := 6) ?hd (cs := #[.int .i64 0, .int .i64 0]) (t := 26) ?hr ?_; (case hd => rfl); (case hg => rfl); (case hr => first | (go_simp; done) | (go_simp; rfl)); intro gb137 hg w8 hbox hb; have n0_ := Aside0.mk (Kd.S_below (by (with_reducible repeat (first | apply Kd.S_alloc | apply Kd.S_drewN | apply Kd.S_drew)); exact HO133.out) hb); have n1_ := Aside0.mk (below_step (by repeat (first | (with_reducible first | exact HB.out | apply below_alloc | apply pw_below_drewN | apply below_drew1) | exact HB.out)) hb); have n2_ := Aside0.mk (hbox); have n3_ := Aside0.mk ((by rw [hg]; exact (below_size (by repeat (first | (with_reducible first | exact HB.out | apply below_alloc | apply pw_below_drewN | apply below_drew1) | exact HB.out))) : w.heap.size ≤ gb137)); have n4_ := Aside0.mk ((by rw [hg]; exact (below_size (by repeat (first | (with_reducible first | exact HB.out | apply below_alloc | apply pw_below_drewN | apply below_drew1) | exact HB.out))) : w.heap.size ≤ gb137)); clear HO133; clear HB; have HO133 := n0_; have HB := n1_; have BK137 := n2_; have GW137 := n3_; have GE137 := n4_; clear n0_ n1_ n2_ n3_ n4_; clear hb hbox hg; have hcz9_0 : w8.cell? ⟨gb137, 0, none⟩ = some (.int .i64 0) := (blk_cell BK137.out 0).trans rfl; have hcz9_1 : w8.cell? ⟨gb137, 1, none⟩ = some (.int .i64 0) := (blk_cell BK137.out 1).trans rfl; have hfz9_0 := blk_frozen BK137.out 0; have hfz9_1 := blk_frozen BK137.out 1)))
    go_loopg [9, 10] k (fun kq v9 v10 w' => ∃ (x9_1 : ByteArray) (x10_1 : Int), v9 = .string x9_1 ∧ v10 = .int .i64 x10_1 ∧ Aside0 (belvederelaw09_BlockLines.l0 kq t131 t136 (wrap64 (Int.tmod (IntKind.u64.wrap (a1)) 6)) x9_1 x10_1 t134 t135 = some r) ∧ Aside0 (kq ≤ k) ∧ Aside0 (Kd.S k40 40 w' w.heap.size (fun _ => True) v132 t131) ∧ Aside0 (w'.heap[gb137]? = some (.cells #[.int .i64 t134, .int .i64 t135] 26 (0, 0))) ∧ Aside0 (Below w.heap.size w w'))
    case atStart => exact ⟨(a0), (0), (by first | rfl | (simp; done) | (simp [*]; done)), (by first | rfl | (simp; done) | (simp [*]; done)), H', ⟨Nat.le_refl _⟩, ⟨by (with_reducible repeat (first | apply Kd.S_alloc | apply Kd.S_drewN | apply Kd.S_drew)); exact Kd.S_mono (Kd.S_far (p := ⟨gb137, 1, none⟩) (Kd.S_far (p := ⟨gb137, 0, none⟩) (Kd.S_types HO133.out BK137.out (by decide)) (fun _ hk => hk.2) (.int .i64 t134)) (fun _ hk => hk.2) (.int .i64 t135)) (fun _ hk => trivial)⟩, ⟨by (with_reducible repeat (first | refine blk_drewN ?_ _ | refine blk_drew ?_ | refine blk_alloc ?_ _)); refine blk_put (cs := #[.int .i64 t134, .int .i64 0]) ?_ 1 _ rfl; (with_reducible repeat (first | refine blk_drewN ?_ _ | refine blk_drew ?_ | refine blk_alloc ?_ _)); refine blk_put (cs := #[.int .i64 0, .int .i64 0]) ?_ 0 _ rfl; (with_reducible repeat (first | refine blk_drewN ?_ _ | refine blk_drew ?_ | refine blk_alloc ?_ _)); exact BK137.out⟩, ⟨by repeat (first | (with_reducible first | exact HB.out | apply below_alloc | apply pw_below_drewN | apply below_drew1 | refine below_set ?_ GE137.out) | exact HB.out)⟩⟩
    case round =>
      clear H'
      try clear p2
      try clear c3
      try clear c3b0
      try clear c3b1
      try clear c4
      try clear p6
      try clear hcz9_0
      try clear hcz9_1
      try clear hfz9_0
      try clear hfz9_1
      obtain ⟨x9_1, x10_1, rfl, rfl, HA, HK1, HO_5, BK137, HB⟩ := hrel
      cases gk with
      | zero => exact absurd HA.out (by simp [belvederelaw09_BlockLines.l0])
      | succ k1 =>
        have H := HA.out
        clear HA
        simp only [belvederelaw09_BlockLines.l0] at H
        by_cases c10 : x10_1 < (wrap64 (Int.tmod (IntKind.u64.wrap (a1)) 6))
        · rw [if_pos c10] at H
          have c10b0 : decide (x10_1 < (wrap64 (Int.tmod (IntKind.u64.wrap (a1)) 6))) = true := decide_eq_true c10
          clear c10
          by_cases c11 : 1 + x9_1.size ≤ 9223372036854775807
          · rw [if_pos c11] at H
            have c11b0 := eq_true c11
            have c11b1 : decide (1 + x9_1.size ≤ 9223372036854775807) = true := decide_eq_true c11
            try have c11b2 : (9223372036854775807 < 1 + x9_1.size) = False := eq_false (Nat.not_lt.2 c11)
            have H' := Aside0.mk H
            clear H
            go_wp2
            repeat (go_quiet (fail); try go_wp2)
            go_roundg k1
            case measure => have := HK1.out; omega
            case rel => exact ⟨((⟨#[10]⟩ : ByteArray) ++ x9_1), (wrap64 (x10_1 + 1)), (by first | rfl | (simp; done) | (simp [*]; done)), (by first | rfl | (simp; done) | (simp [*]; done)), H', ⟨by have := HK1.out; omega⟩, ⟨by (with_reducible repeat (first | apply Kd.S_alloc | apply Kd.S_drewN | apply Kd.S_drew)); exact HO_5.out⟩, ⟨by (with_reducible repeat (first | refine blk_drewN ?_ _ | refine blk_drew ?_ | refine blk_alloc ?_ _)); exact BK137.out⟩, ⟨by repeat (first | (with_reducible first | exact HB.out | apply below_alloc | apply pw_below_drewN | apply below_drew1 | refine below_set ?_ GE137.out) | exact HB.out)⟩⟩
          · rw [if_neg c11] at H
            exact absurd H (by simp)
        · rw [if_neg c10] at H
          have c10b0 : decide (x10_1 < (wrap64 (Int.tmod (IntKind.u64.wrap (a1)) 6))) = false := decide_eq_false c10
          clear c10
          replace H := Option.bind_eq_some_iff.mp H
          obtain ⟨⟨t138, t141, t142, t143⟩, A120, H⟩ := H
          replace H : ((belvederelaw09_num.f t136).bind fun t145 => ((belvederelaw09_num.f t143).bind fun t146 => (if t145 = t146 then (belvederelaw09_BlockLines.j1 k1 t131 t136 (wrap64 (Int.tmod (IntKind.u64.wrap (a1)) 6)) t138 ((t131.length : Int) != (t138.length : Int)) t134 t135 t141 t142) else (belvederelaw09_BlockLines.j1 k1 t131 t136 (wrap64 (Int.tmod (IntKind.u64.wrap (a1)) 6)) t138 true t134 t135 t141 t142)))) = some r := H
          have A12 := Aside0.mk A120
          clear A120
          have HC13 := Aside0.mk H
          clear H
          go_upto_region 11 with (first | (go_at_call 7; (with_reducible refine (block_Parse.calls k1 x9_1 t138 t141 t142 t143 _ ?side1 A12.out).mono ?_); (case side1 => exact Glob.below HG.out (by repeat (first | (with_reducible first | exact HB.out | apply below_alloc | apply pw_below_drewN | apply below_drew1 | refine below_set ?_ GE137.out) | exact HB.out))); rintro e w14 ⟨v139, rfl, ho0, hb⟩; have n0_ := Aside0.mk (Kd.S_elder' (by (with_reducible repeat (first | apply Kd.S_alloc | apply Kd.S_drewN | apply Kd.S_drew)); exact HO_5.out) (Kd.S_base ho0) hb); have n1_ := Aside0.mk (Kd.S_lower (Kd.S_new' ho0 (Kd.S_lt (by (with_reducible repeat (first | apply Kd.S_alloc | apply Kd.S_drewN | apply Kd.S_drew)); exact HO_5.out))) (below_size (by repeat (first | (with_reducible first | exact HB.out | apply below_alloc | apply pw_below_drewN | apply below_drew1 | refine below_set ?_ GE137.out) | exact HB.out)))); have n2_ := Aside0.mk (blk_below (g := gb137) (o := .cells #[.int .i64 t134, .int .i64 t135] 26 (0, 0)) (by (with_reducible repeat (first | refine blk_drewN ?_ _ | refine blk_drew ?_ | refine blk_alloc ?_ _)); exact BK137.out) hb); have n3_ := Aside0.mk (below_step (by repeat (first | (with_reducible first | exact HB.out | apply below_alloc | apply pw_below_drewN | apply below_drew1 | refine below_set ?_ GE137.out) | exact HB.out)) hb); clear HO_5; clear BK137; clear HB; have HO_5 := n0_; have HO140 := n1_; have BK137 := n2_; have HB := n3_; clear n0_ n1_ n2_ n3_; (try clear hb); (try clear hb2); (try clear hk); (try clear hi); (try clear ho0); (try simp only [errW_none, errW_some])) | ((with_reducible refine gate_dst (N := 12) rfl ?_); (try (refine gate_guard (by rfl) ?_; dsimp only)); refine box_event ?hg (N := 12) ?hd (cs := #[.int .i64 0, .int .i64 0]) (t := 26) ?hr ?_; (case hd => rfl); (case hg => rfl); (case hr => first | (go_simp; done) | (go_simp; rfl)); intro gb144 hg w15 hbox hb; have n0_ := Aside0.mk (Kd.S_below (by (with_reducible repeat (first | apply Kd.S_alloc | apply Kd.S_drewN | apply Kd.S_drew)); exact HO_5.out) hb); have n1_ := Aside0.mk (Kd.S_below (by (with_reducible repeat (first | apply Kd.S_alloc | apply Kd.S_drewN | apply Kd.S_drew)); exact HO140.out) hb); have n2_ := Aside0.mk (blk_below (g := gb137) (o := .cells #[.int .i64 t134, .int .i64 t135] 26 (0, 0)) (by (with_reducible repeat (first | refine blk_drewN ?_ _ | refine blk_drew ?_ | refine blk_alloc ?_ _)); exact BK137.out) hb); have n3_ := Aside0.mk (below_step (by repeat (first | (with_reducible first | exact HB.out | apply below_alloc | apply pw_below_drewN | apply below_drew1 | refine below_set ?_ GE137.out) | exact HB.out)) hb); have n4_ := Aside0.mk (hbox); have n5_ := Aside0.mk ((by rw [hg]; exact (below_size (by repeat (first | (with_reducible first | exact HB.out | apply below_alloc | apply pw_below_drewN | apply below_drew1 | refine below_set ?_ GE137.out) | exact HB.out))) : w.heap.size ≤ gb144)); have n6_ := Aside0.mk ((by rw [hg]; exact (below_size (by repeat (first | (with_reducible first | exact HB.out | apply below_alloc | apply pw_below_drewN | apply below_drew1 | refine below_set ?_ GE137.out) | exact HB.out))) : w.heap.size ≤ gb144)); have n7_ := Aside0.mk ((by rw [hg]; exact Nat.ne_of_lt (blk_lt (g := gb137) (o := .cells #[.int .i64 t134, .int .i64 t135] 26 (0, 0)) (by (with_reducible repeat (first | refine blk_drewN ?_ _ | refine blk_drew ?_ | refine blk_alloc ?_ _)); exact BK137.out)) : gb137 ≠ gb144)); have n8_ := Aside0.mk ((by rw [hg]; exact Nat.ne_of_gt (blk_lt (g := gb137) (o := .cells #[.int .i64 t134, .int .i64 t135] 26 (0, 0)) (by (with_reducible repeat (first | refine blk_drewN ?_ _ | refine blk_drew ?_ | refine blk_alloc ?_ _)); exact BK137.out)) : gb144 ≠ gb137)); clear HO_5; clear HO140; clear BK137; clear HB; have HO_5 := n0_; have HO140 := n1_; have BK137 := n2_; have HB := n3_; have BK144 := n4_; have GW144 := n5_; have GE144 := n6_; have NB137_144 := n7_; have NB144_137 := n8_; clear n0_ n1_ n2_ n3_ n4_ n5_ n6_ n7_ n8_; clear hb hbox hg; have hnb16 := NB144_137.out; have hnc16 := NB137_144.out; have hcz17_0 : w15.cell? ⟨gb144, 0, none⟩ = some (.int .i64 0) := (blk_cell BK144.out 0).trans rfl; have hcz17_1 : w15.cell? ⟨gb144, 1, none⟩ = some (.int .i64 0) := (blk_cell BK144.out 1).trans rfl; have hfz17_0 := blk_frozen BK144.out 0; have hfz17_1 := blk_frozen BK144.out 1))
          repeat (go_quiet (first | (go_at_call 7; (with_reducible refine (block_Parse.calls k1 x9_1 t138 t141 t142 t143 _ ?side1 A12.out).mono ?_); (case side1 => exact Glob.below HG.out (by repeat (first | (with_reducible first | exact HB.out | apply below_alloc | apply pw_below_drewN | apply below_drew1 | refine below_set ?_ GE137.out) | exact HB.out))); rintro e w14 ⟨v139, rfl, ho0, hb⟩; have n0_ := Aside0.mk (Kd.S_elder' (by (with_reducible repeat (first | apply Kd.S_alloc | apply Kd.S_drewN | apply Kd.S_drew)); exact HO_5.out) (Kd.S_base ho0) hb); have n1_ := Aside0.mk (Kd.S_lower (Kd.S_new' ho0 (Kd.S_lt (by (with_reducible repeat (first | apply Kd.S_alloc | apply Kd.S_drewN | apply Kd.S_drew)); exact HO_5.out))) (below_size (by repeat (first | (with_reducible first | exact HB.out | apply below_alloc | apply pw_below_drewN | apply below_drew1 | refine below_set ?_ GE137.out) | exact HB.out)))); have n2_ := Aside0.mk (blk_below (g := gb137) (o := .cells #[.int .i64 t134, .int .i64 t135] 26 (0, 0)) (by (with_reducible repeat (first | refine blk_drewN ?_ _ | refine blk_drew ?_ | refine blk_alloc ?_ _)); exact BK137.out) hb); have n3_ := Aside0.mk (below_step (by repeat (first | (with_reducible first | exact HB.out | apply below_alloc | apply pw_below_drewN | apply below_drew1 | refine below_set ?_ GE137.out) | exact HB.out)) hb); clear HO_5; clear BK137; clear HB; have HO_5 := n0_; have HO140 := n1_; have BK137 := n2_; have HB := n3_; clear n0_ n1_ n2_ n3_; (try clear hb); (try clear hb2); (try clear hk); (try clear hi); (try clear ho0); (try simp only [errW_none, errW_some])) | ((with_reducible refine gate_dst (N := 12) rfl ?_); (try (refine gate_guard (by rfl) ?_; dsimp only)); refine box_event ?hg (N := 12) ?hd (cs := #[.int .i64 0, .int .i64 0]) (t := 26) ?hr ?_; (case hd => rfl); (case hg => rfl); (case hr => first | (go_simp; done) | (go_simp; rfl)); intro gb144 hg w15 hbox hb; have n0_ := Aside0.mk (Kd.S_below (by (with_reducible repeat (first | apply Kd.S_alloc | apply Kd.S_drewN | apply Kd.S_drew)); exact HO_5.out) hb); have n1_ := Aside0.mk (Kd.S_below (by (with_reducible repeat (first | apply Kd.S_alloc | apply Kd.S_drewN | apply Kd.S_drew)); exact HO140.out) hb); have n2_ := Aside0.mk (blk_below (g := gb137) (o := .cells #[.int .i64 t134, .int .i64 t135] 26 (0, 0)) (by (with_reducible repeat (first | refine blk_drewN ?_ _ | refine blk_drew ?_ | refine blk_alloc ?_ _)); exact BK137.out) hb); have n3_ := Aside0.mk (below_step (by repeat (first | (with_reducible first | exact HB.out | apply below_alloc | apply pw_below_drewN | apply below_drew1 | refine below_set ?_ GE137.out) | exact HB.out)) hb); have n4_ := Aside0.mk (hbox); have n5_ := Aside0.mk ((by rw [hg]; exact (below_size (by repeat (first | (with_reducible first | exact HB.out | apply below_alloc | apply pw_below_drewN | apply below_drew1 | refine below_set ?_ GE137.out) | exact HB.out))) : w.heap.size ≤ gb144)); have n6_ := Aside0.mk ((by rw [hg]; exact (below_size (by repeat (first | (with_reducible first | exact HB.out | apply below_alloc | apply pw_below_drewN | apply below_drew1 | refine below_set ?_ GE137.out) | exact HB.out))) : w.heap.size ≤ gb144)); have n7_ := Aside0.mk ((by rw [hg]; exact Nat.ne_of_lt (blk_lt (g := gb137) (o := .cells #[.int .i64 t134, .int .i64 t135] 26 (0, 0)) (by (with_reducible repeat (first | refine blk_drewN ?_ _ | refine blk_drew ?_ | refine blk_alloc ?_ _)); exact BK137.out)) : gb137 ≠ gb144)); have n8_ := Aside0.mk ((by rw [hg]; exact Nat.ne_of_gt (blk_lt (g := gb137) (o := .cells #[.int .i64 t134, .int .i64 t135] 26 (0, 0)) (by (with_reducible repeat (first | refine blk_drewN ?_ _ | refine blk_drew ?_ | refine blk_alloc ?_ _)); exact BK137.out)) : gb144 ≠ gb137)); clear HO_5; clear HO140; clear BK137; clear HB; have HO_5 := n0_; have HO140 := n1_; have BK137 := n2_; have HB := n3_; have BK144 := n4_; have GW144 := n5_; have GE144 := n6_; have NB137_144 := n7_; have NB144_137 := n8_; clear n0_ n1_ n2_ n3_ n4_ n5_ n6_ n7_ n8_; clear hb hbox hg; have hnb16 := NB144_137.out; have hnc16 := NB137_144.out; have hcz17_0 : w15.cell? ⟨gb144, 0, none⟩ = some (.int .i64 0) := (blk_cell BK144.out 0).trans rfl; have hcz17_1 : w15.cell? ⟨gb144, 1, none⟩ = some (.int .i64 0) := (blk_cell BK144.out 1).trans rfl; have hfz17_0 := blk_frozen BK144.out 0; have hfz17_1 := blk_frozen BK144.out 1)); go_upto_region 11 with (first | (go_at_call 7; (with_reducible refine (block_Parse.calls k1 x9_1 t138 t141 t142 t143 _ ?side1 A12.out).mono ?_); (case side1 => exact Glob.below HG.out (by repeat (first | (with_reducible first | exact HB.out | apply below_alloc | apply pw_below_drewN | apply below_drew1 | refine below_set ?_ GE137.out) | exact HB.out))); rintro e w14 ⟨v139, rfl, ho0, hb⟩; have n0_ := Aside0.mk (Kd.S_elder' (by (with_reducible repeat (first | apply Kd.S_alloc | apply Kd.S_drewN | apply Kd.S_drew)); exact HO_5.out) (Kd.S_base ho0) hb); have n1_ := Aside0.mk (Kd.S_lower (Kd.S_new' ho0 (Kd.S_lt (by (with_reducible repeat (first | apply Kd.S_alloc | apply Kd.S_drewN | apply Kd.S_drew)); exact HO_5.out))) (below_size (by repeat (first | (with_reducible first | exact HB.out | apply below_alloc | apply pw_below_drewN | apply below_drew1 | refine below_set ?_ GE137.out) | exact HB.out)))); have n2_ := Aside0.mk (blk_below (g := gb137) (o := .cells #[.int .i64 t134, .int .i64 t135] 26 (0, 0)) (by (with_reducible repeat (first | refine blk_drewN ?_ _ | refine blk_drew ?_ | refine blk_alloc ?_ _)); exact BK137.out) hb); have n3_ := Aside0.mk (below_step (by repeat (first | (with_reducible first | exact HB.out | apply below_alloc | apply pw_below_drewN | apply below_drew1 | refine below_set ?_ GE137.out) | exact HB.out)) hb); clear HO_5; clear BK137; clear HB; have HO_5 := n0_; have HO140 := n1_; have BK137 := n2_; have HB := n3_; clear n0_ n1_ n2_ n3_; (try clear hb); (try clear hb2); (try clear hk); (try clear hi); (try clear ho0); (try simp only [errW_none, errW_some])) | ((with_reducible refine gate_dst (N := 12) rfl ?_); (try (refine gate_guard (by rfl) ?_; dsimp only)); refine box_event ?hg (N := 12) ?hd (cs := #[.int .i64 0, .int .i64 0]) (t := 26) ?hr ?_; (case hd => rfl); (case hg => rfl); (case hr => first | (go_simp; done) | (go_simp; rfl)); intro gb144 hg w15 hbox hb; have n0_ := Aside0.mk (Kd.S_below (by (with_reducible repeat (first | apply Kd.S_alloc | apply Kd.S_drewN | apply Kd.S_drew)); exact HO_5.out) hb); have n1_ := Aside0.mk (Kd.S_below (by (with_reducible repeat (first | apply Kd.S_alloc | apply Kd.S_drewN | apply Kd.S_drew)); exact HO140.out) hb); have n2_ := Aside0.mk (blk_below (g := gb137) (o := .cells #[.int .i64 t134, .int .i64 t135] 26 (0, 0)) (by (with_reducible repeat (first | refine blk_drewN ?_ _ | refine blk_drew ?_ | refine blk_alloc ?_ _)); exact BK137.out) hb); have n3_ := Aside0.mk (below_step (by repeat (first | (with_reducible first | exact HB.out | apply below_alloc | apply pw_below_drewN | apply below_drew1 | refine below_set ?_ GE137.out) | exact HB.out)) hb); have n4_ := Aside0.mk (hbox); have n5_ := Aside0.mk ((by rw [hg]; exact (below_size (by repeat (first | (with_reducible first | exact HB.out | apply below_alloc | apply pw_below_drewN | apply below_drew1 | refine below_set ?_ GE137.out) | exact HB.out))) : w.heap.size ≤ gb144)); have n6_ := Aside0.mk ((by rw [hg]; exact (below_size (by repeat (first | (with_reducible first | exact HB.out | apply below_alloc | apply pw_below_drewN | apply below_drew1 | refine below_set ?_ GE137.out) | exact HB.out))) : w.heap.size ≤ gb144)); have n7_ := Aside0.mk ((by rw [hg]; exact Nat.ne_of_lt (blk_lt (g := gb137) (o := .cells #[.int .i64 t134, .int .i64 t135] 26 (0, 0)) (by (with_reducible repeat (first | refine blk_drewN ?_ _ | refine blk_drew ?_ | refine blk_alloc ?_ _)); exact BK137.out)) : gb137 ≠ gb144)); have n8_ := Aside0.mk ((by rw [hg]; exact Nat.ne_of_gt (blk_lt (g := gb137) (o := .cells #[.int .i64 t134, .int .i64 t135] 26 (0, 0)) (by (with_reducible repeat (first | refine blk_drewN ?_ _ | refine blk_drew ?_ | refine blk_alloc ?_ _)); exact BK137.out)) : gb144 ≠ gb137)); clear HO_5; clear HO140; clear BK137; clear HB; have HO_5 := n0_; have HO140 := n1_; have BK137 := n2_; have HB := n3_; have BK144 := n4_; have GW144 := n5_; have GE144 := n6_; have NB137_144 := n7_; have NB144_137 := n8_; clear n0_ n1_ n2_ n3_ n4_ n5_ n6_ n7_ n8_; clear hb hbox hg; have hnb16 := NB144_137.out; have hnc16 := NB137_144.out; have hcz17_0 : w15.cell? ⟨gb144, 0, none⟩ = some (.int .i64 0) := (blk_cell BK144.out 0).trans rfl; have hcz17_1 : w15.cell? ⟨gb144, 1, none⟩ = some (.int .i64 0) := (blk_cell BK144.out 1).trans rfl; have hfz17_0 := blk_frozen BK144.out 0; have hfz17_1 := blk_frozen BK144.out 1)))
          (try simp only [Act.put, List.setIfInBounds_toArray, List.set_cons_zero, List.set_cons_succ])
          go_cut [56] (fun v56 wc => ∃ (kq : Nat) (x56_12 : Bool), v56 = .bool x56_12 ∧ Aside0 (belvederelaw09_BlockLines.j1 kq t131 t136 (wrap64 (Int.tmod (IntKind.u64.wrap (a1)) 6)) t138 x56_12 t134 t135 t141 t142 = some r) ∧ Aside0 (kq ≤ k1) ∧ Aside0 (Kd.S k40 40 wc w.heap.size (fun k_ => some k_ ≠ (v139 : Value).ownBlock) v132 t131) ∧ Aside0 (Kd.S k40 40 wc w.heap.size (fun k_ => some k_ ≠ (v132 : Value).ownBlock) v139 t138) ∧ Aside0 (wc.heap[gb137]? = some (.cells #[.int .i64 t134, .int .i64 t135] 26 (0, 0))) ∧ Aside0 (wc.heap[gb144]? = some (.cells #[.int .i64 t141, .int .i64 t142] 26 (0, 0))) ∧ Aside0 (Below w.heap.size w wc))
          case first =>
            have H := HC13.out
            clear HC13
            replace H := Option.bind_eq_some_iff.mp H
            obtain ⟨t145, A180, H⟩ := H
            replace H : ((belvederelaw09_num.f t143).bind fun t146 => (if t145 = t146 then (belvederelaw09_BlockLines.j1 k1 t131 t136 (wrap64 (Int.tmod (IntKind.u64.wrap (a1)) 6)) t138 ((t131.length : Int) != (t138.length : Int)) t134 t135 t141 t142) else (belvederelaw09_BlockLines.j1 k1 t131 t136 (wrap64 (Int.tmod (IntKind.u64.wrap (a1)) 6)) t138 true t134 t135 t141 t142))) = some r := H
            have A18 := Aside0.mk A180
            clear A180
            replace H := Option.bind_eq_some_iff.mp H
            obtain ⟨t146, A190, H⟩ := H
            replace H : (if t145 = t146 then (belvederelaw09_BlockLines.j1 k1 t131 t136 (wrap64 (Int.tmod (IntKind.u64.wrap (a1)) 6)) t138 ((t131.length : Int) != (t138.length : Int)) t134 t135 t141 t142) else (belvederelaw09_BlockLines.j1 k1 t131 t136 (wrap64 (Int.tmod (IntKind.u64.wrap (a1)) 6)) t138 true t134 t135 t141 t142)) = some r := H
            have A19 := Aside0.mk A190
            clear A190
            by_cases c20 : t145 = t146
            · rw [if_pos c20] at H
              have c20b0 : (t145 == t146) = true := beq_iff_eq.mpr c20
              have c20b1 : (t145 != t146) = false := bne_eq_false_iff_eq.mpr c20
              clear c20
              (first | rw [c20b0] | (simp only [i64_w, i32_w]; rw [c20b0]) | skip)
              have H' := Aside0.mk H
              clear H
              have CA18 := fun W hg_ => belvederelaw09_num.calls t136 t145 W hg_ A18.out
              try simp only [errW_none, errW_some] at CA18
              go_wp2_with (first | (go_at_call 10; (with_reducible refine (CA18 _ ?side1).mono ?_); (case side1 => exact Glob.below HG.out (by repeat (first | (with_reducible first | exact HB.out | apply below_alloc | apply pw_below_drewN | apply below_drew1 | refine below_set ?_ GE137.out | refine below_set ?_ GE144.out) | exact HB.out))); rintro e w21 ⟨rfl, hb⟩; have n0_ := Aside0.mk (Kd.S_below (by (with_reducible repeat (first | apply Kd.S_alloc | apply Kd.S_drewN | apply Kd.S_drew)); exact (Kd.S_mono (Kd.S_far (p := ⟨gb144, 1, none⟩) (Kd.S_far (p := ⟨gb144, 0, none⟩) (Kd.S_types HO_5.out BK144.out (by decide)) (fun _ hk => hk.2) (.int .i64 t141)) (fun _ hk => hk.2) (.int .i64 t142)) (fun _ h_ => h_.1))) hb); have n1_ := Aside0.mk (Kd.S_below (by (with_reducible repeat (first | apply Kd.S_alloc | apply Kd.S_drewN | apply Kd.S_drew)); exact (Kd.S_mono (Kd.S_far (p := ⟨gb144, 1, none⟩) (Kd.S_far (p := ⟨gb144, 0, none⟩) (Kd.S_types HO140.out BK144.out (by decide)) (fun _ hk => hk.2) (.int .i64 t141)) (fun _ hk => hk.2) (.int .i64 t142)) (fun _ h_ => h_.1))) hb); have n2_ := Aside0.mk (blk_below (g := gb137) (o := .cells #[.int .i64 t134, .int .i64 t135] 26 (0, 0)) (by (with_reducible repeat (first | refine blk_drewN ?_ _ | refine blk_drew ?_ | refine blk_alloc ?_ _)); refine blk_far ?_ NB137_144.out _; (with_reducible repeat (first | refine blk_drewN ?_ _ | refine blk_drew ?_ | refine blk_alloc ?_ _)); refine blk_far ?_ NB137_144.out _; (with_reducible repeat (first | refine blk_drewN ?_ _ | refine blk_drew ?_ | refine blk_alloc ?_ _)); exact BK137.out) hb); have n3_ := Aside0.mk (blk_below (g := gb144) (o := .cells #[.int .i64 t141, .int .i64 t142] 26 (0, 0)) (by (with_reducible repeat (first | refine blk_drewN ?_ _ | refine blk_drew ?_ | refine blk_alloc ?_ _)); refine blk_put (cs := #[.int .i64 t141, .int .i64 0]) ?_ 1 _ rfl; (with_reducible repeat (first | refine blk_drewN ?_ _ | refine blk_drew ?_ | refine blk_alloc ?_ _)); refine blk_put (cs := #[.int .i64 0, .int .i64 0]) ?_ 0 _ rfl; (with_reducible repeat (first | refine blk_drewN ?_ _ | refine blk_drew ?_ | refine blk_alloc ?_ _)); exact BK144.out) hb); have n4_ := Aside0.mk (below_step (by repeat (first | (with_reducible first | exact HB.out | apply below_alloc | apply pw_below_drewN | apply below_drew1 | refine below_set ?_ GE137.out | refine below_set ?_ GE144.out) | exact HB.out)) hb); clear HO_5; clear HO140; clear BK137; clear BK144; clear HB; have HO_5 := n0_; have HO140 := n1_; have BK137 := n2_; have BK144 := n3_; have HB := n4_; clear n0_ n1_ n2_ n3_ n4_; (try clear hb); (try clear hb2); (try clear hk); (try clear hi); have CA19 := fun W hg_ => belvederelaw09_num.calls t143 t146 W hg_ A19.out; try simp only [errW_none, errW_some] at CA19) | (go_at_call 10; (with_reducible refine (CA19 _ ?side1).mono ?_); (case side1 => exact Glob.below HG.out (by repeat (first | (with_reducible first | exact HB.out | apply below_alloc | apply pw_below_drewN | apply below_drew1 | refine below_set ?_ GE137.out | refine below_set ?_ GE144.out) | exact HB.out))); rintro e w22 ⟨rfl, hb⟩; have n0_ := Aside0.mk (Kd.S_below (by (with_reducible repeat (first | apply Kd.S_alloc | apply Kd.S_drewN | apply Kd.S_drew)); exact HO_5.out) hb); have n1_ := Aside0.mk (Kd.S_below (by (with_reducible repeat (first | apply Kd.S_alloc | apply Kd.S_drewN | apply Kd.S_drew)); exact HO140.out) hb); have n2_ := Aside0.mk (blk_below (g := gb137) (o := .cells #[.int .i64 t134, .int .i64 t135] 26 (0, 0)) (by (with_reducible repeat (first | refine blk_drewN ?_ _ | refine blk_drew ?_ | refine blk_alloc ?_ _)); exact BK137.out) hb); have n3_ := Aside0.mk (blk_below (g := gb144) (o := .cells #[.int .i64 t141, .int .i64 t142] 26 (0, 0)) (by (with_reducible repeat (first | refine blk_drewN ?_ _ | refine blk_drew ?_ | refine blk_alloc ?_ _)); exact BK144.out) hb); have n4_ := Aside0.mk (below_step (by repeat (first | (with_reducible first | exact HB.out | apply below_alloc | apply pw_below_drewN | apply below_drew1 | refine below_set ?_ GE137.out | refine below_set ?_ GE144.out) | exact HB.out)) hb); clear HO_5; clear HO140; clear BK137; clear BK144; clear HB; have HO_5 := n0_; have HO140 := n1_; have BK137 := n2_; have BK144 := n3_; have HB := n4_; clear n0_ n1_ n2_ n3_ n4_; (try clear hb); (try clear hb2); (try clear hk); (try clear hi); obtain ⟨Ao23, co23, eo23⟩ := Kd.S_slice HO_5.out; subst eo23; obtain ⟨Ao24, co24, eo24⟩ := Kd.S_slice HO140.out; subst eo24))
              repeat (go_quiet (first | (go_at_call 10; (with_reducible refine (CA18 _ ?side1).mono ?_); (case side1 => exact Glob.below HG.out (by repeat (first | (with_reducible first | exact HB.out | apply below_alloc | apply pw_below_drewN | apply below_drew1 | refine below_set ?_ GE137.out | refine below_set ?_ GE144.out) | exact HB.out))); rintro e w21 ⟨rfl, hb⟩; have n0_ := Aside0.mk (Kd.S_below (by (with_reducible repeat (first | apply Kd.S_alloc | apply Kd.S_drewN | apply Kd.S_drew)); exact (Kd.S_mono (Kd.S_far (p := ⟨gb144, 1, none⟩) (Kd.S_far (p := ⟨gb144, 0, none⟩) (Kd.S_types HO_5.out BK144.out (by decide)) (fun _ hk => hk.2) (.int .i64 t141)) (fun _ hk => hk.2) (.int .i64 t142)) (fun _ h_ => h_.1))) hb); have n1_ := Aside0.mk (Kd.S_below (by (with_reducible repeat (first | apply Kd.S_alloc | apply Kd.S_drewN | apply Kd.S_drew)); exact (Kd.S_mono (Kd.S_far (p := ⟨gb144, 1, none⟩) (Kd.S_far (p := ⟨gb144, 0, none⟩) (Kd.S_types HO140.out BK144.out (by decide)) (fun _ hk => hk.2) (.int .i64 t141)) (fun _ hk => hk.2) (.int .i64 t142)) (fun _ h_ => h_.1))) hb); have n2_ := Aside0.mk (blk_below (g := gb137) (o := .cells #[.int .i64 t134, .int .i64 t135] 26 (0, 0)) (by (with_reducible repeat (first | refine blk_drewN ?_ _ | refine blk_drew ?_ | refine blk_alloc ?_ _)); refine blk_far ?_ NB137_144.out _; (with_reducible repeat (first | refine blk_drewN ?_ _ | refine blk_drew ?_ | refine blk_alloc ?_ _)); refine blk_far ?_ NB137_144.out _; (with_reducible repeat (first | refine blk_drewN ?_ _ | refine blk_drew ?_ | refine blk_alloc ?_ _)); exact BK137.out) hb); have n3_ := Aside0.mk (blk_below (g := gb144) (o := .cells #[.int .i64 t141, .int .i64 t142] 26 (0, 0)) (by (with_reducible repeat (first | refine blk_drewN ?_ _ | refine blk_drew ?_ | refine blk_alloc ?_ _)); refine blk_put (cs := #[.int .i64 t141, .int .i64 0]) ?_ 1 _ rfl; (with_reducible repeat (first | refine blk_drewN ?_ _ | refine blk_drew ?_ | refine blk_alloc ?_ _)); refine blk_put (cs := #[.int .i64 0, .int .i64 0]) ?_ 0 _ rfl; (with_reducible repeat (first | refine blk_drewN ?_ _ | refine blk_drew ?_ | refine blk_alloc ?_ _)); exact BK144.out) hb); have n4_ := Aside0.mk (below_step (by repeat (first | (with_reducible first | exact HB.out | apply below_alloc | apply pw_below_drewN | apply below_drew1 | refine below_set ?_ GE137.out | refine below_set ?_ GE144.out) | exact HB.out)) hb); clear HO_5; clear HO140; clear BK137; clear BK144; clear HB; have HO_5 := n0_; have HO140 := n1_; have BK137 := n2_; have BK144 := n3_; have HB := n4_; clear n0_ n1_ n2_ n3_ n4_; (try clear hb); (try clear hb2); (try clear hk); (try clear hi); have CA19 := fun W hg_ => belvederelaw09_num.calls t143 t146 W hg_ A19.out; try simp only [errW_none, errW_some] at CA19) | (go_at_call 10; (with_reducible refine (CA19 _ ?side1).mono ?_); (case side1 => exact Glob.below HG.out (by repeat (first | (with_reducible first | exact HB.out | apply below_alloc | apply pw_below_drewN | apply below_drew1 | refine below_set ?_ GE137.out | refine below_set ?_ GE144.out) | exact HB.out))); rintro e w22 ⟨rfl, hb⟩; have n0_ := Aside0.mk (Kd.S_below (by (with_reducible repeat (first | apply Kd.S_alloc | apply Kd.S_drewN | apply Kd.S_drew)); exact HO_5.out) hb); have n1_ := Aside0.mk (Kd.S_below (by (with_reducible repeat (first | apply Kd.S_alloc | apply Kd.S_drewN | apply Kd.S_drew)); exact HO140.out) hb); have n2_ := Aside0.mk (blk_below (g := gb137) (o := .cells #[.int .i64 t134, .int .i64 t135] 26 (0, 0)) (by (with_reducible repeat (first | refine blk_drewN ?_ _ | refine blk_drew ?_ | refine blk_alloc ?_ _)); exact BK137.out) hb); have n3_ := Aside0.mk (blk_below (g := gb144) (o := .cells #[.int .i64 t141, .int .i64 t142] 26 (0, 0)) (by (with_reducible repeat (first | refine blk_drewN ?_ _ | refine blk_drew ?_ | refine blk_alloc ?_ _)); exact BK144.out) hb); have n4_ := Aside0.mk (below_step (by repeat (first | (with_reducible first | exact HB.out | apply below_alloc | apply pw_below_drewN | apply below_drew1 | refine below_set ?_ GE137.out | refine below_set ?_ GE144.out) | exact HB.out)) hb); clear HO_5; clear HO140; clear BK137; clear BK144; clear HB; have HO_5 := n0_; have HO140 := n1_; have BK137 := n2_; have BK144 := n3_; have HB := n4_; clear n0_ n1_ n2_ n3_ n4_; (try clear hb); (try clear hb2); (try clear hk); (try clear hi); obtain ⟨Ao23, co23, eo23⟩ := Kd.S_slice HO_5.out; subst eo23; obtain ⟨Ao24, co24, eo24⟩ := Kd.S_slice HO140.out; subst eo24)); try go_wp2_with (first | (go_at_call 10; (with_reducible refine (CA18 _ ?side1).mono ?_); (case side1 => exact Glob.below HG.out (by repeat (first | (with_reducible first | exact HB.out | apply below_alloc | apply pw_below_drewN | apply below_drew1 | refine below_set ?_ GE137.out | refine below_set ?_ GE144.out) | exact HB.out))); rintro e w21 ⟨rfl, hb⟩; have n0_ := Aside0.mk (Kd.S_below (by (with_reducible repeat (first | apply Kd.S_alloc | apply Kd.S_drewN | apply Kd.S_drew)); exact (Kd.S_mono (Kd.S_far (p := ⟨gb144, 1, none⟩) (Kd.S_far (p := ⟨gb144, 0, none⟩) (Kd.S_types HO_5.out BK144.out (by decide)) (fun _ hk => hk.2) (.int .i64 t141)) (fun _ hk => hk.2) (.int .i64 t142)) (fun _ h_ => h_.1))) hb); have n1_ := Aside0.mk (Kd.S_below (by (with_reducible repeat (first | apply Kd.S_alloc | apply Kd.S_drewN | apply Kd.S_drew)); exact (Kd.S_mono (Kd.S_far (p := ⟨gb144, 1, none⟩) (Kd.S_far (p := ⟨gb144, 0, none⟩) (Kd.S_types HO140.out BK144.out (by decide)) (fun _ hk => hk.2) (.int .i64 t141)) (fun _ hk => hk.2) (.int .i64 t142)) (fun _ h_ => h_.1))) hb); have n2_ := Aside0.mk (blk_below (g := gb137) (o := .cells #[.int .i64 t134, .int .i64 t135] 26 (0, 0)) (by (with_reducible repeat (first | refine blk_drewN ?_ _ | refine blk_drew ?_ | refine blk_alloc ?_ _)); refine blk_far ?_ NB137_144.out _; (with_reducible repeat (first | refine blk_drewN ?_ _ | refine blk_drew ?_ | refine blk_alloc ?_ _)); refine blk_far ?_ NB137_144.out _; (with_reducible repeat (first | refine blk_drewN ?_ _ | refine blk_drew ?_ | refine blk_alloc ?_ _)); exact BK137.out) hb); have n3_ := Aside0.mk (blk_below (g := gb144) (o := .cells #[.int .i64 t141, .int .i64 t142] 26 (0, 0)) (by (with_reducible repeat (first | refine blk_drewN ?_ _ | refine blk_drew ?_ | refine blk_alloc ?_ _)); refine blk_put (cs := #[.int .i64 t141, .int .i64 0]) ?_ 1 _ rfl; (with_reducible repeat (first | refine blk_drewN ?_ _ | refine blk_drew ?_ | refine blk_alloc ?_ _)); refine blk_put (cs := #[.int .i64 0, .int .i64 0]) ?_ 0 _ rfl; (with_reducible repeat (first | refine blk_drewN ?_ _ | refine blk_drew ?_ | refine blk_alloc ?_ _)); exact BK144.out) hb); have n4_ := Aside0.mk (below_step (by repeat (first | (with_reducible first | exact HB.out | apply below_alloc | apply pw_below_drewN | apply below_drew1 | refine below_set ?_ GE137.out | refine below_set ?_ GE144.out) | exact HB.out)) hb); clear HO_5; clear HO140; clear BK137; clear BK144; clear HB; have HO_5 := n0_; have HO140 := n1_; have BK137 := n2_; have BK144 := n3_; have HB := n4_; clear n0_ n1_ n2_ n3_ n4_; (try clear hb); (try clear hb2); (try clear hk); (try clear hi); have CA19 := fun W hg_ => belvederelaw09_num.calls t143 t146 W hg_ A19.out; try simp only [errW_none, errW_some] at CA19) | (go_at_call 10; (with_reducible refine (CA19 _ ?side1).mono ?_); (case side1 => exact Glob.below HG.out (by repeat (first | (with_reducible first | exact HB.out | apply below_alloc | apply pw_below_drewN | apply below_drew1 | refine below_set ?_ GE137.out | refine below_set ?_ GE144.out) | exact HB.out))); rintro e w22 ⟨rfl, hb⟩; have n0_ := Aside0.mk (Kd.S_below (by (with_reducible repeat (first | apply Kd.S_alloc | apply Kd.S_drewN | apply Kd.S_drew)); exact HO_5.out) hb); have n1_ := Aside0.mk (Kd.S_below (by (with_reducible repeat (first | apply Kd.S_alloc | apply Kd.S_drewN | apply Kd.S_drew)); exact HO140.out) hb); have n2_ := Aside0.mk (blk_below (g := gb137) (o := .cells #[.int .i64 t134, .int .i64 t135] 26 (0, 0)) (by (with_reducible repeat (first | refine blk_drewN ?_ _ | refine blk_drew ?_ | refine blk_alloc ?_ _)); exact BK137.out) hb); have n3_ := Aside0.mk (blk_below (g := gb144) (o := .cells #[.int .i64 t141, .int .i64 t142] 26 (0, 0)) (by (with_reducible repeat (first | refine blk_drewN ?_ _ | refine blk_drew ?_ | refine blk_alloc ?_ _)); exact BK144.out) hb); have n4_ := Aside0.mk (below_step (by repeat (first | (with_reducible first | exact HB.out | apply below_alloc | apply pw_below_drewN | apply below_drew1 | refine below_set ?_ GE137.out | refine below_set ?_ GE144.out) | exact HB.out)) hb); clear HO_5; clear HO140; clear BK137; clear BK144; clear HB; have HO_5 := n0_; have HO140 := n1_; have BK137 := n2_; have BK144 := n3_; have HB := n4_; clear n0_ n1_ n2_ n3_ n4_; (try clear hb); (try clear hb2); (try clear hk); (try clear hi); obtain ⟨Ao23, co23, eo23⟩ := Kd.S_slice HO_5.out; subst eo23; obtain ⟨Ao24, co24, eo24⟩ := Kd.S_slice HO140.out; subst eo24)))
              go_meet
              case rel => exact ⟨_, (((t131.length : Int) != (t138.length : Int))), (by first | rfl | (simp; done) | (simp [*]; done)), H', ⟨by have := HK1.out; first | omega | exact Nat.le_refl _⟩, ⟨by (with_reducible repeat (first | apply Kd.S_alloc | apply Kd.S_drewN | apply Kd.S_drew)); exact Kd.S_mono HO_5.out (fun _ hk => hk.2)⟩, ⟨by (with_reducible repeat (first | apply Kd.S_alloc | apply Kd.S_drewN | apply Kd.S_drew)); exact Kd.S_mono HO140.out (fun _ hk => hk.2)⟩, ⟨by (with_reducible repeat (first | refine blk_drewN ?_ _ | refine blk_drew ?_ | refine blk_alloc ?_ _)); exact BK137.out⟩, ⟨by (with_reducible repeat (first | refine blk_drewN ?_ _ | refine blk_drew ?_ | refine blk_alloc ?_ _)); exact BK144.out⟩, ⟨by repeat (first | (with_reducible first | exact HB.out | apply below_alloc | apply pw_below_drewN | apply below_drew1 | refine below_set ?_ GE137.out | refine below_set ?_ GE144.out) | exact HB.out)⟩⟩
            · rw [if_neg c20] at H
              have c20b0 : (t145 == t146) = false := beq_eq_false_iff_ne.mpr c20
              have c20b1 : (t145 != t146) = true := bne_iff_ne.mpr c20
              (first | rw [c20b0] | (simp only [i64_w, i32_w]; rw [c20b0]) | skip)
              have H' := Aside0.mk H
              clear H
              have CA18 := fun W hg_ => belvederelaw09_num.calls t136 t145 W hg_ A18.out
              try simp only [errW_none, errW_some] at CA18
              go_wp2_with (first | (go_at_call 10; (with_reducible refine (CA18 _ ?side1).mono ?_); (case side1 => exact Glob.below HG.out (by repeat (first | (with_reducible first | exact HB.out | apply below_alloc | apply pw_below_drewN | apply below_drew1 | refine below_set ?_ GE137.out | refine below_set ?_ GE144.out) | exact HB.out))); rintro e w25 ⟨rfl, hb⟩; have n0_ := Aside0.mk (Kd.S_below (by (with_reducible repeat (first | apply Kd.S_alloc | apply Kd.S_drewN | apply Kd.S_drew)); exact (Kd.S_mono (Kd.S_far (p := ⟨gb144, 1, none⟩) (Kd.S_far (p := ⟨gb144, 0, none⟩) (Kd.S_types HO_5.out BK144.out (by decide)) (fun _ hk => hk.2) (.int .i64 t141)) (fun _ hk => hk.2) (.int .i64 t142)) (fun _ h_ => h_.1))) hb); have n1_ := Aside0.mk (Kd.S_below (by (with_reducible repeat (first | apply Kd.S_alloc | apply Kd.S_drewN | apply Kd.S_drew)); exact (Kd.S_mono (Kd.S_far (p := ⟨gb144, 1, none⟩) (Kd.S_far (p := ⟨gb144, 0, none⟩) (Kd.S_types HO140.out BK144.out (by decide)) (fun _ hk => hk.2) (.int .i64 t141)) (fun _ hk => hk.2) (.int .i64 t142)) (fun _ h_ => h_.1))) hb); have n2_ := Aside0.mk (blk_below (g := gb137) (o := .cells #[.int .i64 t134, .int .i64 t135] 26 (0, 0)) (by (with_reducible repeat (first | refine blk_drewN ?_ _ | refine blk_drew ?_ | refine blk_alloc ?_ _)); refine blk_far ?_ NB137_144.out _; (with_reducible repeat (first | refine blk_drewN ?_ _ | refine blk_drew ?_ | refine blk_alloc ?_ _)); refine blk_far ?_ NB137_144.out _; (with_reducible repeat (first | refine blk_drewN ?_ _ | refine blk_drew ?_ | refine blk_alloc ?_ _)); exact BK137.out) hb); have n3_ := Aside0.mk (blk_below (g := gb144) (o := .cells #[.int .i64 t141, .int .i64 t142] 26 (0, 0)) (by (with_reducible repeat (first | refine blk_drewN ?_ _ | refine blk_drew ?_ | refine blk_alloc ?_ _)); refine blk_put (cs := #[.int .i64 t141, .int .i64 0]) ?_ 1 _ rfl; (with_reducible repeat (first | refine blk_drewN ?_ _ | refine blk_drew ?_ | refine blk_alloc ?_ _)); refine blk_put (cs := #[.int .i64 0, .int .i64 0]) ?_ 0 _ rfl; (with_reducible repeat (first | refine blk_drewN ?_ _ | refine blk_drew ?_ | refine blk_alloc ?_ _)); exact BK144.out) hb); have n4_ := Aside0.mk (below_step (by repeat (first | (with_reducible first | exact HB.out | apply below_alloc | apply pw_below_drewN | apply below_drew1 | refine below_set ?_ GE137.out | refine below_set ?_ GE144.out) | exact HB.out)) hb); clear HO_5; clear HO140; clear BK137; clear BK144; clear HB; have HO_5 := n0_; have HO140 := n1_; have BK137 := n2_; have BK144 := n3_; have HB := n4_; clear n0_ n1_ n2_ n3_ n4_; (try clear hb); (try clear hb2); (try clear hk); (try clear hi); have CA19 := fun W hg_ => belvederelaw09_num.calls t143 t146 W hg_ A19.out; try simp only [errW_none, errW_some] at CA19) | (go_at_call 10; (with_reducible refine (CA19 _ ?side1).mono ?_); (case side1 => exact Glob.below HG.out (by repeat (first | (with_reducible first | exact HB.out | apply below_alloc | apply pw_below_drewN | apply below_drew1 | refine below_set ?_ GE137.out | refine below_set ?_ GE144.out) | exact HB.out))); rintro e w26 ⟨rfl, hb⟩; have n0_ := Aside0.mk (Kd.S_below (by (with_reducible repeat (first | apply Kd.S_alloc | apply Kd.S_drewN | apply Kd.S_drew)); exact HO_5.out) hb); have n1_ := Aside0.mk (Kd.S_below (by (with_reducible repeat (first | apply Kd.S_alloc | apply Kd.S_drewN | apply Kd.S_drew)); exact HO140.out) hb); have n2_ := Aside0.mk (blk_below (g := gb137) (o := .cells #[.int .i64 t134, .int .i64 t135] 26 (0, 0)) (by (with_reducible repeat (first | refine blk_drewN ?_ _ | refine blk_drew ?_ | refine blk_alloc ?_ _)); exact BK137.out) hb); have n3_ := Aside0.mk (blk_below (g := gb144) (o := .cells #[.int .i64 t141, .int .i64 t142] 26 (0, 0)) (by (with_reducible repeat (first | refine blk_drewN ?_ _ | refine blk_drew ?_ | refine blk_alloc ?_ _)); exact BK144.out) hb); have n4_ := Aside0.mk (below_step (by repeat (first | (with_reducible first | exact HB.out | apply below_alloc | apply pw_below_drewN | apply below_drew1 | refine below_set ?_ GE137.out | refine below_set ?_ GE144.out) | exact HB.out)) hb); clear HO_5; clear HO140; clear BK137; clear BK144; clear HB; have HO_5 := n0_; have HO140 := n1_; have BK137 := n2_; have BK144 := n3_; have HB := n4_; clear n0_ n1_ n2_ n3_ n4_; (try clear hb); (try clear hb2); (try clear hk); (try clear hi)))
              repeat (go_quiet (first | (go_at_call 10; (with_reducible refine (CA18 _ ?side1).mono ?_); (case side1 => exact Glob.below HG.out (by repeat (first | (with_reducible first | exact HB.out | apply below_alloc | apply pw_below_drewN | apply below_drew1 | refine below_set ?_ GE137.out | refine below_set ?_ GE144.out) | exact HB.out))); rintro e w25 ⟨rfl, hb⟩; have n0_ := Aside0.mk (Kd.S_below (by (with_reducible repeat (first | apply Kd.S_alloc | apply Kd.S_drewN | apply Kd.S_drew)); exact (Kd.S_mono (Kd.S_far (p := ⟨gb144, 1, none⟩) (Kd.S_far (p := ⟨gb144, 0, none⟩) (Kd.S_types HO_5.out BK144.out (by decide)) (fun _ hk => hk.2) (.int .i64 t141)) (fun _ hk => hk.2) (.int .i64 t142)) (fun _ h_ => h_.1))) hb); have n1_ := Aside0.mk (Kd.S_below (by (with_reducible repeat (first | apply Kd.S_alloc | apply Kd.S_drewN | apply Kd.S_drew)); exact (Kd.S_mono (Kd.S_far (p := ⟨gb144, 1, none⟩) (Kd.S_far (p := ⟨gb144, 0, none⟩) (Kd.S_types HO140.out BK144.out (by decide)) (fun _ hk => hk.2) (.int .i64 t141)) (fun _ hk => hk.2) (.int .i64 t142)) (fun _ h_ => h_.1))) hb); have n2_ := Aside0.mk (blk_below (g := gb137) (o := .cells #[.int .i64 t134, .int .i64 t135] 26 (0, 0)) (by (with_reducible repeat (first | refine blk_drewN ?_ _ | refine blk_drew ?_ | refine blk_alloc ?_ _)); refine blk_far ?_ NB137_144.out _; (with_reducible repeat (first | refine blk_drewN ?_ _ | refine blk_drew ?_ | refine blk_alloc ?_ _)); refine blk_far ?_ NB137_144.out _; (with_reducible repeat (first | refine blk_drewN ?_ _ | refine blk_drew ?_ | refine blk_alloc ?_ _)); exact BK137.out) hb); have n3_ := Aside0.mk (blk_below (g := gb144) (o := .cells #[.int .i64 t141, .int .i64 t142] 26 (0, 0)) (by (with_reducible repeat (first | refine blk_drewN ?_ _ | refine blk_drew ?_ | refine blk_alloc ?_ _)); refine blk_put (cs := #[.int .i64 t141, .int .i64 0]) ?_ 1 _ rfl; (with_reducible repeat (first | refine blk_drewN ?_ _ | refine blk_drew ?_ | refine blk_alloc ?_ _)); refine blk_put (cs := #[.int .i64 0, .int .i64 0]) ?_ 0 _ rfl; (with_reducible repeat (first | refine blk_drewN ?_ _ | refine blk_drew ?_ | refine blk_alloc ?_ _)); exact BK144.out) hb); have n4_ := Aside0.mk (below_step (by repeat (first | (with_reducible first | exact HB.out | apply below_alloc | apply pw_below_drewN | apply below_drew1 | refine below_set ?_ GE137.out | refine below_set ?_ GE144.out) | exact HB.out)) hb); clear HO_5; clear HO140; clear BK137; clear BK144; clear HB; have HO_5 := n0_; have HO140 := n1_; have BK137 := n2_; have BK144 := n3_; have HB := n4_; clear n0_ n1_ n2_ n3_ n4_; (try clear hb); (try clear hb2); (try clear hk); (try clear hi); have CA19 := fun W hg_ => belvederelaw09_num.calls t143 t146 W hg_ A19.out; try simp only [errW_none, errW_some] at CA19) | (go_at_call 10; (with_reducible refine (CA19 _ ?side1).mono ?_); (case side1 => exact Glob.below HG.out (by repeat (first | (with_reducible first | exact HB.out | apply below_alloc | apply pw_below_drewN | apply below_drew1 | refine below_set ?_ GE137.out | refine below_set ?_ GE144.out) | exact HB.out))); rintro e w26 ⟨rfl, hb⟩; have n0_ := Aside0.mk (Kd.S_below (by (with_reducible repeat (first | apply Kd.S_alloc | apply Kd.S_drewN | apply Kd.S_drew)); exact HO_5.out) hb); have n1_ := Aside0.mk (Kd.S_below (by (with_reducible repeat (first | apply Kd.S_alloc | apply Kd.S_drewN | apply Kd.S_drew)); exact HO140.out) hb); have n2_ := Aside0.mk (blk_below (g := gb137) (o := .cells #[.int .i64 t134, .int .i64 t135] 26 (0, 0)) (by (with_reducible repeat (first | refine blk_drewN ?_ _ | refine blk_drew ?_ | refine blk_alloc ?_ _)); exact BK137.out) hb); have n3_ := Aside0.mk (blk_below (g := gb144) (o := .cells #[.int .i64 t141, .int .i64 t142] 26 (0, 0)) (by (with_reducible repeat (first | refine blk_drewN ?_ _ | refine blk_drew ?_ | refine blk_alloc ?_ _)); exact BK144.out) hb); have n4_ := Aside0.mk (below_step (by repeat (first | (with_reducible first | exact HB.out | apply below_alloc | apply pw_below_drewN | apply below_drew1 | refine below_set ?_ GE137.out | refine below_set ?_ GE144.out) | exact HB.out)) hb); clear HO_5; clear HO140; clear BK137; clear BK144; clear HB; have HO_5 := n0_; have HO140 := n1_; have BK137 := n2_; have BK144 := n3_; have HB := n4_; clear n0_ n1_ n2_ n3_ n4_; (try clear hb); (try clear hb2); (try clear hk); (try clear hi))); try go_wp2_with (first | (go_at_call 10; (with_reducible refine (CA18 _ ?side1).mono ?_); (case side1 => exact Glob.below HG.out (by repeat (first | (with_reducible first | exact HB.out | apply below_alloc | apply pw_below_drewN | apply below_drew1 | refine below_set ?_ GE137.out | refine below_set ?_ GE144.out) | exact HB.out))); rintro e w25 ⟨rfl, hb⟩; have n0_ := Aside0.mk (Kd.S_below (by (with_reducible repeat (first | apply Kd.S_alloc | apply Kd.S_drewN | apply Kd.S_drew)); exact (Kd.S_mono (Kd.S_far (p := ⟨gb144, 1, none⟩) (Kd.S_far (p := ⟨gb144, 0, none⟩) (Kd.S_types HO_5.out BK144.out (by decide)) (fun _ hk => hk.2) (.int .i64 t141)) (fun _ hk => hk.2) (.int .i64 t142)) (fun _ h_ => h_.1))) hb); have n1_ := Aside0.mk (Kd.S_below (by (with_reducible repeat (first | apply Kd.S_alloc | apply Kd.S_drewN | apply Kd.S_drew)); exact (Kd.S_mono (Kd.S_far (p := ⟨gb144, 1, none⟩) (Kd.S_far (p := ⟨gb144, 0, none⟩) (Kd.S_types HO140.out BK144.out (by decide)) (fun _ hk => hk.2) (.int .i64 t141)) (fun _ hk => hk.2) (.int .i64 t142)) (fun _ h_ => h_.1))) hb); have n2_ := Aside0.mk (blk_below (g := gb137) (o := .cells #[.int .i64 t134, .int .i64 t135] 26 (0, 0)) (by (with_reducible repeat (first | refine blk_drewN ?_ _ | refine blk_drew ?_ | refine blk_alloc ?_ _)); refine blk_far ?_ NB137_144.out _; (with_reducible repeat (first | refine blk_drewN ?_ _ | refine blk_drew ?_ | refine blk_alloc ?_ _)); refine blk_far ?_ NB137_144.out _; (with_reducible repeat (first | refine blk_drewN ?_ _ | refine blk_drew ?_ | refine blk_alloc ?_ _)); exact BK137.out) hb); have n3_ := Aside0.mk (blk_below (g := gb144) (o := .cells #[.int .i64 t141, .int .i64 t142] 26 (0, 0)) (by (with_reducible repeat (first | refine blk_drewN ?_ _ | refine blk_drew ?_ | refine blk_alloc ?_ _)); refine blk_put (cs := #[.int .i64 t141, .int .i64 0]) ?_ 1 _ rfl; (with_reducible repeat (first | refine blk_drewN ?_ _ | refine blk_drew ?_ | refine blk_alloc ?_ _)); refine blk_put (cs := #[.int .i64 0, .int .i64 0]) ?_ 0 _ rfl; (with_reducible repeat (first | refine blk_drewN ?_ _ | refine blk_drew ?_ | refine blk_alloc ?_ _)); exact BK144.out) hb); have n4_ := Aside0.mk (below_step (by repeat (first | (with_reducible first | exact HB.out | apply below_alloc | apply pw_below_drewN | apply below_drew1 | refine below_set ?_ GE137.out | refine below_set ?_ GE144.out) | exact HB.out)) hb); clear HO_5; clear HO140; clear BK137; clear BK144; clear HB; have HO_5 := n0_; have HO140 := n1_; have BK137 := n2_; have BK144 := n3_; have HB := n4_; clear n0_ n1_ n2_ n3_ n4_; (try clear hb); (try clear hb2); (try clear hk); (try clear hi); have CA19 := fun W hg_ => belvederelaw09_num.calls t143 t146 W hg_ A19.out; try simp only [errW_none, errW_some] at CA19) | (go_at_call 10; (with_reducible refine (CA19 _ ?side1).mono ?_); (case side1 => exact Glob.below HG.out (by repeat (first | (with_reducible first | exact HB.out | apply below_alloc | apply pw_below_drewN | apply below_drew1 | refine below_set ?_ GE137.out | refine below_set ?_ GE144.out) | exact HB.out))); rintro e w26 ⟨rfl, hb⟩; have n0_ := Aside0.mk (Kd.S_below (by (with_reducible repeat (first | apply Kd.S_alloc | apply Kd.S_drewN | apply Kd.S_drew)); exact HO_5.out) hb); have n1_ := Aside0.mk (Kd.S_below (by (with_reducible repeat (first | apply Kd.S_alloc | apply Kd.S_drewN | apply Kd.S_drew)); exact HO140.out) hb); have n2_ := Aside0.mk (blk_below (g := gb137) (o := .cells #[.int .i64 t134, .int .i64 t135] 26 (0, 0)) (by (with_reducible repeat (first | refine blk_drewN ?_ _ | refine blk_drew ?_ | refine blk_alloc ?_ _)); exact BK137.out) hb); have n3_ := Aside0.mk (blk_below (g := gb144) (o := .cells #[.int .i64 t141, .int .i64 t142] 26 (0, 0)) (by (with_reducible repeat (first | refine blk_drewN ?_ _ | refine blk_drew ?_ | refine blk_alloc ?_ _)); exact BK144.out) hb); have n4_ := Aside0.mk (below_step (by repeat (first | (with_reducible first | exact HB.out | apply below_alloc | apply pw_below_drewN | apply below_drew1 | refine below_set ?_ GE137.out | refine below_set ?_ GE144.out) | exact HB.out)) hb); clear HO_5; clear HO140; clear BK137; clear BK144; clear HB; have HO_5 := n0_; have HO140 := n1_; have BK137 := n2_; have BK144 := n3_; have HB := n4_; clear n0_ n1_ n2_ n3_ n4_; (try clear hb); (try clear hb2); (try clear hk); (try clear hi))))
              go_meet
              case rel => exact ⟨_, (true), (by first | rfl | (simp; done) | (simp [*]; done)), H', ⟨by have := HK1.out; first | omega | exact Nat.le_refl _⟩, ⟨by (with_reducible repeat (first | apply Kd.S_alloc | apply Kd.S_drewN | apply Kd.S_drew)); exact Kd.S_mono HO_5.out (fun _ hk => hk.2)⟩, ⟨by (with_reducible repeat (first | apply Kd.S_alloc | apply Kd.S_drewN | apply Kd.S_drew)); exact Kd.S_mono HO140.out (fun _ hk => hk.2)⟩, ⟨by (with_reducible repeat (first | refine blk_drewN ?_ _ | refine blk_drew ?_ | refine blk_alloc ?_ _)); exact BK137.out⟩, ⟨by (with_reducible repeat (first | refine blk_drewN ?_ _ | refine blk_drew ?_ | refine blk_alloc ?_ _)); exact BK144.out⟩, ⟨by repeat (first | (with_reducible first | exact HB.out | apply below_alloc | apply pw_below_drewN | apply below_drew1 | refine below_set ?_ GE137.out | refine below_set ?_ GE144.out) | exact HB.out)⟩⟩
          case rest =>
            clear HC13
            try clear c1
            try clear c2
            try clear p2
            try clear c3
            try clear c3b0
            try clear c3b1
            try clear c4
            try clear p6
            try clear c10
            try clear c10b0
            try clear c11
            try clear c11b0
            try clear c11b1
            try clear c11b2
            try clear c16
            try clear c20
            try clear c20b0
            try clear c20b1
            try clear hcz17_0
            try clear hcz17_1
            try clear hcz9_0
            try clear hcz9_1
            try clear hfz17_0
            try clear hfz17_1
            try clear hfz9_0
            try clear hfz9_1
            try clear p2
            try clear p6
            obtain ⟨kq, x56_12, rfl, HA, HJ12, HO_5, HO_11, BK137, BK144, HB⟩ := hcut
            cases kq with
            | zero => exact absurd HA.out (by simp [belvederelaw09_BlockLines.j1])
            | succ kj12 =>
              have H := HA.out
              clear HA
              simp only [belvederelaw09_BlockLines.j1] at H
              by_cases c27 : x56_12 = true
              · subst c27
                have H1 : (some false) = some r := by rw [if_pos rfl] at H; exact H
                clear H
                have H := H1
                clear H1
                obtain rfl := Option.some.inj H
                go_wp2
                repeat (go_quiet (fail); try go_wp2)
                go_ret
                exact ⟨by first | rfl | (simp [errW_none, errW_some] <;> rfl) | (simp [*, errW_none, errW_some] <;> rfl), by repeat (first | (with_reducible first | exact HB.out | apply below_alloc | apply pw_below_drewN | apply below_drew1 | refine below_set ?_ GE137.out | refine below_set ?_ GE144.out) | exact HB.out)⟩
              · replace c27 := Bool.eq_false_iff.mpr c27
                subst c27
                have H1 : (if t136.isNone = true then (belvederelaw09_BlockLines.l1 kj12 t131 (wrap64 (Int.tmod (IntKind.u64.wrap (a1)) 6)) t138 0 0) else (if t134 = 0 then (if t141 = 0 then (if t135 = t142 then ((belvederelaw09_sure.f kj12).bind fun t160 => (some t160)) else (some false)) else (if t141 = (wrap64 (t134 + (wrap64 (Int.tmod (IntKind.u64.wrap (a1)) 6)))) then (if t135 = t142 then ((belvederelaw09_sure.f kj12).bind fun t161 => (some t161)) else (some false)) else (some false))) else (if t141 = (wrap64 (t134 + (wrap64 (Int.tmod (IntKind.u64.wrap (a1)) 6)))) then (if t135 = t142 then ((belvederelaw09_sure.f kj12).bind fun t162 => (some t162)) else (some false)) else (some false)))) = some r := by rw [if_neg (show ¬ (false = true) by decide)] at H; exact H
                clear H
                have H := H1
                clear H1
                rcases t136 with _ | q147
                · have H1 : (belvederelaw09_BlockLines.l1 kj12 t131 (wrap64 (Int.tmod (IntKind.u64.wrap (a1)) 6)) t138 0 0) = some r := by rw [if_pos (show (none : Option Int).isNone = true by rfl)] at H; exact H
                  clear H
                  have H := H1
                  clear H1
                  try simp only [errW_none, errW_some]
                  have H' := Aside0.mk H
                  clear H
                  go_wp2
                  repeat (go_quiet (fail); try go_wp2)
                  go_loopg [14, 15] kj12 (fun kq v14 v15 w' => ∃ (x14_3 : Int) (x15_3 : Int), v14 = .int .i64 x14_3 ∧ v15 = .int .i64 x15_3 ∧ Aside0 (belvederelaw09_BlockLines.l1 kq t131 (wrap64 (Int.tmod (IntKind.u64.wrap (a1)) 6)) t138 x14_3 x15_3 = some r) ∧ Aside0 (kq ≤ kj12) ∧ Aside0 (Kd.S k40 40 w' w.heap.size (fun k_ => some k_ ≠ (v139 : Value).ownBlock) v132 t131) ∧ Aside0 (Kd.S k40 40 w' w.heap.size (fun k_ => some k_ ≠ (v132 : Value).ownBlock) v139 t138) ∧ Aside0 (w'.heap[gb137]? = some (.cells #[.int .i64 t134, .int .i64 t135] 26 (0, 0))) ∧ Aside0 (w'.heap[gb144]? = some (.cells #[.int .i64 t141, .int .i64 t142] 26 (0, 0))) ∧ Aside0 (Below w.heap.size w w'))
                  case atStart => exact ⟨(0), (0), (by first | rfl | (simp; done) | (simp [*]; done)), (by first | rfl | (simp; done) | (simp [*]; done)), H', ⟨Nat.le_refl _⟩, ⟨by (with_reducible repeat (first | apply Kd.S_alloc | apply Kd.S_drewN | apply Kd.S_drew)); exact HO_5.out⟩, ⟨by (with_reducible repeat (first | apply Kd.S_alloc | apply Kd.S_drewN | apply Kd.S_drew)); exact HO_11.out⟩, ⟨by (with_reducible repeat (first | refine blk_drewN ?_ _ | refine blk_drew ?_ | refine blk_alloc ?_ _)); exact BK137.out⟩, ⟨by (with_reducible repeat (first | refine blk_drewN ?_ _ | refine blk_drew ?_ | refine blk_alloc ?_ _)); exact BK144.out⟩, ⟨by repeat (first | (with_reducible first | exact HB.out | apply below_alloc | apply pw_below_drewN | apply below_drew1 | refine below_set ?_ GE137.out | refine below_set ?_ GE144.out) | exact HB.out)⟩⟩
                  case round =>
                    clear H'
                    try clear c1
                    try clear q1
                    try clear c2
                    try clear p2
                    try clear c3
                    try clear c3b0
                    try clear c3b1
                    try clear c4
                    try clear p6
                    try clear c10
                    try clear c10b0
                    try clear c11
                    try clear c11b0
                    try clear c11b1
                    try clear c11b2
                    try clear q14
                    try clear c16
                    try clear c20
                    try clear c20b0
                    try clear c20b1
                    try clear c27
                    try clear hcz17_0
                    try clear hcz17_1
                    try clear hcz9_0
                    try clear hcz9_1
                    try clear hfz17_0
                    try clear hfz17_1
                    try clear hfz9_0
                    try clear hfz9_1
                    try clear p2
                    try clear p6
                    try clear q147
                    obtain ⟨x14_3, x15_3, rfl, rfl, HA, HK3, HO_5, HO_11, BK137, BK144, HB⟩ := hrel
                    cases gk with
                    | zero => exact absurd HA.out (by simp [belvederelaw09_BlockLines.l1])
                    | succ k3 =>
                      have H := HA.out
                      clear HA
                      simp only [belvederelaw09_BlockLines.l1] at H
                      by_cases c28 : x15_3 < (t131.length : Int)
                      · rw [if_pos c28] at H
                        have c28b0 : decide (x15_3 < (t131.length : Int)) = true := decide_eq_true c28
                        clear c28
                        have HC29 := Aside0.mk H
                        clear H
                        obtain ⟨Ao30, co30, eo30⟩ := Kd.S_slice HO_5.out
                        subst eo30
                        go_upto_region 19 with (fail)
                        repeat (go_quiet (fail); go_upto_region 19 with (fail))
                        go_cut [128] (fun v128 wc => ∃ (kq : Nat) (x128_28 : Bool), v128 = .bool x128_28 ∧ Aside0 (belvederelaw09_BlockLines.j3 kq t131 (wrap64 (Int.tmod (IntKind.u64.wrap (a1)) 6)) t138 x15_3 x128_28 = some r) ∧ Aside0 (kq ≤ k3) ∧ Aside0 (Kd.S k40 40 wc w.heap.size (fun k_ => some k_ ≠ (v139 : Value).ownBlock) (.slice Ao30 t131.length co30) t131) ∧ Aside0 (Kd.S k40 40 wc w.heap.size (fun k_ => some k_ ≠ ((.slice Ao30 t131.length co30) : Value).ownBlock) v139 t138) ∧ Aside0 (wc.heap[gb137]? = some (.cells #[.int .i64 t134, .int .i64 t135] 26 (0, 0))) ∧ Aside0 (wc.heap[gb144]? = some (.cells #[.int .i64 t141, .int .i64 t142] 26 (0, 0))) ∧ Aside0 (Below w.heap.size w wc))
                        case first =>
                          have H := HC29.out
                          clear HC29
                          by_cases c31 : 0 ≤ x15_3
                          · rw [if_pos c31] at H
                            have c31b0 : decide (0 ≤ x15_3) = true := decide_eq_true c31
                            clear c31
                            (first | rw [c31b0] | (simp only [i64_w, i32_w]; rw [c31b0]) | skip)
                            by_cases c32 : ((rd_T40 t131 x15_3).f0) ≤ x14_3
                            · rw [if_pos c32] at H
                              have c32b0 : decide (((rd_T40 t131 x15_3).f0) ≤ x14_3) = true := decide_eq_true c32
                              clear c32
                              have H' := Aside0.mk H
                              clear H
                              have p149 : 0 ≤ (x15_3 : Int) := of_decide_eq_true (by first | (with_reducible assumption) | assumption)
                              have q149 : x15_3 < (t131.length : Int) := of_decide_eq_true (by first | (with_reducible assumption) | assumption)
                              obtain ⟨ad149, A149_2, c149_2, e149, hx149_0, hx149_1, hx149_2, hl149_2, hi149_2⟩ := at_T40 (Kd.S_reads' HO_5.out).2.2 x15_3 p149 q149
                              cases e149
                              obtain ⟨ce149, hce149, hMe149, hcc149⟩ := Kd.S_get HO_5.out z40 x15_3 p149 (by first | exact q149 | exact of_decide_eq_true (by first | (with_reducible assumption) | assumption) | (have e_ := (Kd.S_reads' HO_5.out).1; omega))
                              obtain ⟨ve149_2, rfl, ge149_2⟩ := k40_openM hMe149
                              have hv149_2 := hcc149 2 _ rfl
                              rw [add_field _ _ 2 (by omega)] at hv149_2
                              replace hv149_2 := Option.some.inj (hv149_2.symm.trans hx149_2)
                              rw [hv149_2] at ge149_2
                              have HL149_2 := Aside0.mk (show Kd.R k42 42 _ _ _ _ ((rd_T40 t131 x15_3).f2) from ge149_2)
                              clear hv149_2 ge149_2
                              clear hcc149 hce149
                              have HR149_2 := Aside0.mk hi149_2
                              have HC149_2 := Aside0.mk hl149_2
                              clear hi149_2 hl149_2
                              replace p149 := eq_true p149
                              replace q149 := eq_true q149
                              go_wp2
                              repeat (go_quiet (fail); try go_wp2)
                              go_meet
                              case rel => exact ⟨_, (true), (by first | rfl | (simp; done) | (simp [*]; done)), H', ⟨by have := HK1.out; have := HJ12.out; have := HK3.out; first | omega | exact Nat.le_refl _⟩, ⟨by (with_reducible repeat (first | apply Kd.S_alloc | apply Kd.S_drewN | apply Kd.S_drew)); exact HO_5.out⟩, ⟨by (with_reducible repeat (first | apply Kd.S_alloc | apply Kd.S_drewN | apply Kd.S_drew)); exact HO_11.out⟩, ⟨by (with_reducible repeat (first | refine blk_drewN ?_ _ | refine blk_drew ?_ | refine blk_alloc ?_ _)); exact BK137.out⟩, ⟨by (with_reducible repeat (first | refine blk_drewN ?_ _ | refine blk_drew ?_ | refine blk_alloc ?_ _)); exact BK144.out⟩, ⟨by repeat (first | (with_reducible first | exact HB.out | apply below_alloc | apply pw_below_drewN | apply below_drew1 | refine below_set ?_ GE137.out | refine below_set ?_ GE144.out) | exact HB.out)⟩⟩
                            · rw [if_neg c32] at H
                              have c32b0 : decide (((rd_T40 t131 x15_3).f0) ≤ x14_3) = false := decide_eq_false c32
                              clear c32
                              by_cases c33 : x15_3 < (t138.length : Int)
                              · rw [if_pos c33] at H
                                have c33b0 : decide (x15_3 < (t138.length : Int)) = true := decide_eq_true c33
                                clear c33
                                by_cases c34 : ((rd_T40 t138 x15_3).f0) = (wrap64 (((rd_T40 t131 x15_3).f0) + (wrap64 (Int.tmod (IntKind.u64.wrap (a1)) 6))))
                                · rw [if_pos c34] at H
                                  have c34b0 : (((rd_T40 t138 x15_3).f0) == (wrap64 (((rd_T40 t131 x15_3).f0) + (wrap64 (Int.tmod (IntKind.u64.wrap (a1)) 6))))) = true := beq_iff_eq.mpr c34
                                  have c34b1 : (((rd_T40 t138 x15_3).f0) != (wrap64 (((rd_T40 t131 x15_3).f0) + (wrap64 (Int.tmod (IntKind.u64.wrap (a1)) 6))))) = false := bne_eq_false_iff_eq.mpr c34
                                  clear c34
                                  have H' := Aside0.mk H
                                  clear H
                                  have p149 : 0 ≤ (x15_3 : Int) := of_decide_eq_true (by first | (with_reducible assumption) | assumption)
                                  have q149 : x15_3 < (t131.length : Int) := of_decide_eq_true (by first | (with_reducible assumption) | assumption)
                                  obtain ⟨ad149, A149_2, c149_2, e149, hx149_0, hx149_1, hx149_2, hl149_2, hi149_2⟩ := at_T40 (Kd.S_reads' HO_5.out).2.2 x15_3 p149 q149
                                  cases e149
                                  obtain ⟨ce149, hce149, hMe149, hcc149⟩ := Kd.S_get HO_5.out z40 x15_3 p149 (by first | exact q149 | exact of_decide_eq_true (by first | (with_reducible assumption) | assumption) | (have e_ := (Kd.S_reads' HO_5.out).1; omega))
                                  obtain ⟨ve149_2, rfl, ge149_2⟩ := k40_openM hMe149
                                  have hv149_2 := hcc149 2 _ rfl
                                  rw [add_field _ _ 2 (by omega)] at hv149_2
                                  replace hv149_2 := Option.some.inj (hv149_2.symm.trans hx149_2)
                                  rw [hv149_2] at ge149_2
                                  have HL149_2 := Aside0.mk (show Kd.R k42 42 _ _ _ _ ((rd_T40 t131 x15_3).f2) from ge149_2)
                                  clear hv149_2 ge149_2
                                  clear hcc149 hce149
                                  have HR149_2 := Aside0.mk hi149_2
                                  have HC149_2 := Aside0.mk hl149_2
                                  clear hi149_2 hl149_2
                                  replace p149 := eq_true p149
                                  replace q149 := eq_true q149
                                  obtain ⟨Ao35, co35, eo35⟩ := Kd.S_slice HO_11.out
                                  subst eo35
                                  have p150 : 0 ≤ (x15_3 : Int) := of_decide_eq_true (by first | (with_reducible assumption) | assumption)
                                  have q150 : x15_3 < (t138.length : Int) := of_decide_eq_true (by first | (with_reducible assumption) | assumption)
                                  obtain ⟨ad150, A150_2, c150_2, e150, hx150_0, hx150_1, hx150_2, hl150_2, hi150_2⟩ := at_T40 (Kd.S_reads' HO_11.out).2.2 x15_3 p150 q150
                                  cases e150
                                  obtain ⟨ce150, hce150, hMe150, hcc150⟩ := Kd.S_get HO_11.out z40 x15_3 p150 (by first | exact q150 | exact of_decide_eq_true (by first | (with_reducible assumption) | assumption) | (have e_ := (Kd.S_reads' HO_11.out).1; omega))
                                  obtain ⟨ve150_2, rfl, ge150_2⟩ := k40_openM hMe150
                                  have hv150_2 := hcc150 2 _ rfl
                                  rw [add_field _ _ 2 (by omega)] at hv150_2
                                  replace hv150_2 := Option.some.inj (hv150_2.symm.trans hx150_2)
                                  rw [hv150_2] at ge150_2
                                  have HL150_2 := Aside0.mk (show Kd.R k42 42 _ _ _ _ ((rd_T40 t138 x15_3).f2) from ge150_2)
                                  clear hv150_2 ge150_2
                                  clear hcc150 hce150
                                  have HR150_2 := Aside0.mk hi150_2
                                  have HC150_2 := Aside0.mk hl150_2
                                  clear hi150_2 hl150_2
                                  replace p150 := eq_true p150
                                  replace q150 := eq_true q150
                                  have p151 : 0 ≤ (x15_3 : Int) := of_decide_eq_true (by first | (with_reducible assumption) | assumption)
                                  have q151 : x15_3 < (t131.length : Int) := of_decide_eq_true (by first | (with_reducible assumption) | assumption)
                                  obtain ⟨ad151, A151_2, c151_2, e151, hx151_0, hx151_1, hx151_2, hl151_2, hi151_2⟩ := at_T40 (Kd.S_reads' HO_5.out).2.2 x15_3 p151 q151
                                  obtain rfl : ad149 = ad151 := (by injection e151)
                                  obtain ⟨ce151, hce151, hMe151, hcc151⟩ := Kd.S_get HO_5.out z40 x15_3 p151 (by first | exact q151 | exact of_decide_eq_true (by first | (with_reducible assumption) | assumption) | (have e_ := (Kd.S_reads' HO_5.out).1; omega))
                                  obtain ⟨ve151_2, rfl, ge151_2⟩ := k40_openM hMe151
                                  have hv151_2 := hcc151 2 _ rfl
                                  rw [add_field _ _ 2 (by omega)] at hv151_2
                                  replace hv151_2 := Option.some.inj (hv151_2.symm.trans hx151_2)
                                  rw [hv151_2] at ge151_2
                                  have HL151_2 := Aside0.mk (show Kd.R k42 42 _ _ _ _ ((rd_T40 t131 x15_3).f2) from ge151_2)
                                  clear hv151_2 ge151_2
                                  clear hcc151 hce151
                                  have HR151_2 := Aside0.mk hi151_2
                                  have HC151_2 := Aside0.mk hl151_2
                                  clear hi151_2 hl151_2
                                  replace p151 := eq_true p151
                                  replace q151 := eq_true q151
                                  have ea_ := Option.some.inj (hx149_2.symm.trans hx151_2)
                                  injection ea_ with ea_ en_ ec_
                                  subst ea_
                                  subst ec_
                                  clear en_
                                  have p152 : 0 ≤ (x15_3 : Int) := of_decide_eq_true (by first | (with_reducible assumption) | assumption)
                                  have q152 : x15_3 < (t131.length : Int) := of_decide_eq_true (by first | (with_reducible assumption) | assumption)
                                  obtain ⟨ad152, A152_2, c152_2, e152, hx152_0, hx152_1, hx152_2, hl152_2, hi152_2⟩ := at_T40 (Kd.S_reads' HO_5.out).2.2 x15_3 p152 q152
                                  obtain rfl : ad149 = ad152 := (by injection e152)
                                  obtain ⟨ce152, hce152, hMe152, hcc152⟩ := Kd.S_get HO_5.out z40 x15_3 p152 (by first | exact q152 | exact of_decide_eq_true (by first | (with_reducible assumption) | assumption) | (have e_ := (Kd.S_reads' HO_5.out).1; omega))
                                  obtain ⟨ve152_2, rfl, ge152_2⟩ := k40_openM hMe152
                                  have hv152_2 := hcc152 2 _ rfl
                                  rw [add_field _ _ 2 (by omega)] at hv152_2
                                  replace hv152_2 := Option.some.inj (hv152_2.symm.trans hx152_2)
                                  rw [hv152_2] at ge152_2
                                  have HL152_2 := Aside0.mk (show Kd.R k42 42 _ _ _ _ ((rd_T40 t131 x15_3).f2) from ge152_2)
                                  clear hv152_2 ge152_2
                                  clear hcc152 hce152
                                  have HR152_2 := Aside0.mk hi152_2
                                  have HC152_2 := Aside0.mk hl152_2
                                  clear hi152_2 hl152_2
                                  replace p152 := eq_true p152
                                  replace q152 := eq_true q152
                                  have ea_ := Option.some.inj (hx149_2.symm.trans hx152_2)
                                  injection ea_ with ea_ en_ ec_
                                  subst ea_
                                  subst ec_
                                  clear en_
                                  have p153 : 0 ≤ (x15_3 : Int) := of_decide_eq_true (by first | (with_reducible assumption) | assumption)
                                  have q153 : x15_3 < (t138.length : Int) := of_decide_eq_true (by first | (with_reducible assumption) | assumption)
                                  obtain ⟨ad153, A153_2, c153_2, e153, hx153_0, hx153_1, hx153_2, hl153_2, hi153_2⟩ := at_T40 (Kd.S_reads' HO_11.out).2.2 x15_3 p153 q153
                                  obtain rfl : ad150 = ad153 := (by injection e153)
                                  obtain ⟨ce153, hce153, hMe153, hcc153⟩ := Kd.S_get HO_11.out z40 x15_3 p153 (by first | exact q153 | exact of_decide_eq_true (by first | (with_reducible assumption) | assumption) | (have e_ := (Kd.S_reads' HO_11.out).1; omega))
                                  obtain ⟨ve153_2, rfl, ge153_2⟩ := k40_openM hMe153
                                  have hv153_2 := hcc153 2 _ rfl
                                  rw [add_field _ _ 2 (by omega)] at hv153_2
                                  replace hv153_2 := Option.some.inj (hv153_2.symm.trans hx153_2)
                                  rw [hv153_2] at ge153_2
                                  have HL153_2 := Aside0.mk (show Kd.R k42 42 _ _ _ _ ((rd_T40 t138 x15_3).f2) from ge153_2)
                                  clear hv153_2 ge153_2
                                  clear hcc153 hce153
                                  have HR153_2 := Aside0.mk hi153_2
                                  have HC153_2 := Aside0.mk hl153_2
                                  clear hi153_2 hl153_2
                                  replace p153 := eq_true p153
                                  replace q153 := eq_true q153
                                  have ea_ := Option.some.inj (hx150_2.symm.trans hx153_2)
                                  injection ea_ with ea_ en_ ec_
                                  subst ea_
                                  subst ec_
                                  clear en_
                                  go_wp2
                                  repeat (go_quiet (fail); try go_wp2)
                                  go_meet
                                  case rel => exact ⟨_, (((((rd_T40 t131 x15_3).f2).length : Int) != (((rd_T40 t138 x15_3).f2).length : Int))), (by first | rfl | (simp; done) | (simp [*]; done)), H', ⟨by have := HK1.out; have := HJ12.out; have := HK3.out; first | omega | exact Nat.le_refl _⟩, ⟨by (with_reducible repeat (first | apply Kd.S_alloc | apply Kd.S_drewN | apply Kd.S_drew)); exact HO_5.out⟩, ⟨by (with_reducible repeat (first | apply Kd.S_alloc | apply Kd.S_drewN | apply Kd.S_drew)); exact HO_11.out⟩, ⟨by (with_reducible repeat (first | refine blk_drewN ?_ _ | refine blk_drew ?_ | refine blk_alloc ?_ _)); exact BK137.out⟩, ⟨by (with_reducible repeat (first | refine blk_drewN ?_ _ | refine blk_drew ?_ | refine blk_alloc ?_ _)); exact BK144.out⟩, ⟨by repeat (first | (with_reducible first | exact HB.out | apply below_alloc | apply pw_below_drewN | apply below_drew1 | refine below_set ?_ GE137.out | refine below_set ?_ GE144.out) | exact HB.out)⟩⟩
                                · rw [if_neg c34] at H
                                  have c34b0 : (((rd_T40 t138 x15_3).f0) == (wrap64 (((rd_T40 t131 x15_3).f0) + (wrap64 (Int.tmod (IntKind.u64.wrap (a1)) 6))))) = false := beq_eq_false_iff_ne.mpr c34
                                  have c34b1 : (((rd_T40 t138 x15_3).f0) != (wrap64 (((rd_T40 t131 x15_3).f0) + (wrap64 (Int.tmod (IntKind.u64.wrap (a1)) 6))))) = true := bne_iff_ne.mpr c34
                                  have H' := Aside0.mk H
                                  clear H
                                  have p149 : 0 ≤ (x15_3 : Int) := of_decide_eq_true (by first | (with_reducible assumption) | assumption)
                                  have q149 : x15_3 < (t131.length : Int) := of_decide_eq_true (by first | (with_reducible assumption) | assumption)
                                  obtain ⟨ad149, A149_2, c149_2, e149, hx149_0, hx149_1, hx149_2, hl149_2, hi149_2⟩ := at_T40 (Kd.S_reads' HO_5.out).2.2 x15_3 p149 q149
                                  cases e149
                                  obtain ⟨ce149, hce149, hMe149, hcc149⟩ := Kd.S_get HO_5.out z40 x15_3 p149 (by first | exact q149 | exact of_decide_eq_true (by first | (with_reducible assumption) | assumption) | (have e_ := (Kd.S_reads' HO_5.out).1; omega))
                                  obtain ⟨ve149_2, rfl, ge149_2⟩ := k40_openM hMe149
                                  have hv149_2 := hcc149 2 _ rfl
                                  rw [add_field _ _ 2 (by omega)] at hv149_2
                                  replace hv149_2 := Option.some.inj (hv149_2.symm.trans hx149_2)
                                  rw [hv149_2] at ge149_2
                                  have HL149_2 := Aside0.mk (show Kd.R k42 42 _ _ _ _ ((rd_T40 t131 x15_3).f2) from ge149_2)
                                  clear hv149_2 ge149_2
                                  clear hcc149 hce149
                                  have HR149_2 := Aside0.mk hi149_2
                                  have HC149_2 := Aside0.mk hl149_2
                                  clear hi149_2 hl149_2
                                  replace p149 := eq_true p149
                                  replace q149 := eq_true q149
                                  obtain ⟨Ao36, co36, eo36⟩ := Kd.S_slice HO_11.out
                                  subst eo36
                                  have p150 : 0 ≤ (x15_3 : Int) := of_decide_eq_true (by first | (with_reducible assumption) | assumption)
                                  have q150 : x15_3 < (t138.length : Int) := of_decide_eq_true (by first | (with_reducible assumption) | assumption)
                                  obtain ⟨ad150, A150_2, c150_2, e150, hx150_0, hx150_1, hx150_2, hl150_2, hi150_2⟩ := at_T40 (Kd.S_reads' HO_11.out).2.2 x15_3 p150 q150
                                  cases e150
                                  obtain ⟨ce150, hce150, hMe150, hcc150⟩ := Kd.S_get HO_11.out z40 x15_3 p150 (by first | exact q150 | exact of_decide_eq_true (by first | (with_reducible assumption) | assumption) | (have e_ := (Kd.S_reads' HO_11.out).1; omega))
                                  obtain ⟨ve150_2, rfl, ge150_2⟩ := k40_openM hMe150
                                  have hv150_2 := hcc150 2 _ rfl
                                  rw [add_field _ _ 2 (by omega)] at hv150_2
                                  replace hv150_2 := Option.some.inj (hv150_2.symm.trans hx150_2)
                                  rw [hv150_2] at ge150_2
                                  have HL150_2 := Aside0.mk (show Kd.R k42 42 _ _ _ _ ((rd_T40 t138 x15_3).f2) from ge150_2)
                                  clear hv150_2 ge150_2
                                  clear hcc150 hce150
                                  have HR150_2 := Aside0.mk hi150_2
                                  have HC150_2 := Aside0.mk hl150_2
                                  clear hi150_2 hl150_2
                                  replace p150 := eq_true p150
                                  replace q150 := eq_true q150
                                  have p151 : 0 ≤ (x15_3 : Int) := of_decide_eq_true (by first | (with_reducible assumption) | assumption)
                                  have q151 : x15_3 < (t131.length : Int) := of_decide_eq_true (by first | (with_reducible assumption) | assumption)
                                  obtain ⟨ad151, A151_2, c151_2, e151, hx151_0, hx151_1, hx151_2, hl151_2, hi151_2⟩ := at_T40 (Kd.S_reads' HO_5.out).2.2 x15_3 p151 q151
                                  obtain rfl : ad149 = ad151 := (by injection e151)
                                  obtain ⟨ce151, hce151, hMe151, hcc151⟩ := Kd.S_get HO_5.out z40 x15_3 p151 (by first | exact q151 | exact of_decide_eq_true (by first | (with_reducible assumption) | assumption) | (have e_ := (Kd.S_reads' HO_5.out).1; omega))
                                  obtain ⟨ve151_2, rfl, ge151_2⟩ := k40_openM hMe151
                                  have hv151_2 := hcc151 2 _ rfl
                                  rw [add_field _ _ 2 (by omega)] at hv151_2
                                  replace hv151_2 := Option.some.inj (hv151_2.symm.trans hx151_2)
                                  rw [hv151_2] at ge151_2
                                  have HL151_2 := Aside0.mk (show Kd.R k42 42 _ _ _ _ ((rd_T40 t131 x15_3).f2) from ge151_2)
                                  clear hv151_2 ge151_2
                                  clear hcc151 hce151
                                  have HR151_2 := Aside0.mk hi151_2
                                  have HC151_2 := Aside0.mk hl151_2
                                  clear hi151_2 hl151_2
                                  replace p151 := eq_true p151
                                  replace q151 := eq_true q151
                                  have ea_ := Option.some.inj (hx149_2.symm.trans hx151_2)
                                  injection ea_ with ea_ en_ ec_
                                  subst ea_
                                  subst ec_
                                  clear en_
                                  go_wp2
                                  repeat (go_quiet (fail); try go_wp2)
                                  go_meet
                                  case rel => exact ⟨_, (true), (by first | rfl | (simp; done) | (simp [*]; done)), H', ⟨by have := HK1.out; have := HJ12.out; have := HK3.out; first | omega | exact Nat.le_refl _⟩, ⟨by (with_reducible repeat (first | apply Kd.S_alloc | apply Kd.S_drewN | apply Kd.S_drew)); exact HO_5.out⟩, ⟨by (with_reducible repeat (first | apply Kd.S_alloc | apply Kd.S_drewN | apply Kd.S_drew)); exact HO_11.out⟩, ⟨by (with_reducible repeat (first | refine blk_drewN ?_ _ | refine blk_drew ?_ | refine blk_alloc ?_ _)); exact BK137.out⟩, ⟨by (with_reducible repeat (first | refine blk_drewN ?_ _ | refine blk_drew ?_ | refine blk_alloc ?_ _)); exact BK144.out⟩, ⟨by repeat (first | (with_reducible first | exact HB.out | apply below_alloc | apply pw_below_drewN | apply below_drew1 | refine below_set ?_ GE137.out | refine below_set ?_ GE144.out) | exact HB.out)⟩⟩
                              · rw [if_neg c33] at H
                                exact absurd H (by simp)
                          · rw [if_neg c31] at H
                            exact absurd H (by simp)
                        case rest =>
                          clear HC29
                          try clear c1
                          try clear p1
                          try clear q1
                          try clear hx1
                          try clear c2
                          try clear p2
                          try clear c3
                          try clear c3b0
                          try clear c3b1
                          try clear c4
                          try clear p6
                          try clear c10
                          try clear c10b0
                          try clear c11
                          try clear c11b0
                          try clear c11b1
                          try clear c11b2
                          try clear c14
                          try clear p14
                          try clear q14
                          try clear hx14
                          try clear c15
                          try clear p15
                          try clear q15
                          try clear hx15
                          try clear c16
                          try clear c20
                          try clear c20b0
                          try clear c20b1
                          try clear c27
                          try clear c28
                          try clear c28b0
                          try clear c31
                          try clear c31b0
                          try clear c32
                          try clear c32b0
                          try clear c33
                          try clear c33b0
                          try clear c34
                          try clear c34b0
                          try clear c34b1
                          try clear hcz17_0
                          try clear hcz17_1
                          try clear hcz9_0
                          try clear hcz9_1
                          try clear hfz17_0
                          try clear hfz17_1
                          try clear hfz9_0
                          try clear hfz9_1
                          try clear hx149_0
                          try clear hx149_1
                          try clear hx149_2
                          try clear hx150_0
                          try clear hx150_1
                          try clear hx150_2
                          try clear hx151_0
                          try clear hx151_1
                          try clear hx151_2
                          try clear hx152_0
                          try clear hx152_1
                          try clear hx152_2
                          try clear hx153_0
                          try clear hx153_1
                          try clear hx153_2
                          try clear p149
                          try clear p150
                          try clear p151
                          try clear p152
                          try clear p153
                          try clear p2
                          try clear p6
                          try clear q1
                          try clear q14
                          try clear q147
                          try clear q149
                          try clear q150
                          try clear q151
                          try clear q152
                          try clear q153
                          obtain ⟨kq, x128_28, rfl, HA, HJ28, HO_5, HO_11, BK137, BK144, HB⟩ := hcut
                          cases kq with
                          | zero => exact absurd HA.out (by simp [belvederelaw09_BlockLines.j3])
                          | succ kj28 =>
                            have H := HA.out
                            clear HA
                            simp only [belvederelaw09_BlockLines.j3] at H
                            by_cases c37 : x128_28 = true
                            · subst c37
                              have H1 : (some false) = some r := by rw [if_pos rfl] at H; exact H
                              clear H
                              have H := H1
                              clear H1
                              obtain rfl := Option.some.inj H
                              go_wp2
                              repeat (go_quiet (fail); try go_wp2)
                              go_ret
                              exact ⟨by first | rfl | (simp [errW_none, errW_some] <;> rfl) | (simp [*, errW_none, errW_some] <;> rfl), by repeat (first | (with_reducible first | exact HB.out | apply below_alloc | apply pw_below_drewN | apply below_drew1 | refine below_set ?_ GE137.out | refine below_set ?_ GE144.out) | exact HB.out)⟩
                            · replace c37 := Bool.eq_false_iff.mpr c37
                              subst c37
                              have H1 : (if 0 ≤ x15_3 then (if x15_3 < (t131.length : Int) then (belvederelaw09_BlockLines.l2 kj28 t131 (wrap64 (Int.tmod (IntKind.u64.wrap (a1)) 6)) t138 ((rd_T40 t131 x15_3).f0) x15_3 0) else (none)) else (none)) = some r := by rw [if_neg (show ¬ (false = true) by decide)] at H; exact H
                              clear H
                              have H := H1
                              clear H1
                              by_cases c38 : 0 ≤ x15_3
                              · rw [if_pos c38] at H
                                have c38b0 : decide (0 ≤ x15_3) = true := decide_eq_true c38
                                clear c38
                                by_cases c39 : x15_3 < (t131.length : Int)
                                · rw [if_pos c39] at H
                                  have c39b0 : decide (x15_3 < (t131.length : Int)) = true := decide_eq_true c39
                                  clear c39
                                  have H' := Aside0.mk H
                                  clear H
                                  have p154 : 0 ≤ (x15_3 : Int) := of_decide_eq_true (by first | (with_reducible assumption) | assumption)
                                  have q154 : x15_3 < (t131.length : Int) := of_decide_eq_true (by first | (with_reducible assumption) | assumption)
                                  obtain ⟨ad154, A154_2, c154_2, e154, hx154_0, hx154_1, hx154_2, hl154_2, hi154_2⟩ := at_T40 (Kd.S_reads' HO_5.out).2.2 x15_3 p154 q154
                                  cases e154
                                  obtain ⟨ce154, hce154, hMe154, hcc154⟩ := Kd.S_get HO_5.out z40 x15_3 p154 (by first | exact q154 | exact of_decide_eq_true (by first | (with_reducible assumption) | assumption) | (have e_ := (Kd.S_reads' HO_5.out).1; omega))
                                  obtain ⟨ve154_2, rfl, ge154_2⟩ := k40_openM hMe154
                                  have hv154_2 := hcc154 2 _ rfl
                                  rw [add_field _ _ 2 (by omega)] at hv154_2
                                  replace hv154_2 := Option.some.inj (hv154_2.symm.trans hx154_2)
                                  rw [hv154_2] at ge154_2
                                  have HL154_2 := Aside0.mk (show Kd.R k42 42 _ _ _ _ ((rd_T40 t131 x15_3).f2) from ge154_2)
                                  clear hv154_2 ge154_2
                                  clear hcc154 hce154
                                  have HR154_2 := Aside0.mk hi154_2
                                  have HC154_2 := Aside0.mk hl154_2
                                  clear hi154_2 hl154_2
                                  replace p154 := eq_true p154
                                  replace q154 := eq_true q154
                                  go_wp2
                                  repeat (go_quiet (fail); try go_wp2)
                                  go_loopg [14, 16] kj28 (fun kq v14 v16 w' => ∃ (x14_5 : Int) (x16_5 : Int), v14 = .int .i64 x14_5 ∧ v16 = .int .i64 x16_5 ∧ Aside0 (belvederelaw09_BlockLines.l2 kq t131 (wrap64 (Int.tmod (IntKind.u64.wrap (a1)) 6)) t138 x14_5 x15_3 x16_5 = some r) ∧ Aside0 (kq ≤ kj28) ∧ Aside0 (Kd.S k40 40 w' w.heap.size (fun k_ => some k_ ≠ (v139 : Value).ownBlock) (.slice (some ad154) t131.length co30) t131) ∧ Aside0 (Kd.S k40 40 w' w.heap.size (fun k_ => some k_ ≠ ((.slice (some ad154) t131.length co30) : Value).ownBlock) v139 t138) ∧ Aside0 (w'.heap[gb137]? = some (.cells #[.int .i64 t134, .int .i64 t135] 26 (0, 0))) ∧ Aside0 (w'.heap[gb144]? = some (.cells #[.int .i64 t141, .int .i64 t142] 26 (0, 0))) ∧ Aside0 (Kd.C k42 w' A154_2 ((rd_T40 t131 x15_3).f2).length ((rd_T40 t131 x15_3).f2)) ∧ Aside0 (Below w.heap.size w w'))
                                  case atStart => exact ⟨((rd_T40 t131 x15_3).f0), (0), (by first | rfl | (simp; done) | (simp [*]; done)), (by first | rfl | (simp; done) | (simp [*]; done)), H', ⟨Nat.le_refl _⟩, ⟨by (with_reducible repeat (first | apply Kd.S_alloc | apply Kd.S_drewN | apply Kd.S_drew)); exact HO_5.out⟩, ⟨by (with_reducible repeat (first | apply Kd.S_alloc | apply Kd.S_drewN | apply Kd.S_drew)); exact HO_11.out⟩, ⟨by (with_reducible repeat (first | refine blk_drewN ?_ _ | refine blk_drew ?_ | refine blk_alloc ?_ _)); exact BK137.out⟩, ⟨by (with_reducible repeat (first | refine blk_drewN ?_ _ | refine blk_drew ?_ | refine blk_alloc ?_ _)); exact BK144.out⟩, ⟨by repeat (first | (with_reducible exact HR154_2.out) | (with_reducible refine Kd.C_alloc ?_ _) | (with_reducible refine Kd.C_drewN ?_ _) | (with_reducible refine Kd.C_drew ?_) | exact HR154_2.out)⟩, ⟨by repeat (first | (with_reducible first | exact HB.out | apply below_alloc | apply pw_below_drewN | apply below_drew1 | refine below_set ?_ GE137.out | refine below_set ?_ GE144.out) | exact HB.out)⟩⟩
                                  case round =>
                                    clear H'
                                    try clear c1
                                    try clear p1
                                    try clear q1
                                    try clear hx1
                                    try clear c2
                                    try clear p2
                                    try clear c3
                                    try clear c3b0
                                    try clear c3b1
                                    try clear c4
                                    try clear p6
                                    try clear c10
                                    try clear c10b0
                                    try clear c11
                                    try clear c11b0
                                    try clear c11b1
                                    try clear c11b2
                                    try clear c14
                                    try clear p14
                                    try clear q14
                                    try clear hx14
                                    try clear c15
                                    try clear p15
                                    try clear q15
                                    try clear hx15
                                    try clear c16
                                    try clear c20
                                    try clear c20b0
                                    try clear c20b1
                                    try clear c27
                                    try clear c28
                                    try clear c28b0
                                    try clear c31
                                    try clear c31b0
                                    try clear c32
                                    try clear c32b0
                                    try clear c33
                                    try clear c33b0
                                    try clear c34
                                    try clear c34b0
                                    try clear c34b1
                                    try clear c37
                                    try clear c38
                                    try clear c38b0
                                    try clear c39
                                    try clear c39b0
                                    try clear hcz17_0
                                    try clear hcz17_1
                                    try clear hcz9_0
                                    try clear hcz9_1
                                    try clear hfz17_0
                                    try clear hfz17_1
                                    try clear hfz9_0
                                    try clear hfz9_1
                                    try clear hx149_0
                                    try clear hx149_1
                                    try clear hx149_2
                                    try clear hx150_0
                                    try clear hx150_1
                                    try clear hx150_2
                                    try clear hx151_0
                                    try clear hx151_1
                                    try clear hx151_2
                                    try clear hx152_0
                                    try clear hx152_1
                                    try clear hx152_2
                                    try clear hx153_0
                                    try clear hx153_1
                                    try clear hx153_2
                                    try clear hx154_0
                                    try clear hx154_1
                                    try clear hx154_2
                                    try clear p1
                                    try clear p14
                                    try clear p149
                                    try clear p15
                                    try clear p150
                                    try clear p151
                                    try clear p152
                                    try clear p153
                                    try clear p154
                                    try clear p2
                                    try clear p6
                                    try clear q1
                                    try clear q14
                                    try clear q147
                                    try clear q149
                                    try clear q15
                                    try clear q150
                                    try clear q151
                                    try clear q152
                                    try clear q153
                                    try clear q154
                                    obtain ⟨x14_5, x16_5, rfl, rfl, HA, HK5, HO_5, HO_11, BK137, BK144, HR154_2, HB⟩ := hrel
                                    cases gk with
                                    | zero => exact absurd HA.out (by simp [belvederelaw09_BlockLines.l2])
                                    | succ k5 =>
                                      have H := HA.out
                                      clear HA
                                      simp only [belvederelaw09_BlockLines.l2] at H
                                      by_cases c40 : 0 ≤ x15_3
                                      · rw [if_pos c40] at H
                                        have c40b0 : decide (0 ≤ x15_3) = true := decide_eq_true c40
                                        clear c40
                                        by_cases c41 : x15_3 < (t131.length : Int)
                                        · rw [if_pos c41] at H
                                          have c41b0 : decide (x15_3 < (t131.length : Int)) = true := decide_eq_true c41
                                          clear c41
                                          by_cases c42 : x16_5 < (((rd_T40 t131 x15_3).f2).length : Int)
                                          · rw [if_pos c42] at H
                                            have c42b0 : decide (x16_5 < (((rd_T40 t131 x15_3).f2).length : Int)) = true := decide_eq_true c42
                                            clear c42
                                            by_cases c43 : 0 ≤ x16_5
                                            · rw [if_pos c43] at H
                                              have c43b0 : decide (0 ≤ x16_5) = true := decide_eq_true c43
                                              clear c43
                                              by_cases c44 : ((rd_T42 ((rd_T40 t131 x15_3).f2) x16_5).f0) ≤ x14_5
                                              · rw [if_pos c44] at H
                                                have c44b0 : decide (((rd_T42 ((rd_T40 t131 x15_3).f2) x16_5).f0) ≤ x14_5) = true := decide_eq_true c44
                                                clear c44
                                                obtain rfl := Option.some.inj H
                                                have p155 : 0 ≤ (x15_3 : Int) := of_decide_eq_true (by first | (with_reducible assumption) | assumption)
                                                have q155 : x15_3 < (t131.length : Int) := of_decide_eq_true (by first | (with_reducible assumption) | assumption)
                                                obtain ⟨ad155, A155_2, c155_2, e155, hx155_0, hx155_1, hx155_2, hl155_2, hi155_2⟩ := at_T40 (Kd.S_reads' HO_5.out).2.2 x15_3 p155 q155
                                                obtain rfl : ad154 = ad155 := (by injection e155)
                                                obtain ⟨ce155, hce155, hMe155, hcc155⟩ := Kd.S_get HO_5.out z40 x15_3 p155 (by first | exact q155 | exact of_decide_eq_true (by first | (with_reducible assumption) | assumption) | (have e_ := (Kd.S_reads' HO_5.out).1; omega))
                                                obtain ⟨ve155_2, rfl, ge155_2⟩ := k40_openM hMe155
                                                have hv155_2 := hcc155 2 _ rfl
                                                rw [add_field _ _ 2 (by omega)] at hv155_2
                                                replace hv155_2 := Option.some.inj (hv155_2.symm.trans hx155_2)
                                                rw [hv155_2] at ge155_2
                                                have HL155_2 := Aside0.mk (show Kd.R k42 42 _ _ _ _ ((rd_T40 t131 x15_3).f2) from ge155_2)
                                                clear hv155_2 ge155_2
                                                clear hcc155 hce155
                                                have HR155_2 := Aside0.mk hi155_2
                                                have HC155_2 := Aside0.mk hl155_2
                                                clear hi155_2 hl155_2
                                                replace p155 := eq_true p155
                                                replace q155 := eq_true q155
                                                have p156 : 0 ≤ (x15_3 : Int) := of_decide_eq_true (by first | (with_reducible assumption) | assumption)
                                                have q156 : x15_3 < (t131.length : Int) := of_decide_eq_true (by first | (with_reducible assumption) | assumption)
                                                obtain ⟨ad156, A156_2, c156_2, e156, hx156_0, hx156_1, hx156_2, hl156_2, hi156_2⟩ := at_T40 (Kd.S_reads' HO_5.out).2.2 x15_3 p156 q156
                                                obtain rfl : ad154 = ad156 := (by injection e156)
                                                obtain ⟨ce156, hce156, hMe156, hcc156⟩ := Kd.S_get HO_5.out z40 x15_3 p156 (by first | exact q156 | exact of_decide_eq_true (by first | (with_reducible assumption) | assumption) | (have e_ := (Kd.S_reads' HO_5.out).1; omega))
                                                obtain ⟨ve156_2, rfl, ge156_2⟩ := k40_openM hMe156
                                                have hv156_2 := hcc156 2 _ rfl
                                                rw [add_field _ _ 2 (by omega)] at hv156_2
                                                replace hv156_2 := Option.some.inj (hv156_2.symm.trans hx156_2)
                                                rw [hv156_2] at ge156_2
                                                have HL156_2 := Aside0.mk (show Kd.R k42 42 _ _ _ _ ((rd_T40 t131 x15_3).f2) from ge156_2)
                                                clear hv156_2 ge156_2
                                                clear hcc156 hce156
                                                have HR156_2 := Aside0.mk hi156_2
                                                have HC156_2 := Aside0.mk hl156_2
                                                clear hi156_2 hl156_2
                                                replace p156 := eq_true p156
                                                replace q156 := eq_true q156
                                                have ea_ := Option.some.inj (hx155_2.symm.trans hx156_2)
                                                injection ea_ with ea_ en_ ec_
                                                subst ea_
                                                subst ec_
                                                clear en_
                                                have p157 : 0 ≤ (x16_5 : Int) := of_decide_eq_true (by first | (with_reducible assumption) | assumption)
                                                have q157 : x16_5 < (((rd_T40 t131 x15_3).f2).length : Int) := of_decide_eq_true (by first | (with_reducible assumption) | assumption)
                                                obtain ⟨ad157, e157, hx157_0, hx157_1, hx157_2⟩ := at_T42 (by repeat (first | (with_reducible exact HR156_2.out) | (with_reducible refine Kd.C_alloc ?_ _) | (with_reducible refine Kd.C_drewN ?_ _) | (with_reducible refine Kd.C_drew ?_) | exact HR156_2.out)) x16_5 p157 q157
                                                cases e157
                                                replace p157 := eq_true p157
                                                replace q157 := eq_true q157
                                                go_wp2
                                                repeat (go_quiet (fail); try go_wp2)
                                                go_ret
                                                exact ⟨by first | rfl | (simp [errW_none, errW_some] <;> rfl) | (simp [*, errW_none, errW_some] <;> rfl), by repeat (first | (with_reducible first | exact HB.out | apply below_alloc | apply pw_below_drewN | apply below_drew1 | refine below_set ?_ GE137.out | refine below_set ?_ GE144.out) | exact HB.out)⟩
                                              · rw [if_neg c44] at H
                                                have c44b0 : decide (((rd_T42 ((rd_T40 t131 x15_3).f2) x16_5).f0) ≤ x14_5) = false := decide_eq_false c44
                                                clear c44
                                                have H' := Aside0.mk H
                                                clear H
                                                have p155 : 0 ≤ (x15_3 : Int) := of_decide_eq_true (by first | (with_reducible assumption) | assumption)
                                                have q155 : x15_3 < (t131.length : Int) := of_decide_eq_true (by first | (with_reducible assumption) | assumption)
                                                obtain ⟨ad155, A155_2, c155_2, e155, hx155_0, hx155_1, hx155_2, hl155_2, hi155_2⟩ := at_T40 (Kd.S_reads' HO_5.out).2.2 x15_3 p155 q155
                                                obtain rfl : ad154 = ad155 := (by injection e155)
                                                obtain ⟨ce155, hce155, hMe155, hcc155⟩ := Kd.S_get HO_5.out z40 x15_3 p155 (by first | exact q155 | exact of_decide_eq_true (by first | (with_reducible assumption) | assumption) | (have e_ := (Kd.S_reads' HO_5.out).1; omega))
                                                obtain ⟨ve155_2, rfl, ge155_2⟩ := k40_openM hMe155
                                                have hv155_2 := hcc155 2 _ rfl
                                                rw [add_field _ _ 2 (by omega)] at hv155_2
                                                replace hv155_2 := Option.some.inj (hv155_2.symm.trans hx155_2)
                                                rw [hv155_2] at ge155_2
                                                have HL155_2 := Aside0.mk (show Kd.R k42 42 _ _ _ _ ((rd_T40 t131 x15_3).f2) from ge155_2)
                                                clear hv155_2 ge155_2
                                                clear hcc155 hce155
                                                have HR155_2 := Aside0.mk hi155_2
                                                have HC155_2 := Aside0.mk hl155_2
                                                clear hi155_2 hl155_2
                                                replace p155 := eq_true p155
                                                replace q155 := eq_true q155
                                                have p156 : 0 ≤ (x15_3 : Int) := of_decide_eq_true (by first | (with_reducible assumption) | assumption)
                                                have q156 : x15_3 < (t131.length : Int) := of_decide_eq_true (by first | (with_reducible assumption) | assumption)
                                                obtain ⟨ad156, A156_2, c156_2, e156, hx156_0, hx156_1, hx156_2, hl156_2, hi156_2⟩ := at_T40 (Kd.S_reads' HO_5.out).2.2 x15_3 p156 q156
                                                obtain rfl : ad154 = ad156 := (by injection e156)
                                                obtain ⟨ce156, hce156, hMe156, hcc156⟩ := Kd.S_get HO_5.out z40 x15_3 p156 (by first | exact q156 | exact of_decide_eq_true (by first | (with_reducible assumption) | assumption) | (have e_ := (Kd.S_reads' HO_5.out).1; omega))
                                                obtain ⟨ve156_2, rfl, ge156_2⟩ := k40_openM hMe156
                                                have hv156_2 := hcc156 2 _ rfl
                                                rw [add_field _ _ 2 (by omega)] at hv156_2
                                                replace hv156_2 := Option.some.inj (hv156_2.symm.trans hx156_2)
                                                rw [hv156_2] at ge156_2
                                                have HL156_2 := Aside0.mk (show Kd.R k42 42 _ _ _ _ ((rd_T40 t131 x15_3).f2) from ge156_2)
                                                clear hv156_2 ge156_2
                                                clear hcc156 hce156
                                                have HR156_2 := Aside0.mk hi156_2
                                                have HC156_2 := Aside0.mk hl156_2
                                                clear hi156_2 hl156_2
                                                replace p156 := eq_true p156
                                                replace q156 := eq_true q156
                                                have ea_ := Option.some.inj (hx155_2.symm.trans hx156_2)
                                                injection ea_ with ea_ en_ ec_
                                                subst ea_
                                                subst ec_
                                                clear en_
                                                have p157 : 0 ≤ (x16_5 : Int) := of_decide_eq_true (by first | (with_reducible assumption) | assumption)
                                                have q157 : x16_5 < (((rd_T40 t131 x15_3).f2).length : Int) := of_decide_eq_true (by first | (with_reducible assumption) | assumption)
                                                obtain ⟨ad157, e157, hx157_0, hx157_1, hx157_2⟩ := at_T42 (by repeat (first | (with_reducible exact HR156_2.out) | (with_reducible refine Kd.C_alloc ?_ _) | (with_reducible refine Kd.C_drewN ?_ _) | (with_reducible refine Kd.C_drew ?_) | exact HR156_2.out)) x16_5 p157 q157
                                                cases e157
                                                replace p157 := eq_true p157
                                                replace q157 := eq_true q157
                                                have p158 : 0 ≤ (x15_3 : Int) := of_decide_eq_true (by first | (with_reducible assumption) | assumption)
                                                have q158 : x15_3 < (t131.length : Int) := of_decide_eq_true (by first | (with_reducible assumption) | assumption)
                                                obtain ⟨ad158, A158_2, c158_2, e158, hx158_0, hx158_1, hx158_2, hl158_2, hi158_2⟩ := at_T40 (Kd.S_reads' HO_5.out).2.2 x15_3 p158 q158
                                                obtain rfl : ad154 = ad158 := (by injection e158)
                                                obtain ⟨ce158, hce158, hMe158, hcc158⟩ := Kd.S_get HO_5.out z40 x15_3 p158 (by first | exact q158 | exact of_decide_eq_true (by first | (with_reducible assumption) | assumption) | (have e_ := (Kd.S_reads' HO_5.out).1; omega))
                                                obtain ⟨ve158_2, rfl, ge158_2⟩ := k40_openM hMe158
                                                have hv158_2 := hcc158 2 _ rfl
                                                rw [add_field _ _ 2 (by omega)] at hv158_2
                                                replace hv158_2 := Option.some.inj (hv158_2.symm.trans hx158_2)
                                                rw [hv158_2] at ge158_2
                                                have HL158_2 := Aside0.mk (show Kd.R k42 42 _ _ _ _ ((rd_T40 t131 x15_3).f2) from ge158_2)
                                                clear hv158_2 ge158_2
                                                clear hcc158 hce158
                                                have HR158_2 := Aside0.mk hi158_2
                                                have HC158_2 := Aside0.mk hl158_2
                                                clear hi158_2 hl158_2
                                                replace p158 := eq_true p158
                                                replace q158 := eq_true q158
                                                have ea_ := Option.some.inj (hx155_2.symm.trans hx158_2)
                                                injection ea_ with ea_ en_ ec_
                                                subst ea_
                                                subst ec_
                                                clear en_
                                                have p159 : 0 ≤ (x16_5 : Int) := of_decide_eq_true (by first | (with_reducible assumption) | assumption)
                                                have q159 : x16_5 < (((rd_T40 t131 x15_3).f2).length : Int) := of_decide_eq_true (by first | (with_reducible assumption) | assumption)
                                                obtain ⟨ad159, e159, hx159_0, hx159_1, hx159_2⟩ := at_T42 (by repeat (first | (with_reducible exact HR158_2.out) | (with_reducible refine Kd.C_alloc ?_ _) | (with_reducible refine Kd.C_drewN ?_ _) | (with_reducible refine Kd.C_drew ?_) | exact HR158_2.out)) x16_5 p159 q159
                                                cases e159
                                                replace p159 := eq_true p159
                                                replace q159 := eq_true q159
                                                go_wp2
                                                repeat (go_quiet (fail); try go_wp2)
                                                go_roundg k5
                                                case measure => have := HK1.out; have := HJ12.out; have := HK3.out; have := HJ28.out; have := HK5.out; omega
                                                case rel => exact ⟨((rd_T42 ((rd_T40 t131 x15_3).f2) x16_5).f0), (wrap64 (x16_5 + 1)), (by first | rfl | (simp; done) | (simp [*]; done)), (by first | rfl | (simp; done) | (simp [*]; done)), H', ⟨by have := HK1.out; have := HJ12.out; have := HK3.out; have := HJ28.out; have := HK5.out; omega⟩, ⟨by (with_reducible repeat (first | apply Kd.S_alloc | apply Kd.S_drewN | apply Kd.S_drew)); exact HO_5.out⟩, ⟨by (with_reducible repeat (first | apply Kd.S_alloc | apply Kd.S_drewN | apply Kd.S_drew)); exact HO_11.out⟩, ⟨by (with_reducible repeat (first | refine blk_drewN ?_ _ | refine blk_drew ?_ | refine blk_alloc ?_ _)); exact BK137.out⟩, ⟨by (with_reducible repeat (first | refine blk_drewN ?_ _ | refine blk_drew ?_ | refine blk_alloc ?_ _)); exact BK144.out⟩, ⟨by repeat (first | (with_reducible exact HR154_2.out) | (with_reducible refine Kd.C_alloc ?_ _) | (with_reducible refine Kd.C_drewN ?_ _) | (with_reducible refine Kd.C_drew ?_) | exact HR154_2.out)⟩, ⟨by repeat (first | (with_reducible first | exact HB.out | apply below_alloc | apply pw_below_drewN | apply below_drew1 | refine below_set ?_ GE137.out | refine below_set ?_ GE144.out) | exact HB.out)⟩⟩
                                            · rw [if_neg c43] at H
                                              exact absurd H (by simp)
                                          · rw [if_neg c42] at H
                                            have c42b0 : decide (x16_5 < (((rd_T40 t131 x15_3).f2).length : Int)) = false := decide_eq_false c42
                                            clear c42
                                            have H' := Aside0.mk H
                                            clear H
                                            have p155 : 0 ≤ (x15_3 : Int) := of_decide_eq_true (by first | (with_reducible assumption) | assumption)
                                            have q155 : x15_3 < (t131.length : Int) := of_decide_eq_true (by first | (with_reducible assumption) | assumption)
                                            obtain ⟨ad155, A155_2, c155_2, e155, hx155_0, hx155_1, hx155_2, hl155_2, hi155_2⟩ := at_T40 (Kd.S_reads' HO_5.out).2.2 x15_3 p155 q155
                                            obtain rfl : ad154 = ad155 := (by injection e155)
                                            obtain ⟨ce155, hce155, hMe155, hcc155⟩ := Kd.S_get HO_5.out z40 x15_3 p155 (by first | exact q155 | exact of_decide_eq_true (by first | (with_reducible assumption) | assumption) | (have e_ := (Kd.S_reads' HO_5.out).1; omega))
                                            obtain ⟨ve155_2, rfl, ge155_2⟩ := k40_openM hMe155
                                            have hv155_2 := hcc155 2 _ rfl
                                            rw [add_field _ _ 2 (by omega)] at hv155_2
                                            replace hv155_2 := Option.some.inj (hv155_2.symm.trans hx155_2)
                                            rw [hv155_2] at ge155_2
                                            have HL155_2 := Aside0.mk (show Kd.R k42 42 _ _ _ _ ((rd_T40 t131 x15_3).f2) from ge155_2)
                                            clear hv155_2 ge155_2
                                            clear hcc155 hce155
                                            have HR155_2 := Aside0.mk hi155_2
                                            have HC155_2 := Aside0.mk hl155_2
                                            clear hi155_2 hl155_2
                                            replace p155 := eq_true p155
                                            replace q155 := eq_true q155
                                            go_wp2
                                            repeat (go_quiet (fail); try go_wp2)
                                            go_roundg k5
                                            case measure => have := HK1.out; have := HJ12.out; have := HK3.out; have := HJ28.out; have := HK5.out; omega
                                            case rel => exact ⟨(x14_5), (wrap64 (x15_3 + 1)), (by first | rfl | (simp; done) | (simp [*]; done)), (by first | rfl | (simp; done) | (simp [*]; done)), H', ⟨by have := HK1.out; have := HJ12.out; have := HK3.out; have := HJ28.out; have := HK5.out; omega⟩, ⟨by (with_reducible repeat (first | apply Kd.S_alloc | apply Kd.S_drewN | apply Kd.S_drew)); exact HO_5.out⟩, ⟨by (with_reducible repeat (first | apply Kd.S_alloc | apply Kd.S_drewN | apply Kd.S_drew)); exact HO_11.out⟩, ⟨by (with_reducible repeat (first | refine blk_drewN ?_ _ | refine blk_drew ?_ | refine blk_alloc ?_ _)); exact BK137.out⟩, ⟨by (with_reducible repeat (first | refine blk_drewN ?_ _ | refine blk_drew ?_ | refine blk_alloc ?_ _)); exact BK144.out⟩, ⟨by repeat (first | (with_reducible first | exact HB.out | apply below_alloc | apply pw_below_drewN | apply below_drew1 | refine below_set ?_ GE137.out | refine below_set ?_ GE144.out) | exact HB.out)⟩⟩
                                        · rw [if_neg c41] at H
                                          exact absurd H (by simp)
                                      · rw [if_neg c40] at H
                                        exact absurd H (by simp)
                                · rw [if_neg c39] at H
                                  exact absurd H (by simp)
                              · rw [if_neg c38] at H
                                exact absurd H (by simp)
                      · rw [if_neg c28] at H
                        have c28b0 : decide (x15_3 < (t131.length : Int)) = false := decide_eq_false c28
                        clear c28
                        replace H := Option.bind_eq_some_iff.mp H
                        obtain ⟨t148, A450, H⟩ := H
                        replace H : (some t148) = some r := H
                        have A45 := Aside0.mk A450
                        clear A450
                        obtain rfl := Option.some.inj H
                        obtain ⟨Ao46, co46, eo46⟩ := Kd.S_slice HO_5.out
                        subst eo46
                        go_wp2_with (first | (go_at_call 6; (with_reducible refine (belvederelaw09_sure.calls k3  t148 _ ?side1 A45.out).mono ?_); (case side1 => exact Glob.below HG.out (by repeat (first | (with_reducible first | exact HB.out | apply below_alloc | apply pw_below_drewN | apply below_drew1 | refine below_set ?_ GE137.out | refine below_set ?_ GE144.out) | exact HB.out))); rintro e w47 ⟨rfl, hb⟩; have n0_ := Aside0.mk (Kd.S_below (by (with_reducible repeat (first | apply Kd.S_alloc | apply Kd.S_drewN | apply Kd.S_drew)); exact HO_5.out) hb); have n1_ := Aside0.mk (Kd.S_below (by (with_reducible repeat (first | apply Kd.S_alloc | apply Kd.S_drewN | apply Kd.S_drew)); exact HO_11.out) hb); have n2_ := Aside0.mk (blk_below (g := gb137) (o := .cells #[.int .i64 t134, .int .i64 t135] 26 (0, 0)) (by (with_reducible repeat (first | refine blk_drewN ?_ _ | refine blk_drew ?_ | refine blk_alloc ?_ _)); exact BK137.out) hb); have n3_ := Aside0.mk (blk_below (g := gb144) (o := .cells #[.int .i64 t141, .int .i64 t142] 26 (0, 0)) (by (with_reducible repeat (first | refine blk_drewN ?_ _ | refine blk_drew ?_ | refine blk_alloc ?_ _)); exact BK144.out) hb); have n4_ := Aside0.mk (below_step (by repeat (first | (with_reducible first | exact HB.out | apply below_alloc | apply pw_below_drewN | apply below_drew1 | refine below_set ?_ GE137.out | refine below_set ?_ GE144.out) | exact HB.out)) hb); clear HO_5; clear HO_11; clear BK137; clear BK144; clear HB; have HO_5 := n0_; have HO_11 := n1_; have BK137 := n2_; have BK144 := n3_; have HB := n4_; clear n0_ n1_ n2_ n3_ n4_; (try clear hb); (try clear hb2); (try clear hk); (try clear hi)))
                        repeat (go_quiet (first | (go_at_call 6; (with_reducible refine (belvederelaw09_sure.calls k3  t148 _ ?side1 A45.out).mono ?_); (case side1 => exact Glob.below HG.out (by repeat (first | (with_reducible first | exact HB.out | apply below_alloc | apply pw_below_drewN | apply below_drew1 | refine below_set ?_ GE137.out | refine below_set ?_ GE144.out) | exact HB.out))); rintro e w47 ⟨rfl, hb⟩; have n0_ := Aside0.mk (Kd.S_below (by (with_reducible repeat (first | apply Kd.S_alloc | apply Kd.S_drewN | apply Kd.S_drew)); exact HO_5.out) hb); have n1_ := Aside0.mk (Kd.S_below (by (with_reducible repeat (first | apply Kd.S_alloc | apply Kd.S_drewN | apply Kd.S_drew)); exact HO_11.out) hb); have n2_ := Aside0.mk (blk_below (g := gb137) (o := .cells #[.int .i64 t134, .int .i64 t135] 26 (0, 0)) (by (with_reducible repeat (first | refine blk_drewN ?_ _ | refine blk_drew ?_ | refine blk_alloc ?_ _)); exact BK137.out) hb); have n3_ := Aside0.mk (blk_below (g := gb144) (o := .cells #[.int .i64 t141, .int .i64 t142] 26 (0, 0)) (by (with_reducible repeat (first | refine blk_drewN ?_ _ | refine blk_drew ?_ | refine blk_alloc ?_ _)); exact BK144.out) hb); have n4_ := Aside0.mk (below_step (by repeat (first | (with_reducible first | exact HB.out | apply below_alloc | apply pw_below_drewN | apply below_drew1 | refine below_set ?_ GE137.out | refine below_set ?_ GE144.out) | exact HB.out)) hb); clear HO_5; clear HO_11; clear BK137; clear BK144; clear HB; have HO_5 := n0_; have HO_11 := n1_; have BK137 := n2_; have BK144 := n3_; have HB := n4_; clear n0_ n1_ n2_ n3_ n4_; (try clear hb); (try clear hb2); (try clear hk); (try clear hi))); try go_wp2_with (first | (go_at_call 6; (with_reducible refine (belvederelaw09_sure.calls k3  t148 _ ?side1 A45.out).mono ?_); (case side1 => exact Glob.below HG.out (by repeat (first | (with_reducible first | exact HB.out | apply below_alloc | apply pw_below_drewN | apply below_drew1 | refine below_set ?_ GE137.out | refine below_set ?_ GE144.out) | exact HB.out))); rintro e w47 ⟨rfl, hb⟩; have n0_ := Aside0.mk (Kd.S_below (by (with_reducible repeat (first | apply Kd.S_alloc | apply Kd.S_drewN | apply Kd.S_drew)); exact HO_5.out) hb); have n1_ := Aside0.mk (Kd.S_below (by (with_reducible repeat (first | apply Kd.S_alloc | apply Kd.S_drewN | apply Kd.S_drew)); exact HO_11.out) hb); have n2_ := Aside0.mk (blk_below (g := gb137) (o := .cells #[.int .i64 t134, .int .i64 t135] 26 (0, 0)) (by (with_reducible repeat (first | refine blk_drewN ?_ _ | refine blk_drew ?_ | refine blk_alloc ?_ _)); exact BK137.out) hb); have n3_ := Aside0.mk (blk_below (g := gb144) (o := .cells #[.int .i64 t141, .int .i64 t142] 26 (0, 0)) (by (with_reducible repeat (first | refine blk_drewN ?_ _ | refine blk_drew ?_ | refine blk_alloc ?_ _)); exact BK144.out) hb); have n4_ := Aside0.mk (below_step (by repeat (first | (with_reducible first | exact HB.out | apply below_alloc | apply pw_below_drewN | apply below_drew1 | refine below_set ?_ GE137.out | refine below_set ?_ GE144.out) | exact HB.out)) hb); clear HO_5; clear HO_11; clear BK137; clear BK144; clear HB; have HO_5 := n0_; have HO_11 := n1_; have BK137 := n2_; have BK144 := n3_; have HB := n4_; clear n0_ n1_ n2_ n3_ n4_; (try clear hb); (try clear hb2); (try clear hk); (try clear hi))))
                        go_ret
                        exact ⟨by first | rfl | (simp [errW_none, errW_some] <;> rfl) | (simp [*, errW_none, errW_some] <;> rfl), by repeat (first | (with_reducible first | exact HB.out | apply below_alloc | apply pw_below_drewN | apply below_drew1 | refine below_set ?_ GE137.out | refine below_set ?_ GE144.out) | exact HB.out)⟩
                · have H1 : (if t134 = 0 then (if t141 = 0 then (if t135 = t142 then ((belvederelaw09_sure.f kj12).bind fun t160 => (some t160)) else (some false)) else (if t141 = (wrap64 (t134 + (wrap64 (Int.tmod (IntKind.u64.wrap (a1)) 6)))) then (if t135 = t142 then ((belvederelaw09_sure.f kj12).bind fun t161 => (some t161)) else (some false)) else (some false))) else (if t141 = (wrap64 (t134 + (wrap64 (Int.tmod (IntKind.u64.wrap (a1)) 6)))) then (if t135 = t142 then ((belvederelaw09_sure.f kj12).bind fun t162 => (some t162)) else (some false)) else (some false))) = some r := by rw [if_neg (show ¬ (some q147).isNone = true by simp)] at H; exact H
                  clear H
                  have H := H1
                  clear H1
                  try simp only [errW_none, errW_some]
                  by_cases c48 : t134 = 0
                  · rw [if_pos c48] at H
                    have c48b0 : (t134 == 0) = true := beq_iff_eq.mpr c48
                    have c48b1 : (t134 != 0) = false := bne_eq_false_iff_eq.mpr c48
                    clear c48
                    by_cases c49 : t141 = 0
                    · rw [if_pos c49] at H
                      have c49b0 : (t141 == 0) = true := beq_iff_eq.mpr c49
                      have c49b1 : (t141 != 0) = false := bne_eq_false_iff_eq.mpr c49
                      clear c49
                      by_cases c50 : t135 = t142
                      · rw [if_pos c50] at H
                        have c50b0 : (t135 == t142) = true := beq_iff_eq.mpr c50
                        have c50b1 : (t135 != t142) = false := bne_eq_false_iff_eq.mpr c50
                        clear c50
                        replace H := Option.bind_eq_some_iff.mp H
                        obtain ⟨t160, A510, H⟩ := H
                        replace H : (some t160) = some r := H
                        have A51 := Aside0.mk A510
                        clear A510
                        obtain rfl := Option.some.inj H
                        have hnb52 := NB137_144.out
                        have hnc52 := NB144_137.out
                        have hcz53_0 : wc.cell? ⟨gb137, 0, none⟩ = some (.int .i64 t134) := (blk_cell BK137.out 0).trans rfl
                        have hcz53_1 : wc.cell? ⟨gb137, 1, none⟩ = some (.int .i64 t135) := (blk_cell BK137.out 1).trans rfl
                        have hfz53_0 := blk_frozen BK137.out 0
                        have hfz53_1 := blk_frozen BK137.out 1
                        have hcz54_0 : wc.cell? ⟨gb144, 0, none⟩ = some (.int .i64 t141) := (blk_cell BK144.out 0).trans rfl
                        have hcz54_1 : wc.cell? ⟨gb144, 1, none⟩ = some (.int .i64 t142) := (blk_cell BK144.out 1).trans rfl
                        have hfz54_0 := blk_frozen BK144.out 0
                        have hfz54_1 := blk_frozen BK144.out 1
                        go_wp2_with (first | (go_at_call 6; (with_reducible refine (belvederelaw09_sure.calls kj12  t160 _ ?side1 A51.out).mono ?_); (case side1 => exact Glob.below HG.out (by repeat (first | (with_reducible first | exact HB.out | apply below_alloc | apply pw_below_drewN | apply below_drew1 | refine below_set ?_ GE137.out | refine below_set ?_ GE144.out) | exact HB.out))); rintro e w55 ⟨rfl, hb⟩; have n0_ := Aside0.mk (Kd.S_below (by (with_reducible repeat (first | apply Kd.S_alloc | apply Kd.S_drewN | apply Kd.S_drew)); exact HO_5.out) hb); have n1_ := Aside0.mk (Kd.S_below (by (with_reducible repeat (first | apply Kd.S_alloc | apply Kd.S_drewN | apply Kd.S_drew)); exact HO_11.out) hb); have n2_ := Aside0.mk (blk_below (g := gb137) (o := .cells #[.int .i64 t134, .int .i64 t135] 26 (0, 0)) (by (with_reducible repeat (first | refine blk_drewN ?_ _ | refine blk_drew ?_ | refine blk_alloc ?_ _)); exact BK137.out) hb); have n3_ := Aside0.mk (blk_below (g := gb144) (o := .cells #[.int .i64 t141, .int .i64 t142] 26 (0, 0)) (by (with_reducible repeat (first | refine blk_drewN ?_ _ | refine blk_drew ?_ | refine blk_alloc ?_ _)); exact BK144.out) hb); have n4_ := Aside0.mk (below_step (by repeat (first | (with_reducible first | exact HB.out | apply below_alloc | apply pw_below_drewN | apply below_drew1 | refine below_set ?_ GE137.out | refine below_set ?_ GE144.out) | exact HB.out)) hb); clear HO_5; clear HO_11; clear BK137; clear BK144; clear HB; have HO_5 := n0_; have HO_11 := n1_; have BK137 := n2_; have BK144 := n3_; have HB := n4_; clear n0_ n1_ n2_ n3_ n4_; (try clear hb); (try clear hb2); (try clear hk); (try clear hi)))
                        repeat (go_quiet (first | (go_at_call 6; (with_reducible refine (belvederelaw09_sure.calls kj12  t160 _ ?side1 A51.out).mono ?_); (case side1 => exact Glob.below HG.out (by repeat (first | (with_reducible first | exact HB.out | apply below_alloc | apply pw_below_drewN | apply below_drew1 | refine below_set ?_ GE137.out | refine below_set ?_ GE144.out) | exact HB.out))); rintro e w55 ⟨rfl, hb⟩; have n0_ := Aside0.mk (Kd.S_below (by (with_reducible repeat (first | apply Kd.S_alloc | apply Kd.S_drewN | apply Kd.S_drew)); exact HO_5.out) hb); have n1_ := Aside0.mk (Kd.S_below (by (with_reducible repeat (first | apply Kd.S_alloc | apply Kd.S_drewN | apply Kd.S_drew)); exact HO_11.out) hb); have n2_ := Aside0.mk (blk_below (g := gb137) (o := .cells #[.int .i64 t134, .int .i64 t135] 26 (0, 0)) (by (with_reducible repeat (first | refine blk_drewN ?_ _ | refine blk_drew ?_ | refine blk_alloc ?_ _)); exact BK137.out) hb); have n3_ := Aside0.mk (blk_below (g := gb144) (o := .cells #[.int .i64 t141, .int .i64 t142] 26 (0, 0)) (by (with_reducible repeat (first | refine blk_drewN ?_ _ | refine blk_drew ?_ | refine blk_alloc ?_ _)); exact BK144.out) hb); have n4_ := Aside0.mk (below_step (by repeat (first | (with_reducible first | exact HB.out | apply below_alloc | apply pw_below_drewN | apply below_drew1 | refine below_set ?_ GE137.out | refine below_set ?_ GE144.out) | exact HB.out)) hb); clear HO_5; clear HO_11; clear BK137; clear BK144; clear HB; have HO_5 := n0_; have HO_11 := n1_; have BK137 := n2_; have BK144 := n3_; have HB := n4_; clear n0_ n1_ n2_ n3_ n4_; (try clear hb); (try clear hb2); (try clear hk); (try clear hi))); try go_wp2_with (first | (go_at_call 6; (with_reducible refine (belvederelaw09_sure.calls kj12  t160 _ ?side1 A51.out).mono ?_); (case side1 => exact Glob.below HG.out (by repeat (first | (with_reducible first | exact HB.out | apply below_alloc | apply pw_below_drewN | apply below_drew1 | refine below_set ?_ GE137.out | refine below_set ?_ GE144.out) | exact HB.out))); rintro e w55 ⟨rfl, hb⟩; have n0_ := Aside0.mk (Kd.S_below (by (with_reducible repeat (first | apply Kd.S_alloc | apply Kd.S_drewN | apply Kd.S_drew)); exact HO_5.out) hb); have n1_ := Aside0.mk (Kd.S_below (by (with_reducible repeat (first | apply Kd.S_alloc | apply Kd.S_drewN | apply Kd.S_drew)); exact HO_11.out) hb); have n2_ := Aside0.mk (blk_below (g := gb137) (o := .cells #[.int .i64 t134, .int .i64 t135] 26 (0, 0)) (by (with_reducible repeat (first | refine blk_drewN ?_ _ | refine blk_drew ?_ | refine blk_alloc ?_ _)); exact BK137.out) hb); have n3_ := Aside0.mk (blk_below (g := gb144) (o := .cells #[.int .i64 t141, .int .i64 t142] 26 (0, 0)) (by (with_reducible repeat (first | refine blk_drewN ?_ _ | refine blk_drew ?_ | refine blk_alloc ?_ _)); exact BK144.out) hb); have n4_ := Aside0.mk (below_step (by repeat (first | (with_reducible first | exact HB.out | apply below_alloc | apply pw_below_drewN | apply below_drew1 | refine below_set ?_ GE137.out | refine below_set ?_ GE144.out) | exact HB.out)) hb); clear HO_5; clear HO_11; clear BK137; clear BK144; clear HB; have HO_5 := n0_; have HO_11 := n1_; have BK137 := n2_; have BK144 := n3_; have HB := n4_; clear n0_ n1_ n2_ n3_ n4_; (try clear hb); (try clear hb2); (try clear hk); (try clear hi))))
                        go_ret
                        exact ⟨by first | rfl | (simp [errW_none, errW_some] <;> rfl) | (simp [*, errW_none, errW_some] <;> rfl), by repeat (first | (with_reducible first | exact HB.out | apply below_alloc | apply pw_below_drewN | apply below_drew1 | refine below_set ?_ GE137.out | refine below_set ?_ GE144.out) | exact HB.out)⟩
                      · rw [if_neg c50] at H
                        have c50b0 : (t135 == t142) = false := beq_eq_false_iff_ne.mpr c50
                        have c50b1 : (t135 != t142) = true := bne_iff_ne.mpr c50
                        obtain rfl := Option.some.inj H
                        have hnb56 := NB137_144.out
                        have hnc56 := NB144_137.out
                        have hcz57_0 : wc.cell? ⟨gb137, 0, none⟩ = some (.int .i64 t134) := (blk_cell BK137.out 0).trans rfl
                        have hcz57_1 : wc.cell? ⟨gb137, 1, none⟩ = some (.int .i64 t135) := (blk_cell BK137.out 1).trans rfl
                        have hfz57_0 := blk_frozen BK137.out 0
                        have hfz57_1 := blk_frozen BK137.out 1
                        have hcz58_0 : wc.cell? ⟨gb144, 0, none⟩ = some (.int .i64 t141) := (blk_cell BK144.out 0).trans rfl
                        have hcz58_1 : wc.cell? ⟨gb144, 1, none⟩ = some (.int .i64 t142) := (blk_cell BK144.out 1).trans rfl
                        have hfz58_0 := blk_frozen BK144.out 0
                        have hfz58_1 := blk_frozen BK144.out 1
                        go_wp2
                        repeat (go_quiet (fail); try go_wp2)
                        go_ret
                        exact ⟨by first | rfl | (simp [errW_none, errW_some] <;> rfl) | (simp [*, errW_none, errW_some] <;> rfl), by repeat (first | (with_reducible first | exact HB.out | apply below_alloc | apply pw_below_drewN | apply below_drew1 | refine below_set ?_ GE137.out | refine below_set ?_ GE144.out) | exact HB.out)⟩
                    · rw [if_neg c49] at H
                      have c49b0 : (t141 == 0) = false := beq_eq_false_iff_ne.mpr c49
                      have c49b1 : (t141 != 0) = true := bne_iff_ne.mpr c49
                      by_cases c59 : t141 = (wrap64 (t134 + (wrap64 (Int.tmod (IntKind.u64.wrap (a1)) 6))))
                      · rw [if_pos c59] at H
                        have c59b0 : (t141 == (wrap64 (t134 + (wrap64 (Int.tmod (IntKind.u64.wrap (a1)) 6))))) = true := beq_iff_eq.mpr c59
                        have c59b1 : (t141 != (wrap64 (t134 + (wrap64 (Int.tmod (IntKind.u64.wrap (a1)) 6))))) = false := bne_eq_false_iff_eq.mpr c59
                        clear c59
                        by_cases c60 : t135 = t142
                        · rw [if_pos c60] at H
                          have c60b0 : (t135 == t142) = true := beq_iff_eq.mpr c60
                          have c60b1 : (t135 != t142) = false := bne_eq_false_iff_eq.mpr c60
                          clear c60
                          replace H := Option.bind_eq_some_iff.mp H
                          obtain ⟨t161, A610, H⟩ := H
                          replace H : (some t161) = some r := H
                          have A61 := Aside0.mk A610
                          clear A610
                          obtain rfl := Option.some.inj H
                          have hnb62 := NB137_144.out
                          have hnc62 := NB144_137.out
                          have hcz63_0 : wc.cell? ⟨gb137, 0, none⟩ = some (.int .i64 t134) := (blk_cell BK137.out 0).trans rfl
                          have hcz63_1 : wc.cell? ⟨gb137, 1, none⟩ = some (.int .i64 t135) := (blk_cell BK137.out 1).trans rfl
                          have hfz63_0 := blk_frozen BK137.out 0
                          have hfz63_1 := blk_frozen BK137.out 1
                          have hcz64_0 : wc.cell? ⟨gb144, 0, none⟩ = some (.int .i64 t141) := (blk_cell BK144.out 0).trans rfl
                          have hcz64_1 : wc.cell? ⟨gb144, 1, none⟩ = some (.int .i64 t142) := (blk_cell BK144.out 1).trans rfl
                          have hfz64_0 := blk_frozen BK144.out 0
                          have hfz64_1 := blk_frozen BK144.out 1
                          go_wp2_with (first | (go_at_call 6; (with_reducible refine (belvederelaw09_sure.calls kj12  t161 _ ?side1 A61.out).mono ?_); (case side1 => exact Glob.below HG.out (by repeat (first | (with_reducible first | exact HB.out | apply below_alloc | apply pw_below_drewN | apply below_drew1 | refine below_set ?_ GE137.out | refine below_set ?_ GE144.out) | exact HB.out))); rintro e w65 ⟨rfl, hb⟩; have n0_ := Aside0.mk (Kd.S_below (by (with_reducible repeat (first | apply Kd.S_alloc | apply Kd.S_drewN | apply Kd.S_drew)); exact HO_5.out) hb); have n1_ := Aside0.mk (Kd.S_below (by (with_reducible repeat (first | apply Kd.S_alloc | apply Kd.S_drewN | apply Kd.S_drew)); exact HO_11.out) hb); have n2_ := Aside0.mk (blk_below (g := gb137) (o := .cells #[.int .i64 t134, .int .i64 t135] 26 (0, 0)) (by (with_reducible repeat (first | refine blk_drewN ?_ _ | refine blk_drew ?_ | refine blk_alloc ?_ _)); exact BK137.out) hb); have n3_ := Aside0.mk (blk_below (g := gb144) (o := .cells #[.int .i64 t141, .int .i64 t142] 26 (0, 0)) (by (with_reducible repeat (first | refine blk_drewN ?_ _ | refine blk_drew ?_ | refine blk_alloc ?_ _)); exact BK144.out) hb); have n4_ := Aside0.mk (below_step (by repeat (first | (with_reducible first | exact HB.out | apply below_alloc | apply pw_below_drewN | apply below_drew1 | refine below_set ?_ GE137.out | refine below_set ?_ GE144.out) | exact HB.out)) hb); clear HO_5; clear HO_11; clear BK137; clear BK144; clear HB; have HO_5 := n0_; have HO_11 := n1_; have BK137 := n2_; have BK144 := n3_; have HB := n4_; clear n0_ n1_ n2_ n3_ n4_; (try clear hb); (try clear hb2); (try clear hk); (try clear hi)))
                          repeat (go_quiet (first | (go_at_call 6; (with_reducible refine (belvederelaw09_sure.calls kj12  t161 _ ?side1 A61.out).mono ?_); (case side1 => exact Glob.below HG.out (by repeat (first | (with_reducible first | exact HB.out | apply below_alloc | apply pw_below_drewN | apply below_drew1 | refine below_set ?_ GE137.out | refine below_set ?_ GE144.out) | exact HB.out))); rintro e w65 ⟨rfl, hb⟩; have n0_ := Aside0.mk (Kd.S_below (by (with_reducible repeat (first | apply Kd.S_alloc | apply Kd.S_drewN | apply Kd.S_drew)); exact HO_5.out) hb); have n1_ := Aside0.mk (Kd.S_below (by (with_reducible repeat (first | apply Kd.S_alloc | apply Kd.S_drewN | apply Kd.S_drew)); exact HO_11.out) hb); have n2_ := Aside0.mk (blk_below (g := gb137) (o := .cells #[.int .i64 t134, .int .i64 t135] 26 (0, 0)) (by (with_reducible repeat (first | refine blk_drewN ?_ _ | refine blk_drew ?_ | refine blk_alloc ?_ _)); exact BK137.out) hb); have n3_ := Aside0.mk (blk_below (g := gb144) (o := .cells #[.int .i64 t141, .int .i64 t142] 26 (0, 0)) (by (with_reducible repeat (first | refine blk_drewN ?_ _ | refine blk_drew ?_ | refine blk_alloc ?_ _)); exact BK144.out) hb); have n4_ := Aside0.mk (below_step (by repeat (first | (with_reducible first | exact HB.out | apply below_alloc | apply pw_below_drewN | apply below_drew1 | refine below_set ?_ GE137.out | refine below_set ?_ GE144.out) | exact HB.out)) hb); clear HO_5; clear HO_11; clear BK137; clear BK144; clear HB; have HO_5 := n0_; have HO_11 := n1_; have BK137 := n2_; have BK144 := n3_; have HB := n4_; clear n0_ n1_ n2_ n3_ n4_; (try clear hb); (try clear hb2); (try clear hk); (try clear hi))); try go_wp2_with (first | (go_at_call 6; (with_reducible refine (belvederelaw09_sure.calls kj12  t161 _ ?side1 A61.out).mono ?_); (case side1 => exact Glob.below HG.out (by repeat (first | (with_reducible first | exact HB.out | apply below_alloc | apply pw_below_drewN | apply below_drew1 | refine below_set ?_ GE137.out | refine below_set ?_ GE144.out) | exact HB.out))); rintro e w65 ⟨rfl, hb⟩; have n0_ := Aside0.mk (Kd.S_below (by (with_reducible repeat (first | apply Kd.S_alloc | apply Kd.S_drewN | apply Kd.S_drew)); exact HO_5.out) hb); have n1_ := Aside0.mk (Kd.S_below (by (with_reducible repeat (first | apply Kd.S_alloc | apply Kd.S_drewN | apply Kd.S_drew)); exact HO_11.out) hb); have n2_ := Aside0.mk (blk_below (g := gb137) (o := .cells #[.int .i64 t134, .int .i64 t135] 26 (0, 0)) (by (with_reducible repeat (first | refine blk_drewN ?_ _ | refine blk_drew ?_ | refine blk_alloc ?_ _)); exact BK137.out) hb); have n3_ := Aside0.mk (blk_below (g := gb144) (o := .cells #[.int .i64 t141, .int .i64 t142] 26 (0, 0)) (by (with_reducible repeat (first | refine blk_drewN ?_ _ | refine blk_drew ?_ | refine blk_alloc ?_ _)); exact BK144.out) hb); have n4_ := Aside0.mk (below_step (by repeat (first | (with_reducible first | exact HB.out | apply below_alloc | apply pw_below_drewN | apply below_drew1 | refine below_set ?_ GE137.out | refine below_set ?_ GE144.out) | exact HB.out)) hb); clear HO_5; clear HO_11; clear BK137; clear BK144; clear HB; have HO_5 := n0_; have HO_11 := n1_; have BK137 := n2_; have BK144 := n3_; have HB := n4_; clear n0_ n1_ n2_ n3_ n4_; (try clear hb); (try clear hb2); (try clear hk); (try clear hi))))
                          go_ret
                          exact ⟨by first | rfl | (simp [errW_none, errW_some] <;> rfl) | (simp [*, errW_none, errW_some] <;> rfl), by repeat (first | (with_reducible first | exact HB.out | apply below_alloc | apply pw_below_drewN | apply below_drew1 | refine below_set ?_ GE137.out | refine below_set ?_ GE144.out) | exact HB.out)⟩
                        · rw [if_neg c60] at H
                          have c60b0 : (t135 == t142) = false := beq_eq_false_iff_ne.mpr c60
                          have c60b1 : (t135 != t142) = true := bne_iff_ne.mpr c60
                          obtain rfl := Option.some.inj H
                          have hnb66 := NB137_144.out
                          have hnc66 := NB144_137.out
                          have hcz67_0 : wc.cell? ⟨gb137, 0, none⟩ = some (.int .i64 t134) := (blk_cell BK137.out 0).trans rfl
                          have hcz67_1 : wc.cell? ⟨gb137, 1, none⟩ = some (.int .i64 t135) := (blk_cell BK137.out 1).trans rfl
                          have hfz67_0 := blk_frozen BK137.out 0
                          have hfz67_1 := blk_frozen BK137.out 1
                          have hcz68_0 : wc.cell? ⟨gb144, 0, none⟩ = some (.int .i64 t141) := (blk_cell BK144.out 0).trans rfl
                          have hcz68_1 : wc.cell? ⟨gb144, 1, none⟩ = some (.int .i64 t142) := (blk_cell BK144.out 1).trans rfl
                          have hfz68_0 := blk_frozen BK144.out 0
                          have hfz68_1 := blk_frozen BK144.out 1
                          go_wp2
                          repeat (go_quiet (fail); try go_wp2)
                          go_ret
                          exact ⟨by first | rfl | (simp [errW_none, errW_some] <;> rfl) | (simp [*, errW_none, errW_some] <;> rfl), by repeat (first | (with_reducible first | exact HB.out | apply below_alloc | apply pw_below_drewN | apply below_drew1 | refine below_set ?_ GE137.out | refine below_set ?_ GE144.out) | exact HB.out)⟩
                      · rw [if_neg c59] at H
                        have c59b0 : (t141 == (wrap64 (t134 + (wrap64 (Int.tmod (IntKind.u64.wrap (a1)) 6))))) = false := beq_eq_false_iff_ne.mpr c59
                        have c59b1 : (t141 != (wrap64 (t134 + (wrap64 (Int.tmod (IntKind.u64.wrap (a1)) 6))))) = true := bne_iff_ne.mpr c59
                        obtain rfl := Option.some.inj H
                        have hnb69 := NB137_144.out
                        have hnc69 := NB144_137.out
                        have hcz70_0 : wc.cell? ⟨gb137, 0, none⟩ = some (.int .i64 t134) := (blk_cell BK137.out 0).trans rfl
                        have hcz70_1 : wc.cell? ⟨gb137, 1, none⟩ = some (.int .i64 t135) := (blk_cell BK137.out 1).trans rfl
                        have hfz70_0 := blk_frozen BK137.out 0
                        have hfz70_1 := blk_frozen BK137.out 1
                        have hcz71_0 : wc.cell? ⟨gb144, 0, none⟩ = some (.int .i64 t141) := (blk_cell BK144.out 0).trans rfl
                        have hcz71_1 : wc.cell? ⟨gb144, 1, none⟩ = some (.int .i64 t142) := (blk_cell BK144.out 1).trans rfl
                        have hfz71_0 := blk_frozen BK144.out 0
                        have hfz71_1 := blk_frozen BK144.out 1
                        go_wp2
                        repeat (go_quiet (fail); try go_wp2)
                        go_ret
                        exact ⟨by first | rfl | (simp [errW_none, errW_some] <;> rfl) | (simp [*, errW_none, errW_some] <;> rfl), by repeat (first | (with_reducible first | exact HB.out | apply below_alloc | apply pw_below_drewN | apply below_drew1 | refine below_set ?_ GE137.out | refine below_set ?_ GE144.out) | exact HB.out)⟩
                  · rw [if_neg c48] at H
                    have c48b0 : (t134 == 0) = false := beq_eq_false_iff_ne.mpr c48
                    have c48b1 : (t134 != 0) = true := bne_iff_ne.mpr c48
                    by_cases c72 : t141 = (wrap64 (t134 + (wrap64 (Int.tmod (IntKind.u64.wrap (a1)) 6))))
                    · rw [if_pos c72] at H
                      have c72b0 : (t141 == (wrap64 (t134 + (wrap64 (Int.tmod (IntKind.u64.wrap (a1)) 6))))) = true := beq_iff_eq.mpr c72
                      have c72b1 : (t141 != (wrap64 (t134 + (wrap64 (Int.tmod (IntKind.u64.wrap (a1)) 6))))) = false := bne_eq_false_iff_eq.mpr c72
                      clear c72
                      by_cases c73 : t135 = t142
                      · rw [if_pos c73] at H
                        have c73b0 : (t135 == t142) = true := beq_iff_eq.mpr c73
                        have c73b1 : (t135 != t142) = false := bne_eq_false_iff_eq.mpr c73
                        clear c73
                        replace H := Option.bind_eq_some_iff.mp H
                        obtain ⟨t162, A740, H⟩ := H
                        replace H : (some t162) = some r := H
                        have A74 := Aside0.mk A740
                        clear A740
                        obtain rfl := Option.some.inj H
                        have hnb75 := NB137_144.out
                        have hnc75 := NB144_137.out
                        have hcz76_0 : wc.cell? ⟨gb137, 0, none⟩ = some (.int .i64 t134) := (blk_cell BK137.out 0).trans rfl
                        have hcz76_1 : wc.cell? ⟨gb137, 1, none⟩ = some (.int .i64 t135) := (blk_cell BK137.out 1).trans rfl
                        have hfz76_0 := blk_frozen BK137.out 0
                        have hfz76_1 := blk_frozen BK137.out 1
                        have hcz77_0 : wc.cell? ⟨gb144, 0, none⟩ = some (.int .i64 t141) := (blk_cell BK144.out 0).trans rfl
                        have hcz77_1 : wc.cell? ⟨gb144, 1, none⟩ = some (.int .i64 t142) := (blk_cell BK144.out 1).trans rfl
                        have hfz77_0 := blk_frozen BK144.out 0
                        have hfz77_1 := blk_frozen BK144.out 1
                        go_wp2_with (first | (go_at_call 6; (with_reducible refine (belvederelaw09_sure.calls kj12  t162 _ ?side1 A74.out).mono ?_); (case side1 => exact Glob.below HG.out (by repeat (first | (with_reducible first | exact HB.out | apply below_alloc | apply pw_below_drewN | apply below_drew1 | refine below_set ?_ GE137.out | refine below_set ?_ GE144.out) | exact HB.out))); rintro e w78 ⟨rfl, hb⟩; have n0_ := Aside0.mk (Kd.S_below (by (with_reducible repeat (first | apply Kd.S_alloc | apply Kd.S_drewN | apply Kd.S_drew)); exact HO_5.out) hb); have n1_ := Aside0.mk (Kd.S_below (by (with_reducible repeat (first | apply Kd.S_alloc | apply Kd.S_drewN | apply Kd.S_drew)); exact HO_11.out) hb); have n2_ := Aside0.mk (blk_below (g := gb137) (o := .cells #[.int .i64 t134, .int .i64 t135] 26 (0, 0)) (by (with_reducible repeat (first | refine blk_drewN ?_ _ | refine blk_drew ?_ | refine blk_alloc ?_ _)); exact BK137.out) hb); have n3_ := Aside0.mk (blk_below (g := gb144) (o := .cells #[.int .i64 t141, .int .i64 t142] 26 (0, 0)) (by (with_reducible repeat (first | refine blk_drewN ?_ _ | refine blk_drew ?_ | refine blk_alloc ?_ _)); exact BK144.out) hb); have n4_ := Aside0.mk (below_step (by repeat (first | (with_reducible first | exact HB.out | apply below_alloc | apply pw_below_drewN | apply below_drew1 | refine below_set ?_ GE137.out | refine below_set ?_ GE144.out) | exact HB.out)) hb); clear HO_5; clear HO_11; clear BK137; clear BK144; clear HB; have HO_5 := n0_; have HO_11 := n1_; have BK137 := n2_; have BK144 := n3_; have HB := n4_; clear n0_ n1_ n2_ n3_ n4_; (try clear hb); (try clear hb2); (try clear hk); (try clear hi)))
                        repeat (go_quiet (first | (go_at_call 6; (with_reducible refine (belvederelaw09_sure.calls kj12  t162 _ ?side1 A74.out).mono ?_); (case side1 => exact Glob.below HG.out (by repeat (first | (with_reducible first | exact HB.out | apply below_alloc | apply pw_below_drewN | apply below_drew1 | refine below_set ?_ GE137.out | refine below_set ?_ GE144.out) | exact HB.out))); rintro e w78 ⟨rfl, hb⟩; have n0_ := Aside0.mk (Kd.S_below (by (with_reducible repeat (first | apply Kd.S_alloc | apply Kd.S_drewN | apply Kd.S_drew)); exact HO_5.out) hb); have n1_ := Aside0.mk (Kd.S_below (by (with_reducible repeat (first | apply Kd.S_alloc | apply Kd.S_drewN | apply Kd.S_drew)); exact HO_11.out) hb); have n2_ := Aside0.mk (blk_below (g := gb137) (o := .cells #[.int .i64 t134, .int .i64 t135] 26 (0, 0)) (by (with_reducible repeat (first | refine blk_drewN ?_ _ | refine blk_drew ?_ | refine blk_alloc ?_ _)); exact BK137.out) hb); have n3_ := Aside0.mk (blk_below (g := gb144) (o := .cells #[.int .i64 t141, .int .i64 t142] 26 (0, 0)) (by (with_reducible repeat (first | refine blk_drewN ?_ _ | refine blk_drew ?_ | refine blk_alloc ?_ _)); exact BK144.out) hb); have n4_ := Aside0.mk (below_step (by repeat (first | (with_reducible first | exact HB.out | apply below_alloc | apply pw_below_drewN | apply below_drew1 | refine below_set ?_ GE137.out | refine below_set ?_ GE144.out) | exact HB.out)) hb); clear HO_5; clear HO_11; clear BK137; clear BK144; clear HB; have HO_5 := n0_; have HO_11 := n1_; have BK137 := n2_; have BK144 := n3_; have HB := n4_; clear n0_ n1_ n2_ n3_ n4_; (try clear hb); (try clear hb2); (try clear hk); (try clear hi))); try go_wp2_with (first | (go_at_call 6; (with_reducible refine (belvederelaw09_sure.calls kj12  t162 _ ?side1 A74.out).mono ?_); (case side1 => exact Glob.below HG.out (by repeat (first | (with_reducible first | exact HB.out | apply below_alloc | apply pw_below_drewN | apply below_drew1 | refine below_set ?_ GE137.out | refine below_set ?_ GE144.out) | exact HB.out))); rintro e w78 ⟨rfl, hb⟩; have n0_ := Aside0.mk (Kd.S_below (by (with_reducible repeat (first | apply Kd.S_alloc | apply Kd.S_drewN | apply Kd.S_drew)); exact HO_5.out) hb); have n1_ := Aside0.mk (Kd.S_below (by (with_reducible repeat (first | apply Kd.S_alloc | apply Kd.S_drewN | apply Kd.S_drew)); exact HO_11.out) hb); have n2_ := Aside0.mk (blk_below (g := gb137) (o := .cells #[.int .i64 t134, .int .i64 t135] 26 (0, 0)) (by (with_reducible repeat (first | refine blk_drewN ?_ _ | refine blk_drew ?_ | refine blk_alloc ?_ _)); exact BK137.out) hb); have n3_ := Aside0.mk (blk_below (g := gb144) (o := .cells #[.int .i64 t141, .int .i64 t142] 26 (0, 0)) (by (with_reducible repeat (first | refine blk_drewN ?_ _ | refine blk_drew ?_ | refine blk_alloc ?_ _)); exact BK144.out) hb); have n4_ := Aside0.mk (below_step (by repeat (first | (with_reducible first | exact HB.out | apply below_alloc | apply pw_below_drewN | apply below_drew1 | refine below_set ?_ GE137.out | refine below_set ?_ GE144.out) | exact HB.out)) hb); clear HO_5; clear HO_11; clear BK137; clear BK144; clear HB; have HO_5 := n0_; have HO_11 := n1_; have BK137 := n2_; have BK144 := n3_; have HB := n4_; clear n0_ n1_ n2_ n3_ n4_; (try clear hb); (try clear hb2); (try clear hk); (try clear hi))))
                        go_ret
                        exact ⟨by first | rfl | (simp [errW_none, errW_some] <;> rfl) | (simp [*, errW_none, errW_some] <;> rfl), by repeat (first | (with_reducible first | exact HB.out | apply below_alloc | apply pw_below_drewN | apply below_drew1 | refine below_set ?_ GE137.out | refine below_set ?_ GE144.out) | exact HB.out)⟩
                      · rw [if_neg c73] at H
                        have c73b0 : (t135 == t142) = false := beq_eq_false_iff_ne.mpr c73
                        have c73b1 : (t135 != t142) = true := bne_iff_ne.mpr c73
                        obtain rfl := Option.some.inj H
                        have hnb79 := NB137_144.out
                        have hnc79 := NB144_137.out
                        have hcz80_0 : wc.cell? ⟨gb137, 0, none⟩ = some (.int .i64 t134) := (blk_cell BK137.out 0).trans rfl
                        have hcz80_1 : wc.cell? ⟨gb137, 1, none⟩ = some (.int .i64 t135) := (blk_cell BK137.out 1).trans rfl
                        have hfz80_0 := blk_frozen BK137.out 0
                        have hfz80_1 := blk_frozen BK137.out 1
                        have hcz81_0 : wc.cell? ⟨gb144, 0, none⟩ = some (.int .i64 t141) := (blk_cell BK144.out 0).trans rfl
                        have hcz81_1 : wc.cell? ⟨gb144, 1, none⟩ = some (.int .i64 t142) := (blk_cell BK144.out 1).trans rfl
                        have hfz81_0 := blk_frozen BK144.out 0
                        have hfz81_1 := blk_frozen BK144.out 1
                        go_wp2
                        repeat (go_quiet (fail); try go_wp2)
                        go_ret
                        exact ⟨by first | rfl | (simp [errW_none, errW_some] <;> rfl) | (simp [*, errW_none, errW_some] <;> rfl), by repeat (first | (with_reducible first | exact HB.out | apply below_alloc | apply pw_below_drewN | apply below_drew1 | refine below_set ?_ GE137.out | refine below_set ?_ GE144.out) | exact HB.out)⟩
                    · rw [if_neg c72] at H
                      have c72b0 : (t141 == (wrap64 (t134 + (wrap64 (Int.tmod (IntKind.u64.wrap (a1)) 6))))) = false := beq_eq_false_iff_ne.mpr c72
                      have c72b1 : (t141 != (wrap64 (t134 + (wrap64 (Int.tmod (IntKind.u64.wrap (a1)) 6))))) = true := bne_iff_ne.mpr c72
                      obtain rfl := Option.some.inj H
                      have hnb82 := NB137_144.out
                      have hnc82 := NB144_137.out
                      have hcz83_0 : wc.cell? ⟨gb137, 0, none⟩ = some (.int .i64 t134) := (blk_cell BK137.out 0).trans rfl
                      have hcz83_1 : wc.cell? ⟨gb137, 1, none⟩ = some (.int .i64 t135) := (blk_cell BK137.out 1).trans rfl
                      have hfz83_0 := blk_frozen BK137.out 0
                      have hfz83_1 := blk_frozen BK137.out 1
                      have hcz84_0 : wc.cell? ⟨gb144, 0, none⟩ = some (.int .i64 t141) := (blk_cell BK144.out 0).trans rfl
                      have hcz84_1 : wc.cell? ⟨gb144, 1, none⟩ = some (.int .i64 t142) := (blk_cell BK144.out 1).trans rfl
                      have hfz84_0 := blk_frozen BK144.out 0
                      have hfz84_1 := blk_frozen BK144.out 1
                      go_wp2
                      repeat (go_quiet (fail); try go_wp2)
                      go_ret
                      exact ⟨by first | rfl | (simp [errW_none, errW_some] <;> rfl) | (simp [*, errW_none, errW_some] <;> rfl), by repeat (first | (with_reducible first | exact HB.out | apply below_alloc | apply pw_below_drewN | apply below_drew1 | refine below_set ?_ GE137.out | refine below_set ?_ GE144.out) | exact HB.out)⟩

/-- THE ONE PURE STATEMENT of belvederelaw09_BlockLines: yours. -/
def belvederelaw09_BlockLines.Pure : Prop := ∀ (a0 : ByteArray) (a1 : Int), a0.size ≤ 140737488351232 → (Lit.int .i64 a1).wf = true → ∃ k, belvederelaw09_BlockLines.f k a0 a1 = some true
theorem belvederelaw09_BlockLines.walk (P : belvederelaw09_BlockLines.Pure) (a0 : ByteArray) (a1 : Int) (w : World) (hG : Glob w) (w0 : a0.size ≤ 140737488351232) (w1 : (Lit.int .i64 a1).wf = true) :
    Calls Tryd.prog 4 #[.string a0, .int .i64 a1] w fun e w' => e = .returned (.bool true) ∧ Below w.heap.size w w' := by
  obtain ⟨k, h⟩ := P a0 a1 w0 w1
  refine (belvederelaw09_BlockLines.calls k a0 a1 true w hG h).mono ?_
  rintro e w' ⟨rfl, hd⟩
  exact ⟨rfl, hd⟩
end Go.Proofs.YtefjppdchgdjlaaDoor.P
