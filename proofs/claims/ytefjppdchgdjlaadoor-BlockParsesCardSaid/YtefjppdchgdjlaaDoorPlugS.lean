/- sameBlocks of the block chapter: by hand (the print's text is too long for one file). -/
import Derived.Test.YtefjppdchgdjlaaDoorPx0
import Derived.Test.YtefjppdchgdjlaaDoorPlugO
namespace Go.Proofs.YtefjppdchgdjlaaDoor.P
open Go.RowKit Go.Proofs.YtefjppdchgdjlaaDoorW.PrintWords Go.Proofs.YtefjppdchgdjlaaDoorW.PrintLast Go.Proofs.YtefjppdchgdjlaaDoorW.PrintMore
set_option linter.unusedVariables false
set_option linter.unusedSimpArgs false

theorem alloc_any {P : Program} {ops : Array Oper} {Q : Exit → Act → World → Prop} {oi : Oper} {N : Tmp} {a : Act} {W : World} {K : Act → World → Prop} {cs : Array Value} {t : TypeId} (hw : Region.wanted oi (yielded ops a.tmps) = true) (hN : oi.dst = some N)
    (hrun : (execOp a.eval oi).run P W = .ok (.value (.pointer (some ⟨W.heap.size, 0, none⟩))) (W.alloc (.cells cs t (0, 0))))
    (h : ∀ g, g = W.heap.size → ∀ w1, w1.heap[g]? = some (.cells cs t (0, 0)) → Below W.heap.size W w1 → K (a.put (some N) (.pointer (some ⟨g, 0, none⟩))) w1) :
    if Region.wanted oi (yielded ops a.tmps) = true then Oper.wp P oi a W K Q else K (a.put (some N) undef) W :=
  value_ hw hN hrun (h _ rfl _ (blk_new W _) (below_alloc (Below.refl _ _) _))
def sameF (x : S42) (y : S52) (at_ : Bool) : Bool := (x.f1.toList == y.f1.toList) && ((x.f2.toList == y.f2.toList) && (!at_ || (x.f0 == y.f0)))
def sameB1 (x : S40) (y : S46) (at_ : Bool) : Bool := (x.f1.toList == y.f1.toList) && ((!at_ || (x.f0 == y.f0)) && ((x.f2.length == y.f2.length) && (List.range x.f2.length).all fun k => sameF (rd_T42 x.f2 (k : Int)) (rd_T52 y.f2 (k : Int)) at_))
def sameBl (a : List S40) (b : List S46) (at_ : Bool) : Bool := (a.length == b.length) && (List.range a.length).all fun i => sameB1 (rd_T40 a (i : Int)) (rd_T46 b (i : Int)) at_
theorem range_all_false {p : Nat → Bool} {n k : Nat} (h : k < n) (hp : p k = false) : (List.range n).all p = false := by
  rw [Bool.eq_false_iff]
  intro hall
  have := List.all_eq_true.1 hall k (List.mem_range.2 h)
  rw [hp] at this
  cases this
theorem range_all_true {p : Nat → Bool} {n : Nat} (h : ∀ k, k < n → p k = true) : (List.range n).all p = true := List.all_eq_true.2 fun k hk => h k (List.mem_range.1 hk)
def belvederelaw09_sameBlocks.f (l0 : List S40) (l1 : List S46) (a2 : Bool) : Option Bool := some (sameBl l0 l1 a2)
set_option maxHeartbeats 16000000 in
set_option maxRecDepth 100000 in
theorem belvederelaw09_sameBlocks.calls (A0 : Option Addr) (c0 : Nat) (l0 : List S40) (A1 : Option Addr) (c1 : Nat) (l1 : List S46) (a2 : Bool) (r : Bool) (w : World) (hr0 : Kd.C k40 w A0 l0.length l0) (hc0 : l0.length ≤ c0) (hr1 : Kd.C k46 w A1 l1.length l1) (hc1 : l1.length ≤ c1) (h : belvederelaw09_sameBlocks.f l0 l1 a2 = some r) :
    Calls Tryd.prog 9 #[.slice A0 l0.length c0, .slice A1 l1.length c1, .bool a2] w fun e w' => e = .returned (.bool r) ∧ Below w.heap.size w w' := by
  have hu40 := Tryd.underlying40
  have hu42 := Tryd.underlying42
  have hu46 := Tryd.underlying46
  have hu52 := Tryd.underlying52
  obtain rfl : sameBl l0 l1 a2 = r := Option.some.inj h
  clear h
  have HA := Aside0.mk hr0
  have HC := Aside0.mk hr1
  have HB := Aside0.mk (Below.refl w.heap.size w)
  have HM := Aside0.mk (Kd.C_max hr0)
  clear hr0 hr1
  by_cases hlen : l0.length = l1.length
  · have hl1 : ((l0.length : Int) == (l1.length : Int)) = true := beq_iff_eq.mpr (by omega)
    have hl2 : ((l0.length : Int) != (l1.length : Int)) = false := by simp only [bne, hl1]; rfl
    have HE := Aside0.mk hlen
    clear hlen
    go_enter Tryd.func9, Tryd.ntmps9
    go_wp2
    go_loopg [7] l0.length (fun kq v7 w' => ∃ i : Nat, v7 = .int .i64 (i : Int) ∧ Aside0 (i ≤ l0.length ∧ l0.length - i ≤ kq) ∧ Aside0 (Below w.heap.size w w') ∧ Aside0 (∀ j, j < i → sameB1 (rd_T40 l0 (j : Int)) (rd_T46 l1 (j : Int)) a2 = true))
    case atStart => exact ⟨0, rfl, ⟨by omega, by omega⟩, HB, ⟨fun j hj => absurd hj (Nat.not_lt_zero _)⟩⟩
    case round =>
      clear HB
      obtain ⟨i, rfl, HI, HB, AL⟩ := hrel
      by_cases hlt : i < l0.length
      · have hltz : decide ((i : Int) < (l0.length : Int)) = true := decide_eq_true (by omega)
        have p0 : (0 : Int) ≤ (i : Int) := by omega
        have q0 : (i : Int) < (l0.length : Int) := by omega
        have q1 : (i : Int) < (l1.length : Int) := by have := HE.out; omega
        obtain ⟨ad, FA, ca, eA, ha0, ha1, ha2, hla, gA⟩ := at_T40 HA.out (i : Int) p0 q0
        obtain ⟨bd, FB, cb, eB, hb0, hb1, hb2, hlb, gB⟩ := at_T46 HC.out (i : Int) p0 q1
        cases eA; cases eB
        simp only [Int.toNat_natCast] at ha0 ha1 ha2 hb0 hb1 hb2
        have OUT : Aside0 (∀ x y, rd_T40 l0 (i : Int) = x → rd_T46 l1 (i : Int) = y → sameB1 x y a2 = false → sameBl l0 l1 a2 = false) := ⟨fun x y ex ey e => by
          subst ex; subst ey
          unfold sameBl
          rw [range_all_false (p := fun i => sameB1 (rd_T40 l0 (i : Int)) (rd_T46 l1 (i : Int)) a2) hlt e, Bool.and_false]⟩
        have NXT : Aside0 (∀ x y, rd_T40 l0 (i : Int) = x → rd_T46 l1 (i : Int) = y → sameB1 x y a2 = true → ∀ j, j < i + 1 → sameB1 (rd_T40 l0 (j : Int)) (rd_T46 l1 (j : Int)) a2 = true) := ⟨fun x y ex ey e j hj => by
          subst ex; subst ey
          by_cases hj2 : j = i
          · rw [hj2]; exact e
          · exact AL.out j (by omega)⟩
        have hwi : Aside0 (wrap64 ((i : Int) + 1) = ((i : Int) + 1)) := ⟨IntWalk.wrap64_in _ ⟨by omega, by have := HM.out; omega⟩⟩
        have D : Aside0 (l0.length - (i + 1) < l0.length - i ∧ i + 1 ≤ l0.length) := ⟨by omega, by omega⟩
        clear AL
        generalize hx : rd_T40 l0 (i : Int) = x at ha0 ha1 ha2 hla gA OUT NXT
        generalize hy : rd_T46 l1 (i : Int) = y at hb0 hb1 hb2 hlb gB OUT NXT
        have OUT2 : Aside0 (sameB1 x y a2 = false → sameBl l0 l1 a2 = false) := ⟨OUT.out x y rfl rfl⟩
        have NXT2 : Aside0 (sameB1 x y a2 = true → ∀ j, j < i + 1 → sameB1 (rd_T40 l0 (j : Int)) (rd_T46 l1 (j : Int)) a2 = true) := ⟨NXT.out x y rfl rfl⟩
        clear OUT NXT hx hy
        have GA := Aside0.mk gA
        have GB := Aside0.mk gB
        have KA0 := Aside0.mk ha0
        have KA1 := Aside0.mk ha1
        have KA2 := Aside0.mk ha2
        have KB0 := Aside0.mk hb0
        have KB1 := Aside0.mk hb1
        have KB2 := Aside0.mk hb2
        have HMA := Aside0.mk (Kd.C_max gA)
        clear gA gB hla hlb
        replace ha0 := pw_cell_below HB.out ha0
        replace ha1 := pw_cell_below HB.out ha1
        replace ha2 := pw_cell_below HB.out ha2
        replace hb0 := pw_cell_below HB.out hb0
        replace hb1 := pw_cell_below HB.out hb1
        replace hb2 := pw_cell_below HB.out hb2
        replace q0 := eq_true q0
        replace q1 := eq_true q1
        have HQ0 := Aside0.mk q0
        have HQ1 := Aside0.mk q1
        clear hlt p0
        cases a2 with
        | false =>
          cases hk : (x.f1.toList == y.f1.toList) with
          | false =>
            have B : Aside0 (sameBl l0 l1 false = false) := ⟨OUT2.out (by unfold sameB1; rw [hk]; rfl)⟩
            clear OUT2 NXT2
            go_wp2
            repeat (go_quiet (fail); try go_wp2)
            go_ret
            exact ⟨by rw [B.out]; rfl, (by repeat (first | (with_reducible first | exact HB.out | apply below_alloc | apply pw_below_drewN | apply below_drew1) | exact HB.out))⟩
          | true =>
            by_cases hn : x.f2.length = y.f2.length
            · have hn1 : ((x.f2.length : Int) == (y.f2.length : Int)) = true := beq_iff_eq.mpr (by omega)
              have hn3 : ((x.f2.length : Int) != (y.f2.length : Int)) = false := by simp only [bne, hn1]; rfl
              have HNE := Aside0.mk hn
              clear hn
              have HMN : Aside0 (x.f2.length ≤ 9223372036854775807) := HMA
              go_wp2
              go_quiet (fail)
              go_wp2
              go_loopg [8] x.f2.length (fun kq v8 w' => ∃ k : Nat, v8 = .int .i64 (k : Int) ∧ Aside0 (k ≤ x.f2.length ∧ x.f2.length - k ≤ kq) ∧ Aside0 (Below w.heap.size w w') ∧ Aside0 (∀ j, j < k → sameF (rd_T42 x.f2 (j : Int)) (rd_T52 y.f2 (j : Int)) false = true))
              case atStart => exact ⟨0, rfl, ⟨by omega, by omega⟩, ⟨(by repeat (first | (with_reducible first | exact HB.out | apply below_alloc | apply pw_below_drewN | apply below_drew1) | exact HB.out))⟩, ⟨fun j hj => absurd hj (Nat.not_lt_zero _)⟩⟩
              case round =>
                clear HB ha0 ha1 ha2 hb0 hb1 hb2
                obtain ⟨k, rfl, HK, HB, AK⟩ := hrel
                by_cases hlt : k < x.f2.length
                · have hltk : decide ((k : Int) < (x.f2.length : Int)) = true := decide_eq_true (by omega)
                  have p0 : (0 : Int) ≤ (k : Int) := by omega
                  have q2 : (k : Int) < (x.f2.length : Int) := by omega
                  have q3 : (k : Int) < (y.f2.length : Int) := by have := HNE.out; omega
                  obtain ⟨fd, eF, sp0, sp1, sp2⟩ := at_T42 GA.out (k : Int) p0 q2
                  obtain ⟨gd, eG, sq0, sq1, sq2⟩ := at_T52 GB.out (k : Int) p0 q3
                  subst eF; subst eG
                  simp only [Int.toNat_natCast] at sp0 sp1 sp2 sq0 sq1 sq2
                  replace sp0 := pw_cell_below HB.out sp0
                  replace sp1 := pw_cell_below HB.out sp1
                  replace sp2 := pw_cell_below HB.out sp2
                  replace sq0 := pw_cell_below HB.out sq0
                  replace sq1 := pw_cell_below HB.out sq1
                  replace sq2 := pw_cell_below HB.out sq2
                  have sa2 := pw_cell_below HB.out KA2.out
                  have sb2 := pw_cell_below HB.out KB2.out
                  have OUTK : Aside0 (∀ p q, rd_T42 x.f2 (k : Int) = p → rd_T52 y.f2 (k : Int) = q → sameF p q false = false → sameB1 x y false = false) := ⟨fun p q ex ey e => by
                    subst ex; subst ey
                    unfold sameB1
                    rw [range_all_false (p := fun k => sameF (rd_T42 x.f2 (k : Int)) (rd_T52 y.f2 (k : Int)) false) hlt e]; simp⟩
                  have NXTK : Aside0 (∀ p q, rd_T42 x.f2 (k : Int) = p → rd_T52 y.f2 (k : Int) = q → sameF p q false = true → ∀ j, j < k + 1 → sameF (rd_T42 x.f2 (j : Int)) (rd_T52 y.f2 (j : Int)) false = true) := ⟨fun p q ex ey e j hj => by
                    subst ex; subst ey
                    by_cases hj2 : j = k
                    · rw [hj2]; exact e
                    · exact AK.out j (by omega)⟩
                  have hwk : Aside0 (wrap64 ((k : Int) + 1) = ((k : Int) + 1)) := ⟨IntWalk.wrap64_in _ ⟨by omega, by have := HMN.out; omega⟩⟩
                  have DK : Aside0 (x.f2.length - (k + 1) < x.f2.length - k ∧ k + 1 ≤ x.f2.length) := ⟨by omega, by omega⟩
                  clear AK
                  generalize hp : rd_T42 x.f2 (k : Int) = p at sp0 sp1 sp2 OUTK NXTK
                  generalize hq : rd_T52 y.f2 (k : Int) = q at sq0 sq1 sq2 OUTK NXTK
                  have OUTK2 : Aside0 (sameF p q false = false → sameBl l0 l1 false = false) := ⟨fun e => OUT2.out (OUTK.out p q rfl rfl e)⟩
                  have NXTK2 := Aside0.mk (NXTK.out p q rfl rfl)
                  clear OUTK NXTK hp hq hlt p0
                  replace q2 := eq_true q2
                  replace q3 := eq_true q3
                  go_wp2
                  have BW0 := Aside0.mk (Below.refl wr.heap.size wr)
                  refine start_ (n := 20) (S := fun w' => w'.cell? ⟨(ad.add (i * 3)).block, (ad.add (i * 3)).off + 2, none⟩ = some (.slice (some fd) x.f2.length ca) ∧ w'.cell? (fd.add (k * 3)) = some (.int .i64 p.f0) ∧ w'.cell? ⟨(fd.add (k * 3)).block, (fd.add (k * 3)).off + 1, none⟩ = some (.string p.f1) ∧ w'.cell? ⟨(fd.add (k * 3)).block, (fd.add (k * 3)).off + 2, none⟩ = some (.string p.f2) ∧ w'.cell? ⟨(bd.add (i * 3)).block, (bd.add (i * 3)).off + 2, none⟩ = some (.slice (some gd) y.f2.length cb) ∧ w'.cell? (gd.add (k * 3)) = some (.int .i64 q.f0) ∧ w'.cell? ⟨(gd.add (k * 3)).block, (gd.add (k * 3)).off + 1, none⟩ = some (.string q.f1) ∧ w'.cell? ⟨(gd.add (k * 3)).block, (gd.add (k * 3)).off + 2, none⟩ = some (.string q.f2)) (ds := [19]) #[false, false, false, false, false, false, false, false, false, false, false, false, false, false, false, false, false, false, false, false] (by kernel_rfl) rfl rfl ⟨sa2, sp0, sp1, sp2, sb2, sq0, sq1, sq2⟩ (fun hHeld => ?_)
                  refine pure_ (i := 0) (N := some 74) (v := ?_) (a' := ?_) #[true, false, false, false, false, false, false, false, false, false, false, false, false, false, false, false, false, false, false, false] rfl rfl (by kernel_rfl) (fun _ _ _ h => h) (Or.inl ⟨by rfl, ?_⟩) ?_ ?_
                  rotate_left
                  · intro w'
                    go_simp
                    with_reducible rfl
                  rotate_left
                  · simp only [Act.put, List.setIfInBounds_toArray, List.set_cons_zero, List.set_cons_succ, i64_w, i32_w]
                    rfl
                  refine pure_ (i := 1) (N := some 75) (v := ?_) (a' := ?_) #[true, true, false, false, false, false, false, false, false, false, false, false, false, false, false, false, false, false, false, false] rfl rfl (by kernel_rfl) (fun _ _ _ h => h) (Or.inl ⟨by rfl, ?_⟩) ?_ ?_
                  rotate_left
                  · intro w'
                    go_simp
                    with_reducible rfl
                  rotate_left
                  · simp only [Act.put, List.setIfInBounds_toArray, List.set_cons_zero, List.set_cons_succ, i64_w, i32_w]
                    rfl
                  refine pure_ (i := 2) (N := some 76) (v := ?_) (a' := ?_) #[true, true, true, false, false, false, false, false, false, false, false, false, false, false, false, false, false, false, false, false] rfl rfl (by kernel_rfl) (fun _ _ _ h => h) (Or.inl ⟨by rfl, ?_⟩) ?_ ?_
                  rotate_left
                  · intro w'
                    go_simp
                    with_reducible rfl
                  rotate_left
                  · simp only [Act.put, List.setIfInBounds_toArray, List.set_cons_zero, List.set_cons_succ, i64_w, i32_w]
                    rfl
                  refine pure_ (i := 3) (N := some 77) (v := ?_) (a' := ?_) #[true, true, true, true, false, false, false, false, false, false, false, false, false, false, false, false, false, false, false, false] rfl rfl (by kernel_rfl) (fun _ _ _ h => h) (Or.inl ⟨by rfl, ?_⟩) ?_ ?_
                  rotate_left
                  · intro w'
                    go_simp
                    with_reducible rfl
                  rotate_left
                  · simp only [Act.put, List.setIfInBounds_toArray, List.set_cons_zero, List.set_cons_succ, i64_w, i32_w]
                    rfl
                  refine pure_ (i := 5) (N := some 79) (v := ?_) (a' := ?_) #[true, true, true, true, false, true, false, false, false, false, false, false, false, false, false, false, false, false, false, false] rfl rfl (by kernel_rfl) (fun _ _ _ h => h) (Or.inl ⟨by rfl, ?_⟩) ?_ ?_
                  rotate_left
                  · intro w'
                    go_simp
                    with_reducible rfl
                  rotate_left
                  · simp only [Act.put, List.setIfInBounds_toArray, List.set_cons_zero, List.set_cons_succ, i64_w, i32_w]
                    rfl
                  refine pure_ (i := 8) (N := some 82) (v := ?_) (a' := ?_) #[true, true, true, true, false, true, false, false, true, false, false, false, false, false, false, false, false, false, false, false] rfl rfl (by kernel_rfl) (fun _ _ _ h => h) (Or.inl ⟨by rfl, ?_⟩) ?_ ?_
                  rotate_left
                  · intro w'
                    go_simp
                    with_reducible rfl
                  rotate_left
                  · simp only [Act.put, List.setIfInBounds_toArray, List.set_cons_zero, List.set_cons_succ, i64_w, i32_w]
                    rfl
                  refine pure_ (i := 9) (N := some 83) (v := ?_) (a' := ?_) #[true, true, true, true, false, true, false, false, true, true, false, false, false, false, false, false, false, false, false, false] rfl rfl (by kernel_rfl) (fun _ _ _ h => h) (Or.inl ⟨by rfl, ?_⟩) ?_ ?_
                  rotate_left
                  · intro w'
                    go_simp
                    with_reducible rfl
                  rotate_left
                  · simp only [Act.put, List.setIfInBounds_toArray, List.set_cons_zero, List.set_cons_succ, i64_w, i32_w]
                    rfl
                  refine pure_ (i := 10) (N := some 84) (v := ?_) (a' := ?_) #[true, true, true, true, false, true, false, false, true, true, true, false, false, false, false, false, false, false, false, false] rfl rfl (by kernel_rfl) (fun _ _ _ h => h) (Or.inl ⟨by rfl, ?_⟩) ?_ ?_
                  rotate_left
                  · intro w'
                    go_simp
                    with_reducible rfl
                  rotate_left
                  · simp only [Act.put, List.setIfInBounds_toArray, List.set_cons_zero, List.set_cons_succ, i64_w, i32_w]
                    rfl
                  refine pure_ (i := 11) (N := some 85) (v := ?_) (a' := ?_) #[true, true, true, true, false, true, false, false, true, true, true, true, false, false, false, false, false, false, false, false] rfl rfl (by kernel_rfl) (fun _ _ _ h => h) (Or.inl ⟨by rfl, ?_⟩) ?_ ?_
                  rotate_left
                  · intro w'
                    go_simp
                    with_reducible rfl
                  rotate_left
                  · simp only [Act.put, List.setIfInBounds_toArray, List.set_cons_zero, List.set_cons_succ, i64_w, i32_w]
                    rfl
                  refine pure_ (i := 13) (N := some 87) (v := ?_) (a' := ?_) #[true, true, true, true, false, true, false, false, true, true, true, true, false, true, false, false, false, false, false, false] rfl rfl (by kernel_rfl) (fun _ _ _ h => h) (Or.inl ⟨by rfl, ?_⟩) ?_ ?_
                  rotate_left
                  · intro w'
                    go_simp
                    with_reducible rfl
                  rotate_left
                  · simp only [Act.put, List.setIfInBounds_toArray, List.set_cons_zero, List.set_cons_succ, i64_w, i32_w]
                    rfl
                  refine take_ (i := 4) (N := some 78) (v := ?_) (a' := ?_) #[true, true, true, true, true, true, false, false, true, true, true, true, false, true, false, false, false, false, false, false] rfl rfl (by kernel_rfl) (fun _ _ _ h => h) (Or.inl ⟨by rfl, ?_⟩) hHeld ?_ ?_
                  rotate_left
                  · rintro w' ⟨s0, s1, s2, s3, s4, s5, s6, s7⟩
                    go_simp
                    with_reducible rfl
                  rotate_left
                  · simp only [Act.put, List.setIfInBounds_toArray, List.set_cons_zero, List.set_cons_succ, i64_w, i32_w]
                    rfl
                  refine pure_ (i := 6) (N := some 80) (v := ?_) (a' := ?_) #[true, true, true, true, true, true, true, false, true, true, true, true, false, true, false, false, false, false, false, false] rfl rfl (by kernel_rfl) (fun _ _ _ h => h) (Or.inl ⟨by rfl, ?_⟩) ?_ ?_
                  rotate_left
                  · intro w'
                    go_simp
                    with_reducible rfl
                  rotate_left
                  · simp only [Act.put, List.setIfInBounds_toArray, List.set_cons_zero, List.set_cons_succ, i64_w, i32_w]
                    rfl
                  refine take_ (i := 7) (N := some 81) (v := ?_) (a' := ?_) #[true, true, true, true, true, true, true, true, true, true, true, true, false, true, false, false, false, false, false, false] rfl rfl (by kernel_rfl) (fun _ _ _ h => h) (Or.inl ⟨by rfl, ?_⟩) hHeld ?_ ?_
                  rotate_left
                  · rintro w' ⟨s0, s1, s2, s3, s4, s5, s6, s7⟩
                    go_simp
                    with_reducible rfl
                  rotate_left
                  · simp only [Act.put, List.setIfInBounds_toArray, List.set_cons_zero, List.set_cons_succ, i64_w, i32_w]
                    rfl
                  refine take_ (i := 12) (N := some 86) (v := ?_) (a' := ?_) #[true, true, true, true, true, true, true, true, true, true, true, true, true, true, false, false, false, false, false, false] rfl rfl (by kernel_rfl) (fun _ _ _ h => h) (Or.inl ⟨by rfl, ?_⟩) hHeld ?_ ?_
                  rotate_left
                  · rintro w' ⟨s0, s1, s2, s3, s4, s5, s6, s7⟩
                    go_simp
                    with_reducible rfl
                  rotate_left
                  · simp only [Act.put, List.setIfInBounds_toArray, List.set_cons_zero, List.set_cons_succ, i64_w, i32_w]
                    rfl
                  refine pure_ (i := 14) (N := some 88) (v := ?_) (a' := ?_) #[true, true, true, true, true, true, true, true, true, true, true, true, true, true, true, false, false, false, false, false] rfl rfl (by kernel_rfl) (fun _ _ _ h => h) (Or.inl ⟨by rfl, ?_⟩) ?_ ?_
                  rotate_left
                  · intro w'
                    go_simp
                    with_reducible rfl
                  rotate_left
                  · simp only [Act.put, List.setIfInBounds_toArray, List.set_cons_zero, List.set_cons_succ, i64_w, i32_w]
                    rfl
                  refine take_ (i := 15) (N := some 89) (v := ?_) (a' := ?_) #[true, true, true, true, true, true, true, true, true, true, true, true, true, true, true, true, false, false, false, false] rfl rfl (by kernel_rfl) (fun _ _ _ h => h) (Or.inl ⟨by rfl, ?_⟩) hHeld ?_ ?_
                  rotate_left
                  · rintro w' ⟨s0, s1, s2, s3, s4, s5, s6, s7⟩
                    go_simp
                    with_reducible rfl
                  rotate_left
                  · simp only [Act.put, List.setIfInBounds_toArray, List.set_cons_zero, List.set_cons_succ, i64_w, i32_w]
                    rfl
                  refine join_ (σ := Nat × Nat) 2 #[true, true, true, true, true, true, true, true, true, true, true, true, true, true, true, true, true, true, false, false] (fun s => [(9, .pointer (some ⟨s.1, 0, none⟩)), (10, .pointer (some ⟨s.2, 0, none⟩))]) (fun s w' => s.1 ≠ s.2 ∧ w'.heap[s.1]? = some (.cells #[.int .i64 0, .string ⟨#[]⟩, .string ⟨#[]⟩] 42 (0, 0)) ∧ w'.heap[s.2]? = some (.cells #[.int .i64 0, .string ⟨#[]⟩, .string ⟨#[]⟩] 52 (0, 0)) ∧ Below wr.heap.size wr w' ∧ wr.heap.size ≤ s.1 ∧ wr.heap.size ≤ s.2) ?_ ?_
                  rotate_left
                  · intro hCont
                    refine two_ (i := 16) (j := 17) (Ni := some 9) (Nj := some 10) #[true, true, true, true, true, true, true, true, true, true, true, true, true, true, true, true, true, false, false, false] #[true, true, true, true, true, true, true, true, true, true, true, true, true, true, true, true, false, true, false, false] rfl rfl rfl rfl (by kernel_rfl) (by decide) (by decide) (fun K hK => ?_) (fun K hK => ?_)
                    · skip
                      refine alloc_any (N := 9) (cs := #[.int .i64 0, .string ⟨#[]⟩, .string ⟨#[]⟩]) (t := 42) (by rfl) rfl ?_ ?_
                      · first | (go_simp; done) | (go_simp; rfl)
                      intro g1 hg16 v16 hbx16 hbl16
                      have BW16 : Aside0 (Below wr.heap.size wr v16) := ⟨below_step (below_drew1 BW0.out) hbl16⟩
                      have GE16 : Aside0 (wr.heap.size ≤ g1) := ⟨by rw [hg16]; exact below_size (below_drew1 BW0.out)⟩
                      have BB16 := Aside0.mk hbx16
                      have NX16 : Aside0 (g1 < v16.heap.size) := ⟨blk_lt BB16.out⟩
                      clear hbl16 hbx16
                      refine hK.out _ _ ⟨(pw_cell_below BW16.out sa2), (pw_cell_below BW16.out sp0), (pw_cell_below BW16.out sp1), (pw_cell_below BW16.out sp2), (pw_cell_below BW16.out sb2), (pw_cell_below BW16.out sq0), (pw_cell_below BW16.out sq1), (pw_cell_below BW16.out sq2)⟩ (fun hHeld => ?_)
                      clear hK K
                      refine norm_ (a' := ?_) ?_ ?_
                      rotate_left
                      · show Act.put _ (some 9) _ = _
                        simp only [Act.put, List.setIfInBounds_toArray, List.set_cons_zero, List.set_cons_succ, i64_w, i32_w]
                        rfl
                      refine one_ (i := 17) (N := some 10) #[true, true, true, true, true, true, true, true, true, true, true, true, true, true, true, true, true, true, false, false] rfl rfl (by kernel_rfl) (by decide) (fun K hK => ?_)
                      refine alloc_any (N := 10) (cs := #[.int .i64 0, .string ⟨#[]⟩, .string ⟨#[]⟩]) (t := 52) (by rfl) rfl ?_ ?_
                      · first | (go_simp; done) | (go_simp; rfl)
                      intro g2 hg17 v17 hbx17 hbl17
                      have BW17 : Aside0 (Below wr.heap.size wr v17) := ⟨below_step BW16.out hbl17⟩
                      have GE17 : Aside0 (wr.heap.size ≤ g2) := ⟨by rw [hg17]; exact below_size BW16.out⟩
                      have BB17 := Aside0.mk hbx17
                      have BB16n : Aside0 (v17.heap[g1]? = some (.cells #[.int .i64 0, .string ⟨#[]⟩, .string ⟨#[]⟩] 42 (0, 0))) := ⟨blk_step BB16.out hbl17⟩
                      clear BB16
                      have BB16 := BB16n
                      clear BB16n
                      have NE : Aside0 (g1 ≠ g2) := ⟨by have := NX16.out; omega⟩
                      clear hbl17 hbx17
                      refine hK.out _ _ ⟨(pw_cell_below BW17.out sa2), (pw_cell_below BW17.out sp0), (pw_cell_below BW17.out sp1), (pw_cell_below BW17.out sp2), (pw_cell_below BW17.out sb2), (pw_cell_below BW17.out sq0), (pw_cell_below BW17.out sq1), (pw_cell_below BW17.out sq2)⟩ (fun hHeld => ?_)
                      clear hK K
                      refine norm_ (a' := ?_) ?_ ?_
                      rotate_left
                      · show Act.put _ (some 10) _ = _
                        simp only [Act.put, List.setIfInBounds_toArray, List.set_cons_zero, List.set_cons_succ, i64_w, i32_w]
                        rfl
                      exact norm_ (by simp only [putAll, Act.put, List.setIfInBounds_toArray, List.set_cons_zero, List.set_cons_succ]) (hCont (g1, g2) _ ⟨NE.out, BB16.out, BB17.out, BW17.out, GE16.out, GE17.out⟩)
                    · skip
                      refine alloc_any (N := 10) (cs := #[.int .i64 0, .string ⟨#[]⟩, .string ⟨#[]⟩]) (t := 52) (by rfl) rfl ?_ ?_
                      · first | (go_simp; done) | (go_simp; rfl)
                      intro g2 hg17 v17 hbx17 hbl17
                      have BW17 : Aside0 (Below wr.heap.size wr v17) := ⟨below_step (below_drew1 BW0.out) hbl17⟩
                      have GE17 : Aside0 (wr.heap.size ≤ g2) := ⟨by rw [hg17]; exact below_size (below_drew1 BW0.out)⟩
                      have BB17 := Aside0.mk hbx17
                      have NX17 : Aside0 (g2 < v17.heap.size) := ⟨blk_lt BB17.out⟩
                      clear hbl17 hbx17
                      refine hK.out _ _ ⟨(pw_cell_below BW17.out sa2), (pw_cell_below BW17.out sp0), (pw_cell_below BW17.out sp1), (pw_cell_below BW17.out sp2), (pw_cell_below BW17.out sb2), (pw_cell_below BW17.out sq0), (pw_cell_below BW17.out sq1), (pw_cell_below BW17.out sq2)⟩ (fun hHeld => ?_)
                      clear hK K
                      refine norm_ (a' := ?_) ?_ ?_
                      rotate_left
                      · show Act.put _ (some 10) _ = _
                        simp only [Act.put, List.setIfInBounds_toArray, List.set_cons_zero, List.set_cons_succ, i64_w, i32_w]
                        rfl
                      refine one_ (i := 16) (N := some 9) #[true, true, true, true, true, true, true, true, true, true, true, true, true, true, true, true, true, true, false, false] rfl rfl (by kernel_rfl) (by decide) (fun K hK => ?_)
                      refine alloc_any (N := 9) (cs := #[.int .i64 0, .string ⟨#[]⟩, .string ⟨#[]⟩]) (t := 42) (by rfl) rfl ?_ ?_
                      · first | (go_simp; done) | (go_simp; rfl)
                      intro g1 hg16 v16 hbx16 hbl16
                      have BW16 : Aside0 (Below wr.heap.size wr v16) := ⟨below_step BW17.out hbl16⟩
                      have GE16 : Aside0 (wr.heap.size ≤ g1) := ⟨by rw [hg16]; exact below_size BW17.out⟩
                      have BB16 := Aside0.mk hbx16
                      have BB17n : Aside0 (v16.heap[g2]? = some (.cells #[.int .i64 0, .string ⟨#[]⟩, .string ⟨#[]⟩] 52 (0, 0))) := ⟨blk_step BB17.out hbl16⟩
                      clear BB17
                      have BB17 := BB17n
                      clear BB17n
                      have NE : Aside0 (g1 ≠ g2) := ⟨by have := NX17.out; omega⟩
                      clear hbl16 hbx16
                      refine hK.out _ _ ⟨(pw_cell_below BW16.out sa2), (pw_cell_below BW16.out sp0), (pw_cell_below BW16.out sp1), (pw_cell_below BW16.out sp2), (pw_cell_below BW16.out sb2), (pw_cell_below BW16.out sq0), (pw_cell_below BW16.out sq1), (pw_cell_below BW16.out sq2)⟩ (fun hHeld => ?_)
                      clear hK K
                      refine norm_ (a' := ?_) ?_ ?_
                      rotate_left
                      · show Act.put _ (some 9) _ = _
                        simp only [Act.put, List.setIfInBounds_toArray, List.set_cons_zero, List.set_cons_succ, i64_w, i32_w]
                        rfl
                      exact norm_ (by simp only [putAll, Act.put, List.setIfInBounds_toArray, List.set_cons_zero, List.set_cons_succ]) (hCont (g1, g2) _ ⟨NE.out, BB16.out, BB17.out, BW16.out, GE16.out, GE17.out⟩)
                  rintro ⟨g1, g2⟩ v5 ⟨hne, hb1, hb2, hbw, hq1, hq2⟩
                  dsimp only at hne hb1 hb2 hq1 hq2
                  have hHeld : v5.cell? ⟨(ad.add (i * 3)).block, (ad.add (i * 3)).off + 2, none⟩ = some (.slice (some fd) x.f2.length ca) ∧ v5.cell? (fd.add (k * 3)) = some (.int .i64 p.f0) ∧ v5.cell? ⟨(fd.add (k * 3)).block, (fd.add (k * 3)).off + 1, none⟩ = some (.string p.f1) ∧ v5.cell? ⟨(fd.add (k * 3)).block, (fd.add (k * 3)).off + 2, none⟩ = some (.string p.f2) ∧ v5.cell? ⟨(bd.add (i * 3)).block, (bd.add (i * 3)).off + 2, none⟩ = some (.slice (some gd) y.f2.length cb) ∧ v5.cell? (gd.add (k * 3)) = some (.int .i64 q.f0) ∧ v5.cell? ⟨(gd.add (k * 3)).block, (gd.add (k * 3)).off + 1, none⟩ = some (.string q.f1) ∧ v5.cell? ⟨(gd.add (k * 3)).block, (gd.add (k * 3)).off + 2, none⟩ = some (.string q.f2) := ⟨(pw_cell_below hbw sa2), (pw_cell_below hbw sp0), (pw_cell_below hbw sp1), (pw_cell_below hbw sp2), (pw_cell_below hbw sb2), (pw_cell_below hbw sq0), (pw_cell_below hbw sq1), (pw_cell_below hbw sq2)⟩
                  have NE := Aside0.mk hne
                  have BB16 := Aside0.mk hb1
                  have BB17 := Aside0.mk hb2
                  have BW5 := Aside0.mk hbw
                  have GE16 := Aside0.mk hq1
                  have GE17 := Aside0.mk hq2
                  clear hne hb1 hb2 hbw hq1 hq2
                  refine norm_ (a' := ?_) ?_ ?_
                  rotate_left
                  · simp only [putAll, Act.put, List.setIfInBounds_toArray, List.set_cons_zero, List.set_cons_succ]
                    rfl
                  refine one_ (i := 18) (N := none) #[true, true, true, true, true, true, true, true, true, true, true, true, true, true, true, true, true, true, true, false] rfl rfl (by kernel_rfl) (by decide) (fun K hK => ?_)
                  have hz0 : v5.cell? ⟨g1, 0, none⟩ = some (.int .i64 0) := (blk_cell BB16.out 0).trans rfl
                  have hz1 : v5.cell? ⟨g1, 1, none⟩ = some (.string ⟨#[]⟩) := (blk_cell BB16.out 1).trans rfl
                  have hz2 : v5.cell? ⟨g1, 2, none⟩ = some (.string ⟨#[]⟩) := (blk_cell BB16.out 2).trans rfl
                  have hf0 : v5.frozen? ⟨g1, 0, none⟩ = false := blk_frozen BB16.out 0
                  have hf1 : v5.frozen? ⟨g1, 1, none⟩ = false := blk_frozen BB16.out 1
                  have hf2 : v5.frozen? ⟨g1, 2, none⟩ = false := blk_frozen BB16.out 2
                  refine skip_ (w1 := ?_) (by rfl) rfl ?_ ?_
                  rotate_left
                  · go_simp
                    rfl
                  obtain ⟨v6, hv6⟩ : ∃ v6 : World, ((v5.setCell ⟨g1, 0, none⟩ (.int .i64 p.f0)).setCell ⟨g1, 1, none⟩ (.string p.f1)).setCell ⟨g1, 2, none⟩ (.string p.f2) = v6 := ⟨_, rfl⟩
                  rw [hv6]
                  have BW6 : Aside0 (Below wr.heap.size wr v6) := ⟨hv6 ▸ below_set (g := g1) (j := 2) (v := .string p.f2) (below_set (g := g1) (j := 1) (v := .string p.f1) (below_set (g := g1) (j := 0) (v := .int .i64 p.f0) BW5.out GE16.out) GE16.out) GE16.out⟩
                  have BB16n : Aside0 (v6.heap[g1]? = some (.cells #[.int .i64 p.f0, .string p.f1, .string p.f2] 42 (0, 0))) := ⟨hv6 ▸ blk_put (cs := #[.int .i64 p.f0, .string p.f1, .string ⟨#[]⟩]) (blk_put (cs := #[.int .i64 p.f0, .string ⟨#[]⟩, .string ⟨#[]⟩]) (blk_put (cs := #[.int .i64 0, .string ⟨#[]⟩, .string ⟨#[]⟩]) BB16.out 0 (.int .i64 p.f0) rfl) 1 (.string p.f1) rfl) 2 (.string p.f2) rfl⟩
                  have BB17n : Aside0 (v6.heap[g2]? = some (.cells #[.int .i64 0, .string ⟨#[]⟩, .string ⟨#[]⟩] 52 (0, 0))) := ⟨hv6 ▸ blk_far (p := ⟨g1, 2, none⟩) (blk_far (p := ⟨g1, 1, none⟩) (blk_far (p := ⟨g1, 0, none⟩) BB17.out (fun e => NE.out e.symm) _) (fun e => NE.out e.symm) _) (fun e => NE.out e.symm) _⟩
                  clear BB16 BB17 BW5 hz0 hz1 hz2 hf0 hf1 hf2 hv6
                  have BB16 := BB16n
                  have BB17 := BB17n
                  clear BB16n BB17n
                  refine hK.out _ _ ⟨(pw_cell_below BW6.out sa2), (pw_cell_below BW6.out sp0), (pw_cell_below BW6.out sp1), (pw_cell_below BW6.out sp2), (pw_cell_below BW6.out sb2), (pw_cell_below BW6.out sq0), (pw_cell_below BW6.out sq1), (pw_cell_below BW6.out sq2)⟩ (fun hHeld => ?_)
                  clear hK K
                  refine last_ (i := 19) (N := none) #[true, true, true, true, true, true, true, true, true, true, true, true, true, true, true, true, true, true, true, true] rfl rfl (by kernel_rfl) (by decide) (fun K hK => ?_)
                  have hz0 : v6.cell? ⟨g2, 0, none⟩ = some (.int .i64 0) := (blk_cell BB17.out 0).trans rfl
                  have hz1 : v6.cell? ⟨g2, 1, none⟩ = some (.string ⟨#[]⟩) := (blk_cell BB17.out 1).trans rfl
                  have hz2 : v6.cell? ⟨g2, 2, none⟩ = some (.string ⟨#[]⟩) := (blk_cell BB17.out 2).trans rfl
                  have hf0 : v6.frozen? ⟨g2, 0, none⟩ = false := blk_frozen BB17.out 0
                  have hf1 : v6.frozen? ⟨g2, 1, none⟩ = false := blk_frozen BB17.out 1
                  have hf2 : v6.frozen? ⟨g2, 2, none⟩ = false := blk_frozen BB17.out 2
                  refine skip_ (w1 := ?_) (by rfl) rfl ?_ ?_
                  rotate_left
                  · go_simp
                    rfl
                  refine hK.out _ _ ?_
                  clear hK K
                  refine done_ (by kernel_rfl) ?_
                  have hbw7 : Below wr.heap.size wr (((v6.setCell ⟨g2, 0, none⟩ (.int .i64 q.f0)).setCell ⟨g2, 1, none⟩ (.string q.f1)).setCell ⟨g2, 2, none⟩ (.string q.f2)) := below_set (g := g2) (j := 2) (v := .string q.f2) (below_set (g := g2) (j := 1) (v := .string q.f1) (below_set (g := g2) (j := 0) (v := .int .i64 q.f0) BW6.out GE17.out) GE17.out) GE17.out
                  have hpq := blk_put (cs := #[.int .i64 q.f0, .string q.f1, .string ⟨#[]⟩]) (blk_put (cs := #[.int .i64 q.f0, .string ⟨#[]⟩, .string ⟨#[]⟩]) (blk_put (cs := #[.int .i64 0, .string ⟨#[]⟩, .string ⟨#[]⟩]) BB17.out 0 (.int .i64 q.f0) rfl) 1 (.string q.f1) rfl) 2 (.string q.f2) rfl
                  have hpp := blk_far (p := ⟨g2, 2, none⟩) (blk_far (p := ⟨g2, 1, none⟩) (blk_far (p := ⟨g2, 0, none⟩) BB16.out NE.out (.int .i64 q.f0)) NE.out (.string q.f1)) NE.out (.string q.f2)
                  obtain ⟨v7, hv7⟩ : ∃ v7 : World, (((v6.setCell ⟨g2, 0, none⟩ (.int .i64 q.f0)).setCell ⟨g2, 1, none⟩ (.string q.f1)).setCell ⟨g2, 2, none⟩ (.string q.f2)) = v7 := ⟨_, rfl⟩
                  rw [hv7] at hbw7 hpq hpp ⊢
                  have HB7 : Aside0 (Below w.heap.size w v7) := ⟨below_step HB.out hbw7⟩
                  have PP := Aside0.mk hpp
                  have PQ := Aside0.mk hpq
                  have tp0 : v7.cell? ⟨g1, 0, none⟩ = some (.int .i64 p.f0) := (blk_cell PP.out 0).trans rfl
                  have tp1 : v7.cell? ⟨g1, 1, none⟩ = some (.string p.f1) := (blk_cell PP.out 1).trans rfl
                  have tp2 : v7.cell? ⟨g1, 2, none⟩ = some (.string p.f2) := (blk_cell PP.out 2).trans rfl
                  have tq0 : v7.cell? ⟨g2, 0, none⟩ = some (.int .i64 q.f0) := (blk_cell PQ.out 0).trans rfl
                  have tq1 : v7.cell? ⟨g2, 1, none⟩ = some (.string q.f1) := (blk_cell PQ.out 1).trans rfl
                  have tq2 : v7.cell? ⟨g2, 2, none⟩ = some (.string q.f2) := (blk_cell PQ.out 2).trans rfl
                  clear hv7 hbw7 hpq hpp hHeld sp0 sp1 sp2 sq0 sq1 sq2 sa2 sb2 BB16 BB17 BW6 BW0 GE16 GE17 NE HB hz0 hz1 hz2 hf0 hf1 hf2 PP PQ
                  have HB := HB7
                  clear HB7
                  cases e1 : (p.f1.toList == q.f1.toList) with
                  | false =>
                    have B : Aside0 (sameBl l0 l1 false = false) := ⟨OUTK2.out (by unfold sameF; rw [e1]; rfl)⟩
                    clear OUTK2 NXTK2 OUT2 NXT2
                    go_wp2
                    go_ret
                    exact ⟨by rw [B.out]; rfl, (by repeat (first | (with_reducible first | exact HB.out | apply below_alloc | apply pw_below_drewN | apply below_drew1) | exact HB.out))⟩
                  | true =>
                    cases e2 : (p.f2.toList == q.f2.toList) with
                    | false =>
                      have B : Aside0 (sameBl l0 l1 false = false) := ⟨OUTK2.out (by unfold sameF; rw [e1, e2]; rfl)⟩
                      clear OUTK2 NXTK2 OUT2 NXT2
                      go_wp2
                      go_ret
                      exact ⟨by rw [B.out]; rfl, (by repeat (first | (with_reducible first | exact HB.out | apply below_alloc | apply pw_below_drewN | apply below_drew1) | exact HB.out))⟩
                    | true =>
                      have B : Aside0 (sameF p q false = true) := ⟨by unfold sameF; rw [e1, e2]; rfl⟩
                      go_wp2
                      go_roundg (x.f2.length - (k + 1))
                      case measure => have := DK.out; have := HK.out; omega
                      case rel => exact ⟨k + 1, (by rw [hwk.out]; rfl), ⟨DK.out.2, Nat.le_refl _⟩, ⟨(by repeat (first | (with_reducible first | exact HB.out | apply below_alloc | apply pw_below_drewN | apply below_drew1) | exact HB.out))⟩, ⟨NXTK2.out B.out⟩⟩
                · have hltk : decide ((k : Int) < (x.f2.length : Int)) = false := decide_eq_false (by omega)
                  have hltk2 : decide (k < x.f2.length) = false := decide_eq_false hlt
                  have B : Aside0 (sameB1 x y false = true) := ⟨by unfold sameB1; rw [hk, beq_iff_eq.mpr HNE.out, range_all_true (p := fun k => sameF (rd_T42 x.f2 (k : Int)) (rd_T52 y.f2 (k : Int)) false) (fun j hj => AK.out j (by omega))]; rfl⟩
                  clear AK hlt
                  have sa2 := pw_cell_below HB.out KA2.out
                  go_wp2
                  go_roundg (l0.length - (i + 1))
                  case measure => have := D.out; have := HI.out; omega
                  case rel => exact ⟨i + 1, (by rw [hwi.out]; rfl), ⟨D.out.2, Nat.le_refl _⟩, ⟨(by repeat (first | (with_reducible first | exact HB.out | apply below_alloc | apply pw_below_drewN | apply below_drew1) | exact HB.out))⟩, ⟨NXT2.out B.out⟩⟩
            · have hn1 : ((x.f2.length : Int) == (y.f2.length : Int)) = false := beq_eq_false_iff_ne.mpr (by omega)
              have hn3 : ((x.f2.length : Int) != (y.f2.length : Int)) = true := by simp only [bne, hn1]; rfl
              have hn2 : (x.f2.length == y.f2.length) = false := beq_eq_false_iff_ne.mpr hn
              clear hn
              have B : Aside0 (sameBl l0 l1 false = false) := ⟨OUT2.out (by unfold sameB1; rw [hn2]; simp)⟩
              clear OUT2 NXT2
              go_wp2
              repeat (go_quiet (fail); try go_wp2)
              go_ret
              exact ⟨by rw [B.out]; rfl, (by repeat (first | (with_reducible first | exact HB.out | apply below_alloc | apply pw_below_drewN | apply below_drew1) | exact HB.out))⟩
        | true =>
          cases hk : (x.f1.toList == y.f1.toList) with
          | false =>
            have B : Aside0 (sameBl l0 l1 true = false) := ⟨OUT2.out (by unfold sameB1; rw [hk]; rfl)⟩
            clear OUT2 NXT2
            go_wp2
            repeat (go_quiet (fail); try go_wp2)
            go_ret
            exact ⟨by rw [B.out]; rfl, (by repeat (first | (with_reducible first | exact HB.out | apply below_alloc | apply pw_below_drewN | apply below_drew1) | exact HB.out))⟩
          | true =>
            cases h0 : (x.f0 == y.f0) with
            | false =>
              have h02 : (x.f0 != y.f0) = true := by simp only [bne, h0]; rfl
              have B : Aside0 (sameBl l0 l1 true = false) := ⟨OUT2.out (by unfold sameB1; rw [hk, h0]; rfl)⟩
              clear OUT2 NXT2
              go_wp2
              repeat (go_quiet (fail); try go_wp2)
              go_ret
              exact ⟨by rw [B.out]; rfl, (by repeat (first | (with_reducible first | exact HB.out | apply below_alloc | apply pw_below_drewN | apply below_drew1) | exact HB.out))⟩
            | true =>
              have h02 : (x.f0 != y.f0) = false := by simp only [bne, h0]; rfl
              by_cases hn : x.f2.length = y.f2.length
              · have hn1 : ((x.f2.length : Int) == (y.f2.length : Int)) = true := beq_iff_eq.mpr (by omega)
                have hn3 : ((x.f2.length : Int) != (y.f2.length : Int)) = false := by simp only [bne, hn1]; rfl
                have HNE := Aside0.mk hn
                clear hn
                have HMN : Aside0 (x.f2.length ≤ 9223372036854775807) := HMA
                go_wp2
                go_quiet (fail)
                go_wp2
                go_loopg [8] x.f2.length (fun kq v8 w' => ∃ k : Nat, v8 = .int .i64 (k : Int) ∧ Aside0 (k ≤ x.f2.length ∧ x.f2.length - k ≤ kq) ∧ Aside0 (Below w.heap.size w w') ∧ Aside0 (∀ j, j < k → sameF (rd_T42 x.f2 (j : Int)) (rd_T52 y.f2 (j : Int)) true = true))
                case atStart => exact ⟨0, rfl, ⟨by omega, by omega⟩, ⟨(by repeat (first | (with_reducible first | exact HB.out | apply below_alloc | apply pw_below_drewN | apply below_drew1) | exact HB.out))⟩, ⟨fun j hj => absurd hj (Nat.not_lt_zero _)⟩⟩
                case round =>
                  clear HB ha0 ha1 ha2 hb0 hb1 hb2
                  obtain ⟨k, rfl, HK, HB, AK⟩ := hrel
                  by_cases hlt : k < x.f2.length
                  · have hltk : decide ((k : Int) < (x.f2.length : Int)) = true := decide_eq_true (by omega)
                    have p0 : (0 : Int) ≤ (k : Int) := by omega
                    have q2 : (k : Int) < (x.f2.length : Int) := by omega
                    have q3 : (k : Int) < (y.f2.length : Int) := by have := HNE.out; omega
                    obtain ⟨fd, eF, sp0, sp1, sp2⟩ := at_T42 GA.out (k : Int) p0 q2
                    obtain ⟨gd, eG, sq0, sq1, sq2⟩ := at_T52 GB.out (k : Int) p0 q3
                    subst eF; subst eG
                    simp only [Int.toNat_natCast] at sp0 sp1 sp2 sq0 sq1 sq2
                    replace sp0 := pw_cell_below HB.out sp0
                    replace sp1 := pw_cell_below HB.out sp1
                    replace sp2 := pw_cell_below HB.out sp2
                    replace sq0 := pw_cell_below HB.out sq0
                    replace sq1 := pw_cell_below HB.out sq1
                    replace sq2 := pw_cell_below HB.out sq2
                    have sa2 := pw_cell_below HB.out KA2.out
                    have sb2 := pw_cell_below HB.out KB2.out
                    have OUTK : Aside0 (∀ p q, rd_T42 x.f2 (k : Int) = p → rd_T52 y.f2 (k : Int) = q → sameF p q true = false → sameB1 x y true = false) := ⟨fun p q ex ey e => by
                      subst ex; subst ey
                      unfold sameB1
                      rw [range_all_false (p := fun k => sameF (rd_T42 x.f2 (k : Int)) (rd_T52 y.f2 (k : Int)) true) hlt e]; simp⟩
                    have NXTK : Aside0 (∀ p q, rd_T42 x.f2 (k : Int) = p → rd_T52 y.f2 (k : Int) = q → sameF p q true = true → ∀ j, j < k + 1 → sameF (rd_T42 x.f2 (j : Int)) (rd_T52 y.f2 (j : Int)) true = true) := ⟨fun p q ex ey e j hj => by
                      subst ex; subst ey
                      by_cases hj2 : j = k
                      · rw [hj2]; exact e
                      · exact AK.out j (by omega)⟩
                    have hwk : Aside0 (wrap64 ((k : Int) + 1) = ((k : Int) + 1)) := ⟨IntWalk.wrap64_in _ ⟨by omega, by have := HMN.out; omega⟩⟩
                    have DK : Aside0 (x.f2.length - (k + 1) < x.f2.length - k ∧ k + 1 ≤ x.f2.length) := ⟨by omega, by omega⟩
                    clear AK
                    generalize hp : rd_T42 x.f2 (k : Int) = p at sp0 sp1 sp2 OUTK NXTK
                    generalize hq : rd_T52 y.f2 (k : Int) = q at sq0 sq1 sq2 OUTK NXTK
                    have OUTK2 : Aside0 (sameF p q true = false → sameBl l0 l1 true = false) := ⟨fun e => OUT2.out (OUTK.out p q rfl rfl e)⟩
                    have NXTK2 := Aside0.mk (NXTK.out p q rfl rfl)
                    clear OUTK NXTK hp hq hlt p0
                    replace q2 := eq_true q2
                    replace q3 := eq_true q3
                    go_wp2
                    have BW0 := Aside0.mk (Below.refl wr.heap.size wr)
                    refine start_ (n := 20) (S := fun w' => w'.cell? ⟨(ad.add (i * 3)).block, (ad.add (i * 3)).off + 2, none⟩ = some (.slice (some fd) x.f2.length ca) ∧ w'.cell? (fd.add (k * 3)) = some (.int .i64 p.f0) ∧ w'.cell? ⟨(fd.add (k * 3)).block, (fd.add (k * 3)).off + 1, none⟩ = some (.string p.f1) ∧ w'.cell? ⟨(fd.add (k * 3)).block, (fd.add (k * 3)).off + 2, none⟩ = some (.string p.f2) ∧ w'.cell? ⟨(bd.add (i * 3)).block, (bd.add (i * 3)).off + 2, none⟩ = some (.slice (some gd) y.f2.length cb) ∧ w'.cell? (gd.add (k * 3)) = some (.int .i64 q.f0) ∧ w'.cell? ⟨(gd.add (k * 3)).block, (gd.add (k * 3)).off + 1, none⟩ = some (.string q.f1) ∧ w'.cell? ⟨(gd.add (k * 3)).block, (gd.add (k * 3)).off + 2, none⟩ = some (.string q.f2)) (ds := [19]) #[false, false, false, false, false, false, false, false, false, false, false, false, false, false, false, false, false, false, false, false] (by kernel_rfl) rfl rfl ⟨sa2, sp0, sp1, sp2, sb2, sq0, sq1, sq2⟩ (fun hHeld => ?_)
                    refine pure_ (i := 0) (N := some 74) (v := ?_) (a' := ?_) #[true, false, false, false, false, false, false, false, false, false, false, false, false, false, false, false, false, false, false, false] rfl rfl (by kernel_rfl) (fun _ _ _ h => h) (Or.inl ⟨by rfl, ?_⟩) ?_ ?_
                    rotate_left
                    · intro w'
                      go_simp
                      with_reducible rfl
                    rotate_left
                    · simp only [Act.put, List.setIfInBounds_toArray, List.set_cons_zero, List.set_cons_succ, i64_w, i32_w]
                      rfl
                    refine pure_ (i := 1) (N := some 75) (v := ?_) (a' := ?_) #[true, true, false, false, false, false, false, false, false, false, false, false, false, false, false, false, false, false, false, false] rfl rfl (by kernel_rfl) (fun _ _ _ h => h) (Or.inl ⟨by rfl, ?_⟩) ?_ ?_
                    rotate_left
                    · intro w'
                      go_simp
                      with_reducible rfl
                    rotate_left
                    · simp only [Act.put, List.setIfInBounds_toArray, List.set_cons_zero, List.set_cons_succ, i64_w, i32_w]
                      rfl
                    refine pure_ (i := 2) (N := some 76) (v := ?_) (a' := ?_) #[true, true, true, false, false, false, false, false, false, false, false, false, false, false, false, false, false, false, false, false] rfl rfl (by kernel_rfl) (fun _ _ _ h => h) (Or.inl ⟨by rfl, ?_⟩) ?_ ?_
                    rotate_left
                    · intro w'
                      go_simp
                      with_reducible rfl
                    rotate_left
                    · simp only [Act.put, List.setIfInBounds_toArray, List.set_cons_zero, List.set_cons_succ, i64_w, i32_w]
                      rfl
                    refine pure_ (i := 3) (N := some 77) (v := ?_) (a' := ?_) #[true, true, true, true, false, false, false, false, false, false, false, false, false, false, false, false, false, false, false, false] rfl rfl (by kernel_rfl) (fun _ _ _ h => h) (Or.inl ⟨by rfl, ?_⟩) ?_ ?_
                    rotate_left
                    · intro w'
                      go_simp
                      with_reducible rfl
                    rotate_left
                    · simp only [Act.put, List.setIfInBounds_toArray, List.set_cons_zero, List.set_cons_succ, i64_w, i32_w]
                      rfl
                    refine pure_ (i := 5) (N := some 79) (v := ?_) (a' := ?_) #[true, true, true, true, false, true, false, false, false, false, false, false, false, false, false, false, false, false, false, false] rfl rfl (by kernel_rfl) (fun _ _ _ h => h) (Or.inl ⟨by rfl, ?_⟩) ?_ ?_
                    rotate_left
                    · intro w'
                      go_simp
                      with_reducible rfl
                    rotate_left
                    · simp only [Act.put, List.setIfInBounds_toArray, List.set_cons_zero, List.set_cons_succ, i64_w, i32_w]
                      rfl
                    refine pure_ (i := 8) (N := some 82) (v := ?_) (a' := ?_) #[true, true, true, true, false, true, false, false, true, false, false, false, false, false, false, false, false, false, false, false] rfl rfl (by kernel_rfl) (fun _ _ _ h => h) (Or.inl ⟨by rfl, ?_⟩) ?_ ?_
                    rotate_left
                    · intro w'
                      go_simp
                      with_reducible rfl
                    rotate_left
                    · simp only [Act.put, List.setIfInBounds_toArray, List.set_cons_zero, List.set_cons_succ, i64_w, i32_w]
                      rfl
                    refine pure_ (i := 9) (N := some 83) (v := ?_) (a' := ?_) #[true, true, true, true, false, true, false, false, true, true, false, false, false, false, false, false, false, false, false, false] rfl rfl (by kernel_rfl) (fun _ _ _ h => h) (Or.inl ⟨by rfl, ?_⟩) ?_ ?_
                    rotate_left
                    · intro w'
                      go_simp
                      with_reducible rfl
                    rotate_left
                    · simp only [Act.put, List.setIfInBounds_toArray, List.set_cons_zero, List.set_cons_succ, i64_w, i32_w]
                      rfl
                    refine pure_ (i := 10) (N := some 84) (v := ?_) (a' := ?_) #[true, true, true, true, false, true, false, false, true, true, true, false, false, false, false, false, false, false, false, false] rfl rfl (by kernel_rfl) (fun _ _ _ h => h) (Or.inl ⟨by rfl, ?_⟩) ?_ ?_
                    rotate_left
                    · intro w'
                      go_simp
                      with_reducible rfl
                    rotate_left
                    · simp only [Act.put, List.setIfInBounds_toArray, List.set_cons_zero, List.set_cons_succ, i64_w, i32_w]
                      rfl
                    refine pure_ (i := 11) (N := some 85) (v := ?_) (a' := ?_) #[true, true, true, true, false, true, false, false, true, true, true, true, false, false, false, false, false, false, false, false] rfl rfl (by kernel_rfl) (fun _ _ _ h => h) (Or.inl ⟨by rfl, ?_⟩) ?_ ?_
                    rotate_left
                    · intro w'
                      go_simp
                      with_reducible rfl
                    rotate_left
                    · simp only [Act.put, List.setIfInBounds_toArray, List.set_cons_zero, List.set_cons_succ, i64_w, i32_w]
                      rfl
                    refine pure_ (i := 13) (N := some 87) (v := ?_) (a' := ?_) #[true, true, true, true, false, true, false, false, true, true, true, true, false, true, false, false, false, false, false, false] rfl rfl (by kernel_rfl) (fun _ _ _ h => h) (Or.inl ⟨by rfl, ?_⟩) ?_ ?_
                    rotate_left
                    · intro w'
                      go_simp
                      with_reducible rfl
                    rotate_left
                    · simp only [Act.put, List.setIfInBounds_toArray, List.set_cons_zero, List.set_cons_succ, i64_w, i32_w]
                      rfl
                    refine take_ (i := 4) (N := some 78) (v := ?_) (a' := ?_) #[true, true, true, true, true, true, false, false, true, true, true, true, false, true, false, false, false, false, false, false] rfl rfl (by kernel_rfl) (fun _ _ _ h => h) (Or.inl ⟨by rfl, ?_⟩) hHeld ?_ ?_
                    rotate_left
                    · rintro w' ⟨s0, s1, s2, s3, s4, s5, s6, s7⟩
                      go_simp
                      with_reducible rfl
                    rotate_left
                    · simp only [Act.put, List.setIfInBounds_toArray, List.set_cons_zero, List.set_cons_succ, i64_w, i32_w]
                      rfl
                    refine pure_ (i := 6) (N := some 80) (v := ?_) (a' := ?_) #[true, true, true, true, true, true, true, false, true, true, true, true, false, true, false, false, false, false, false, false] rfl rfl (by kernel_rfl) (fun _ _ _ h => h) (Or.inl ⟨by rfl, ?_⟩) ?_ ?_
                    rotate_left
                    · intro w'
                      go_simp
                      with_reducible rfl
                    rotate_left
                    · simp only [Act.put, List.setIfInBounds_toArray, List.set_cons_zero, List.set_cons_succ, i64_w, i32_w]
                      rfl
                    refine take_ (i := 7) (N := some 81) (v := ?_) (a' := ?_) #[true, true, true, true, true, true, true, true, true, true, true, true, false, true, false, false, false, false, false, false] rfl rfl (by kernel_rfl) (fun _ _ _ h => h) (Or.inl ⟨by rfl, ?_⟩) hHeld ?_ ?_
                    rotate_left
                    · rintro w' ⟨s0, s1, s2, s3, s4, s5, s6, s7⟩
                      go_simp
                      with_reducible rfl
                    rotate_left
                    · simp only [Act.put, List.setIfInBounds_toArray, List.set_cons_zero, List.set_cons_succ, i64_w, i32_w]
                      rfl
                    refine take_ (i := 12) (N := some 86) (v := ?_) (a' := ?_) #[true, true, true, true, true, true, true, true, true, true, true, true, true, true, false, false, false, false, false, false] rfl rfl (by kernel_rfl) (fun _ _ _ h => h) (Or.inl ⟨by rfl, ?_⟩) hHeld ?_ ?_
                    rotate_left
                    · rintro w' ⟨s0, s1, s2, s3, s4, s5, s6, s7⟩
                      go_simp
                      with_reducible rfl
                    rotate_left
                    · simp only [Act.put, List.setIfInBounds_toArray, List.set_cons_zero, List.set_cons_succ, i64_w, i32_w]
                      rfl
                    refine pure_ (i := 14) (N := some 88) (v := ?_) (a' := ?_) #[true, true, true, true, true, true, true, true, true, true, true, true, true, true, true, false, false, false, false, false] rfl rfl (by kernel_rfl) (fun _ _ _ h => h) (Or.inl ⟨by rfl, ?_⟩) ?_ ?_
                    rotate_left
                    · intro w'
                      go_simp
                      with_reducible rfl
                    rotate_left
                    · simp only [Act.put, List.setIfInBounds_toArray, List.set_cons_zero, List.set_cons_succ, i64_w, i32_w]
                      rfl
                    refine take_ (i := 15) (N := some 89) (v := ?_) (a' := ?_) #[true, true, true, true, true, true, true, true, true, true, true, true, true, true, true, true, false, false, false, false] rfl rfl (by kernel_rfl) (fun _ _ _ h => h) (Or.inl ⟨by rfl, ?_⟩) hHeld ?_ ?_
                    rotate_left
                    · rintro w' ⟨s0, s1, s2, s3, s4, s5, s6, s7⟩
                      go_simp
                      with_reducible rfl
                    rotate_left
                    · simp only [Act.put, List.setIfInBounds_toArray, List.set_cons_zero, List.set_cons_succ, i64_w, i32_w]
                      rfl
                    refine join_ (σ := Nat × Nat) 2 #[true, true, true, true, true, true, true, true, true, true, true, true, true, true, true, true, true, true, false, false] (fun s => [(9, .pointer (some ⟨s.1, 0, none⟩)), (10, .pointer (some ⟨s.2, 0, none⟩))]) (fun s w' => s.1 ≠ s.2 ∧ w'.heap[s.1]? = some (.cells #[.int .i64 0, .string ⟨#[]⟩, .string ⟨#[]⟩] 42 (0, 0)) ∧ w'.heap[s.2]? = some (.cells #[.int .i64 0, .string ⟨#[]⟩, .string ⟨#[]⟩] 52 (0, 0)) ∧ Below wr.heap.size wr w' ∧ wr.heap.size ≤ s.1 ∧ wr.heap.size ≤ s.2) ?_ ?_
                    rotate_left
                    · intro hCont
                      refine two_ (i := 16) (j := 17) (Ni := some 9) (Nj := some 10) #[true, true, true, true, true, true, true, true, true, true, true, true, true, true, true, true, true, false, false, false] #[true, true, true, true, true, true, true, true, true, true, true, true, true, true, true, true, false, true, false, false] rfl rfl rfl rfl (by kernel_rfl) (by decide) (by decide) (fun K hK => ?_) (fun K hK => ?_)
                      · skip
                        refine alloc_any (N := 9) (cs := #[.int .i64 0, .string ⟨#[]⟩, .string ⟨#[]⟩]) (t := 42) (by rfl) rfl ?_ ?_
                        · first | (go_simp; done) | (go_simp; rfl)
                        intro g1 hg16 v16 hbx16 hbl16
                        have BW16 : Aside0 (Below wr.heap.size wr v16) := ⟨below_step (below_drew1 BW0.out) hbl16⟩
                        have GE16 : Aside0 (wr.heap.size ≤ g1) := ⟨by rw [hg16]; exact below_size (below_drew1 BW0.out)⟩
                        have BB16 := Aside0.mk hbx16
                        have NX16 : Aside0 (g1 < v16.heap.size) := ⟨blk_lt BB16.out⟩
                        clear hbl16 hbx16
                        refine hK.out _ _ ⟨(pw_cell_below BW16.out sa2), (pw_cell_below BW16.out sp0), (pw_cell_below BW16.out sp1), (pw_cell_below BW16.out sp2), (pw_cell_below BW16.out sb2), (pw_cell_below BW16.out sq0), (pw_cell_below BW16.out sq1), (pw_cell_below BW16.out sq2)⟩ (fun hHeld => ?_)
                        clear hK K
                        refine norm_ (a' := ?_) ?_ ?_
                        rotate_left
                        · show Act.put _ (some 9) _ = _
                          simp only [Act.put, List.setIfInBounds_toArray, List.set_cons_zero, List.set_cons_succ, i64_w, i32_w]
                          rfl
                        refine one_ (i := 17) (N := some 10) #[true, true, true, true, true, true, true, true, true, true, true, true, true, true, true, true, true, true, false, false] rfl rfl (by kernel_rfl) (by decide) (fun K hK => ?_)
                        refine alloc_any (N := 10) (cs := #[.int .i64 0, .string ⟨#[]⟩, .string ⟨#[]⟩]) (t := 52) (by rfl) rfl ?_ ?_
                        · first | (go_simp; done) | (go_simp; rfl)
                        intro g2 hg17 v17 hbx17 hbl17
                        have BW17 : Aside0 (Below wr.heap.size wr v17) := ⟨below_step BW16.out hbl17⟩
                        have GE17 : Aside0 (wr.heap.size ≤ g2) := ⟨by rw [hg17]; exact below_size BW16.out⟩
                        have BB17 := Aside0.mk hbx17
                        have BB16n : Aside0 (v17.heap[g1]? = some (.cells #[.int .i64 0, .string ⟨#[]⟩, .string ⟨#[]⟩] 42 (0, 0))) := ⟨blk_step BB16.out hbl17⟩
                        clear BB16
                        have BB16 := BB16n
                        clear BB16n
                        have NE : Aside0 (g1 ≠ g2) := ⟨by have := NX16.out; omega⟩
                        clear hbl17 hbx17
                        refine hK.out _ _ ⟨(pw_cell_below BW17.out sa2), (pw_cell_below BW17.out sp0), (pw_cell_below BW17.out sp1), (pw_cell_below BW17.out sp2), (pw_cell_below BW17.out sb2), (pw_cell_below BW17.out sq0), (pw_cell_below BW17.out sq1), (pw_cell_below BW17.out sq2)⟩ (fun hHeld => ?_)
                        clear hK K
                        refine norm_ (a' := ?_) ?_ ?_
                        rotate_left
                        · show Act.put _ (some 10) _ = _
                          simp only [Act.put, List.setIfInBounds_toArray, List.set_cons_zero, List.set_cons_succ, i64_w, i32_w]
                          rfl
                        exact norm_ (by simp only [putAll, Act.put, List.setIfInBounds_toArray, List.set_cons_zero, List.set_cons_succ]) (hCont (g1, g2) _ ⟨NE.out, BB16.out, BB17.out, BW17.out, GE16.out, GE17.out⟩)
                      · skip
                        refine alloc_any (N := 10) (cs := #[.int .i64 0, .string ⟨#[]⟩, .string ⟨#[]⟩]) (t := 52) (by rfl) rfl ?_ ?_
                        · first | (go_simp; done) | (go_simp; rfl)
                        intro g2 hg17 v17 hbx17 hbl17
                        have BW17 : Aside0 (Below wr.heap.size wr v17) := ⟨below_step (below_drew1 BW0.out) hbl17⟩
                        have GE17 : Aside0 (wr.heap.size ≤ g2) := ⟨by rw [hg17]; exact below_size (below_drew1 BW0.out)⟩
                        have BB17 := Aside0.mk hbx17
                        have NX17 : Aside0 (g2 < v17.heap.size) := ⟨blk_lt BB17.out⟩
                        clear hbl17 hbx17
                        refine hK.out _ _ ⟨(pw_cell_below BW17.out sa2), (pw_cell_below BW17.out sp0), (pw_cell_below BW17.out sp1), (pw_cell_below BW17.out sp2), (pw_cell_below BW17.out sb2), (pw_cell_below BW17.out sq0), (pw_cell_below BW17.out sq1), (pw_cell_below BW17.out sq2)⟩ (fun hHeld => ?_)
                        clear hK K
                        refine norm_ (a' := ?_) ?_ ?_
                        rotate_left
                        · show Act.put _ (some 10) _ = _
                          simp only [Act.put, List.setIfInBounds_toArray, List.set_cons_zero, List.set_cons_succ, i64_w, i32_w]
                          rfl
                        refine one_ (i := 16) (N := some 9) #[true, true, true, true, true, true, true, true, true, true, true, true, true, true, true, true, true, true, false, false] rfl rfl (by kernel_rfl) (by decide) (fun K hK => ?_)
                        refine alloc_any (N := 9) (cs := #[.int .i64 0, .string ⟨#[]⟩, .string ⟨#[]⟩]) (t := 42) (by rfl) rfl ?_ ?_
                        · first | (go_simp; done) | (go_simp; rfl)
                        intro g1 hg16 v16 hbx16 hbl16
                        have BW16 : Aside0 (Below wr.heap.size wr v16) := ⟨below_step BW17.out hbl16⟩
                        have GE16 : Aside0 (wr.heap.size ≤ g1) := ⟨by rw [hg16]; exact below_size BW17.out⟩
                        have BB16 := Aside0.mk hbx16
                        have BB17n : Aside0 (v16.heap[g2]? = some (.cells #[.int .i64 0, .string ⟨#[]⟩, .string ⟨#[]⟩] 52 (0, 0))) := ⟨blk_step BB17.out hbl16⟩
                        clear BB17
                        have BB17 := BB17n
                        clear BB17n
                        have NE : Aside0 (g1 ≠ g2) := ⟨by have := NX17.out; omega⟩
                        clear hbl16 hbx16
                        refine hK.out _ _ ⟨(pw_cell_below BW16.out sa2), (pw_cell_below BW16.out sp0), (pw_cell_below BW16.out sp1), (pw_cell_below BW16.out sp2), (pw_cell_below BW16.out sb2), (pw_cell_below BW16.out sq0), (pw_cell_below BW16.out sq1), (pw_cell_below BW16.out sq2)⟩ (fun hHeld => ?_)
                        clear hK K
                        refine norm_ (a' := ?_) ?_ ?_
                        rotate_left
                        · show Act.put _ (some 9) _ = _
                          simp only [Act.put, List.setIfInBounds_toArray, List.set_cons_zero, List.set_cons_succ, i64_w, i32_w]
                          rfl
                        exact norm_ (by simp only [putAll, Act.put, List.setIfInBounds_toArray, List.set_cons_zero, List.set_cons_succ]) (hCont (g1, g2) _ ⟨NE.out, BB16.out, BB17.out, BW16.out, GE16.out, GE17.out⟩)
                    rintro ⟨g1, g2⟩ v5 ⟨hne, hb1, hb2, hbw, hq1, hq2⟩
                    dsimp only at hne hb1 hb2 hq1 hq2
                    have hHeld : v5.cell? ⟨(ad.add (i * 3)).block, (ad.add (i * 3)).off + 2, none⟩ = some (.slice (some fd) x.f2.length ca) ∧ v5.cell? (fd.add (k * 3)) = some (.int .i64 p.f0) ∧ v5.cell? ⟨(fd.add (k * 3)).block, (fd.add (k * 3)).off + 1, none⟩ = some (.string p.f1) ∧ v5.cell? ⟨(fd.add (k * 3)).block, (fd.add (k * 3)).off + 2, none⟩ = some (.string p.f2) ∧ v5.cell? ⟨(bd.add (i * 3)).block, (bd.add (i * 3)).off + 2, none⟩ = some (.slice (some gd) y.f2.length cb) ∧ v5.cell? (gd.add (k * 3)) = some (.int .i64 q.f0) ∧ v5.cell? ⟨(gd.add (k * 3)).block, (gd.add (k * 3)).off + 1, none⟩ = some (.string q.f1) ∧ v5.cell? ⟨(gd.add (k * 3)).block, (gd.add (k * 3)).off + 2, none⟩ = some (.string q.f2) := ⟨(pw_cell_below hbw sa2), (pw_cell_below hbw sp0), (pw_cell_below hbw sp1), (pw_cell_below hbw sp2), (pw_cell_below hbw sb2), (pw_cell_below hbw sq0), (pw_cell_below hbw sq1), (pw_cell_below hbw sq2)⟩
                    have NE := Aside0.mk hne
                    have BB16 := Aside0.mk hb1
                    have BB17 := Aside0.mk hb2
                    have BW5 := Aside0.mk hbw
                    have GE16 := Aside0.mk hq1
                    have GE17 := Aside0.mk hq2
                    clear hne hb1 hb2 hbw hq1 hq2
                    refine norm_ (a' := ?_) ?_ ?_
                    rotate_left
                    · simp only [putAll, Act.put, List.setIfInBounds_toArray, List.set_cons_zero, List.set_cons_succ]
                      rfl
                    refine one_ (i := 18) (N := none) #[true, true, true, true, true, true, true, true, true, true, true, true, true, true, true, true, true, true, true, false] rfl rfl (by kernel_rfl) (by decide) (fun K hK => ?_)
                    have hz0 : v5.cell? ⟨g1, 0, none⟩ = some (.int .i64 0) := (blk_cell BB16.out 0).trans rfl
                    have hz1 : v5.cell? ⟨g1, 1, none⟩ = some (.string ⟨#[]⟩) := (blk_cell BB16.out 1).trans rfl
                    have hz2 : v5.cell? ⟨g1, 2, none⟩ = some (.string ⟨#[]⟩) := (blk_cell BB16.out 2).trans rfl
                    have hf0 : v5.frozen? ⟨g1, 0, none⟩ = false := blk_frozen BB16.out 0
                    have hf1 : v5.frozen? ⟨g1, 1, none⟩ = false := blk_frozen BB16.out 1
                    have hf2 : v5.frozen? ⟨g1, 2, none⟩ = false := blk_frozen BB16.out 2
                    refine skip_ (w1 := ?_) (by rfl) rfl ?_ ?_
                    rotate_left
                    · go_simp
                      rfl
                    obtain ⟨v6, hv6⟩ : ∃ v6 : World, ((v5.setCell ⟨g1, 0, none⟩ (.int .i64 p.f0)).setCell ⟨g1, 1, none⟩ (.string p.f1)).setCell ⟨g1, 2, none⟩ (.string p.f2) = v6 := ⟨_, rfl⟩
                    rw [hv6]
                    have BW6 : Aside0 (Below wr.heap.size wr v6) := ⟨hv6 ▸ below_set (g := g1) (j := 2) (v := .string p.f2) (below_set (g := g1) (j := 1) (v := .string p.f1) (below_set (g := g1) (j := 0) (v := .int .i64 p.f0) BW5.out GE16.out) GE16.out) GE16.out⟩
                    have BB16n : Aside0 (v6.heap[g1]? = some (.cells #[.int .i64 p.f0, .string p.f1, .string p.f2] 42 (0, 0))) := ⟨hv6 ▸ blk_put (cs := #[.int .i64 p.f0, .string p.f1, .string ⟨#[]⟩]) (blk_put (cs := #[.int .i64 p.f0, .string ⟨#[]⟩, .string ⟨#[]⟩]) (blk_put (cs := #[.int .i64 0, .string ⟨#[]⟩, .string ⟨#[]⟩]) BB16.out 0 (.int .i64 p.f0) rfl) 1 (.string p.f1) rfl) 2 (.string p.f2) rfl⟩
                    have BB17n : Aside0 (v6.heap[g2]? = some (.cells #[.int .i64 0, .string ⟨#[]⟩, .string ⟨#[]⟩] 52 (0, 0))) := ⟨hv6 ▸ blk_far (p := ⟨g1, 2, none⟩) (blk_far (p := ⟨g1, 1, none⟩) (blk_far (p := ⟨g1, 0, none⟩) BB17.out (fun e => NE.out e.symm) _) (fun e => NE.out e.symm) _) (fun e => NE.out e.symm) _⟩
                    clear BB16 BB17 BW5 hz0 hz1 hz2 hf0 hf1 hf2 hv6
                    have BB16 := BB16n
                    have BB17 := BB17n
                    clear BB16n BB17n
                    refine hK.out _ _ ⟨(pw_cell_below BW6.out sa2), (pw_cell_below BW6.out sp0), (pw_cell_below BW6.out sp1), (pw_cell_below BW6.out sp2), (pw_cell_below BW6.out sb2), (pw_cell_below BW6.out sq0), (pw_cell_below BW6.out sq1), (pw_cell_below BW6.out sq2)⟩ (fun hHeld => ?_)
                    clear hK K
                    refine last_ (i := 19) (N := none) #[true, true, true, true, true, true, true, true, true, true, true, true, true, true, true, true, true, true, true, true] rfl rfl (by kernel_rfl) (by decide) (fun K hK => ?_)
                    have hz0 : v6.cell? ⟨g2, 0, none⟩ = some (.int .i64 0) := (blk_cell BB17.out 0).trans rfl
                    have hz1 : v6.cell? ⟨g2, 1, none⟩ = some (.string ⟨#[]⟩) := (blk_cell BB17.out 1).trans rfl
                    have hz2 : v6.cell? ⟨g2, 2, none⟩ = some (.string ⟨#[]⟩) := (blk_cell BB17.out 2).trans rfl
                    have hf0 : v6.frozen? ⟨g2, 0, none⟩ = false := blk_frozen BB17.out 0
                    have hf1 : v6.frozen? ⟨g2, 1, none⟩ = false := blk_frozen BB17.out 1
                    have hf2 : v6.frozen? ⟨g2, 2, none⟩ = false := blk_frozen BB17.out 2
                    refine skip_ (w1 := ?_) (by rfl) rfl ?_ ?_
                    rotate_left
                    · go_simp
                      rfl
                    refine hK.out _ _ ?_
                    clear hK K
                    refine done_ (by kernel_rfl) ?_
                    have hbw7 : Below wr.heap.size wr (((v6.setCell ⟨g2, 0, none⟩ (.int .i64 q.f0)).setCell ⟨g2, 1, none⟩ (.string q.f1)).setCell ⟨g2, 2, none⟩ (.string q.f2)) := below_set (g := g2) (j := 2) (v := .string q.f2) (below_set (g := g2) (j := 1) (v := .string q.f1) (below_set (g := g2) (j := 0) (v := .int .i64 q.f0) BW6.out GE17.out) GE17.out) GE17.out
                    have hpq := blk_put (cs := #[.int .i64 q.f0, .string q.f1, .string ⟨#[]⟩]) (blk_put (cs := #[.int .i64 q.f0, .string ⟨#[]⟩, .string ⟨#[]⟩]) (blk_put (cs := #[.int .i64 0, .string ⟨#[]⟩, .string ⟨#[]⟩]) BB17.out 0 (.int .i64 q.f0) rfl) 1 (.string q.f1) rfl) 2 (.string q.f2) rfl
                    have hpp := blk_far (p := ⟨g2, 2, none⟩) (blk_far (p := ⟨g2, 1, none⟩) (blk_far (p := ⟨g2, 0, none⟩) BB16.out NE.out (.int .i64 q.f0)) NE.out (.string q.f1)) NE.out (.string q.f2)
                    obtain ⟨v7, hv7⟩ : ∃ v7 : World, (((v6.setCell ⟨g2, 0, none⟩ (.int .i64 q.f0)).setCell ⟨g2, 1, none⟩ (.string q.f1)).setCell ⟨g2, 2, none⟩ (.string q.f2)) = v7 := ⟨_, rfl⟩
                    rw [hv7] at hbw7 hpq hpp ⊢
                    have HB7 : Aside0 (Below w.heap.size w v7) := ⟨below_step HB.out hbw7⟩
                    have PP := Aside0.mk hpp
                    have PQ := Aside0.mk hpq
                    have tp0 : v7.cell? ⟨g1, 0, none⟩ = some (.int .i64 p.f0) := (blk_cell PP.out 0).trans rfl
                    have tp1 : v7.cell? ⟨g1, 1, none⟩ = some (.string p.f1) := (blk_cell PP.out 1).trans rfl
                    have tp2 : v7.cell? ⟨g1, 2, none⟩ = some (.string p.f2) := (blk_cell PP.out 2).trans rfl
                    have tq0 : v7.cell? ⟨g2, 0, none⟩ = some (.int .i64 q.f0) := (blk_cell PQ.out 0).trans rfl
                    have tq1 : v7.cell? ⟨g2, 1, none⟩ = some (.string q.f1) := (blk_cell PQ.out 1).trans rfl
                    have tq2 : v7.cell? ⟨g2, 2, none⟩ = some (.string q.f2) := (blk_cell PQ.out 2).trans rfl
                    clear hv7 hbw7 hpq hpp hHeld sp0 sp1 sp2 sq0 sq1 sq2 sa2 sb2 BB16 BB17 BW6 BW0 GE16 GE17 NE HB hz0 hz1 hz2 hf0 hf1 hf2 PP PQ
                    have HB := HB7
                    clear HB7
                    cases e1 : (p.f1.toList == q.f1.toList) with
                    | false =>
                      have B : Aside0 (sameBl l0 l1 true = false) := ⟨OUTK2.out (by unfold sameF; rw [e1]; rfl)⟩
                      clear OUTK2 NXTK2 OUT2 NXT2
                      go_wp2
                      go_ret
                      exact ⟨by rw [B.out]; rfl, (by repeat (first | (with_reducible first | exact HB.out | apply below_alloc | apply pw_below_drewN | apply below_drew1) | exact HB.out))⟩
                    | true =>
                      cases e2 : (p.f2.toList == q.f2.toList) with
                      | false =>
                        have B : Aside0 (sameBl l0 l1 true = false) := ⟨OUTK2.out (by unfold sameF; rw [e1, e2]; rfl)⟩
                        clear OUTK2 NXTK2 OUT2 NXT2
                        go_wp2
                        go_ret
                        exact ⟨by rw [B.out]; rfl, (by repeat (first | (with_reducible first | exact HB.out | apply below_alloc | apply pw_below_drewN | apply below_drew1) | exact HB.out))⟩
                      | true =>
                        cases e3 : (p.f0 == q.f0) with
                        | false =>
                          have e4 : (p.f0 != q.f0) = true := by simp only [bne, e3]; rfl
                          have B : Aside0 (sameBl l0 l1 true = false) := ⟨OUTK2.out (by unfold sameF; rw [e1, e2, e3]; rfl)⟩
                          clear OUTK2 NXTK2 OUT2 NXT2
                          go_wp2
                          go_ret
                          exact ⟨by rw [B.out]; rfl, (by repeat (first | (with_reducible first | exact HB.out | apply below_alloc | apply pw_below_drewN | apply below_drew1) | exact HB.out))⟩
                        | true =>
                          have e4 : (p.f0 != q.f0) = false := by simp only [bne, e3]; rfl
                          have B : Aside0 (sameF p q true = true) := ⟨by unfold sameF; rw [e1, e2, e3]; rfl⟩
                          go_wp2
                          go_roundg (x.f2.length - (k + 1))
                          case measure => have := DK.out; have := HK.out; omega
                          case rel => exact ⟨k + 1, (by rw [hwk.out]; rfl), ⟨DK.out.2, Nat.le_refl _⟩, ⟨(by repeat (first | (with_reducible first | exact HB.out | apply below_alloc | apply pw_below_drewN | apply below_drew1) | exact HB.out))⟩, ⟨NXTK2.out B.out⟩⟩
                  · have hltk : decide ((k : Int) < (x.f2.length : Int)) = false := decide_eq_false (by omega)
                    have hltk2 : decide (k < x.f2.length) = false := decide_eq_false hlt
                    have B : Aside0 (sameB1 x y true = true) := ⟨by unfold sameB1; rw [hk, h0, beq_iff_eq.mpr HNE.out, range_all_true (p := fun k => sameF (rd_T42 x.f2 (k : Int)) (rd_T52 y.f2 (k : Int)) true) (fun j hj => AK.out j (by omega))]; rfl⟩
                    clear AK hlt
                    have sa2 := pw_cell_below HB.out KA2.out
                    go_wp2
                    go_roundg (l0.length - (i + 1))
                    case measure => have := D.out; have := HI.out; omega
                    case rel => exact ⟨i + 1, (by rw [hwi.out]; rfl), ⟨D.out.2, Nat.le_refl _⟩, ⟨(by repeat (first | (with_reducible first | exact HB.out | apply below_alloc | apply pw_below_drewN | apply below_drew1) | exact HB.out))⟩, ⟨NXT2.out B.out⟩⟩
              · have hn1 : ((x.f2.length : Int) == (y.f2.length : Int)) = false := beq_eq_false_iff_ne.mpr (by omega)
                have hn3 : ((x.f2.length : Int) != (y.f2.length : Int)) = true := by simp only [bne, hn1]; rfl
                have hn2 : (x.f2.length == y.f2.length) = false := beq_eq_false_iff_ne.mpr hn
                clear hn
                have B : Aside0 (sameBl l0 l1 true = false) := ⟨OUT2.out (by unfold sameB1; rw [hn2]; simp)⟩
                clear OUT2 NXT2
                go_wp2
                repeat (go_quiet (fail); try go_wp2)
                go_ret
                exact ⟨by rw [B.out]; rfl, (by repeat (first | (with_reducible first | exact HB.out | apply below_alloc | apply pw_below_drewN | apply below_drew1) | exact HB.out))⟩
      · have hltz : decide ((i : Int) < (l0.length : Int)) = false := decide_eq_false (by omega)
        have hltz2 : decide (i < l0.length) = false := decide_eq_false hlt
        have B : Aside0 (sameBl l0 l1 a2 = true) := ⟨by
          unfold sameBl
          rw [beq_iff_eq.mpr HE.out, Bool.true_and]
          exact range_all_true (fun k hk => AL.out k (by omega))⟩
        clear AL hlt
        go_wp2
        go_ret
        exact ⟨by rw [B.out]; rfl, (by repeat (first | (with_reducible first | exact HB.out | apply below_alloc | apply pw_below_drewN | apply below_drew1) | exact HB.out))⟩
  · have hl1 : ((l0.length : Int) == (l1.length : Int)) = false := beq_eq_false_iff_ne.mpr (by omega)
    have hl2 : ((l0.length : Int) != (l1.length : Int)) = true := by simp only [bne, hl1]; rfl
    have B : Aside0 (sameBl l0 l1 a2 = false) := ⟨by unfold sameBl; rw [beq_eq_false_iff_ne.mpr hlen, Bool.false_and]⟩
    clear hlen
    rw [B.out]
    go_enter Tryd.func9, Tryd.ntmps9
    go_wp2
    go_ret
    exact ⟨rfl, (by repeat (first | (with_reducible first | exact HB.out | apply below_alloc | apply pw_below_drewN | apply below_drew1) | exact HB.out))⟩
end Go.Proofs.YtefjppdchgdjlaaDoor.P
