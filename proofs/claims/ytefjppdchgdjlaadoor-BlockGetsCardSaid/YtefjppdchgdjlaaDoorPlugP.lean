/- The parser of the block chapter: (*parser).head, (*parser).field, Parse: as contracts over the parser's state. -/
import Derived.Test.YtefjppdchgdjlaaDoorQs
import Derived.Test.YtefjppdchgdjlaaDoorPlugO
namespace Go.Proofs.YtefjppdchgdjlaaDoor.P
open Go.RowKit Go.Proofs.YtefjppdchgdjlaaDoorW.PrintWords Go.Proofs.YtefjppdchgdjlaaDoorW.PrintLast Go.Proofs.YtefjppdchgdjlaaDoorW.PrintMore
set_option linter.unusedVariables false
set_option linter.unusedSimpArgs false

/-- The parser's state: its block, and the row of blocks that is its own. -/
structure St (w0 w : World) (pb : Nat) (v : Value) (op : Bool) (out : List S40) : Prop where
  hb : Below w0.heap.size w0 w
  hp : w.heap[pb]? = some (.cells #[v, .bool op] 60 (0, 0))
  hq : w0.heap.size ≤ pb
  hs : Kd.S k40 40 w w0.heap.size (fun k => k ≠ pb) v out
theorem St.step {w0 w w1 : World} {pb : Nat} {v : Value} {op : Bool} {out : List S40} (h : St w0 w pb v op out) (hb : Below w.heap.size w w1) : St w0 w1 pb v op out :=
  ⟨below_step h.hb hb, (hb.block pb (blk_lt h.hp)).trans h.hp, h.hq, Kd.S_below h.hs hb⟩
def sDefine : ByteArray := ⟨#[100, 101, 102, 105, 110, 101]⟩
def sWhite : ByteArray := ⟨#[32, 9, 13]⟩
/-- The begin of a block. -/
def block_head.f (out : List S40) (op : Bool) (l : S62) : Option (Option Int × List S40 × Bool) :=
  (strings_CutPrefix.f l.f1 ⟨#[100, 101, 102, 105, 110, 101]⟩).bind fun p1 => (strings_CutSuffix.f p1.1 ⟨#[123]⟩).bind fun p2 => (lex_Trim.f p2.1).bind fun tr =>
    if p1.2 = false then some (some 3, out, op) else if p2.2 = false then some (some 3, out, op) else if tr.toList = [] then some (some 3, out, op) else
    (strings_TrimLeft.f p2.1 ⟨#[32, 9, 13]⟩).bind fun tl => if tl.toList = p2.1.toList then some (some 3, out, op) else
    (block_word.f tr).bind fun wd => if wd = false then some (some 11, out, op) else if 1024 ≤ (out.length : Int) then some (some 10, out, op) else
    some (none, out ++ [⟨l.f0, tr, []⟩], true)
set_option maxHeartbeats 8000000 in
set_option maxRecDepth 100000 in
theorem block_head.calls (out : List S40) (op : Bool) (l : S62) (pb : Nat) (A0 : Option Addr) (c0 : Nat) (w0 w : World) (hst : St w0 w pb (.slice A0 out.length c0) op out) (r1 : Option Int) (r2 : List S40) (r3 : Bool) (h : block_head.f out op l = some (r1, r2, r3)) :
    Calls Tryd.prog 20 #[.pointer (some ⟨pb, 0, none⟩), .agg #[.int .i64 l.f0, .string l.f1]] w fun e w' => e = .returned (errW r1) ∧ (r1 ≠ none → Below w.heap.size w w') ∧ ∃ v', St w0 w' pb v' r3 r2 := by
  have hu40 := Tryd.underlying40
  have hu60 := Tryd.underlying60
  have hu62 := Tryd.underlying62
  have ST := Aside0.mk hst
  clear hst
  have BW := Aside0.mk (Below.refl w.heap.size w)
  unfold block_head.f at h
  obtain ⟨⟨rest, is⟩, e1, h⟩ := Option.bind_eq_some_iff.mp h
  obtain ⟨⟨kind, ends⟩, e2, h⟩ := Option.bind_eq_some_iff.mp h
  obtain ⟨tr, e3, h⟩ := Option.bind_eq_some_iff.mp h
  have h40 := fun W => strings_CutPrefix.calls _ _ _ _ W e1
  have h35 := fun W => strings_CutSuffix.calls _ _ _ _ W e2
  have h41 := fun W => lex_Trim.calls _ _ W e3
  clear e1 e2 e3
  dsimp only at h h40 h35 h41
  cases is with
  | false =>
    rw [if_pos rfl] at h
    obtain ⟨rfl, rfl, rfl⟩ : some 3 = r1 ∧ out = r2 ∧ op = r3 := by simpa using h
    clear h
    go_enter Tryd.func20, Tryd.ntmps20
    go_wp2_with (first | ((with_reducible refine gate_dst (N := 3) rfl ?_); refine box_event ?hg (N := 3) ?hd (cs := #[.int .i64 l.f0, .string l.f1]) (t := 62) ?hr ?_; (case hd => rfl); (case hg => rfl); (case hr => first | (go_simp; done) | (go_simp; rfl)); intro gb hg wN hbox hb; have NE : Aside0 (gb ≠ pb) := ⟨by have := blk_lt ST.out.hp; omega⟩; have BW1 : Aside0 (Below w.heap.size w wN) := ⟨below_step BW.out (by first | exact hb | exact below_q hb)⟩; clear BW; have BW := BW1; clear BW1; have ST1 := Aside0.mk (ST.out.step hb); have BK := Aside0.mk hbox; clear ST; have ST := ST1; clear ST1 hb hbox hg; have hl0 : wN.cell? ⟨gb, 0, none⟩ = some (.int .i64 l.f0) := (blk_cell BK.out 0).trans rfl; have hl1 : wN.cell? ⟨gb, 1, none⟩ = some (.string l.f1) := (blk_cell BK.out 1).trans rfl; have hp0 : wN.cell? ⟨pb, 0, none⟩ = some (.slice A0 out.length c0) := (blk_cell ST.out.hp 0).trans rfl; have hp1 : wN.cell? ⟨pb, 1, none⟩ = some (.bool op) := (blk_cell ST.out.hp 1).trans rfl; have hf1 : wN.frozen? ⟨pb, 1, none⟩ = false := blk_frozen ST.out.hp 1) | (go_at_call 40; refine (h40 _).mono ?_; rintro e wN ⟨rfl, hdr⟩; have hb := hdr.below; have BW1 : Aside0 (Below w.heap.size w wN) := ⟨below_step BW.out (by first | exact hb | exact below_q hb)⟩; clear BW; have BW := BW1; clear BW1; have ST1 : Aside0 (St w0 wN pb (.slice A0 out.length c0) op out) := ⟨ST.out.step (by first | exact hb | exact below_q hb)⟩; have BK1 : Aside0 (wN.heap[gb]? = some (.cells #[.int .i64 l.f0, .string l.f1] 62 (0, 0))) := ⟨blk_step BK.out (by first | exact hb | exact below_q hb)⟩; clear ST BK; have ST := ST1; have BK := BK1; clear ST1 BK1 hb hdr; have hl0 : wN.cell? ⟨gb, 0, none⟩ = some (.int .i64 l.f0) := (blk_cell BK.out 0).trans rfl; have hl1 : wN.cell? ⟨gb, 1, none⟩ = some (.string l.f1) := (blk_cell BK.out 1).trans rfl; have hp0 : wN.cell? ⟨pb, 0, none⟩ = some (.slice A0 out.length c0) := (blk_cell ST.out.hp 0).trans rfl; have hp1 : wN.cell? ⟨pb, 1, none⟩ = some (.bool op) := (blk_cell ST.out.hp 1).trans rfl) | (go_at_call 35; refine (h35 _).mono ?_; rintro e wN ⟨rfl, hdr⟩; have hb := hdr.below; have BW1 : Aside0 (Below w.heap.size w wN) := ⟨below_step BW.out (by first | exact hb | exact below_q hb)⟩; clear BW; have BW := BW1; clear BW1; have ST1 : Aside0 (St w0 wN pb (.slice A0 out.length c0) op out) := ⟨ST.out.step (by first | exact hb | exact below_q hb)⟩; have BK1 : Aside0 (wN.heap[gb]? = some (.cells #[.int .i64 l.f0, .string l.f1] 62 (0, 0))) := ⟨blk_step BK.out (by first | exact hb | exact below_q hb)⟩; clear ST BK; have ST := ST1; have BK := BK1; clear ST1 BK1 hb hdr; have hl0 : wN.cell? ⟨gb, 0, none⟩ = some (.int .i64 l.f0) := (blk_cell BK.out 0).trans rfl; have hl1 : wN.cell? ⟨gb, 1, none⟩ = some (.string l.f1) := (blk_cell BK.out 1).trans rfl; have hp0 : wN.cell? ⟨pb, 0, none⟩ = some (.slice A0 out.length c0) := (blk_cell ST.out.hp 0).trans rfl; have hp1 : wN.cell? ⟨pb, 1, none⟩ = some (.bool op) := (blk_cell ST.out.hp 1).trans rfl) | (go_at_call 41; refine (h41 _).mono ?_; rintro e wN ⟨rfl, hdr⟩; have hb := hdr; have BW1 : Aside0 (Below w.heap.size w wN) := ⟨below_step BW.out (by first | exact hb | exact below_q hb)⟩; clear BW; have BW := BW1; clear BW1; have ST1 : Aside0 (St w0 wN pb (.slice A0 out.length c0) op out) := ⟨ST.out.step (by first | exact hb | exact below_q hb)⟩; have BK1 : Aside0 (wN.heap[gb]? = some (.cells #[.int .i64 l.f0, .string l.f1] 62 (0, 0))) := ⟨blk_step BK.out (by first | exact hb | exact below_q hb)⟩; clear ST BK; have ST := ST1; have BK := BK1; clear ST1 BK1 hb hdr; have hl0 : wN.cell? ⟨gb, 0, none⟩ = some (.int .i64 l.f0) := (blk_cell BK.out 0).trans rfl; have hl1 : wN.cell? ⟨gb, 1, none⟩ = some (.string l.f1) := (blk_cell BK.out 1).trans rfl; have hp0 : wN.cell? ⟨pb, 0, none⟩ = some (.slice A0 out.length c0) := (blk_cell ST.out.hp 0).trans rfl; have hp1 : wN.cell? ⟨pb, 1, none⟩ = some (.bool op) := (blk_cell ST.out.hp 1).trans rfl))
    go_ret
    exact ⟨rfl, fun _ => BW.out, _, ST.out⟩
  | true =>
    rw [if_neg (by decide)] at h
    cases ends with
    | false =>
      rw [if_pos rfl] at h
      obtain ⟨rfl, rfl, rfl⟩ : some 3 = r1 ∧ out = r2 ∧ op = r3 := by simpa using h
      clear h
      go_enter Tryd.func20, Tryd.ntmps20
      go_wp2_with (first | ((with_reducible refine gate_dst (N := 3) rfl ?_); refine box_event ?hg (N := 3) ?hd (cs := #[.int .i64 l.f0, .string l.f1]) (t := 62) ?hr ?_; (case hd => rfl); (case hg => rfl); (case hr => first | (go_simp; done) | (go_simp; rfl)); intro gb hg wN hbox hb; have NE : Aside0 (gb ≠ pb) := ⟨by have := blk_lt ST.out.hp; omega⟩; have BW1 : Aside0 (Below w.heap.size w wN) := ⟨below_step BW.out (by first | exact hb | exact below_q hb)⟩; clear BW; have BW := BW1; clear BW1; have ST1 := Aside0.mk (ST.out.step hb); have BK := Aside0.mk hbox; clear ST; have ST := ST1; clear ST1 hb hbox hg; have hl0 : wN.cell? ⟨gb, 0, none⟩ = some (.int .i64 l.f0) := (blk_cell BK.out 0).trans rfl; have hl1 : wN.cell? ⟨gb, 1, none⟩ = some (.string l.f1) := (blk_cell BK.out 1).trans rfl; have hp0 : wN.cell? ⟨pb, 0, none⟩ = some (.slice A0 out.length c0) := (blk_cell ST.out.hp 0).trans rfl; have hp1 : wN.cell? ⟨pb, 1, none⟩ = some (.bool op) := (blk_cell ST.out.hp 1).trans rfl; have hf1 : wN.frozen? ⟨pb, 1, none⟩ = false := blk_frozen ST.out.hp 1) | (go_at_call 40; refine (h40 _).mono ?_; rintro e wN ⟨rfl, hdr⟩; have hb := hdr.below; have BW1 : Aside0 (Below w.heap.size w wN) := ⟨below_step BW.out (by first | exact hb | exact below_q hb)⟩; clear BW; have BW := BW1; clear BW1; have ST1 : Aside0 (St w0 wN pb (.slice A0 out.length c0) op out) := ⟨ST.out.step (by first | exact hb | exact below_q hb)⟩; have BK1 : Aside0 (wN.heap[gb]? = some (.cells #[.int .i64 l.f0, .string l.f1] 62 (0, 0))) := ⟨blk_step BK.out (by first | exact hb | exact below_q hb)⟩; clear ST BK; have ST := ST1; have BK := BK1; clear ST1 BK1 hb hdr; have hl0 : wN.cell? ⟨gb, 0, none⟩ = some (.int .i64 l.f0) := (blk_cell BK.out 0).trans rfl; have hl1 : wN.cell? ⟨gb, 1, none⟩ = some (.string l.f1) := (blk_cell BK.out 1).trans rfl; have hp0 : wN.cell? ⟨pb, 0, none⟩ = some (.slice A0 out.length c0) := (blk_cell ST.out.hp 0).trans rfl; have hp1 : wN.cell? ⟨pb, 1, none⟩ = some (.bool op) := (blk_cell ST.out.hp 1).trans rfl) | (go_at_call 35; refine (h35 _).mono ?_; rintro e wN ⟨rfl, hdr⟩; have hb := hdr.below; have BW1 : Aside0 (Below w.heap.size w wN) := ⟨below_step BW.out (by first | exact hb | exact below_q hb)⟩; clear BW; have BW := BW1; clear BW1; have ST1 : Aside0 (St w0 wN pb (.slice A0 out.length c0) op out) := ⟨ST.out.step (by first | exact hb | exact below_q hb)⟩; have BK1 : Aside0 (wN.heap[gb]? = some (.cells #[.int .i64 l.f0, .string l.f1] 62 (0, 0))) := ⟨blk_step BK.out (by first | exact hb | exact below_q hb)⟩; clear ST BK; have ST := ST1; have BK := BK1; clear ST1 BK1 hb hdr; have hl0 : wN.cell? ⟨gb, 0, none⟩ = some (.int .i64 l.f0) := (blk_cell BK.out 0).trans rfl; have hl1 : wN.cell? ⟨gb, 1, none⟩ = some (.string l.f1) := (blk_cell BK.out 1).trans rfl; have hp0 : wN.cell? ⟨pb, 0, none⟩ = some (.slice A0 out.length c0) := (blk_cell ST.out.hp 0).trans rfl; have hp1 : wN.cell? ⟨pb, 1, none⟩ = some (.bool op) := (blk_cell ST.out.hp 1).trans rfl) | (go_at_call 41; refine (h41 _).mono ?_; rintro e wN ⟨rfl, hdr⟩; have hb := hdr; have BW1 : Aside0 (Below w.heap.size w wN) := ⟨below_step BW.out (by first | exact hb | exact below_q hb)⟩; clear BW; have BW := BW1; clear BW1; have ST1 : Aside0 (St w0 wN pb (.slice A0 out.length c0) op out) := ⟨ST.out.step (by first | exact hb | exact below_q hb)⟩; have BK1 : Aside0 (wN.heap[gb]? = some (.cells #[.int .i64 l.f0, .string l.f1] 62 (0, 0))) := ⟨blk_step BK.out (by first | exact hb | exact below_q hb)⟩; clear ST BK; have ST := ST1; have BK := BK1; clear ST1 BK1 hb hdr; have hl0 : wN.cell? ⟨gb, 0, none⟩ = some (.int .i64 l.f0) := (blk_cell BK.out 0).trans rfl; have hl1 : wN.cell? ⟨gb, 1, none⟩ = some (.string l.f1) := (blk_cell BK.out 1).trans rfl; have hp0 : wN.cell? ⟨pb, 0, none⟩ = some (.slice A0 out.length c0) := (blk_cell ST.out.hp 0).trans rfl; have hp1 : wN.cell? ⟨pb, 1, none⟩ = some (.bool op) := (blk_cell ST.out.hp 1).trans rfl))
      go_ret
      exact ⟨rfl, fun _ => BW.out, _, ST.out⟩
    | true =>
      rw [if_neg (by decide)] at h
      by_cases hE : tr.toList = []
      · rw [if_pos hE] at h
        obtain ⟨rfl, rfl, rfl⟩ : some 3 = r1 ∧ out = r2 ∧ op = r3 := by simpa using h
        clear h
        have hE1 : (tr.toList == []) = true := beq_iff_eq.mpr hE
        have hE2 : tr.toList.isEmpty = true := List.isEmpty_iff.mpr hE
        clear hE
        go_enter Tryd.func20, Tryd.ntmps20
        go_wp2_with (first | ((with_reducible refine gate_dst (N := 3) rfl ?_); refine box_event ?hg (N := 3) ?hd (cs := #[.int .i64 l.f0, .string l.f1]) (t := 62) ?hr ?_; (case hd => rfl); (case hg => rfl); (case hr => first | (go_simp; done) | (go_simp; rfl)); intro gb hg wN hbox hb; have NE : Aside0 (gb ≠ pb) := ⟨by have := blk_lt ST.out.hp; omega⟩; have BW1 : Aside0 (Below w.heap.size w wN) := ⟨below_step BW.out (by first | exact hb | exact below_q hb)⟩; clear BW; have BW := BW1; clear BW1; have ST1 := Aside0.mk (ST.out.step hb); have BK := Aside0.mk hbox; clear ST; have ST := ST1; clear ST1 hb hbox hg; have hl0 : wN.cell? ⟨gb, 0, none⟩ = some (.int .i64 l.f0) := (blk_cell BK.out 0).trans rfl; have hl1 : wN.cell? ⟨gb, 1, none⟩ = some (.string l.f1) := (blk_cell BK.out 1).trans rfl; have hp0 : wN.cell? ⟨pb, 0, none⟩ = some (.slice A0 out.length c0) := (blk_cell ST.out.hp 0).trans rfl; have hp1 : wN.cell? ⟨pb, 1, none⟩ = some (.bool op) := (blk_cell ST.out.hp 1).trans rfl; have hf1 : wN.frozen? ⟨pb, 1, none⟩ = false := blk_frozen ST.out.hp 1) | (go_at_call 40; refine (h40 _).mono ?_; rintro e wN ⟨rfl, hdr⟩; have hb := hdr.below; have BW1 : Aside0 (Below w.heap.size w wN) := ⟨below_step BW.out (by first | exact hb | exact below_q hb)⟩; clear BW; have BW := BW1; clear BW1; have ST1 : Aside0 (St w0 wN pb (.slice A0 out.length c0) op out) := ⟨ST.out.step (by first | exact hb | exact below_q hb)⟩; have BK1 : Aside0 (wN.heap[gb]? = some (.cells #[.int .i64 l.f0, .string l.f1] 62 (0, 0))) := ⟨blk_step BK.out (by first | exact hb | exact below_q hb)⟩; clear ST BK; have ST := ST1; have BK := BK1; clear ST1 BK1 hb hdr; have hl0 : wN.cell? ⟨gb, 0, none⟩ = some (.int .i64 l.f0) := (blk_cell BK.out 0).trans rfl; have hl1 : wN.cell? ⟨gb, 1, none⟩ = some (.string l.f1) := (blk_cell BK.out 1).trans rfl; have hp0 : wN.cell? ⟨pb, 0, none⟩ = some (.slice A0 out.length c0) := (blk_cell ST.out.hp 0).trans rfl; have hp1 : wN.cell? ⟨pb, 1, none⟩ = some (.bool op) := (blk_cell ST.out.hp 1).trans rfl) | (go_at_call 35; refine (h35 _).mono ?_; rintro e wN ⟨rfl, hdr⟩; have hb := hdr.below; have BW1 : Aside0 (Below w.heap.size w wN) := ⟨below_step BW.out (by first | exact hb | exact below_q hb)⟩; clear BW; have BW := BW1; clear BW1; have ST1 : Aside0 (St w0 wN pb (.slice A0 out.length c0) op out) := ⟨ST.out.step (by first | exact hb | exact below_q hb)⟩; have BK1 : Aside0 (wN.heap[gb]? = some (.cells #[.int .i64 l.f0, .string l.f1] 62 (0, 0))) := ⟨blk_step BK.out (by first | exact hb | exact below_q hb)⟩; clear ST BK; have ST := ST1; have BK := BK1; clear ST1 BK1 hb hdr; have hl0 : wN.cell? ⟨gb, 0, none⟩ = some (.int .i64 l.f0) := (blk_cell BK.out 0).trans rfl; have hl1 : wN.cell? ⟨gb, 1, none⟩ = some (.string l.f1) := (blk_cell BK.out 1).trans rfl; have hp0 : wN.cell? ⟨pb, 0, none⟩ = some (.slice A0 out.length c0) := (blk_cell ST.out.hp 0).trans rfl; have hp1 : wN.cell? ⟨pb, 1, none⟩ = some (.bool op) := (blk_cell ST.out.hp 1).trans rfl) | (go_at_call 41; refine (h41 _).mono ?_; rintro e wN ⟨rfl, hdr⟩; have hb := hdr; have BW1 : Aside0 (Below w.heap.size w wN) := ⟨below_step BW.out (by first | exact hb | exact below_q hb)⟩; clear BW; have BW := BW1; clear BW1; have ST1 : Aside0 (St w0 wN pb (.slice A0 out.length c0) op out) := ⟨ST.out.step (by first | exact hb | exact below_q hb)⟩; have BK1 : Aside0 (wN.heap[gb]? = some (.cells #[.int .i64 l.f0, .string l.f1] 62 (0, 0))) := ⟨blk_step BK.out (by first | exact hb | exact below_q hb)⟩; clear ST BK; have ST := ST1; have BK := BK1; clear ST1 BK1 hb hdr; have hl0 : wN.cell? ⟨gb, 0, none⟩ = some (.int .i64 l.f0) := (blk_cell BK.out 0).trans rfl; have hl1 : wN.cell? ⟨gb, 1, none⟩ = some (.string l.f1) := (blk_cell BK.out 1).trans rfl; have hp0 : wN.cell? ⟨pb, 0, none⟩ = some (.slice A0 out.length c0) := (blk_cell ST.out.hp 0).trans rfl; have hp1 : wN.cell? ⟨pb, 1, none⟩ = some (.bool op) := (blk_cell ST.out.hp 1).trans rfl))
        go_ret
        exact ⟨rfl, fun _ => BW.out, _, ST.out⟩
      · rw [if_neg hE] at h
        have hE1 : (tr.toList == []) = false := beq_eq_false_iff_ne.mpr hE
        have hE2 : tr.toList.isEmpty = false := Bool.eq_false_iff.mpr (fun e => hE (List.isEmpty_iff.mp e))
        clear hE
        obtain ⟨tl, e4, h⟩ := Option.bind_eq_some_iff.mp h
        have h42 := fun W => strings_TrimLeft.calls _ _ _ W e4
        clear e4
        by_cases hT : tl.toList = kind.toList
        · rw [if_pos hT] at h
          obtain ⟨rfl, rfl, rfl⟩ : some 3 = r1 ∧ out = r2 ∧ op = r3 := by simpa using h
          clear h
          have hT1 : (tl.toList == kind.toList) = true := beq_iff_eq.mpr hT
          clear hT
          go_enter Tryd.func20, Tryd.ntmps20
          go_wp2_with (first | ((with_reducible refine gate_dst (N := 3) rfl ?_); refine box_event ?hg (N := 3) ?hd (cs := #[.int .i64 l.f0, .string l.f1]) (t := 62) ?hr ?_; (case hd => rfl); (case hg => rfl); (case hr => first | (go_simp; done) | (go_simp; rfl)); intro gb hg wN hbox hb; have NE : Aside0 (gb ≠ pb) := ⟨by have := blk_lt ST.out.hp; omega⟩; have BW1 : Aside0 (Below w.heap.size w wN) := ⟨below_step BW.out (by first | exact hb | exact below_q hb)⟩; clear BW; have BW := BW1; clear BW1; have ST1 := Aside0.mk (ST.out.step hb); have BK := Aside0.mk hbox; clear ST; have ST := ST1; clear ST1 hb hbox hg; have hl0 : wN.cell? ⟨gb, 0, none⟩ = some (.int .i64 l.f0) := (blk_cell BK.out 0).trans rfl; have hl1 : wN.cell? ⟨gb, 1, none⟩ = some (.string l.f1) := (blk_cell BK.out 1).trans rfl; have hp0 : wN.cell? ⟨pb, 0, none⟩ = some (.slice A0 out.length c0) := (blk_cell ST.out.hp 0).trans rfl; have hp1 : wN.cell? ⟨pb, 1, none⟩ = some (.bool op) := (blk_cell ST.out.hp 1).trans rfl; have hf1 : wN.frozen? ⟨pb, 1, none⟩ = false := blk_frozen ST.out.hp 1) | (go_at_call 40; refine (h40 _).mono ?_; rintro e wN ⟨rfl, hdr⟩; have hb := hdr.below; have BW1 : Aside0 (Below w.heap.size w wN) := ⟨below_step BW.out (by first | exact hb | exact below_q hb)⟩; clear BW; have BW := BW1; clear BW1; have ST1 : Aside0 (St w0 wN pb (.slice A0 out.length c0) op out) := ⟨ST.out.step (by first | exact hb | exact below_q hb)⟩; have BK1 : Aside0 (wN.heap[gb]? = some (.cells #[.int .i64 l.f0, .string l.f1] 62 (0, 0))) := ⟨blk_step BK.out (by first | exact hb | exact below_q hb)⟩; clear ST BK; have ST := ST1; have BK := BK1; clear ST1 BK1 hb hdr; have hl0 : wN.cell? ⟨gb, 0, none⟩ = some (.int .i64 l.f0) := (blk_cell BK.out 0).trans rfl; have hl1 : wN.cell? ⟨gb, 1, none⟩ = some (.string l.f1) := (blk_cell BK.out 1).trans rfl; have hp0 : wN.cell? ⟨pb, 0, none⟩ = some (.slice A0 out.length c0) := (blk_cell ST.out.hp 0).trans rfl; have hp1 : wN.cell? ⟨pb, 1, none⟩ = some (.bool op) := (blk_cell ST.out.hp 1).trans rfl) | (go_at_call 35; refine (h35 _).mono ?_; rintro e wN ⟨rfl, hdr⟩; have hb := hdr.below; have BW1 : Aside0 (Below w.heap.size w wN) := ⟨below_step BW.out (by first | exact hb | exact below_q hb)⟩; clear BW; have BW := BW1; clear BW1; have ST1 : Aside0 (St w0 wN pb (.slice A0 out.length c0) op out) := ⟨ST.out.step (by first | exact hb | exact below_q hb)⟩; have BK1 : Aside0 (wN.heap[gb]? = some (.cells #[.int .i64 l.f0, .string l.f1] 62 (0, 0))) := ⟨blk_step BK.out (by first | exact hb | exact below_q hb)⟩; clear ST BK; have ST := ST1; have BK := BK1; clear ST1 BK1 hb hdr; have hl0 : wN.cell? ⟨gb, 0, none⟩ = some (.int .i64 l.f0) := (blk_cell BK.out 0).trans rfl; have hl1 : wN.cell? ⟨gb, 1, none⟩ = some (.string l.f1) := (blk_cell BK.out 1).trans rfl; have hp0 : wN.cell? ⟨pb, 0, none⟩ = some (.slice A0 out.length c0) := (blk_cell ST.out.hp 0).trans rfl; have hp1 : wN.cell? ⟨pb, 1, none⟩ = some (.bool op) := (blk_cell ST.out.hp 1).trans rfl) | (go_at_call 41; refine (h41 _).mono ?_; rintro e wN ⟨rfl, hdr⟩; have hb := hdr; have BW1 : Aside0 (Below w.heap.size w wN) := ⟨below_step BW.out (by first | exact hb | exact below_q hb)⟩; clear BW; have BW := BW1; clear BW1; have ST1 : Aside0 (St w0 wN pb (.slice A0 out.length c0) op out) := ⟨ST.out.step (by first | exact hb | exact below_q hb)⟩; have BK1 : Aside0 (wN.heap[gb]? = some (.cells #[.int .i64 l.f0, .string l.f1] 62 (0, 0))) := ⟨blk_step BK.out (by first | exact hb | exact below_q hb)⟩; clear ST BK; have ST := ST1; have BK := BK1; clear ST1 BK1 hb hdr; have hl0 : wN.cell? ⟨gb, 0, none⟩ = some (.int .i64 l.f0) := (blk_cell BK.out 0).trans rfl; have hl1 : wN.cell? ⟨gb, 1, none⟩ = some (.string l.f1) := (blk_cell BK.out 1).trans rfl; have hp0 : wN.cell? ⟨pb, 0, none⟩ = some (.slice A0 out.length c0) := (blk_cell ST.out.hp 0).trans rfl; have hp1 : wN.cell? ⟨pb, 1, none⟩ = some (.bool op) := (blk_cell ST.out.hp 1).trans rfl) | (go_at_call 42; refine (h42 _).mono ?_; rintro e wN ⟨rfl, hdr⟩; have hb := hdr; have BW1 : Aside0 (Below w.heap.size w wN) := ⟨below_step BW.out (by first | exact hb | exact below_q hb)⟩; clear BW; have BW := BW1; clear BW1; have ST1 : Aside0 (St w0 wN pb (.slice A0 out.length c0) op out) := ⟨ST.out.step (by first | exact hb | exact below_q hb)⟩; have BK1 : Aside0 (wN.heap[gb]? = some (.cells #[.int .i64 l.f0, .string l.f1] 62 (0, 0))) := ⟨blk_step BK.out (by first | exact hb | exact below_q hb)⟩; clear ST BK; have ST := ST1; have BK := BK1; clear ST1 BK1 hb hdr; have hl0 : wN.cell? ⟨gb, 0, none⟩ = some (.int .i64 l.f0) := (blk_cell BK.out 0).trans rfl; have hl1 : wN.cell? ⟨gb, 1, none⟩ = some (.string l.f1) := (blk_cell BK.out 1).trans rfl; have hp0 : wN.cell? ⟨pb, 0, none⟩ = some (.slice A0 out.length c0) := (blk_cell ST.out.hp 0).trans rfl; have hp1 : wN.cell? ⟨pb, 1, none⟩ = some (.bool op) := (blk_cell ST.out.hp 1).trans rfl))
          go_ret
          exact ⟨rfl, fun _ => BW.out, _, ST.out⟩
        · rw [if_neg hT] at h
          have hT1 : (tl.toList == kind.toList) = false := beq_eq_false_iff_ne.mpr hT
          clear hT
          obtain ⟨wd, e5, h⟩ := Option.bind_eq_some_iff.mp h
          have h39 := fun W => block_word.calls _ _ W e5
          clear e5
          cases wd with
          | false =>
            rw [if_pos rfl] at h
            obtain ⟨rfl, rfl, rfl⟩ : some 11 = r1 ∧ out = r2 ∧ op = r3 := by simpa using h
            clear h
            go_enter Tryd.func20, Tryd.ntmps20
            go_wp2_with (first | ((with_reducible refine gate_dst (N := 3) rfl ?_); refine box_event ?hg (N := 3) ?hd (cs := #[.int .i64 l.f0, .string l.f1]) (t := 62) ?hr ?_; (case hd => rfl); (case hg => rfl); (case hr => first | (go_simp; done) | (go_simp; rfl)); intro gb hg wN hbox hb; have NE : Aside0 (gb ≠ pb) := ⟨by have := blk_lt ST.out.hp; omega⟩; have BW1 : Aside0 (Below w.heap.size w wN) := ⟨below_step BW.out (by first | exact hb | exact below_q hb)⟩; clear BW; have BW := BW1; clear BW1; have ST1 := Aside0.mk (ST.out.step hb); have BK := Aside0.mk hbox; clear ST; have ST := ST1; clear ST1 hb hbox hg; have hl0 : wN.cell? ⟨gb, 0, none⟩ = some (.int .i64 l.f0) := (blk_cell BK.out 0).trans rfl; have hl1 : wN.cell? ⟨gb, 1, none⟩ = some (.string l.f1) := (blk_cell BK.out 1).trans rfl; have hp0 : wN.cell? ⟨pb, 0, none⟩ = some (.slice A0 out.length c0) := (blk_cell ST.out.hp 0).trans rfl; have hp1 : wN.cell? ⟨pb, 1, none⟩ = some (.bool op) := (blk_cell ST.out.hp 1).trans rfl; have hf1 : wN.frozen? ⟨pb, 1, none⟩ = false := blk_frozen ST.out.hp 1) | (go_at_call 40; refine (h40 _).mono ?_; rintro e wN ⟨rfl, hdr⟩; have hb := hdr.below; have BW1 : Aside0 (Below w.heap.size w wN) := ⟨below_step BW.out (by first | exact hb | exact below_q hb)⟩; clear BW; have BW := BW1; clear BW1; have ST1 : Aside0 (St w0 wN pb (.slice A0 out.length c0) op out) := ⟨ST.out.step (by first | exact hb | exact below_q hb)⟩; have BK1 : Aside0 (wN.heap[gb]? = some (.cells #[.int .i64 l.f0, .string l.f1] 62 (0, 0))) := ⟨blk_step BK.out (by first | exact hb | exact below_q hb)⟩; clear ST BK; have ST := ST1; have BK := BK1; clear ST1 BK1 hb hdr; have hl0 : wN.cell? ⟨gb, 0, none⟩ = some (.int .i64 l.f0) := (blk_cell BK.out 0).trans rfl; have hl1 : wN.cell? ⟨gb, 1, none⟩ = some (.string l.f1) := (blk_cell BK.out 1).trans rfl; have hp0 : wN.cell? ⟨pb, 0, none⟩ = some (.slice A0 out.length c0) := (blk_cell ST.out.hp 0).trans rfl; have hp1 : wN.cell? ⟨pb, 1, none⟩ = some (.bool op) := (blk_cell ST.out.hp 1).trans rfl) | (go_at_call 35; refine (h35 _).mono ?_; rintro e wN ⟨rfl, hdr⟩; have hb := hdr.below; have BW1 : Aside0 (Below w.heap.size w wN) := ⟨below_step BW.out (by first | exact hb | exact below_q hb)⟩; clear BW; have BW := BW1; clear BW1; have ST1 : Aside0 (St w0 wN pb (.slice A0 out.length c0) op out) := ⟨ST.out.step (by first | exact hb | exact below_q hb)⟩; have BK1 : Aside0 (wN.heap[gb]? = some (.cells #[.int .i64 l.f0, .string l.f1] 62 (0, 0))) := ⟨blk_step BK.out (by first | exact hb | exact below_q hb)⟩; clear ST BK; have ST := ST1; have BK := BK1; clear ST1 BK1 hb hdr; have hl0 : wN.cell? ⟨gb, 0, none⟩ = some (.int .i64 l.f0) := (blk_cell BK.out 0).trans rfl; have hl1 : wN.cell? ⟨gb, 1, none⟩ = some (.string l.f1) := (blk_cell BK.out 1).trans rfl; have hp0 : wN.cell? ⟨pb, 0, none⟩ = some (.slice A0 out.length c0) := (blk_cell ST.out.hp 0).trans rfl; have hp1 : wN.cell? ⟨pb, 1, none⟩ = some (.bool op) := (blk_cell ST.out.hp 1).trans rfl) | (go_at_call 41; refine (h41 _).mono ?_; rintro e wN ⟨rfl, hdr⟩; have hb := hdr; have BW1 : Aside0 (Below w.heap.size w wN) := ⟨below_step BW.out (by first | exact hb | exact below_q hb)⟩; clear BW; have BW := BW1; clear BW1; have ST1 : Aside0 (St w0 wN pb (.slice A0 out.length c0) op out) := ⟨ST.out.step (by first | exact hb | exact below_q hb)⟩; have BK1 : Aside0 (wN.heap[gb]? = some (.cells #[.int .i64 l.f0, .string l.f1] 62 (0, 0))) := ⟨blk_step BK.out (by first | exact hb | exact below_q hb)⟩; clear ST BK; have ST := ST1; have BK := BK1; clear ST1 BK1 hb hdr; have hl0 : wN.cell? ⟨gb, 0, none⟩ = some (.int .i64 l.f0) := (blk_cell BK.out 0).trans rfl; have hl1 : wN.cell? ⟨gb, 1, none⟩ = some (.string l.f1) := (blk_cell BK.out 1).trans rfl; have hp0 : wN.cell? ⟨pb, 0, none⟩ = some (.slice A0 out.length c0) := (blk_cell ST.out.hp 0).trans rfl; have hp1 : wN.cell? ⟨pb, 1, none⟩ = some (.bool op) := (blk_cell ST.out.hp 1).trans rfl) | (go_at_call 42; refine (h42 _).mono ?_; rintro e wN ⟨rfl, hdr⟩; have hb := hdr; have BW1 : Aside0 (Below w.heap.size w wN) := ⟨below_step BW.out (by first | exact hb | exact below_q hb)⟩; clear BW; have BW := BW1; clear BW1; have ST1 : Aside0 (St w0 wN pb (.slice A0 out.length c0) op out) := ⟨ST.out.step (by first | exact hb | exact below_q hb)⟩; have BK1 : Aside0 (wN.heap[gb]? = some (.cells #[.int .i64 l.f0, .string l.f1] 62 (0, 0))) := ⟨blk_step BK.out (by first | exact hb | exact below_q hb)⟩; clear ST BK; have ST := ST1; have BK := BK1; clear ST1 BK1 hb hdr; have hl0 : wN.cell? ⟨gb, 0, none⟩ = some (.int .i64 l.f0) := (blk_cell BK.out 0).trans rfl; have hl1 : wN.cell? ⟨gb, 1, none⟩ = some (.string l.f1) := (blk_cell BK.out 1).trans rfl; have hp0 : wN.cell? ⟨pb, 0, none⟩ = some (.slice A0 out.length c0) := (blk_cell ST.out.hp 0).trans rfl; have hp1 : wN.cell? ⟨pb, 1, none⟩ = some (.bool op) := (blk_cell ST.out.hp 1).trans rfl) | (go_at_call 39; refine (h39 _).mono ?_; rintro e wN ⟨rfl, hdr⟩; have hb := hdr.below; have BW1 : Aside0 (Below w.heap.size w wN) := ⟨below_step BW.out (by first | exact hb | exact below_q hb)⟩; clear BW; have BW := BW1; clear BW1; have ST1 : Aside0 (St w0 wN pb (.slice A0 out.length c0) op out) := ⟨ST.out.step (by first | exact hb | exact below_q hb)⟩; have BK1 : Aside0 (wN.heap[gb]? = some (.cells #[.int .i64 l.f0, .string l.f1] 62 (0, 0))) := ⟨blk_step BK.out (by first | exact hb | exact below_q hb)⟩; clear ST BK; have ST := ST1; have BK := BK1; clear ST1 BK1 hb hdr; have hl0 : wN.cell? ⟨gb, 0, none⟩ = some (.int .i64 l.f0) := (blk_cell BK.out 0).trans rfl; have hl1 : wN.cell? ⟨gb, 1, none⟩ = some (.string l.f1) := (blk_cell BK.out 1).trans rfl; have hp0 : wN.cell? ⟨pb, 0, none⟩ = some (.slice A0 out.length c0) := (blk_cell ST.out.hp 0).trans rfl; have hp1 : wN.cell? ⟨pb, 1, none⟩ = some (.bool op) := (blk_cell ST.out.hp 1).trans rfl))
            go_ret
            exact ⟨rfl, fun _ => BW.out, _, ST.out⟩
          | true =>
            rw [if_neg (by decide)] at h
            by_cases hL : 1024 ≤ (out.length : Int)
            · rw [if_pos hL] at h
              obtain ⟨rfl, rfl, rfl⟩ : some 10 = r1 ∧ out = r2 ∧ op = r3 := by simpa using h
              clear h
              have hL1 : decide (1024 ≤ (out.length : Int)) = true := decide_eq_true hL
              have hL2 : decide (1024 ≤ out.length) = true := decide_eq_true (by omega)
              clear hL
              go_enter Tryd.func20, Tryd.ntmps20
              go_wp2_with (first | ((with_reducible refine gate_dst (N := 3) rfl ?_); refine box_event ?hg (N := 3) ?hd (cs := #[.int .i64 l.f0, .string l.f1]) (t := 62) ?hr ?_; (case hd => rfl); (case hg => rfl); (case hr => first | (go_simp; done) | (go_simp; rfl)); intro gb hg wN hbox hb; have NE : Aside0 (gb ≠ pb) := ⟨by have := blk_lt ST.out.hp; omega⟩; have BW1 : Aside0 (Below w.heap.size w wN) := ⟨below_step BW.out (by first | exact hb | exact below_q hb)⟩; clear BW; have BW := BW1; clear BW1; have ST1 := Aside0.mk (ST.out.step hb); have BK := Aside0.mk hbox; clear ST; have ST := ST1; clear ST1 hb hbox hg; have hl0 : wN.cell? ⟨gb, 0, none⟩ = some (.int .i64 l.f0) := (blk_cell BK.out 0).trans rfl; have hl1 : wN.cell? ⟨gb, 1, none⟩ = some (.string l.f1) := (blk_cell BK.out 1).trans rfl; have hp0 : wN.cell? ⟨pb, 0, none⟩ = some (.slice A0 out.length c0) := (blk_cell ST.out.hp 0).trans rfl; have hp1 : wN.cell? ⟨pb, 1, none⟩ = some (.bool op) := (blk_cell ST.out.hp 1).trans rfl; have hf1 : wN.frozen? ⟨pb, 1, none⟩ = false := blk_frozen ST.out.hp 1) | (go_at_call 40; refine (h40 _).mono ?_; rintro e wN ⟨rfl, hdr⟩; have hb := hdr.below; have BW1 : Aside0 (Below w.heap.size w wN) := ⟨below_step BW.out (by first | exact hb | exact below_q hb)⟩; clear BW; have BW := BW1; clear BW1; have ST1 : Aside0 (St w0 wN pb (.slice A0 out.length c0) op out) := ⟨ST.out.step (by first | exact hb | exact below_q hb)⟩; have BK1 : Aside0 (wN.heap[gb]? = some (.cells #[.int .i64 l.f0, .string l.f1] 62 (0, 0))) := ⟨blk_step BK.out (by first | exact hb | exact below_q hb)⟩; clear ST BK; have ST := ST1; have BK := BK1; clear ST1 BK1 hb hdr; have hl0 : wN.cell? ⟨gb, 0, none⟩ = some (.int .i64 l.f0) := (blk_cell BK.out 0).trans rfl; have hl1 : wN.cell? ⟨gb, 1, none⟩ = some (.string l.f1) := (blk_cell BK.out 1).trans rfl; have hp0 : wN.cell? ⟨pb, 0, none⟩ = some (.slice A0 out.length c0) := (blk_cell ST.out.hp 0).trans rfl; have hp1 : wN.cell? ⟨pb, 1, none⟩ = some (.bool op) := (blk_cell ST.out.hp 1).trans rfl) | (go_at_call 35; refine (h35 _).mono ?_; rintro e wN ⟨rfl, hdr⟩; have hb := hdr.below; have BW1 : Aside0 (Below w.heap.size w wN) := ⟨below_step BW.out (by first | exact hb | exact below_q hb)⟩; clear BW; have BW := BW1; clear BW1; have ST1 : Aside0 (St w0 wN pb (.slice A0 out.length c0) op out) := ⟨ST.out.step (by first | exact hb | exact below_q hb)⟩; have BK1 : Aside0 (wN.heap[gb]? = some (.cells #[.int .i64 l.f0, .string l.f1] 62 (0, 0))) := ⟨blk_step BK.out (by first | exact hb | exact below_q hb)⟩; clear ST BK; have ST := ST1; have BK := BK1; clear ST1 BK1 hb hdr; have hl0 : wN.cell? ⟨gb, 0, none⟩ = some (.int .i64 l.f0) := (blk_cell BK.out 0).trans rfl; have hl1 : wN.cell? ⟨gb, 1, none⟩ = some (.string l.f1) := (blk_cell BK.out 1).trans rfl; have hp0 : wN.cell? ⟨pb, 0, none⟩ = some (.slice A0 out.length c0) := (blk_cell ST.out.hp 0).trans rfl; have hp1 : wN.cell? ⟨pb, 1, none⟩ = some (.bool op) := (blk_cell ST.out.hp 1).trans rfl) | (go_at_call 41; refine (h41 _).mono ?_; rintro e wN ⟨rfl, hdr⟩; have hb := hdr; have BW1 : Aside0 (Below w.heap.size w wN) := ⟨below_step BW.out (by first | exact hb | exact below_q hb)⟩; clear BW; have BW := BW1; clear BW1; have ST1 : Aside0 (St w0 wN pb (.slice A0 out.length c0) op out) := ⟨ST.out.step (by first | exact hb | exact below_q hb)⟩; have BK1 : Aside0 (wN.heap[gb]? = some (.cells #[.int .i64 l.f0, .string l.f1] 62 (0, 0))) := ⟨blk_step BK.out (by first | exact hb | exact below_q hb)⟩; clear ST BK; have ST := ST1; have BK := BK1; clear ST1 BK1 hb hdr; have hl0 : wN.cell? ⟨gb, 0, none⟩ = some (.int .i64 l.f0) := (blk_cell BK.out 0).trans rfl; have hl1 : wN.cell? ⟨gb, 1, none⟩ = some (.string l.f1) := (blk_cell BK.out 1).trans rfl; have hp0 : wN.cell? ⟨pb, 0, none⟩ = some (.slice A0 out.length c0) := (blk_cell ST.out.hp 0).trans rfl; have hp1 : wN.cell? ⟨pb, 1, none⟩ = some (.bool op) := (blk_cell ST.out.hp 1).trans rfl) | (go_at_call 42; refine (h42 _).mono ?_; rintro e wN ⟨rfl, hdr⟩; have hb := hdr; have BW1 : Aside0 (Below w.heap.size w wN) := ⟨below_step BW.out (by first | exact hb | exact below_q hb)⟩; clear BW; have BW := BW1; clear BW1; have ST1 : Aside0 (St w0 wN pb (.slice A0 out.length c0) op out) := ⟨ST.out.step (by first | exact hb | exact below_q hb)⟩; have BK1 : Aside0 (wN.heap[gb]? = some (.cells #[.int .i64 l.f0, .string l.f1] 62 (0, 0))) := ⟨blk_step BK.out (by first | exact hb | exact below_q hb)⟩; clear ST BK; have ST := ST1; have BK := BK1; clear ST1 BK1 hb hdr; have hl0 : wN.cell? ⟨gb, 0, none⟩ = some (.int .i64 l.f0) := (blk_cell BK.out 0).trans rfl; have hl1 : wN.cell? ⟨gb, 1, none⟩ = some (.string l.f1) := (blk_cell BK.out 1).trans rfl; have hp0 : wN.cell? ⟨pb, 0, none⟩ = some (.slice A0 out.length c0) := (blk_cell ST.out.hp 0).trans rfl; have hp1 : wN.cell? ⟨pb, 1, none⟩ = some (.bool op) := (blk_cell ST.out.hp 1).trans rfl) | (go_at_call 39; refine (h39 _).mono ?_; rintro e wN ⟨rfl, hdr⟩; have hb := hdr.below; have BW1 : Aside0 (Below w.heap.size w wN) := ⟨below_step BW.out (by first | exact hb | exact below_q hb)⟩; clear BW; have BW := BW1; clear BW1; have ST1 : Aside0 (St w0 wN pb (.slice A0 out.length c0) op out) := ⟨ST.out.step (by first | exact hb | exact below_q hb)⟩; have BK1 : Aside0 (wN.heap[gb]? = some (.cells #[.int .i64 l.f0, .string l.f1] 62 (0, 0))) := ⟨blk_step BK.out (by first | exact hb | exact below_q hb)⟩; clear ST BK; have ST := ST1; have BK := BK1; clear ST1 BK1 hb hdr; have hl0 : wN.cell? ⟨gb, 0, none⟩ = some (.int .i64 l.f0) := (blk_cell BK.out 0).trans rfl; have hl1 : wN.cell? ⟨gb, 1, none⟩ = some (.string l.f1) := (blk_cell BK.out 1).trans rfl; have hp0 : wN.cell? ⟨pb, 0, none⟩ = some (.slice A0 out.length c0) := (blk_cell ST.out.hp 0).trans rfl; have hp1 : wN.cell? ⟨pb, 1, none⟩ = some (.bool op) := (blk_cell ST.out.hp 1).trans rfl))
              go_ret
              exact ⟨rfl, fun _ => BW.out, _, ST.out⟩
            · rw [if_neg hL] at h
              obtain ⟨rfl, rfl, rfl⟩ : none = r1 ∧ out ++ [(⟨l.f0, tr, []⟩ : S40)] = r2 ∧ true = r3 := by simpa using h
              clear h
              have hL1 : decide (1024 ≤ (out.length : Int)) = false := decide_eq_false hL
              have hL2 : decide (1024 ≤ out.length) = false := decide_eq_false (by omega)
              have HLEN : Aside0 (out.length < 1024) := ⟨by omega⟩
              clear hL
              go_enter Tryd.func20, Tryd.ntmps20
              go_wp2_with (first | ((with_reducible refine gate_dst (N := 3) rfl ?_); refine box_event ?hg (N := 3) ?hd (cs := #[.int .i64 l.f0, .string l.f1]) (t := 62) ?hr ?_; (case hd => rfl); (case hg => rfl); (case hr => first | (go_simp; done) | (go_simp; rfl)); intro gb hg wN hbox hb; have NE : Aside0 (gb ≠ pb) := ⟨by have := blk_lt ST.out.hp; omega⟩; have BW1 : Aside0 (Below w.heap.size w wN) := ⟨below_step BW.out (by first | exact hb | exact below_q hb)⟩; clear BW; have BW := BW1; clear BW1; have ST1 := Aside0.mk (ST.out.step hb); have BK := Aside0.mk hbox; clear ST; have ST := ST1; clear ST1 hb hbox hg; have hl0 : wN.cell? ⟨gb, 0, none⟩ = some (.int .i64 l.f0) := (blk_cell BK.out 0).trans rfl; have hl1 : wN.cell? ⟨gb, 1, none⟩ = some (.string l.f1) := (blk_cell BK.out 1).trans rfl; have hp0 : wN.cell? ⟨pb, 0, none⟩ = some (.slice A0 out.length c0) := (blk_cell ST.out.hp 0).trans rfl; have hp1 : wN.cell? ⟨pb, 1, none⟩ = some (.bool op) := (blk_cell ST.out.hp 1).trans rfl; have hf1 : wN.frozen? ⟨pb, 1, none⟩ = false := blk_frozen ST.out.hp 1) | (go_at_call 40; refine (h40 _).mono ?_; rintro e wN ⟨rfl, hdr⟩; have hb := hdr.below; have BW1 : Aside0 (Below w.heap.size w wN) := ⟨below_step BW.out (by first | exact hb | exact below_q hb)⟩; clear BW; have BW := BW1; clear BW1; have ST1 : Aside0 (St w0 wN pb (.slice A0 out.length c0) op out) := ⟨ST.out.step (by first | exact hb | exact below_q hb)⟩; have BK1 : Aside0 (wN.heap[gb]? = some (.cells #[.int .i64 l.f0, .string l.f1] 62 (0, 0))) := ⟨blk_step BK.out (by first | exact hb | exact below_q hb)⟩; clear ST BK; have ST := ST1; have BK := BK1; clear ST1 BK1 hb hdr; have hl0 : wN.cell? ⟨gb, 0, none⟩ = some (.int .i64 l.f0) := (blk_cell BK.out 0).trans rfl; have hl1 : wN.cell? ⟨gb, 1, none⟩ = some (.string l.f1) := (blk_cell BK.out 1).trans rfl; have hp0 : wN.cell? ⟨pb, 0, none⟩ = some (.slice A0 out.length c0) := (blk_cell ST.out.hp 0).trans rfl; have hp1 : wN.cell? ⟨pb, 1, none⟩ = some (.bool op) := (blk_cell ST.out.hp 1).trans rfl) | (go_at_call 35; refine (h35 _).mono ?_; rintro e wN ⟨rfl, hdr⟩; have hb := hdr.below; have BW1 : Aside0 (Below w.heap.size w wN) := ⟨below_step BW.out (by first | exact hb | exact below_q hb)⟩; clear BW; have BW := BW1; clear BW1; have ST1 : Aside0 (St w0 wN pb (.slice A0 out.length c0) op out) := ⟨ST.out.step (by first | exact hb | exact below_q hb)⟩; have BK1 : Aside0 (wN.heap[gb]? = some (.cells #[.int .i64 l.f0, .string l.f1] 62 (0, 0))) := ⟨blk_step BK.out (by first | exact hb | exact below_q hb)⟩; clear ST BK; have ST := ST1; have BK := BK1; clear ST1 BK1 hb hdr; have hl0 : wN.cell? ⟨gb, 0, none⟩ = some (.int .i64 l.f0) := (blk_cell BK.out 0).trans rfl; have hl1 : wN.cell? ⟨gb, 1, none⟩ = some (.string l.f1) := (blk_cell BK.out 1).trans rfl; have hp0 : wN.cell? ⟨pb, 0, none⟩ = some (.slice A0 out.length c0) := (blk_cell ST.out.hp 0).trans rfl; have hp1 : wN.cell? ⟨pb, 1, none⟩ = some (.bool op) := (blk_cell ST.out.hp 1).trans rfl) | (go_at_call 41; refine (h41 _).mono ?_; rintro e wN ⟨rfl, hdr⟩; have hb := hdr; have BW1 : Aside0 (Below w.heap.size w wN) := ⟨below_step BW.out (by first | exact hb | exact below_q hb)⟩; clear BW; have BW := BW1; clear BW1; have ST1 : Aside0 (St w0 wN pb (.slice A0 out.length c0) op out) := ⟨ST.out.step (by first | exact hb | exact below_q hb)⟩; have BK1 : Aside0 (wN.heap[gb]? = some (.cells #[.int .i64 l.f0, .string l.f1] 62 (0, 0))) := ⟨blk_step BK.out (by first | exact hb | exact below_q hb)⟩; clear ST BK; have ST := ST1; have BK := BK1; clear ST1 BK1 hb hdr; have hl0 : wN.cell? ⟨gb, 0, none⟩ = some (.int .i64 l.f0) := (blk_cell BK.out 0).trans rfl; have hl1 : wN.cell? ⟨gb, 1, none⟩ = some (.string l.f1) := (blk_cell BK.out 1).trans rfl; have hp0 : wN.cell? ⟨pb, 0, none⟩ = some (.slice A0 out.length c0) := (blk_cell ST.out.hp 0).trans rfl; have hp1 : wN.cell? ⟨pb, 1, none⟩ = some (.bool op) := (blk_cell ST.out.hp 1).trans rfl) | (go_at_call 42; refine (h42 _).mono ?_; rintro e wN ⟨rfl, hdr⟩; have hb := hdr; have BW1 : Aside0 (Below w.heap.size w wN) := ⟨below_step BW.out (by first | exact hb | exact below_q hb)⟩; clear BW; have BW := BW1; clear BW1; have ST1 : Aside0 (St w0 wN pb (.slice A0 out.length c0) op out) := ⟨ST.out.step (by first | exact hb | exact below_q hb)⟩; have BK1 : Aside0 (wN.heap[gb]? = some (.cells #[.int .i64 l.f0, .string l.f1] 62 (0, 0))) := ⟨blk_step BK.out (by first | exact hb | exact below_q hb)⟩; clear ST BK; have ST := ST1; have BK := BK1; clear ST1 BK1 hb hdr; have hl0 : wN.cell? ⟨gb, 0, none⟩ = some (.int .i64 l.f0) := (blk_cell BK.out 0).trans rfl; have hl1 : wN.cell? ⟨gb, 1, none⟩ = some (.string l.f1) := (blk_cell BK.out 1).trans rfl; have hp0 : wN.cell? ⟨pb, 0, none⟩ = some (.slice A0 out.length c0) := (blk_cell ST.out.hp 0).trans rfl; have hp1 : wN.cell? ⟨pb, 1, none⟩ = some (.bool op) := (blk_cell ST.out.hp 1).trans rfl) | (go_at_call 39; refine (h39 _).mono ?_; rintro e wN ⟨rfl, hdr⟩; have hb := hdr.below; have BW1 : Aside0 (Below w.heap.size w wN) := ⟨below_step BW.out (by first | exact hb | exact below_q hb)⟩; clear BW; have BW := BW1; clear BW1; have ST1 : Aside0 (St w0 wN pb (.slice A0 out.length c0) op out) := ⟨ST.out.step (by first | exact hb | exact below_q hb)⟩; have BK1 : Aside0 (wN.heap[gb]? = some (.cells #[.int .i64 l.f0, .string l.f1] 62 (0, 0))) := ⟨blk_step BK.out (by first | exact hb | exact below_q hb)⟩; clear ST BK; have ST := ST1; have BK := BK1; clear ST1 BK1 hb hdr; have hl0 : wN.cell? ⟨gb, 0, none⟩ = some (.int .i64 l.f0) := (blk_cell BK.out 0).trans rfl; have hl1 : wN.cell? ⟨gb, 1, none⟩ = some (.string l.f1) := (blk_cell BK.out 1).trans rfl; have hp0 : wN.cell? ⟨pb, 0, none⟩ = some (.slice A0 out.length c0) := (blk_cell ST.out.hp 0).trans rfl; have hp1 : wN.cell? ⟨pb, 1, none⟩ = some (.bool op) := (blk_cell ST.out.hp 1).trans rfl))
              refine start_ (n := 14) (S := fun w' => w'.cell? ⟨pb, 0, none⟩ = some (.slice A0 out.length c0) ∧ w'.cell? ⟨gb, 0, none⟩ = some (.int .i64 l.f0)) (ds := [13]) #[false, false, false, false, false, false, false, false, false, false, false, false, false, false] (by kernel_rfl) rfl rfl ⟨(blk_cell (blk_drew ST.out.hp) 0).trans rfl, (blk_cell (blk_drew BK.out) 0).trans rfl⟩ (fun hHeld => ?_)
              refine pure_ (i := 0) (N := some 54) (v := ?_) (a' := ?_) #[true, false, false, false, false, false, false, false, false, false, false, false, false, false] rfl rfl (by kernel_rfl) (fun _ _ _ h => h) (Or.inl ⟨by rfl, ?_⟩) ?_ ?_
              rotate_left
              · intro w'
                go_simp
                with_reducible rfl
              rotate_left
              · simp only [Act.put, List.setIfInBounds_toArray, List.set_cons_zero, List.set_cons_succ, i64_w, i32_w]
                rfl
              refine pure_ (i := 1) (N := some 55) (v := ?_) (a' := ?_) #[true, true, false, false, false, false, false, false, false, false, false, false, false, false] rfl rfl (by kernel_rfl) (fun _ _ _ h => h) (Or.inl ⟨by rfl, ?_⟩) ?_ ?_
              rotate_left
              · intro w'
                go_simp
                with_reducible rfl
              rotate_left
              · simp only [Act.put, List.setIfInBounds_toArray, List.set_cons_zero, List.set_cons_succ, i64_w, i32_w]
                rfl
              refine pure_ (i := 2) (N := some 56) (v := ?_) (a' := ?_) #[true, true, true, false, false, false, false, false, false, false, false, false, false, false] rfl rfl (by kernel_rfl) (fun _ _ _ h => h) (Or.inl ⟨by rfl, ?_⟩) ?_ ?_
              rotate_left
              · intro w'
                go_simp
                with_reducible rfl
              rotate_left
              · simp only [Act.put, List.setIfInBounds_toArray, List.set_cons_zero, List.set_cons_succ, i64_w, i32_w]
                rfl
              refine pure_ (i := 3) (N := some 57) (v := ?_) (a' := ?_) #[true, true, true, true, false, false, false, false, false, false, false, false, false, false] rfl rfl (by kernel_rfl) (fun _ _ _ h => h) (Or.inl ⟨by rfl, ?_⟩) ?_ ?_
              rotate_left
              · intro w'
                go_simp
                with_reducible rfl
              rotate_left
              · simp only [Act.put, List.setIfInBounds_toArray, List.set_cons_zero, List.set_cons_succ, i64_w, i32_w]
                rfl
              refine pure_ (i := 5) (N := some 59) (v := ?_) (a' := ?_) #[true, true, true, true, false, true, false, false, false, false, false, false, false, false] rfl rfl (by kernel_rfl) (fun _ _ _ h => h) (Or.inl ⟨by rfl, ?_⟩) ?_ ?_
              rotate_left
              · intro w'
                go_simp
                with_reducible rfl
              rotate_left
              · simp only [Act.put, List.setIfInBounds_toArray, List.set_cons_zero, List.set_cons_succ, i64_w, i32_w]
                rfl
              refine pure_ (i := 7) (N := some 61) (v := ?_) (a' := ?_) #[true, true, true, true, false, true, false, true, false, false, false, false, false, false] rfl rfl (by kernel_rfl) (fun _ _ _ h => h) (Or.inl ⟨by rfl, ?_⟩) ?_ ?_
              rotate_left
              · intro w'
                go_simp
                with_reducible rfl
              rotate_left
              · simp only [Act.put, List.setIfInBounds_toArray, List.set_cons_zero, List.set_cons_succ, i64_w, i32_w]
                rfl
              refine take_ (i := 4) (N := some 58) (v := ?_) (a' := ?_) #[true, true, true, true, true, true, false, true, false, false, false, false, false, false] rfl rfl (by kernel_rfl) (fun _ _ _ h => h) (Or.inl ⟨by rfl, ?_⟩) hHeld ?_ ?_
              rotate_left
              · rintro w' ⟨s0, s1⟩
                go_simp
                with_reducible rfl
              rotate_left
              · simp only [Act.put, List.setIfInBounds_toArray, List.set_cons_zero, List.set_cons_succ, i64_w, i32_w]
                rfl
              refine take_ (i := 6) (N := some 60) (v := ?_) (a' := ?_) #[true, true, true, true, true, true, true, true, false, false, false, false, false, false] rfl rfl (by kernel_rfl) (fun _ _ _ h => h) (Or.inl ⟨by rfl, ?_⟩) hHeld ?_ ?_
              rotate_left
              · rintro w' ⟨s0, s1⟩
                go_simp
                with_reducible rfl
              rotate_left
              · simp only [Act.put, List.setIfInBounds_toArray, List.set_cons_zero, List.set_cons_succ, i64_w, i32_w]
                rfl
              refine pure_ (i := 8) (N := some 62) (v := ?_) (a' := ?_) #[true, true, true, true, true, true, true, true, true, false, false, false, false, false] rfl rfl (by kernel_rfl) (fun _ _ _ h => h) (Or.inl ⟨by rfl, ?_⟩) ?_ ?_
              rotate_left
              · intro w'
                go_simp
                with_reducible rfl
              rotate_left
              · simp only [Act.put, List.setIfInBounds_toArray, List.set_cons_zero, List.set_cons_succ, i64_w, i32_w]
                rfl
              refine one_ (i := 9) (N := some 63) #[true, true, true, true, true, true, true, true, true, true, false, false, false, false] rfl rfl (by kernel_rfl) (by decide) (fun K hK => ?_)
              refine value_ (w1 := ?_) (v := ?_) (by rfl) rfl ?_ ?_
              rotate_left 2
              · go_simp
                constructor
                · rfl
                · rfl
              refine hK.out _ _ ⟨(blk_cell (blk_alloc (blk_drew ST.out.hp) _) 0).trans rfl, (blk_cell (blk_alloc (blk_drew BK.out) _) 0).trans rfl⟩ (fun hHeld => ?_)
              clear hK K
              refine norm_ (a' := ?_) ?_ ?_
              rotate_left
              · show Act.put _ (some 63) _ = _
                simp only [Act.put, List.setIfInBounds_toArray, List.set_cons_zero, List.set_cons_succ, i64_w, i32_w]
                rfl
              refine one_ (i := 10) (N := some 64) #[true, true, true, true, true, true, true, true, true, true, true, false, false, false] rfl rfl (by kernel_rfl) (by decide) (fun K hK => ?_)
              refine Kd.S_append_step k40 (w0 := w0) (W := wN.drew) w0.heap.size (by rfl) (.tmp 58) (.tmp 63) 23 40 (.agg #[(.int .i64 0), (.string ⟨#[]⟩), (.slice none 0 0)]) 48 rfl Tryd.underlying23 info40 rfl (by decide) (by omega) (.slice A0 out.length c0) out (⟨l.f0, tr, []⟩ : S40) [.int .i64 l.f0, .string tr, .slice none 0 0] (fun k => k ≠ pb) (fun _ => False) rfl rfl ?aP (fun _ hk => hk.elim) ?aF ?aO ?aB ?aS ?aL ?_
              (case aP => exact k40_mkM _ _ _ (⟨l.f0, tr, []⟩ : S40) (Kd.R_nil _ _ _ _ _))
              (case aF => exact (fun k hk => by have := blk_lt ST.out.hp; have hk : wN.heap.size ≤ k := hk; omega))
              (case aO => exact Kd.S_mono (Kd.S_drew ST.out.hs) (fun _ hk => ⟨hk, fun e => e⟩))
              (case aB => exact (by repeat (first | (with_reducible first | exact ST.out.hb | apply below_alloc | apply pw_below_drewN | apply below_drew1) | exact ST.out.hb)))
              (case aS => exact below_size (by repeat (first | (with_reducible first | exact ST.out.hb | apply below_alloc | apply pw_below_drewN | apply below_drew1) | exact ST.out.hb)))
              (case aL => have := HLEN.out; omega)
              intro v1 w1 hs hb hg hat
              have PB1 := Aside0.mk (blk_grown (g := pb) (o := .cells #[.slice A0 out.length c0, .bool op] 60 (0, 0)) (blk_drew ST.out.hp) hg (Kd.S_away ST.out.hs (fun _ hk => hk)))
              have BK1 := Aside0.mk (blk_grown (g := gb) (o := .cells #[.int .i64 l.f0, .string l.f1] 62 (0, 0)) (blk_drew BK.out) hg (Kd.S_ne ST.out.hs BK.out (by decide)))
              have HS1 := Aside0.mk hs
              have HB1 := Aside0.mk hb
              clear hs hb hg hat
              obtain ⟨A1, c1, ev⟩ := Kd.S_slice HS1.out
              rw [show (out ++ [(⟨l.f0, tr, []⟩ : S40)]).length = out.length + 1 by simp] at ev
              subst ev
              refine hK.out _ _ ⟨(blk_cell (PB1.out) 0).trans rfl, (blk_cell (BK1.out) 0).trans rfl⟩ (fun hHeld => ?_)
              clear hK K
              refine norm_ (a' := ?_) ?_ ?_
              rotate_left
              · show Act.put _ (some 64) _ = _
                simp only [Act.put, List.setIfInBounds_toArray, List.set_cons_zero, List.set_cons_succ, i64_w, i32_w]
                rfl
              refine pure_ (i := 11) (N := some 65) (v := ?_) (a' := ?_) #[true, true, true, true, true, true, true, true, true, true, true, true, false, false] rfl rfl (by kernel_rfl) (fun _ _ _ h => h) (Or.inl ⟨by rfl, ?_⟩) ?_ ?_
              rotate_left
              · intro w'
                go_simp
                with_reducible rfl
              rotate_left
              · simp only [Act.put, List.setIfInBounds_toArray, List.set_cons_zero, List.set_cons_succ, i64_w, i32_w]
                rfl
              refine pure_ (i := 12) (N := some 66) (v := ?_) (a' := ?_) #[true, true, true, true, true, true, true, true, true, true, true, true, true, false] rfl rfl (by kernel_rfl) (fun _ _ _ h => h) (Or.inl ⟨by rfl, ?_⟩) ?_ ?_
              rotate_left
              · intro w'
                go_simp
                with_reducible rfl
              rotate_left
              · simp only [Act.put, List.setIfInBounds_toArray, List.set_cons_zero, List.set_cons_succ, i64_w, i32_w]
                rfl
              refine last_ (i := 13) (N := none) #[true, true, true, true, true, true, true, true, true, true, true, true, true, true] rfl rfl (by kernel_rfl) (by decide) (fun K hK => ?_)
              have hs17 : w1.cell? ⟨pb, 0, none⟩ = some (.slice A0 out.length c0) := (blk_cell PB1.out 0).trans rfl
              have hfs17 := blk_frozen PB1.out 0
              refine skip_ (w1 := ?_) (by rfl) rfl ?_ ?_
              rotate_left
              · go_simp
                rfl
              refine hK.out _ _ ?_
              clear hK K
              refine done_ (by kernel_rfl) ?_
              have PB2 := Aside0.mk (blk_put (cs := #[.slice A0 out.length c0, .bool op]) PB1.out 0 (.slice A1 (out.length + 1) c1) rfl)
              have HS2 := Aside0.mk (Kd.S_far (p := ⟨pb, 0, none⟩) HS1.out (fun _ hk => hk) (.slice A1 (out.length + 1) c1))
              have HB2 := Aside0.mk (below_set (g := pb) (j := 0) (v := .slice A1 (out.length + 1) c1) HB1.out ST.out.hq)
              have hp1 : (w1.setCell ⟨pb, 0, none⟩ (.slice A1 (out.length + 1) c1)).cell? ⟨pb, 1, none⟩ = some (.bool op) := (blk_cell PB2.out 1).trans rfl
              have hf1 := blk_frozen PB2.out 1
              go_wp2
              go_ret
              exact ⟨rfl, fun e => absurd rfl e, _, ⟨below_set HB2.out ST.out.hq, blk_put PB2.out 1 _ rfl, ST.out.hq, Kd.S_far (p := ⟨pb, 1, none⟩) HS2.out (fun _ hk => hk) _⟩⟩

/-- A line inside of a block. -/
def block_field.f (out : List S40) (op : Bool) (l : S62) : Option (Option Int × List S40 × Bool) :=
  if l.f1.toList = [125] then some (none, out, false) else if ¬ (0 < out.length ∧ out.length ≤ 1024) then none else
  let b := rd_T40 out ((out.length : Int) - 1)
  (block_parted.f l.f1).bind fun nv => (bblock_Block_Get.f b.f0 b.f1 b.f2 nv.1).bind fun gt =>
    if nv.1.toList = [100, 101, 102, 105, 110, 101] ∧ nv.1.toList ≠ l.f1.toList then some (some 3, out, op) else
    (block_word.f nv.1).bind fun wd => if wd = false then some (some 11, out, op) else if gt.2 = true then some (some 7, out, op) else
    if 64 ≤ (b.f2.length : Int) then some (some 10, out, op) else
    some (none, out.set ((out.length : Int) - 1).toNat ⟨b.f0, b.f1, b.f2 ++ [⟨l.f0, nv.1, nv.2⟩]⟩, op)
set_option maxHeartbeats 8000000 in
set_option maxRecDepth 100000 in
theorem block_field.calls (out : List S40) (op : Bool) (l : S62) (pb : Nat) (A0 : Option Addr) (c0 : Nat) (w0 w : World) (hst : St w0 w pb (.slice A0 out.length c0) op out) (r1 : Option Int) (r2 : List S40) (r3 : Bool) (h : block_field.f out op l = some (r1, r2, r3)) :
    Calls Tryd.prog 19 #[.pointer (some ⟨pb, 0, none⟩), .agg #[.int .i64 l.f0, .string l.f1]] w fun e w' => e = .returned (errW r1) ∧ (r1 ≠ none → Below w.heap.size w w') ∧ ∃ v', St w0 w' pb v' r3 r2 := by
  have hu40 := Tryd.underlying40
  have hu42 := Tryd.underlying42
  have hu60 := Tryd.underlying60
  have hu62 := Tryd.underlying62
  have ST := Aside0.mk hst
  clear hst
  have BW := Aside0.mk (Below.refl w.heap.size w)
  unfold block_field.f at h
  by_cases hE : l.f1.toList = [125]
  · rw [if_pos hE] at h
    obtain ⟨rfl, rfl, rfl⟩ : none = r1 ∧ out = r2 ∧ false = r3 := by simpa using h
    clear h
    have hE1 : (l.f1.toList == [125]) = true := beq_iff_eq.mpr hE
    clear hE
    go_enter Tryd.func19, Tryd.ntmps19
    go_wp2_with (first | ((with_reducible refine gate_dst (N := 3) rfl ?_); refine box_event ?hg (N := 3) ?hd (cs := #[.int .i64 l.f0, .string l.f1]) (t := 62) ?hr ?_; (case hd => rfl); (case hg => rfl); (case hr => first | (go_simp; done) | (go_simp; rfl)); intro gb hg wN hbox hb; have NE : Aside0 (gb ≠ pb) := ⟨by have := blk_lt ST.out.hp; omega⟩; have BW1 : Aside0 (Below w.heap.size w wN) := ⟨below_step BW.out (by first | exact hb | exact below_q hb)⟩; clear BW; have BW := BW1; clear BW1; have ST1 := Aside0.mk (ST.out.step hb); have BK := Aside0.mk hbox; clear ST; have ST := ST1; clear ST1 hb hbox hg; have hl0 : wN.cell? ⟨gb, 0, none⟩ = some (.int .i64 l.f0) := (blk_cell BK.out 0).trans rfl; have hl1 : wN.cell? ⟨gb, 1, none⟩ = some (.string l.f1) := (blk_cell BK.out 1).trans rfl; have hp0 : wN.cell? ⟨pb, 0, none⟩ = some (.slice A0 out.length c0) := (blk_cell ST.out.hp 0).trans rfl; have hp1 : wN.cell? ⟨pb, 1, none⟩ = some (.bool op) := (blk_cell ST.out.hp 1).trans rfl; have hf1 : wN.frozen? ⟨pb, 1, none⟩ = false := blk_frozen ST.out.hp 1))
    go_ret
    exact ⟨rfl, fun e => absurd rfl e, _, ⟨below_set ST.out.hb ST.out.hq, blk_put ST.out.hp 1 _ rfl, ST.out.hq, Kd.S_far (p := ⟨pb, 1, none⟩) ST.out.hs (fun _ hk => hk) _⟩⟩
  · rw [if_neg hE] at h
    have hE1 : (l.f1.toList == [125]) = false := beq_eq_false_iff_ne.mpr hE
    clear hE
    by_cases hN : ¬ (0 < out.length ∧ out.length ≤ 1024)
    · rw [if_pos hN] at h
      cases h
    rw [if_neg hN] at h
    obtain ⟨hpos, hle⟩ := Classical.not_not.mp hN
    clear hN
    obtain ⟨g, cap, ev, hgb, hglt, cells0, hgc⟩ := Kd.S_form ST.out.hs hpos
    have hA0 : A0 = some ⟨g, 0, none⟩ ∧ c0 = cap := by injection ev with x1 _ x3; exact ⟨x1, x3⟩
    obtain ⟨rfl, rfl⟩ := hA0
    have GB : Aside0 (w0.heap.size ≤ g) := ⟨hgb⟩
    have GC : Aside0 (∃ cells, w.heap[g]? = some (.cells cells 40 (0, 0))) := ⟨⟨cells0, hgc⟩⟩
    clear ev hgb hglt hgc
    obtain ⟨i, hi⟩ : ∃ i : Int, (out.length : Int) - 1 = i := ⟨_, rfl⟩
    rw [hi] at h
    have hiw : wrap64 ((out.length : Int) - 1) = i := by unfold wrap64; omega
    have hiw2 : IntKind.i64.wrap ((out.length : Int) - 1) = i := by rw [← hiw]; exact i64_w _
    have i0 : 0 ≤ i := by omega
    have i1 : i < (out.length : Int) := by omega
    have HI : Aside0 (0 ≤ i ∧ i < (out.length : Int)) := ⟨⟨i0, i1⟩⟩
    obtain ⟨oki, c, hcl, hM, hcc, hfr, hoki, hH⟩ := Kd.S_elem ST.out.hs z40 i i0 i1
    obtain ⟨v2, ec, hR2⟩ := k40_openM hM
    obtain ⟨A2, c2, rfl, hl2, hC2⟩ := Kd.R_reads hR2
    subst ec
    have hb0 : out.getD i.toNat z40 = rd_T40 out i := rfl
    rw [hb0] at hcc hl2 hC2
    generalize hb : rd_T40 out i = b at h hcc hl2 hC2
    have HBE : Aside0 (rd_T40 out i = b) := ⟨hb⟩
    have hC2 := Aside0.mk hC2
    have K0 : Aside0 (w.cell? ⟨g, i.toNat * 3, none⟩ = some (.int .i64 b.f0)) := ⟨hcc 0 _ rfl⟩
    have K1 : Aside0 (w.cell? ⟨g, i.toNat * 3 + 1, none⟩ = some (.string b.f1)) := ⟨hcc 1 _ rfl⟩
    have K2 : Aside0 (w.cell? ⟨g, i.toNat * 3 + 2, none⟩ = some (.slice A2 b.f2.length c2)) := ⟨hcc 2 _ rfl⟩
    clear hcc hcl hM hR2 hH hoki hfr hb0 hb hi oki
    dsimp only at h
    obtain ⟨⟨name, value⟩, e1, h⟩ := Option.bind_eq_some_iff.mp h
    obtain ⟨⟨gv, twice⟩, e2, h⟩ := Option.bind_eq_some_iff.mp h
    have h38 := fun W => block_parted.calls _ _ _ W e1
    dsimp only at h h38 e2
    have h13 := fun W (hb : Aside0 (Below w.heap.size w W)) => bblock_Block_Get.calls b.f0 b.f1 A2 c2 b.f2 name gv twice W (Kd.C_below hC2.out hb.out) hl2 e2
    clear e1 e2
    have i0T : (0 ≤ i) = True := eq_true i0
    have i1T : (i < (out.length : Int)) = True := eq_true i1
    clear i0 i1 hpos hle hl2
    by_cases hD : name.toList = [100, 101, 102, 105, 110, 101] ∧ name.toList ≠ l.f1.toList
    · rw [if_pos hD] at h
      obtain ⟨rfl, rfl, rfl⟩ : some 3 = r1 ∧ out = r2 ∧ op = r3 := by simpa using h
      clear h
      have hD1 : (name.toList == [100, 101, 102, 105, 110, 101]) = true := beq_iff_eq.mpr hD.1
      have hD2 : (name.toList == l.f1.toList) = false := beq_eq_false_iff_ne.mpr hD.2
      clear hD
      go_enter Tryd.func19, Tryd.ntmps19
      go_wp2_with ((with_reducible refine gate_dst (N := 3) rfl ?_); refine box_event ?hg (N := 3) ?hd (cs := #[.int .i64 l.f0, .string l.f1]) (t := 62) ?hr ?_; (case hd => rfl); (case hg => rfl); (case hr => first | (go_simp; done) | (go_simp; rfl)); intro gb hg wN hbox hb; have NE : Aside0 (gb ≠ pb) := ⟨by have := blk_lt ST.out.hp; omega⟩; have BW1 : Aside0 (Below w.heap.size w wN) := ⟨below_step BW.out (by first | exact hb | exact below_q hb)⟩; clear BW; have BW := BW1; clear BW1; have k0 := pw_cell_below BW.out K0.out; have k1 := pw_cell_below BW.out K1.out; have k2 := pw_cell_below BW.out K2.out; have ST1 := Aside0.mk (ST.out.step hb); have BK := Aside0.mk hbox; clear ST; have ST := ST1; clear ST1 hb hbox hg; have hl0 : wN.cell? ⟨gb, 0, none⟩ = some (.int .i64 l.f0) := (blk_cell BK.out 0).trans rfl; have hl1 : wN.cell? ⟨gb, 1, none⟩ = some (.string l.f1) := (blk_cell BK.out 1).trans rfl; have hp0 : wN.cell? ⟨pb, 0, none⟩ = some (.slice (some ⟨g, 0, none⟩) out.length c0) := (blk_cell ST.out.hp 0).trans rfl; have hp1 : wN.cell? ⟨pb, 1, none⟩ = some (.bool op) := (blk_cell ST.out.hp 1).trans rfl; have hf1 : wN.frozen? ⟨pb, 1, none⟩ = false := blk_frozen ST.out.hp 1)
      go_quiet (fail)
      go_wp2_with (first | (go_at_call 38; refine (h38 _).mono ?_; rintro e wN ⟨rfl, hdr⟩; have hb := hdr; have BW1 : Aside0 (Below w.heap.size w wN) := ⟨below_step BW.out (by first | exact hb | exact below_q hb)⟩; clear BW; have BW := BW1; clear BW1; have k0 := pw_cell_below BW.out K0.out; have k1 := pw_cell_below BW.out K1.out; have k2 := pw_cell_below BW.out K2.out; have ST1 : Aside0 (St w0 wN pb (.slice (some ⟨g, 0, none⟩) out.length c0) op out) := ⟨ST.out.step (by first | exact hb | exact below_q hb)⟩; have BK1 : Aside0 (wN.heap[gb]? = some (.cells #[.int .i64 l.f0, .string l.f1] 62 (0, 0))) := ⟨blk_step BK.out (by first | exact hb | exact below_q hb)⟩; clear ST BK; have ST := ST1; have BK := BK1; clear ST1 BK1 hb hdr; have hl0 : wN.cell? ⟨gb, 0, none⟩ = some (.int .i64 l.f0) := (blk_cell BK.out 0).trans rfl; have hl1 : wN.cell? ⟨gb, 1, none⟩ = some (.string l.f1) := (blk_cell BK.out 1).trans rfl; have hp0 : wN.cell? ⟨pb, 0, none⟩ = some (.slice (some ⟨g, 0, none⟩) out.length c0) := (blk_cell ST.out.hp 0).trans rfl; have hp1 : wN.cell? ⟨pb, 1, none⟩ = some (.bool op) := (blk_cell ST.out.hp 1).trans rfl) | (go_at_call 13; refine (h13 _ ⟨by first | exact BW.out | exact pw_below_drewN BW.out _⟩).mono ?_; rintro e wN ⟨rfl, hdr⟩; have hb := hdr; have BW1 : Aside0 (Below w.heap.size w wN) := ⟨below_step BW.out (by first | exact hb | exact below_q hb)⟩; clear BW; have BW := BW1; clear BW1; have k0 := pw_cell_below BW.out K0.out; have k1 := pw_cell_below BW.out K1.out; have k2 := pw_cell_below BW.out K2.out; have ST1 : Aside0 (St w0 wN pb (.slice (some ⟨g, 0, none⟩) out.length c0) op out) := ⟨ST.out.step (by first | exact hb | exact below_q hb)⟩; have BK1 : Aside0 (wN.heap[gb]? = some (.cells #[.int .i64 l.f0, .string l.f1] 62 (0, 0))) := ⟨blk_step BK.out (by first | exact hb | exact below_q hb)⟩; clear ST BK; have ST := ST1; have BK := BK1; clear ST1 BK1 hb hdr; have hl0 : wN.cell? ⟨gb, 0, none⟩ = some (.int .i64 l.f0) := (blk_cell BK.out 0).trans rfl; have hl1 : wN.cell? ⟨gb, 1, none⟩ = some (.string l.f1) := (blk_cell BK.out 1).trans rfl; have hp0 : wN.cell? ⟨pb, 0, none⟩ = some (.slice (some ⟨g, 0, none⟩) out.length c0) := (blk_cell ST.out.hp 0).trans rfl; have hp1 : wN.cell? ⟨pb, 1, none⟩ = some (.bool op) := (blk_cell ST.out.hp 1).trans rfl) | (go_at_call 39; refine (h39 _).mono ?_; rintro e wN ⟨rfl, hdr⟩; have hb := hdr.below; have BW1 : Aside0 (Below w.heap.size w wN) := ⟨below_step BW.out (by first | exact hb | exact below_q hb)⟩; clear BW; have BW := BW1; clear BW1; have k0 := pw_cell_below BW.out K0.out; have k1 := pw_cell_below BW.out K1.out; have k2 := pw_cell_below BW.out K2.out; have ST1 : Aside0 (St w0 wN pb (.slice (some ⟨g, 0, none⟩) out.length c0) op out) := ⟨ST.out.step (by first | exact hb | exact below_q hb)⟩; have BK1 : Aside0 (wN.heap[gb]? = some (.cells #[.int .i64 l.f0, .string l.f1] 62 (0, 0))) := ⟨blk_step BK.out (by first | exact hb | exact below_q hb)⟩; clear ST BK; have ST := ST1; have BK := BK1; clear ST1 BK1 hb hdr; have hl0 : wN.cell? ⟨gb, 0, none⟩ = some (.int .i64 l.f0) := (blk_cell BK.out 0).trans rfl; have hl1 : wN.cell? ⟨gb, 1, none⟩ = some (.string l.f1) := (blk_cell BK.out 1).trans rfl; have hp0 : wN.cell? ⟨pb, 0, none⟩ = some (.slice (some ⟨g, 0, none⟩) out.length c0) := (blk_cell ST.out.hp 0).trans rfl; have hp1 : wN.cell? ⟨pb, 1, none⟩ = some (.bool op) := (blk_cell ST.out.hp 1).trans rfl))
      go_ret
      exact ⟨rfl, fun _ => BW.out, _, ST.out⟩
    rw [if_neg hD] at h
    obtain ⟨wd, e3, h⟩ := Option.bind_eq_some_iff.mp h
    have h39 := fun W => block_word.calls _ _ W e3
    clear e3
    have hD2 : (name.toList == [100, 101, 102, 105, 110, 101]) = false ∨ ((name.toList == [100, 101, 102, 105, 110, 101]) = true ∧ (name.toList == l.f1.toList) = true) := by
      by_cases hx : name.toList = [100, 101, 102, 105, 110, 101]
      · exact Or.inr ⟨beq_iff_eq.mpr hx, beq_iff_eq.mpr (Classical.not_not.mp fun e => hD ⟨hx, e⟩)⟩
      · exact Or.inl (beq_eq_false_iff_ne.mpr hx)
    clear hD
    cases wd with
    | false =>
      rw [if_pos rfl] at h
      have hdummy : True := trivial
      obtain ⟨rfl, rfl, rfl⟩ : some 11 = r1 ∧ out = r2 ∧ op = r3 := by simpa using h
      clear h
      clear hdummy
      rcases hD2 with hD1 | ⟨hD1, hD2⟩
      · skip
        go_enter Tryd.func19, Tryd.ntmps19
        go_wp2_with ((with_reducible refine gate_dst (N := 3) rfl ?_); refine box_event ?hg (N := 3) ?hd (cs := #[.int .i64 l.f0, .string l.f1]) (t := 62) ?hr ?_; (case hd => rfl); (case hg => rfl); (case hr => first | (go_simp; done) | (go_simp; rfl)); intro gb hg wN hbox hb; have NE : Aside0 (gb ≠ pb) := ⟨by have := blk_lt ST.out.hp; omega⟩; have BW1 : Aside0 (Below w.heap.size w wN) := ⟨below_step BW.out (by first | exact hb | exact below_q hb)⟩; clear BW; have BW := BW1; clear BW1; have k0 := pw_cell_below BW.out K0.out; have k1 := pw_cell_below BW.out K1.out; have k2 := pw_cell_below BW.out K2.out; have ST1 := Aside0.mk (ST.out.step hb); have BK := Aside0.mk hbox; clear ST; have ST := ST1; clear ST1 hb hbox hg; have hl0 : wN.cell? ⟨gb, 0, none⟩ = some (.int .i64 l.f0) := (blk_cell BK.out 0).trans rfl; have hl1 : wN.cell? ⟨gb, 1, none⟩ = some (.string l.f1) := (blk_cell BK.out 1).trans rfl; have hp0 : wN.cell? ⟨pb, 0, none⟩ = some (.slice (some ⟨g, 0, none⟩) out.length c0) := (blk_cell ST.out.hp 0).trans rfl; have hp1 : wN.cell? ⟨pb, 1, none⟩ = some (.bool op) := (blk_cell ST.out.hp 1).trans rfl; have hf1 : wN.frozen? ⟨pb, 1, none⟩ = false := blk_frozen ST.out.hp 1)
        go_quiet (fail)
        go_wp2_with (first | (go_at_call 38; refine (h38 _).mono ?_; rintro e wN ⟨rfl, hdr⟩; have hb := hdr; have BW1 : Aside0 (Below w.heap.size w wN) := ⟨below_step BW.out (by first | exact hb | exact below_q hb)⟩; clear BW; have BW := BW1; clear BW1; have k0 := pw_cell_below BW.out K0.out; have k1 := pw_cell_below BW.out K1.out; have k2 := pw_cell_below BW.out K2.out; have ST1 : Aside0 (St w0 wN pb (.slice (some ⟨g, 0, none⟩) out.length c0) op out) := ⟨ST.out.step (by first | exact hb | exact below_q hb)⟩; have BK1 : Aside0 (wN.heap[gb]? = some (.cells #[.int .i64 l.f0, .string l.f1] 62 (0, 0))) := ⟨blk_step BK.out (by first | exact hb | exact below_q hb)⟩; clear ST BK; have ST := ST1; have BK := BK1; clear ST1 BK1 hb hdr; have hl0 : wN.cell? ⟨gb, 0, none⟩ = some (.int .i64 l.f0) := (blk_cell BK.out 0).trans rfl; have hl1 : wN.cell? ⟨gb, 1, none⟩ = some (.string l.f1) := (blk_cell BK.out 1).trans rfl; have hp0 : wN.cell? ⟨pb, 0, none⟩ = some (.slice (some ⟨g, 0, none⟩) out.length c0) := (blk_cell ST.out.hp 0).trans rfl; have hp1 : wN.cell? ⟨pb, 1, none⟩ = some (.bool op) := (blk_cell ST.out.hp 1).trans rfl) | (go_at_call 13; refine (h13 _ ⟨by first | exact BW.out | exact pw_below_drewN BW.out _⟩).mono ?_; rintro e wN ⟨rfl, hdr⟩; have hb := hdr; have BW1 : Aside0 (Below w.heap.size w wN) := ⟨below_step BW.out (by first | exact hb | exact below_q hb)⟩; clear BW; have BW := BW1; clear BW1; have k0 := pw_cell_below BW.out K0.out; have k1 := pw_cell_below BW.out K1.out; have k2 := pw_cell_below BW.out K2.out; have ST1 : Aside0 (St w0 wN pb (.slice (some ⟨g, 0, none⟩) out.length c0) op out) := ⟨ST.out.step (by first | exact hb | exact below_q hb)⟩; have BK1 : Aside0 (wN.heap[gb]? = some (.cells #[.int .i64 l.f0, .string l.f1] 62 (0, 0))) := ⟨blk_step BK.out (by first | exact hb | exact below_q hb)⟩; clear ST BK; have ST := ST1; have BK := BK1; clear ST1 BK1 hb hdr; have hl0 : wN.cell? ⟨gb, 0, none⟩ = some (.int .i64 l.f0) := (blk_cell BK.out 0).trans rfl; have hl1 : wN.cell? ⟨gb, 1, none⟩ = some (.string l.f1) := (blk_cell BK.out 1).trans rfl; have hp0 : wN.cell? ⟨pb, 0, none⟩ = some (.slice (some ⟨g, 0, none⟩) out.length c0) := (blk_cell ST.out.hp 0).trans rfl; have hp1 : wN.cell? ⟨pb, 1, none⟩ = some (.bool op) := (blk_cell ST.out.hp 1).trans rfl) | (go_at_call 39; refine (h39 _).mono ?_; rintro e wN ⟨rfl, hdr⟩; have hb := hdr.below; have BW1 : Aside0 (Below w.heap.size w wN) := ⟨below_step BW.out (by first | exact hb | exact below_q hb)⟩; clear BW; have BW := BW1; clear BW1; have k0 := pw_cell_below BW.out K0.out; have k1 := pw_cell_below BW.out K1.out; have k2 := pw_cell_below BW.out K2.out; have ST1 : Aside0 (St w0 wN pb (.slice (some ⟨g, 0, none⟩) out.length c0) op out) := ⟨ST.out.step (by first | exact hb | exact below_q hb)⟩; have BK1 : Aside0 (wN.heap[gb]? = some (.cells #[.int .i64 l.f0, .string l.f1] 62 (0, 0))) := ⟨blk_step BK.out (by first | exact hb | exact below_q hb)⟩; clear ST BK; have ST := ST1; have BK := BK1; clear ST1 BK1 hb hdr; have hl0 : wN.cell? ⟨gb, 0, none⟩ = some (.int .i64 l.f0) := (blk_cell BK.out 0).trans rfl; have hl1 : wN.cell? ⟨gb, 1, none⟩ = some (.string l.f1) := (blk_cell BK.out 1).trans rfl; have hp0 : wN.cell? ⟨pb, 0, none⟩ = some (.slice (some ⟨g, 0, none⟩) out.length c0) := (blk_cell ST.out.hp 0).trans rfl; have hp1 : wN.cell? ⟨pb, 1, none⟩ = some (.bool op) := (blk_cell ST.out.hp 1).trans rfl))
        go_ret
        exact ⟨rfl, fun _ => BW.out, _, ST.out⟩
      · skip
        go_enter Tryd.func19, Tryd.ntmps19
        go_wp2_with ((with_reducible refine gate_dst (N := 3) rfl ?_); refine box_event ?hg (N := 3) ?hd (cs := #[.int .i64 l.f0, .string l.f1]) (t := 62) ?hr ?_; (case hd => rfl); (case hg => rfl); (case hr => first | (go_simp; done) | (go_simp; rfl)); intro gb hg wN hbox hb; have NE : Aside0 (gb ≠ pb) := ⟨by have := blk_lt ST.out.hp; omega⟩; have BW1 : Aside0 (Below w.heap.size w wN) := ⟨below_step BW.out (by first | exact hb | exact below_q hb)⟩; clear BW; have BW := BW1; clear BW1; have k0 := pw_cell_below BW.out K0.out; have k1 := pw_cell_below BW.out K1.out; have k2 := pw_cell_below BW.out K2.out; have ST1 := Aside0.mk (ST.out.step hb); have BK := Aside0.mk hbox; clear ST; have ST := ST1; clear ST1 hb hbox hg; have hl0 : wN.cell? ⟨gb, 0, none⟩ = some (.int .i64 l.f0) := (blk_cell BK.out 0).trans rfl; have hl1 : wN.cell? ⟨gb, 1, none⟩ = some (.string l.f1) := (blk_cell BK.out 1).trans rfl; have hp0 : wN.cell? ⟨pb, 0, none⟩ = some (.slice (some ⟨g, 0, none⟩) out.length c0) := (blk_cell ST.out.hp 0).trans rfl; have hp1 : wN.cell? ⟨pb, 1, none⟩ = some (.bool op) := (blk_cell ST.out.hp 1).trans rfl; have hf1 : wN.frozen? ⟨pb, 1, none⟩ = false := blk_frozen ST.out.hp 1)
        go_quiet (fail)
        go_wp2_with (first | (go_at_call 38; refine (h38 _).mono ?_; rintro e wN ⟨rfl, hdr⟩; have hb := hdr; have BW1 : Aside0 (Below w.heap.size w wN) := ⟨below_step BW.out (by first | exact hb | exact below_q hb)⟩; clear BW; have BW := BW1; clear BW1; have k0 := pw_cell_below BW.out K0.out; have k1 := pw_cell_below BW.out K1.out; have k2 := pw_cell_below BW.out K2.out; have ST1 : Aside0 (St w0 wN pb (.slice (some ⟨g, 0, none⟩) out.length c0) op out) := ⟨ST.out.step (by first | exact hb | exact below_q hb)⟩; have BK1 : Aside0 (wN.heap[gb]? = some (.cells #[.int .i64 l.f0, .string l.f1] 62 (0, 0))) := ⟨blk_step BK.out (by first | exact hb | exact below_q hb)⟩; clear ST BK; have ST := ST1; have BK := BK1; clear ST1 BK1 hb hdr; have hl0 : wN.cell? ⟨gb, 0, none⟩ = some (.int .i64 l.f0) := (blk_cell BK.out 0).trans rfl; have hl1 : wN.cell? ⟨gb, 1, none⟩ = some (.string l.f1) := (blk_cell BK.out 1).trans rfl; have hp0 : wN.cell? ⟨pb, 0, none⟩ = some (.slice (some ⟨g, 0, none⟩) out.length c0) := (blk_cell ST.out.hp 0).trans rfl; have hp1 : wN.cell? ⟨pb, 1, none⟩ = some (.bool op) := (blk_cell ST.out.hp 1).trans rfl) | (go_at_call 13; refine (h13 _ ⟨by first | exact BW.out | exact pw_below_drewN BW.out _⟩).mono ?_; rintro e wN ⟨rfl, hdr⟩; have hb := hdr; have BW1 : Aside0 (Below w.heap.size w wN) := ⟨below_step BW.out (by first | exact hb | exact below_q hb)⟩; clear BW; have BW := BW1; clear BW1; have k0 := pw_cell_below BW.out K0.out; have k1 := pw_cell_below BW.out K1.out; have k2 := pw_cell_below BW.out K2.out; have ST1 : Aside0 (St w0 wN pb (.slice (some ⟨g, 0, none⟩) out.length c0) op out) := ⟨ST.out.step (by first | exact hb | exact below_q hb)⟩; have BK1 : Aside0 (wN.heap[gb]? = some (.cells #[.int .i64 l.f0, .string l.f1] 62 (0, 0))) := ⟨blk_step BK.out (by first | exact hb | exact below_q hb)⟩; clear ST BK; have ST := ST1; have BK := BK1; clear ST1 BK1 hb hdr; have hl0 : wN.cell? ⟨gb, 0, none⟩ = some (.int .i64 l.f0) := (blk_cell BK.out 0).trans rfl; have hl1 : wN.cell? ⟨gb, 1, none⟩ = some (.string l.f1) := (blk_cell BK.out 1).trans rfl; have hp0 : wN.cell? ⟨pb, 0, none⟩ = some (.slice (some ⟨g, 0, none⟩) out.length c0) := (blk_cell ST.out.hp 0).trans rfl; have hp1 : wN.cell? ⟨pb, 1, none⟩ = some (.bool op) := (blk_cell ST.out.hp 1).trans rfl) | (go_at_call 39; refine (h39 _).mono ?_; rintro e wN ⟨rfl, hdr⟩; have hb := hdr.below; have BW1 : Aside0 (Below w.heap.size w wN) := ⟨below_step BW.out (by first | exact hb | exact below_q hb)⟩; clear BW; have BW := BW1; clear BW1; have k0 := pw_cell_below BW.out K0.out; have k1 := pw_cell_below BW.out K1.out; have k2 := pw_cell_below BW.out K2.out; have ST1 : Aside0 (St w0 wN pb (.slice (some ⟨g, 0, none⟩) out.length c0) op out) := ⟨ST.out.step (by first | exact hb | exact below_q hb)⟩; have BK1 : Aside0 (wN.heap[gb]? = some (.cells #[.int .i64 l.f0, .string l.f1] 62 (0, 0))) := ⟨blk_step BK.out (by first | exact hb | exact below_q hb)⟩; clear ST BK; have ST := ST1; have BK := BK1; clear ST1 BK1 hb hdr; have hl0 : wN.cell? ⟨gb, 0, none⟩ = some (.int .i64 l.f0) := (blk_cell BK.out 0).trans rfl; have hl1 : wN.cell? ⟨gb, 1, none⟩ = some (.string l.f1) := (blk_cell BK.out 1).trans rfl; have hp0 : wN.cell? ⟨pb, 0, none⟩ = some (.slice (some ⟨g, 0, none⟩) out.length c0) := (blk_cell ST.out.hp 0).trans rfl; have hp1 : wN.cell? ⟨pb, 1, none⟩ = some (.bool op) := (blk_cell ST.out.hp 1).trans rfl))
        go_ret
        exact ⟨rfl, fun _ => BW.out, _, ST.out⟩
    | true =>
      rw [if_neg (by decide)] at h
      cases twice with
      | true =>
        rw [if_pos rfl] at h
        obtain ⟨rfl, rfl, rfl⟩ : some 7 = r1 ∧ out = r2 ∧ op = r3 := by simpa using h
        clear h
        rcases hD2 with hD1 | ⟨hD1, hD2⟩
        · skip
          go_enter Tryd.func19, Tryd.ntmps19
          go_wp2_with ((with_reducible refine gate_dst (N := 3) rfl ?_); refine box_event ?hg (N := 3) ?hd (cs := #[.int .i64 l.f0, .string l.f1]) (t := 62) ?hr ?_; (case hd => rfl); (case hg => rfl); (case hr => first | (go_simp; done) | (go_simp; rfl)); intro gb hg wN hbox hb; have NE : Aside0 (gb ≠ pb) := ⟨by have := blk_lt ST.out.hp; omega⟩; have BW1 : Aside0 (Below w.heap.size w wN) := ⟨below_step BW.out (by first | exact hb | exact below_q hb)⟩; clear BW; have BW := BW1; clear BW1; have k0 := pw_cell_below BW.out K0.out; have k1 := pw_cell_below BW.out K1.out; have k2 := pw_cell_below BW.out K2.out; have ST1 := Aside0.mk (ST.out.step hb); have BK := Aside0.mk hbox; clear ST; have ST := ST1; clear ST1 hb hbox hg; have hl0 : wN.cell? ⟨gb, 0, none⟩ = some (.int .i64 l.f0) := (blk_cell BK.out 0).trans rfl; have hl1 : wN.cell? ⟨gb, 1, none⟩ = some (.string l.f1) := (blk_cell BK.out 1).trans rfl; have hp0 : wN.cell? ⟨pb, 0, none⟩ = some (.slice (some ⟨g, 0, none⟩) out.length c0) := (blk_cell ST.out.hp 0).trans rfl; have hp1 : wN.cell? ⟨pb, 1, none⟩ = some (.bool op) := (blk_cell ST.out.hp 1).trans rfl; have hf1 : wN.frozen? ⟨pb, 1, none⟩ = false := blk_frozen ST.out.hp 1)
          go_quiet (fail)
          go_wp2_with (first | (go_at_call 38; refine (h38 _).mono ?_; rintro e wN ⟨rfl, hdr⟩; have hb := hdr; have BW1 : Aside0 (Below w.heap.size w wN) := ⟨below_step BW.out (by first | exact hb | exact below_q hb)⟩; clear BW; have BW := BW1; clear BW1; have k0 := pw_cell_below BW.out K0.out; have k1 := pw_cell_below BW.out K1.out; have k2 := pw_cell_below BW.out K2.out; have ST1 : Aside0 (St w0 wN pb (.slice (some ⟨g, 0, none⟩) out.length c0) op out) := ⟨ST.out.step (by first | exact hb | exact below_q hb)⟩; have BK1 : Aside0 (wN.heap[gb]? = some (.cells #[.int .i64 l.f0, .string l.f1] 62 (0, 0))) := ⟨blk_step BK.out (by first | exact hb | exact below_q hb)⟩; clear ST BK; have ST := ST1; have BK := BK1; clear ST1 BK1 hb hdr; have hl0 : wN.cell? ⟨gb, 0, none⟩ = some (.int .i64 l.f0) := (blk_cell BK.out 0).trans rfl; have hl1 : wN.cell? ⟨gb, 1, none⟩ = some (.string l.f1) := (blk_cell BK.out 1).trans rfl; have hp0 : wN.cell? ⟨pb, 0, none⟩ = some (.slice (some ⟨g, 0, none⟩) out.length c0) := (blk_cell ST.out.hp 0).trans rfl; have hp1 : wN.cell? ⟨pb, 1, none⟩ = some (.bool op) := (blk_cell ST.out.hp 1).trans rfl) | (go_at_call 13; refine (h13 _ ⟨by first | exact BW.out | exact pw_below_drewN BW.out _⟩).mono ?_; rintro e wN ⟨rfl, hdr⟩; have hb := hdr; have BW1 : Aside0 (Below w.heap.size w wN) := ⟨below_step BW.out (by first | exact hb | exact below_q hb)⟩; clear BW; have BW := BW1; clear BW1; have k0 := pw_cell_below BW.out K0.out; have k1 := pw_cell_below BW.out K1.out; have k2 := pw_cell_below BW.out K2.out; have ST1 : Aside0 (St w0 wN pb (.slice (some ⟨g, 0, none⟩) out.length c0) op out) := ⟨ST.out.step (by first | exact hb | exact below_q hb)⟩; have BK1 : Aside0 (wN.heap[gb]? = some (.cells #[.int .i64 l.f0, .string l.f1] 62 (0, 0))) := ⟨blk_step BK.out (by first | exact hb | exact below_q hb)⟩; clear ST BK; have ST := ST1; have BK := BK1; clear ST1 BK1 hb hdr; have hl0 : wN.cell? ⟨gb, 0, none⟩ = some (.int .i64 l.f0) := (blk_cell BK.out 0).trans rfl; have hl1 : wN.cell? ⟨gb, 1, none⟩ = some (.string l.f1) := (blk_cell BK.out 1).trans rfl; have hp0 : wN.cell? ⟨pb, 0, none⟩ = some (.slice (some ⟨g, 0, none⟩) out.length c0) := (blk_cell ST.out.hp 0).trans rfl; have hp1 : wN.cell? ⟨pb, 1, none⟩ = some (.bool op) := (blk_cell ST.out.hp 1).trans rfl) | (go_at_call 39; refine (h39 _).mono ?_; rintro e wN ⟨rfl, hdr⟩; have hb := hdr.below; have BW1 : Aside0 (Below w.heap.size w wN) := ⟨below_step BW.out (by first | exact hb | exact below_q hb)⟩; clear BW; have BW := BW1; clear BW1; have k0 := pw_cell_below BW.out K0.out; have k1 := pw_cell_below BW.out K1.out; have k2 := pw_cell_below BW.out K2.out; have ST1 : Aside0 (St w0 wN pb (.slice (some ⟨g, 0, none⟩) out.length c0) op out) := ⟨ST.out.step (by first | exact hb | exact below_q hb)⟩; have BK1 : Aside0 (wN.heap[gb]? = some (.cells #[.int .i64 l.f0, .string l.f1] 62 (0, 0))) := ⟨blk_step BK.out (by first | exact hb | exact below_q hb)⟩; clear ST BK; have ST := ST1; have BK := BK1; clear ST1 BK1 hb hdr; have hl0 : wN.cell? ⟨gb, 0, none⟩ = some (.int .i64 l.f0) := (blk_cell BK.out 0).trans rfl; have hl1 : wN.cell? ⟨gb, 1, none⟩ = some (.string l.f1) := (blk_cell BK.out 1).trans rfl; have hp0 : wN.cell? ⟨pb, 0, none⟩ = some (.slice (some ⟨g, 0, none⟩) out.length c0) := (blk_cell ST.out.hp 0).trans rfl; have hp1 : wN.cell? ⟨pb, 1, none⟩ = some (.bool op) := (blk_cell ST.out.hp 1).trans rfl))
          go_ret
          exact ⟨rfl, fun _ => BW.out, _, ST.out⟩
        · skip
          go_enter Tryd.func19, Tryd.ntmps19
          go_wp2_with ((with_reducible refine gate_dst (N := 3) rfl ?_); refine box_event ?hg (N := 3) ?hd (cs := #[.int .i64 l.f0, .string l.f1]) (t := 62) ?hr ?_; (case hd => rfl); (case hg => rfl); (case hr => first | (go_simp; done) | (go_simp; rfl)); intro gb hg wN hbox hb; have NE : Aside0 (gb ≠ pb) := ⟨by have := blk_lt ST.out.hp; omega⟩; have BW1 : Aside0 (Below w.heap.size w wN) := ⟨below_step BW.out (by first | exact hb | exact below_q hb)⟩; clear BW; have BW := BW1; clear BW1; have k0 := pw_cell_below BW.out K0.out; have k1 := pw_cell_below BW.out K1.out; have k2 := pw_cell_below BW.out K2.out; have ST1 := Aside0.mk (ST.out.step hb); have BK := Aside0.mk hbox; clear ST; have ST := ST1; clear ST1 hb hbox hg; have hl0 : wN.cell? ⟨gb, 0, none⟩ = some (.int .i64 l.f0) := (blk_cell BK.out 0).trans rfl; have hl1 : wN.cell? ⟨gb, 1, none⟩ = some (.string l.f1) := (blk_cell BK.out 1).trans rfl; have hp0 : wN.cell? ⟨pb, 0, none⟩ = some (.slice (some ⟨g, 0, none⟩) out.length c0) := (blk_cell ST.out.hp 0).trans rfl; have hp1 : wN.cell? ⟨pb, 1, none⟩ = some (.bool op) := (blk_cell ST.out.hp 1).trans rfl; have hf1 : wN.frozen? ⟨pb, 1, none⟩ = false := blk_frozen ST.out.hp 1)
          go_quiet (fail)
          go_wp2_with (first | (go_at_call 38; refine (h38 _).mono ?_; rintro e wN ⟨rfl, hdr⟩; have hb := hdr; have BW1 : Aside0 (Below w.heap.size w wN) := ⟨below_step BW.out (by first | exact hb | exact below_q hb)⟩; clear BW; have BW := BW1; clear BW1; have k0 := pw_cell_below BW.out K0.out; have k1 := pw_cell_below BW.out K1.out; have k2 := pw_cell_below BW.out K2.out; have ST1 : Aside0 (St w0 wN pb (.slice (some ⟨g, 0, none⟩) out.length c0) op out) := ⟨ST.out.step (by first | exact hb | exact below_q hb)⟩; have BK1 : Aside0 (wN.heap[gb]? = some (.cells #[.int .i64 l.f0, .string l.f1] 62 (0, 0))) := ⟨blk_step BK.out (by first | exact hb | exact below_q hb)⟩; clear ST BK; have ST := ST1; have BK := BK1; clear ST1 BK1 hb hdr; have hl0 : wN.cell? ⟨gb, 0, none⟩ = some (.int .i64 l.f0) := (blk_cell BK.out 0).trans rfl; have hl1 : wN.cell? ⟨gb, 1, none⟩ = some (.string l.f1) := (blk_cell BK.out 1).trans rfl; have hp0 : wN.cell? ⟨pb, 0, none⟩ = some (.slice (some ⟨g, 0, none⟩) out.length c0) := (blk_cell ST.out.hp 0).trans rfl; have hp1 : wN.cell? ⟨pb, 1, none⟩ = some (.bool op) := (blk_cell ST.out.hp 1).trans rfl) | (go_at_call 13; refine (h13 _ ⟨by first | exact BW.out | exact pw_below_drewN BW.out _⟩).mono ?_; rintro e wN ⟨rfl, hdr⟩; have hb := hdr; have BW1 : Aside0 (Below w.heap.size w wN) := ⟨below_step BW.out (by first | exact hb | exact below_q hb)⟩; clear BW; have BW := BW1; clear BW1; have k0 := pw_cell_below BW.out K0.out; have k1 := pw_cell_below BW.out K1.out; have k2 := pw_cell_below BW.out K2.out; have ST1 : Aside0 (St w0 wN pb (.slice (some ⟨g, 0, none⟩) out.length c0) op out) := ⟨ST.out.step (by first | exact hb | exact below_q hb)⟩; have BK1 : Aside0 (wN.heap[gb]? = some (.cells #[.int .i64 l.f0, .string l.f1] 62 (0, 0))) := ⟨blk_step BK.out (by first | exact hb | exact below_q hb)⟩; clear ST BK; have ST := ST1; have BK := BK1; clear ST1 BK1 hb hdr; have hl0 : wN.cell? ⟨gb, 0, none⟩ = some (.int .i64 l.f0) := (blk_cell BK.out 0).trans rfl; have hl1 : wN.cell? ⟨gb, 1, none⟩ = some (.string l.f1) := (blk_cell BK.out 1).trans rfl; have hp0 : wN.cell? ⟨pb, 0, none⟩ = some (.slice (some ⟨g, 0, none⟩) out.length c0) := (blk_cell ST.out.hp 0).trans rfl; have hp1 : wN.cell? ⟨pb, 1, none⟩ = some (.bool op) := (blk_cell ST.out.hp 1).trans rfl) | (go_at_call 39; refine (h39 _).mono ?_; rintro e wN ⟨rfl, hdr⟩; have hb := hdr.below; have BW1 : Aside0 (Below w.heap.size w wN) := ⟨below_step BW.out (by first | exact hb | exact below_q hb)⟩; clear BW; have BW := BW1; clear BW1; have k0 := pw_cell_below BW.out K0.out; have k1 := pw_cell_below BW.out K1.out; have k2 := pw_cell_below BW.out K2.out; have ST1 : Aside0 (St w0 wN pb (.slice (some ⟨g, 0, none⟩) out.length c0) op out) := ⟨ST.out.step (by first | exact hb | exact below_q hb)⟩; have BK1 : Aside0 (wN.heap[gb]? = some (.cells #[.int .i64 l.f0, .string l.f1] 62 (0, 0))) := ⟨blk_step BK.out (by first | exact hb | exact below_q hb)⟩; clear ST BK; have ST := ST1; have BK := BK1; clear ST1 BK1 hb hdr; have hl0 : wN.cell? ⟨gb, 0, none⟩ = some (.int .i64 l.f0) := (blk_cell BK.out 0).trans rfl; have hl1 : wN.cell? ⟨gb, 1, none⟩ = some (.string l.f1) := (blk_cell BK.out 1).trans rfl; have hp0 : wN.cell? ⟨pb, 0, none⟩ = some (.slice (some ⟨g, 0, none⟩) out.length c0) := (blk_cell ST.out.hp 0).trans rfl; have hp1 : wN.cell? ⟨pb, 1, none⟩ = some (.bool op) := (blk_cell ST.out.hp 1).trans rfl))
          go_ret
          exact ⟨rfl, fun _ => BW.out, _, ST.out⟩
      | false =>
        rw [if_neg (by decide)] at h
        by_cases hF : 64 ≤ (b.f2.length : Int)
        · rw [if_pos hF] at h
          obtain ⟨rfl, rfl, rfl⟩ : some 10 = r1 ∧ out = r2 ∧ op = r3 := by simpa using h
          clear h
          have hF1 : decide (64 ≤ (b.f2.length : Int)) = true := decide_eq_true hF
          have hF2 : decide (64 ≤ b.f2.length) = true := decide_eq_true (by omega)
          clear hF
          rcases hD2 with hD1 | ⟨hD1, hD2⟩
          · skip
            go_enter Tryd.func19, Tryd.ntmps19
            go_wp2_with ((with_reducible refine gate_dst (N := 3) rfl ?_); refine box_event ?hg (N := 3) ?hd (cs := #[.int .i64 l.f0, .string l.f1]) (t := 62) ?hr ?_; (case hd => rfl); (case hg => rfl); (case hr => first | (go_simp; done) | (go_simp; rfl)); intro gb hg wN hbox hb; have NE : Aside0 (gb ≠ pb) := ⟨by have := blk_lt ST.out.hp; omega⟩; have BW1 : Aside0 (Below w.heap.size w wN) := ⟨below_step BW.out (by first | exact hb | exact below_q hb)⟩; clear BW; have BW := BW1; clear BW1; have k0 := pw_cell_below BW.out K0.out; have k1 := pw_cell_below BW.out K1.out; have k2 := pw_cell_below BW.out K2.out; have ST1 := Aside0.mk (ST.out.step hb); have BK := Aside0.mk hbox; clear ST; have ST := ST1; clear ST1 hb hbox hg; have hl0 : wN.cell? ⟨gb, 0, none⟩ = some (.int .i64 l.f0) := (blk_cell BK.out 0).trans rfl; have hl1 : wN.cell? ⟨gb, 1, none⟩ = some (.string l.f1) := (blk_cell BK.out 1).trans rfl; have hp0 : wN.cell? ⟨pb, 0, none⟩ = some (.slice (some ⟨g, 0, none⟩) out.length c0) := (blk_cell ST.out.hp 0).trans rfl; have hp1 : wN.cell? ⟨pb, 1, none⟩ = some (.bool op) := (blk_cell ST.out.hp 1).trans rfl; have hf1 : wN.frozen? ⟨pb, 1, none⟩ = false := blk_frozen ST.out.hp 1)
            go_quiet (fail)
            go_wp2_with (first | (go_at_call 38; refine (h38 _).mono ?_; rintro e wN ⟨rfl, hdr⟩; have hb := hdr; have BW1 : Aside0 (Below w.heap.size w wN) := ⟨below_step BW.out (by first | exact hb | exact below_q hb)⟩; clear BW; have BW := BW1; clear BW1; have k0 := pw_cell_below BW.out K0.out; have k1 := pw_cell_below BW.out K1.out; have k2 := pw_cell_below BW.out K2.out; have ST1 : Aside0 (St w0 wN pb (.slice (some ⟨g, 0, none⟩) out.length c0) op out) := ⟨ST.out.step (by first | exact hb | exact below_q hb)⟩; have BK1 : Aside0 (wN.heap[gb]? = some (.cells #[.int .i64 l.f0, .string l.f1] 62 (0, 0))) := ⟨blk_step BK.out (by first | exact hb | exact below_q hb)⟩; clear ST BK; have ST := ST1; have BK := BK1; clear ST1 BK1 hb hdr; have hl0 : wN.cell? ⟨gb, 0, none⟩ = some (.int .i64 l.f0) := (blk_cell BK.out 0).trans rfl; have hl1 : wN.cell? ⟨gb, 1, none⟩ = some (.string l.f1) := (blk_cell BK.out 1).trans rfl; have hp0 : wN.cell? ⟨pb, 0, none⟩ = some (.slice (some ⟨g, 0, none⟩) out.length c0) := (blk_cell ST.out.hp 0).trans rfl; have hp1 : wN.cell? ⟨pb, 1, none⟩ = some (.bool op) := (blk_cell ST.out.hp 1).trans rfl) | (go_at_call 13; refine (h13 _ ⟨by first | exact BW.out | exact pw_below_drewN BW.out _⟩).mono ?_; rintro e wN ⟨rfl, hdr⟩; have hb := hdr; have BW1 : Aside0 (Below w.heap.size w wN) := ⟨below_step BW.out (by first | exact hb | exact below_q hb)⟩; clear BW; have BW := BW1; clear BW1; have k0 := pw_cell_below BW.out K0.out; have k1 := pw_cell_below BW.out K1.out; have k2 := pw_cell_below BW.out K2.out; have ST1 : Aside0 (St w0 wN pb (.slice (some ⟨g, 0, none⟩) out.length c0) op out) := ⟨ST.out.step (by first | exact hb | exact below_q hb)⟩; have BK1 : Aside0 (wN.heap[gb]? = some (.cells #[.int .i64 l.f0, .string l.f1] 62 (0, 0))) := ⟨blk_step BK.out (by first | exact hb | exact below_q hb)⟩; clear ST BK; have ST := ST1; have BK := BK1; clear ST1 BK1 hb hdr; have hl0 : wN.cell? ⟨gb, 0, none⟩ = some (.int .i64 l.f0) := (blk_cell BK.out 0).trans rfl; have hl1 : wN.cell? ⟨gb, 1, none⟩ = some (.string l.f1) := (blk_cell BK.out 1).trans rfl; have hp0 : wN.cell? ⟨pb, 0, none⟩ = some (.slice (some ⟨g, 0, none⟩) out.length c0) := (blk_cell ST.out.hp 0).trans rfl; have hp1 : wN.cell? ⟨pb, 1, none⟩ = some (.bool op) := (blk_cell ST.out.hp 1).trans rfl) | (go_at_call 39; refine (h39 _).mono ?_; rintro e wN ⟨rfl, hdr⟩; have hb := hdr.below; have BW1 : Aside0 (Below w.heap.size w wN) := ⟨below_step BW.out (by first | exact hb | exact below_q hb)⟩; clear BW; have BW := BW1; clear BW1; have k0 := pw_cell_below BW.out K0.out; have k1 := pw_cell_below BW.out K1.out; have k2 := pw_cell_below BW.out K2.out; have ST1 : Aside0 (St w0 wN pb (.slice (some ⟨g, 0, none⟩) out.length c0) op out) := ⟨ST.out.step (by first | exact hb | exact below_q hb)⟩; have BK1 : Aside0 (wN.heap[gb]? = some (.cells #[.int .i64 l.f0, .string l.f1] 62 (0, 0))) := ⟨blk_step BK.out (by first | exact hb | exact below_q hb)⟩; clear ST BK; have ST := ST1; have BK := BK1; clear ST1 BK1 hb hdr; have hl0 : wN.cell? ⟨gb, 0, none⟩ = some (.int .i64 l.f0) := (blk_cell BK.out 0).trans rfl; have hl1 : wN.cell? ⟨gb, 1, none⟩ = some (.string l.f1) := (blk_cell BK.out 1).trans rfl; have hp0 : wN.cell? ⟨pb, 0, none⟩ = some (.slice (some ⟨g, 0, none⟩) out.length c0) := (blk_cell ST.out.hp 0).trans rfl; have hp1 : wN.cell? ⟨pb, 1, none⟩ = some (.bool op) := (blk_cell ST.out.hp 1).trans rfl))
            go_ret
            exact ⟨rfl, fun _ => BW.out, _, ST.out⟩
          · skip
            go_enter Tryd.func19, Tryd.ntmps19
            go_wp2_with ((with_reducible refine gate_dst (N := 3) rfl ?_); refine box_event ?hg (N := 3) ?hd (cs := #[.int .i64 l.f0, .string l.f1]) (t := 62) ?hr ?_; (case hd => rfl); (case hg => rfl); (case hr => first | (go_simp; done) | (go_simp; rfl)); intro gb hg wN hbox hb; have NE : Aside0 (gb ≠ pb) := ⟨by have := blk_lt ST.out.hp; omega⟩; have BW1 : Aside0 (Below w.heap.size w wN) := ⟨below_step BW.out (by first | exact hb | exact below_q hb)⟩; clear BW; have BW := BW1; clear BW1; have k0 := pw_cell_below BW.out K0.out; have k1 := pw_cell_below BW.out K1.out; have k2 := pw_cell_below BW.out K2.out; have ST1 := Aside0.mk (ST.out.step hb); have BK := Aside0.mk hbox; clear ST; have ST := ST1; clear ST1 hb hbox hg; have hl0 : wN.cell? ⟨gb, 0, none⟩ = some (.int .i64 l.f0) := (blk_cell BK.out 0).trans rfl; have hl1 : wN.cell? ⟨gb, 1, none⟩ = some (.string l.f1) := (blk_cell BK.out 1).trans rfl; have hp0 : wN.cell? ⟨pb, 0, none⟩ = some (.slice (some ⟨g, 0, none⟩) out.length c0) := (blk_cell ST.out.hp 0).trans rfl; have hp1 : wN.cell? ⟨pb, 1, none⟩ = some (.bool op) := (blk_cell ST.out.hp 1).trans rfl; have hf1 : wN.frozen? ⟨pb, 1, none⟩ = false := blk_frozen ST.out.hp 1)
            go_quiet (fail)
            go_wp2_with (first | (go_at_call 38; refine (h38 _).mono ?_; rintro e wN ⟨rfl, hdr⟩; have hb := hdr; have BW1 : Aside0 (Below w.heap.size w wN) := ⟨below_step BW.out (by first | exact hb | exact below_q hb)⟩; clear BW; have BW := BW1; clear BW1; have k0 := pw_cell_below BW.out K0.out; have k1 := pw_cell_below BW.out K1.out; have k2 := pw_cell_below BW.out K2.out; have ST1 : Aside0 (St w0 wN pb (.slice (some ⟨g, 0, none⟩) out.length c0) op out) := ⟨ST.out.step (by first | exact hb | exact below_q hb)⟩; have BK1 : Aside0 (wN.heap[gb]? = some (.cells #[.int .i64 l.f0, .string l.f1] 62 (0, 0))) := ⟨blk_step BK.out (by first | exact hb | exact below_q hb)⟩; clear ST BK; have ST := ST1; have BK := BK1; clear ST1 BK1 hb hdr; have hl0 : wN.cell? ⟨gb, 0, none⟩ = some (.int .i64 l.f0) := (blk_cell BK.out 0).trans rfl; have hl1 : wN.cell? ⟨gb, 1, none⟩ = some (.string l.f1) := (blk_cell BK.out 1).trans rfl; have hp0 : wN.cell? ⟨pb, 0, none⟩ = some (.slice (some ⟨g, 0, none⟩) out.length c0) := (blk_cell ST.out.hp 0).trans rfl; have hp1 : wN.cell? ⟨pb, 1, none⟩ = some (.bool op) := (blk_cell ST.out.hp 1).trans rfl) | (go_at_call 13; refine (h13 _ ⟨by first | exact BW.out | exact pw_below_drewN BW.out _⟩).mono ?_; rintro e wN ⟨rfl, hdr⟩; have hb := hdr; have BW1 : Aside0 (Below w.heap.size w wN) := ⟨below_step BW.out (by first | exact hb | exact below_q hb)⟩; clear BW; have BW := BW1; clear BW1; have k0 := pw_cell_below BW.out K0.out; have k1 := pw_cell_below BW.out K1.out; have k2 := pw_cell_below BW.out K2.out; have ST1 : Aside0 (St w0 wN pb (.slice (some ⟨g, 0, none⟩) out.length c0) op out) := ⟨ST.out.step (by first | exact hb | exact below_q hb)⟩; have BK1 : Aside0 (wN.heap[gb]? = some (.cells #[.int .i64 l.f0, .string l.f1] 62 (0, 0))) := ⟨blk_step BK.out (by first | exact hb | exact below_q hb)⟩; clear ST BK; have ST := ST1; have BK := BK1; clear ST1 BK1 hb hdr; have hl0 : wN.cell? ⟨gb, 0, none⟩ = some (.int .i64 l.f0) := (blk_cell BK.out 0).trans rfl; have hl1 : wN.cell? ⟨gb, 1, none⟩ = some (.string l.f1) := (blk_cell BK.out 1).trans rfl; have hp0 : wN.cell? ⟨pb, 0, none⟩ = some (.slice (some ⟨g, 0, none⟩) out.length c0) := (blk_cell ST.out.hp 0).trans rfl; have hp1 : wN.cell? ⟨pb, 1, none⟩ = some (.bool op) := (blk_cell ST.out.hp 1).trans rfl) | (go_at_call 39; refine (h39 _).mono ?_; rintro e wN ⟨rfl, hdr⟩; have hb := hdr.below; have BW1 : Aside0 (Below w.heap.size w wN) := ⟨below_step BW.out (by first | exact hb | exact below_q hb)⟩; clear BW; have BW := BW1; clear BW1; have k0 := pw_cell_below BW.out K0.out; have k1 := pw_cell_below BW.out K1.out; have k2 := pw_cell_below BW.out K2.out; have ST1 : Aside0 (St w0 wN pb (.slice (some ⟨g, 0, none⟩) out.length c0) op out) := ⟨ST.out.step (by first | exact hb | exact below_q hb)⟩; have BK1 : Aside0 (wN.heap[gb]? = some (.cells #[.int .i64 l.f0, .string l.f1] 62 (0, 0))) := ⟨blk_step BK.out (by first | exact hb | exact below_q hb)⟩; clear ST BK; have ST := ST1; have BK := BK1; clear ST1 BK1 hb hdr; have hl0 : wN.cell? ⟨gb, 0, none⟩ = some (.int .i64 l.f0) := (blk_cell BK.out 0).trans rfl; have hl1 : wN.cell? ⟨gb, 1, none⟩ = some (.string l.f1) := (blk_cell BK.out 1).trans rfl; have hp0 : wN.cell? ⟨pb, 0, none⟩ = some (.slice (some ⟨g, 0, none⟩) out.length c0) := (blk_cell ST.out.hp 0).trans rfl; have hp1 : wN.cell? ⟨pb, 1, none⟩ = some (.bool op) := (blk_cell ST.out.hp 1).trans rfl))
            go_ret
            exact ⟨rfl, fun _ => BW.out, _, ST.out⟩
        · rw [if_neg hF] at h
          obtain ⟨rfl, rfl, rfl⟩ : none = r1 ∧ out.set i.toNat ⟨b.f0, b.f1, b.f2 ++ [(⟨l.f0, name, value⟩ : S42)]⟩ = r2 ∧ op = r3 := by simpa using h
          clear h
          have hF1 : decide (64 ≤ (b.f2.length : Int)) = false := decide_eq_false hF
          have hF2 : decide (64 ≤ b.f2.length) = false := decide_eq_false (by omega)
          have HLEN : Aside0 (b.f2.length < 64) := ⟨by omega⟩
          clear hF
          rcases hD2 with hD1 | ⟨hD1, hD2⟩
          · skip
            go_enter Tryd.func19, Tryd.ntmps19
            go_wp2_with ((with_reducible refine gate_dst (N := 3) rfl ?_); refine box_event ?hg (N := 3) ?hd (cs := #[.int .i64 l.f0, .string l.f1]) (t := 62) ?hr ?_; (case hd => rfl); (case hg => rfl); (case hr => first | (go_simp; done) | (go_simp; rfl)); intro gb hg wN hbox hb; have NE : Aside0 (gb ≠ pb) := ⟨by have := blk_lt ST.out.hp; omega⟩; have BW1 : Aside0 (Below w.heap.size w wN) := ⟨below_step BW.out (by first | exact hb | exact below_q hb)⟩; clear BW; have BW := BW1; clear BW1; have k0 := pw_cell_below BW.out K0.out; have k1 := pw_cell_below BW.out K1.out; have k2 := pw_cell_below BW.out K2.out; have ST1 := Aside0.mk (ST.out.step hb); have BK := Aside0.mk hbox; clear ST; have ST := ST1; clear ST1 hb hbox hg; have hl0 : wN.cell? ⟨gb, 0, none⟩ = some (.int .i64 l.f0) := (blk_cell BK.out 0).trans rfl; have hl1 : wN.cell? ⟨gb, 1, none⟩ = some (.string l.f1) := (blk_cell BK.out 1).trans rfl; have hp0 : wN.cell? ⟨pb, 0, none⟩ = some (.slice (some ⟨g, 0, none⟩) out.length c0) := (blk_cell ST.out.hp 0).trans rfl; have hp1 : wN.cell? ⟨pb, 1, none⟩ = some (.bool op) := (blk_cell ST.out.hp 1).trans rfl; have hf1 : wN.frozen? ⟨pb, 1, none⟩ = false := blk_frozen ST.out.hp 1)
            go_quiet (fail)
            go_wp2_with (first | (go_at_call 38; refine (h38 _).mono ?_; rintro e wN ⟨rfl, hdr⟩; have hb := hdr; have BW1 : Aside0 (Below w.heap.size w wN) := ⟨below_step BW.out (by first | exact hb | exact below_q hb)⟩; clear BW; have BW := BW1; clear BW1; have k0 := pw_cell_below BW.out K0.out; have k1 := pw_cell_below BW.out K1.out; have k2 := pw_cell_below BW.out K2.out; have ST1 : Aside0 (St w0 wN pb (.slice (some ⟨g, 0, none⟩) out.length c0) op out) := ⟨ST.out.step (by first | exact hb | exact below_q hb)⟩; have BK1 : Aside0 (wN.heap[gb]? = some (.cells #[.int .i64 l.f0, .string l.f1] 62 (0, 0))) := ⟨blk_step BK.out (by first | exact hb | exact below_q hb)⟩; clear ST BK; have ST := ST1; have BK := BK1; clear ST1 BK1 hb hdr; have hl0 : wN.cell? ⟨gb, 0, none⟩ = some (.int .i64 l.f0) := (blk_cell BK.out 0).trans rfl; have hl1 : wN.cell? ⟨gb, 1, none⟩ = some (.string l.f1) := (blk_cell BK.out 1).trans rfl; have hp0 : wN.cell? ⟨pb, 0, none⟩ = some (.slice (some ⟨g, 0, none⟩) out.length c0) := (blk_cell ST.out.hp 0).trans rfl; have hp1 : wN.cell? ⟨pb, 1, none⟩ = some (.bool op) := (blk_cell ST.out.hp 1).trans rfl) | (go_at_call 13; refine (h13 _ ⟨by first | exact BW.out | exact pw_below_drewN BW.out _⟩).mono ?_; rintro e wN ⟨rfl, hdr⟩; have hb := hdr; have BW1 : Aside0 (Below w.heap.size w wN) := ⟨below_step BW.out (by first | exact hb | exact below_q hb)⟩; clear BW; have BW := BW1; clear BW1; have k0 := pw_cell_below BW.out K0.out; have k1 := pw_cell_below BW.out K1.out; have k2 := pw_cell_below BW.out K2.out; have ST1 : Aside0 (St w0 wN pb (.slice (some ⟨g, 0, none⟩) out.length c0) op out) := ⟨ST.out.step (by first | exact hb | exact below_q hb)⟩; have BK1 : Aside0 (wN.heap[gb]? = some (.cells #[.int .i64 l.f0, .string l.f1] 62 (0, 0))) := ⟨blk_step BK.out (by first | exact hb | exact below_q hb)⟩; clear ST BK; have ST := ST1; have BK := BK1; clear ST1 BK1 hb hdr; have hl0 : wN.cell? ⟨gb, 0, none⟩ = some (.int .i64 l.f0) := (blk_cell BK.out 0).trans rfl; have hl1 : wN.cell? ⟨gb, 1, none⟩ = some (.string l.f1) := (blk_cell BK.out 1).trans rfl; have hp0 : wN.cell? ⟨pb, 0, none⟩ = some (.slice (some ⟨g, 0, none⟩) out.length c0) := (blk_cell ST.out.hp 0).trans rfl; have hp1 : wN.cell? ⟨pb, 1, none⟩ = some (.bool op) := (blk_cell ST.out.hp 1).trans rfl) | (go_at_call 39; refine (h39 _).mono ?_; rintro e wN ⟨rfl, hdr⟩; have hb := hdr.below; have BW1 : Aside0 (Below w.heap.size w wN) := ⟨below_step BW.out (by first | exact hb | exact below_q hb)⟩; clear BW; have BW := BW1; clear BW1; have k0 := pw_cell_below BW.out K0.out; have k1 := pw_cell_below BW.out K1.out; have k2 := pw_cell_below BW.out K2.out; have ST1 : Aside0 (St w0 wN pb (.slice (some ⟨g, 0, none⟩) out.length c0) op out) := ⟨ST.out.step (by first | exact hb | exact below_q hb)⟩; have BK1 : Aside0 (wN.heap[gb]? = some (.cells #[.int .i64 l.f0, .string l.f1] 62 (0, 0))) := ⟨blk_step BK.out (by first | exact hb | exact below_q hb)⟩; clear ST BK; have ST := ST1; have BK := BK1; clear ST1 BK1 hb hdr; have hl0 : wN.cell? ⟨gb, 0, none⟩ = some (.int .i64 l.f0) := (blk_cell BK.out 0).trans rfl; have hl1 : wN.cell? ⟨gb, 1, none⟩ = some (.string l.f1) := (blk_cell BK.out 1).trans rfl; have hp0 : wN.cell? ⟨pb, 0, none⟩ = some (.slice (some ⟨g, 0, none⟩) out.length c0) := (blk_cell ST.out.hp 0).trans rfl; have hp1 : wN.cell? ⟨pb, 1, none⟩ = some (.bool op) := (blk_cell ST.out.hp 1).trans rfl))
            have HSB := Kd.S_mono (Kd.S_bound ST.out.hs) (ok' := fun k => (k ≠ pb) ∧ ¬ wN.heap.size ≤ k) (fun k hk => ⟨hk.1, by have := hk.2.2.1; omega⟩)
            obtain ⟨oki, c, hcl, hM, hcc, hfr, hoki, hH⟩ := Kd.S_elem HSB z40 i HI.out.1 HI.out.2
            obtain ⟨v2', ec, hR2⟩ := k40_openM hM
            subst ec
            rw [show out.getD i.toNat z40 = b from HBE.out] at hR2 hcc hH
            have ev2 : v2' = .slice A2 b.f2.length c2 := Option.some.inj ((hcc 2 v2' rfl).symm.trans k2)
            subst ev2
            have HR := Aside0.mk hR2
            have HH := Aside0.mk hH
            have HOK := Aside0.mk hoki
            have HF := Aside0.mk hfr
            clear HSB hcl hM hcc hR2 hH hoki hfr
            refine start_ (n := 15) (S := fun w' => w'.cell? ⟨g, i.toNat * 3 + 2, none⟩ = some (.slice A2 b.f2.length c2) ∧ w'.cell? ⟨gb, 0, none⟩ = some (.int .i64 l.f0)) (ds := [14]) #[false, false, false, false, false, false, false, false, false, false, false, false, false, false, false] (by kernel_rfl) rfl rfl ⟨k2, (blk_cell (blk_drew BK.out) 0).trans rfl⟩ (fun hHeld => ?_)
            refine pure_ (i := 0) (N := some 67) (v := ?_) (a' := ?_) #[true, false, false, false, false, false, false, false, false, false, false, false, false, false, false] rfl rfl (by kernel_rfl) (fun _ _ _ h => h) (Or.inl ⟨by rfl, ?_⟩) ?_ ?_
            rotate_left
            · intro w'
              go_simp
              with_reducible rfl
            rotate_left
            · simp only [Act.put, List.setIfInBounds_toArray, List.set_cons_zero, List.set_cons_succ, i64_w, i32_w]
              rfl
            refine pure_ (i := 1) (N := some 68) (v := ?_) (a' := ?_) #[true, true, false, false, false, false, false, false, false, false, false, false, false, false, false] rfl rfl (by kernel_rfl) (fun _ _ _ h => h) (Or.inl ⟨by rfl, ?_⟩) ?_ ?_
            rotate_left
            · intro w'
              go_simp
              with_reducible rfl
            rotate_left
            · simp only [Act.put, List.setIfInBounds_toArray, List.set_cons_zero, List.set_cons_succ, i64_w, i32_w]
              rfl
            refine pure_ (i := 2) (N := some 69) (v := ?_) (a' := ?_) #[true, true, true, false, false, false, false, false, false, false, false, false, false, false, false] rfl rfl (by kernel_rfl) (fun _ _ _ h => h) (Or.inl ⟨by rfl, ?_⟩) ?_ ?_
            rotate_left
            · intro w'
              go_simp
              with_reducible rfl
            rotate_left
            · simp only [Act.put, List.setIfInBounds_toArray, List.set_cons_zero, List.set_cons_succ, i64_w, i32_w]
              rfl
            refine pure_ (i := 3) (N := some 70) (v := ?_) (a' := ?_) #[true, true, true, true, false, false, false, false, false, false, false, false, false, false, false] rfl rfl (by kernel_rfl) (fun _ _ _ h => h) (Or.inl ⟨by rfl, ?_⟩) ?_ ?_
            rotate_left
            · intro w'
              go_simp
              with_reducible rfl
            rotate_left
            · simp only [Act.put, List.setIfInBounds_toArray, List.set_cons_zero, List.set_cons_succ, i64_w, i32_w]
              rfl
            refine pure_ (i := 5) (N := some 72) (v := ?_) (a' := ?_) #[true, true, true, true, false, true, false, false, false, false, false, false, false, false, false] rfl rfl (by kernel_rfl) (fun _ _ _ h => h) (Or.inl ⟨by rfl, ?_⟩) ?_ ?_
            rotate_left
            · intro w'
              go_simp
              with_reducible rfl
            rotate_left
            · simp only [Act.put, List.setIfInBounds_toArray, List.set_cons_zero, List.set_cons_succ, i64_w, i32_w]
              rfl
            refine pure_ (i := 7) (N := some 74) (v := ?_) (a' := ?_) #[true, true, true, true, false, true, false, true, false, false, false, false, false, false, false] rfl rfl (by kernel_rfl) (fun _ _ _ h => h) (Or.inl ⟨by rfl, ?_⟩) ?_ ?_
            rotate_left
            · intro w'
              go_simp
              with_reducible rfl
            rotate_left
            · simp only [Act.put, List.setIfInBounds_toArray, List.set_cons_zero, List.set_cons_succ, i64_w, i32_w]
              rfl
            refine pure_ (i := 8) (N := some 75) (v := ?_) (a' := ?_) #[true, true, true, true, false, true, false, true, true, false, false, false, false, false, false] rfl rfl (by kernel_rfl) (fun _ _ _ h => h) (Or.inl ⟨by rfl, ?_⟩) ?_ ?_
            rotate_left
            · intro w'
              go_simp
              with_reducible rfl
            rotate_left
            · simp only [Act.put, List.setIfInBounds_toArray, List.set_cons_zero, List.set_cons_succ, i64_w, i32_w]
              rfl
            refine take_ (i := 4) (N := some 71) (v := ?_) (a' := ?_) #[true, true, true, true, true, true, false, true, true, false, false, false, false, false, false] rfl rfl (by kernel_rfl) (fun _ _ _ h => h) (Or.inl ⟨by rfl, ?_⟩) hHeld ?_ ?_
            rotate_left
            · rintro w' ⟨s0, s1⟩
              go_simp
              with_reducible rfl
            rotate_left
            · simp only [Act.put, List.setIfInBounds_toArray, List.set_cons_zero, List.set_cons_succ, i64_w, i32_w]
              rfl
            refine take_ (i := 6) (N := some 73) (v := ?_) (a' := ?_) #[true, true, true, true, true, true, true, true, true, false, false, false, false, false, false] rfl rfl (by kernel_rfl) (fun _ _ _ h => h) (Or.inl ⟨by rfl, ?_⟩) hHeld ?_ ?_
            rotate_left
            · rintro w' ⟨s0, s1⟩
              go_simp
              with_reducible rfl
            rotate_left
            · simp only [Act.put, List.setIfInBounds_toArray, List.set_cons_zero, List.set_cons_succ, i64_w, i32_w]
              rfl
            refine pure_ (i := 9) (N := some 76) (v := ?_) (a' := ?_) #[true, true, true, true, true, true, true, true, true, true, false, false, false, false, false] rfl rfl (by kernel_rfl) (fun _ _ _ h => h) (Or.inl ⟨by rfl, ?_⟩) ?_ ?_
            rotate_left
            · intro w'
              go_simp
              with_reducible rfl
            rotate_left
            · simp only [Act.put, List.setIfInBounds_toArray, List.set_cons_zero, List.set_cons_succ, i64_w, i32_w]
              rfl
            refine one_ (i := 10) (N := some 77) #[true, true, true, true, true, true, true, true, true, true, true, false, false, false, false] rfl rfl (by kernel_rfl) (by decide) (fun K hK => ?_)
            refine value_ (w1 := ?_) (v := ?_) (by rfl) rfl ?_ ?_
            rotate_left 2
            · go_simp
              constructor
              · rfl
              · rfl
            refine hK.out _ _ ⟨(pw_cell_below (below_alloc (below_drew1 (Below.refl _ _)) _) k2), (blk_cell (blk_alloc (blk_drew BK.out) _) 0).trans rfl⟩ (fun hHeld => ?_)
            clear hK K
            refine norm_ (a' := ?_) ?_ ?_
            rotate_left
            · show Act.put _ (some 77) _ = _
              simp only [Act.put, List.setIfInBounds_toArray, List.set_cons_zero, List.set_cons_succ, i64_w, i32_w]
              rfl
            refine one_ (i := 11) (N := some 78) #[true, true, true, true, true, true, true, true, true, true, true, true, false, false, false] rfl rfl (by kernel_rfl) (by decide) (fun K hK => ?_)
            refine Kd.R_append_step k42 (w0 := w0) (W := wN.drew) w0.heap.size (by rfl) (.tmp 71) (.tmp 77) 38 42 (.agg #[(.int .i64 0), (.string ⟨#[]⟩), (.string ⟨#[]⟩)]) 40 rfl Tryd.underlying38 info42 rfl (by decide) (by omega) (.slice A2 b.f2.length c2) b.f2 (⟨l.f0, name, value⟩ : S42) [.int .i64 l.f0, .string name, .string value] (fun k => oki k ∨ wN.heap.size ≤ k) (fun _ => False) rfl rfl ?aP (fun _ hk => hk.elim) ?aF ?aO ?aB ?aS ?aL ?_
            (case aP => exact k42_mkM _ _ _ (⟨l.f0, name, value⟩ : S42))
            (case aF => exact (fun _ hk => Or.inr hk))
            (case aO => exact Kd.R_mono (Kd.R_drew HR.out) (fun _ hk => Or.inl hk))
            (case aB => exact (by repeat (first | (with_reducible first | exact ST.out.hb | apply below_alloc | apply pw_below_drewN | apply below_drew1) | exact ST.out.hb)))
            (case aS => exact below_size (by repeat (first | (with_reducible first | exact ST.out.hb | apply below_alloc | apply pw_below_drewN | apply below_drew1) | exact ST.out.hb)))
            (case aL => have := HLEN.out; omega)
            intro v1 w1 hs hb hg hat
            have PB1 := Aside0.mk (blk_grown (g := pb) (o := .cells #[.slice (some ⟨g, 0, none⟩) out.length c0, .bool op] 60 (0, 0)) (blk_drew ST.out.hp) hg (fun e => (HOK.out _ (HR.out.1 _ e.symm)).1.1 rfl))
            have BK1 := Aside0.mk (blk_grown (g := gb) (o := .cells #[.int .i64 l.f0, .string l.f1] 62 (0, 0)) (blk_drew BK.out) hg (Kd.R_ne HR.out BK.out (by decide)))
            have HH1 := Aside0.mk (Kd.H_grown (Kd.H_drew HH.out) hg (fun k e => HR.out.1 k e))
            have k21 : w1.cell? ⟨g, i.toNat * 3 + 2, none⟩ = some (.slice A2 b.f2.length c2) := cell_grown (W := wN.drew) hg k2 (fun e => (HOK.out _ (HR.out.1 _ e.symm)).2 rfl)
            obtain ⟨cells, hgc⟩ := GC.out
            have GB1 := Aside0.mk (blk_grown (g := g) (o := .cells cells 40 (0, 0)) (blk_drew (blk_step hgc BW.out)) hg (fun e => (HOK.out _ (HR.out.1 _ e.symm)).2 rfl))
            clear hgc
            have HS1 := Aside0.mk hs
            have HB1 := Aside0.mk hb
            clear hs hb hg hat
            obtain ⟨A1, c1, ev⟩ := Kd.R_slice HS1.out
            rw [show (b.f2 ++ [(⟨l.f0, name, value⟩ : S42)]).length = b.f2.length + 1 by simp] at ev
            subst ev
            refine hK.out _ _ ⟨k21, (blk_cell BK1.out 0).trans rfl⟩ (fun hHeld => ?_)
            clear hK K
            refine norm_ (a' := ?_) ?_ ?_
            rotate_left
            · show Act.put _ (some 78) _ = _
              simp only [Act.put, List.setIfInBounds_toArray, List.set_cons_zero, List.set_cons_succ, i64_w, i32_w]
              rfl
            refine pure_ (i := 12) (N := some 79) (v := ?_) (a' := ?_) #[true, true, true, true, true, true, true, true, true, true, true, true, true, false, false] rfl rfl (by kernel_rfl) (fun _ _ _ h => h) (Or.inl ⟨by rfl, ?_⟩) ?_ ?_
            rotate_left
            · intro w'
              go_simp
              with_reducible rfl
            rotate_left
            · simp only [Act.put, List.setIfInBounds_toArray, List.set_cons_zero, List.set_cons_succ, i64_w, i32_w]
              rfl
            refine pure_ (i := 13) (N := some 80) (v := ?_) (a' := ?_) #[true, true, true, true, true, true, true, true, true, true, true, true, true, true, false] rfl rfl (by kernel_rfl) (fun _ _ _ h => h) (Or.inl ⟨by rfl, ?_⟩) ?_ ?_
            rotate_left
            · intro w'
              go_simp
              with_reducible rfl
            rotate_left
            · simp only [Act.put, List.setIfInBounds_toArray, List.set_cons_zero, List.set_cons_succ, i64_w, i32_w]
              rfl
            refine last_ (i := 14) (N := none) #[true, true, true, true, true, true, true, true, true, true, true, true, true, true, true] rfl rfl (by kernel_rfl) (by decide) (fun K hK => ?_)
            have hfs17 : w1.frozen? ⟨g, i.toNat * 3 + 2, none⟩ = false := blk_frozen GB1.out _
            refine skip_ (w1 := ?_) (by rfl) rfl ?_ ?_
            rotate_left
            · go_simp
              rfl
            refine hK.out _ _ ?_
            clear hK K
            refine done_ (by kernel_rfl) ?_
            have hgN : g < wN.heap.size := by obtain ⟨cells, hgc⟩ := GC.out; exact blk_lt (blk_step hgc BW.out)
            have hpN := blk_lt ST.out.hp
            have hSeg := (Kd.S_seg (okg := fun k => wN.heap.size ≤ k) (ok := fun k => k ≠ pb) (okp := fun k => oki k ∨ wN.heap.size ≤ k) (seg := [.slice A1 (b.f2.length + 1) c1]) (j := 2) (x' := (⟨b.f0, b.f1, b.f2 ++ [(⟨l.f0, name, value⟩ : S42)]⟩ : S40)) HH1.out HI.out.1 HI.out.2 (by show 2 + 1 ≤ 3; omega) (k40_mkM _ _ _ (⟨b.f0, b.f1, b.f2 ++ [(⟨l.f0, name, value⟩ : S42)]⟩ : S40) HS1.out) (fun _ hk => hk) (fun k hk => ⟨by omega, by omega⟩)).1
            have HSEG := Aside0.mk hSeg
            clear hSeg
            have hpb : (w1.setCell ⟨g, i.toNat * 3 + 2, none⟩ (.slice A1 (b.f2.length + 1) c1)).heap[pb]? = some (.cells #[.slice (some ⟨g, 0, none⟩) out.length c0, .bool op] 60 (0, 0)) := (Below.heap_setCell w1 ⟨g, i.toNat * 3 + 2, none⟩ _ pb (fun e => blk_ne PB1.out GB1.out (by decide) e)).trans PB1.out
            have HPB := Aside0.mk hpb
            clear hpb hgN hpN
            go_wp2
            go_ret
            exact ⟨rfl, fun e => absurd rfl e, _, ⟨below_set HB1.out GB.out, HPB.out, ST.out.hq, HSEG.out⟩⟩
          · skip
            go_enter Tryd.func19, Tryd.ntmps19
            go_wp2_with ((with_reducible refine gate_dst (N := 3) rfl ?_); refine box_event ?hg (N := 3) ?hd (cs := #[.int .i64 l.f0, .string l.f1]) (t := 62) ?hr ?_; (case hd => rfl); (case hg => rfl); (case hr => first | (go_simp; done) | (go_simp; rfl)); intro gb hg wN hbox hb; have NE : Aside0 (gb ≠ pb) := ⟨by have := blk_lt ST.out.hp; omega⟩; have BW1 : Aside0 (Below w.heap.size w wN) := ⟨below_step BW.out (by first | exact hb | exact below_q hb)⟩; clear BW; have BW := BW1; clear BW1; have k0 := pw_cell_below BW.out K0.out; have k1 := pw_cell_below BW.out K1.out; have k2 := pw_cell_below BW.out K2.out; have ST1 := Aside0.mk (ST.out.step hb); have BK := Aside0.mk hbox; clear ST; have ST := ST1; clear ST1 hb hbox hg; have hl0 : wN.cell? ⟨gb, 0, none⟩ = some (.int .i64 l.f0) := (blk_cell BK.out 0).trans rfl; have hl1 : wN.cell? ⟨gb, 1, none⟩ = some (.string l.f1) := (blk_cell BK.out 1).trans rfl; have hp0 : wN.cell? ⟨pb, 0, none⟩ = some (.slice (some ⟨g, 0, none⟩) out.length c0) := (blk_cell ST.out.hp 0).trans rfl; have hp1 : wN.cell? ⟨pb, 1, none⟩ = some (.bool op) := (blk_cell ST.out.hp 1).trans rfl; have hf1 : wN.frozen? ⟨pb, 1, none⟩ = false := blk_frozen ST.out.hp 1)
            go_quiet (fail)
            go_wp2_with (first | (go_at_call 38; refine (h38 _).mono ?_; rintro e wN ⟨rfl, hdr⟩; have hb := hdr; have BW1 : Aside0 (Below w.heap.size w wN) := ⟨below_step BW.out (by first | exact hb | exact below_q hb)⟩; clear BW; have BW := BW1; clear BW1; have k0 := pw_cell_below BW.out K0.out; have k1 := pw_cell_below BW.out K1.out; have k2 := pw_cell_below BW.out K2.out; have ST1 : Aside0 (St w0 wN pb (.slice (some ⟨g, 0, none⟩) out.length c0) op out) := ⟨ST.out.step (by first | exact hb | exact below_q hb)⟩; have BK1 : Aside0 (wN.heap[gb]? = some (.cells #[.int .i64 l.f0, .string l.f1] 62 (0, 0))) := ⟨blk_step BK.out (by first | exact hb | exact below_q hb)⟩; clear ST BK; have ST := ST1; have BK := BK1; clear ST1 BK1 hb hdr; have hl0 : wN.cell? ⟨gb, 0, none⟩ = some (.int .i64 l.f0) := (blk_cell BK.out 0).trans rfl; have hl1 : wN.cell? ⟨gb, 1, none⟩ = some (.string l.f1) := (blk_cell BK.out 1).trans rfl; have hp0 : wN.cell? ⟨pb, 0, none⟩ = some (.slice (some ⟨g, 0, none⟩) out.length c0) := (blk_cell ST.out.hp 0).trans rfl; have hp1 : wN.cell? ⟨pb, 1, none⟩ = some (.bool op) := (blk_cell ST.out.hp 1).trans rfl) | (go_at_call 13; refine (h13 _ ⟨by first | exact BW.out | exact pw_below_drewN BW.out _⟩).mono ?_; rintro e wN ⟨rfl, hdr⟩; have hb := hdr; have BW1 : Aside0 (Below w.heap.size w wN) := ⟨below_step BW.out (by first | exact hb | exact below_q hb)⟩; clear BW; have BW := BW1; clear BW1; have k0 := pw_cell_below BW.out K0.out; have k1 := pw_cell_below BW.out K1.out; have k2 := pw_cell_below BW.out K2.out; have ST1 : Aside0 (St w0 wN pb (.slice (some ⟨g, 0, none⟩) out.length c0) op out) := ⟨ST.out.step (by first | exact hb | exact below_q hb)⟩; have BK1 : Aside0 (wN.heap[gb]? = some (.cells #[.int .i64 l.f0, .string l.f1] 62 (0, 0))) := ⟨blk_step BK.out (by first | exact hb | exact below_q hb)⟩; clear ST BK; have ST := ST1; have BK := BK1; clear ST1 BK1 hb hdr; have hl0 : wN.cell? ⟨gb, 0, none⟩ = some (.int .i64 l.f0) := (blk_cell BK.out 0).trans rfl; have hl1 : wN.cell? ⟨gb, 1, none⟩ = some (.string l.f1) := (blk_cell BK.out 1).trans rfl; have hp0 : wN.cell? ⟨pb, 0, none⟩ = some (.slice (some ⟨g, 0, none⟩) out.length c0) := (blk_cell ST.out.hp 0).trans rfl; have hp1 : wN.cell? ⟨pb, 1, none⟩ = some (.bool op) := (blk_cell ST.out.hp 1).trans rfl) | (go_at_call 39; refine (h39 _).mono ?_; rintro e wN ⟨rfl, hdr⟩; have hb := hdr.below; have BW1 : Aside0 (Below w.heap.size w wN) := ⟨below_step BW.out (by first | exact hb | exact below_q hb)⟩; clear BW; have BW := BW1; clear BW1; have k0 := pw_cell_below BW.out K0.out; have k1 := pw_cell_below BW.out K1.out; have k2 := pw_cell_below BW.out K2.out; have ST1 : Aside0 (St w0 wN pb (.slice (some ⟨g, 0, none⟩) out.length c0) op out) := ⟨ST.out.step (by first | exact hb | exact below_q hb)⟩; have BK1 : Aside0 (wN.heap[gb]? = some (.cells #[.int .i64 l.f0, .string l.f1] 62 (0, 0))) := ⟨blk_step BK.out (by first | exact hb | exact below_q hb)⟩; clear ST BK; have ST := ST1; have BK := BK1; clear ST1 BK1 hb hdr; have hl0 : wN.cell? ⟨gb, 0, none⟩ = some (.int .i64 l.f0) := (blk_cell BK.out 0).trans rfl; have hl1 : wN.cell? ⟨gb, 1, none⟩ = some (.string l.f1) := (blk_cell BK.out 1).trans rfl; have hp0 : wN.cell? ⟨pb, 0, none⟩ = some (.slice (some ⟨g, 0, none⟩) out.length c0) := (blk_cell ST.out.hp 0).trans rfl; have hp1 : wN.cell? ⟨pb, 1, none⟩ = some (.bool op) := (blk_cell ST.out.hp 1).trans rfl))
            have HSB := Kd.S_mono (Kd.S_bound ST.out.hs) (ok' := fun k => (k ≠ pb) ∧ ¬ wN.heap.size ≤ k) (fun k hk => ⟨hk.1, by have := hk.2.2.1; omega⟩)
            obtain ⟨oki, c, hcl, hM, hcc, hfr, hoki, hH⟩ := Kd.S_elem HSB z40 i HI.out.1 HI.out.2
            obtain ⟨v2', ec, hR2⟩ := k40_openM hM
            subst ec
            rw [show out.getD i.toNat z40 = b from HBE.out] at hR2 hcc hH
            have ev2 : v2' = .slice A2 b.f2.length c2 := Option.some.inj ((hcc 2 v2' rfl).symm.trans k2)
            subst ev2
            have HR := Aside0.mk hR2
            have HH := Aside0.mk hH
            have HOK := Aside0.mk hoki
            have HF := Aside0.mk hfr
            clear HSB hcl hM hcc hR2 hH hoki hfr
            refine start_ (n := 15) (S := fun w' => w'.cell? ⟨g, i.toNat * 3 + 2, none⟩ = some (.slice A2 b.f2.length c2) ∧ w'.cell? ⟨gb, 0, none⟩ = some (.int .i64 l.f0)) (ds := [14]) #[false, false, false, false, false, false, false, false, false, false, false, false, false, false, false] (by kernel_rfl) rfl rfl ⟨k2, (blk_cell (blk_drew BK.out) 0).trans rfl⟩ (fun hHeld => ?_)
            refine pure_ (i := 0) (N := some 67) (v := ?_) (a' := ?_) #[true, false, false, false, false, false, false, false, false, false, false, false, false, false, false] rfl rfl (by kernel_rfl) (fun _ _ _ h => h) (Or.inl ⟨by rfl, ?_⟩) ?_ ?_
            rotate_left
            · intro w'
              go_simp
              with_reducible rfl
            rotate_left
            · simp only [Act.put, List.setIfInBounds_toArray, List.set_cons_zero, List.set_cons_succ, i64_w, i32_w]
              rfl
            refine pure_ (i := 1) (N := some 68) (v := ?_) (a' := ?_) #[true, true, false, false, false, false, false, false, false, false, false, false, false, false, false] rfl rfl (by kernel_rfl) (fun _ _ _ h => h) (Or.inl ⟨by rfl, ?_⟩) ?_ ?_
            rotate_left
            · intro w'
              go_simp
              with_reducible rfl
            rotate_left
            · simp only [Act.put, List.setIfInBounds_toArray, List.set_cons_zero, List.set_cons_succ, i64_w, i32_w]
              rfl
            refine pure_ (i := 2) (N := some 69) (v := ?_) (a' := ?_) #[true, true, true, false, false, false, false, false, false, false, false, false, false, false, false] rfl rfl (by kernel_rfl) (fun _ _ _ h => h) (Or.inl ⟨by rfl, ?_⟩) ?_ ?_
            rotate_left
            · intro w'
              go_simp
              with_reducible rfl
            rotate_left
            · simp only [Act.put, List.setIfInBounds_toArray, List.set_cons_zero, List.set_cons_succ, i64_w, i32_w]
              rfl
            refine pure_ (i := 3) (N := some 70) (v := ?_) (a' := ?_) #[true, true, true, true, false, false, false, false, false, false, false, false, false, false, false] rfl rfl (by kernel_rfl) (fun _ _ _ h => h) (Or.inl ⟨by rfl, ?_⟩) ?_ ?_
            rotate_left
            · intro w'
              go_simp
              with_reducible rfl
            rotate_left
            · simp only [Act.put, List.setIfInBounds_toArray, List.set_cons_zero, List.set_cons_succ, i64_w, i32_w]
              rfl
            refine pure_ (i := 5) (N := some 72) (v := ?_) (a' := ?_) #[true, true, true, true, false, true, false, false, false, false, false, false, false, false, false] rfl rfl (by kernel_rfl) (fun _ _ _ h => h) (Or.inl ⟨by rfl, ?_⟩) ?_ ?_
            rotate_left
            · intro w'
              go_simp
              with_reducible rfl
            rotate_left
            · simp only [Act.put, List.setIfInBounds_toArray, List.set_cons_zero, List.set_cons_succ, i64_w, i32_w]
              rfl
            refine pure_ (i := 7) (N := some 74) (v := ?_) (a' := ?_) #[true, true, true, true, false, true, false, true, false, false, false, false, false, false, false] rfl rfl (by kernel_rfl) (fun _ _ _ h => h) (Or.inl ⟨by rfl, ?_⟩) ?_ ?_
            rotate_left
            · intro w'
              go_simp
              with_reducible rfl
            rotate_left
            · simp only [Act.put, List.setIfInBounds_toArray, List.set_cons_zero, List.set_cons_succ, i64_w, i32_w]
              rfl
            refine pure_ (i := 8) (N := some 75) (v := ?_) (a' := ?_) #[true, true, true, true, false, true, false, true, true, false, false, false, false, false, false] rfl rfl (by kernel_rfl) (fun _ _ _ h => h) (Or.inl ⟨by rfl, ?_⟩) ?_ ?_
            rotate_left
            · intro w'
              go_simp
              with_reducible rfl
            rotate_left
            · simp only [Act.put, List.setIfInBounds_toArray, List.set_cons_zero, List.set_cons_succ, i64_w, i32_w]
              rfl
            refine take_ (i := 4) (N := some 71) (v := ?_) (a' := ?_) #[true, true, true, true, true, true, false, true, true, false, false, false, false, false, false] rfl rfl (by kernel_rfl) (fun _ _ _ h => h) (Or.inl ⟨by rfl, ?_⟩) hHeld ?_ ?_
            rotate_left
            · rintro w' ⟨s0, s1⟩
              go_simp
              with_reducible rfl
            rotate_left
            · simp only [Act.put, List.setIfInBounds_toArray, List.set_cons_zero, List.set_cons_succ, i64_w, i32_w]
              rfl
            refine take_ (i := 6) (N := some 73) (v := ?_) (a' := ?_) #[true, true, true, true, true, true, true, true, true, false, false, false, false, false, false] rfl rfl (by kernel_rfl) (fun _ _ _ h => h) (Or.inl ⟨by rfl, ?_⟩) hHeld ?_ ?_
            rotate_left
            · rintro w' ⟨s0, s1⟩
              go_simp
              with_reducible rfl
            rotate_left
            · simp only [Act.put, List.setIfInBounds_toArray, List.set_cons_zero, List.set_cons_succ, i64_w, i32_w]
              rfl
            refine pure_ (i := 9) (N := some 76) (v := ?_) (a' := ?_) #[true, true, true, true, true, true, true, true, true, true, false, false, false, false, false] rfl rfl (by kernel_rfl) (fun _ _ _ h => h) (Or.inl ⟨by rfl, ?_⟩) ?_ ?_
            rotate_left
            · intro w'
              go_simp
              with_reducible rfl
            rotate_left
            · simp only [Act.put, List.setIfInBounds_toArray, List.set_cons_zero, List.set_cons_succ, i64_w, i32_w]
              rfl
            refine one_ (i := 10) (N := some 77) #[true, true, true, true, true, true, true, true, true, true, true, false, false, false, false] rfl rfl (by kernel_rfl) (by decide) (fun K hK => ?_)
            refine value_ (w1 := ?_) (v := ?_) (by rfl) rfl ?_ ?_
            rotate_left 2
            · go_simp
              constructor
              · rfl
              · rfl
            refine hK.out _ _ ⟨(pw_cell_below (below_alloc (below_drew1 (Below.refl _ _)) _) k2), (blk_cell (blk_alloc (blk_drew BK.out) _) 0).trans rfl⟩ (fun hHeld => ?_)
            clear hK K
            refine norm_ (a' := ?_) ?_ ?_
            rotate_left
            · show Act.put _ (some 77) _ = _
              simp only [Act.put, List.setIfInBounds_toArray, List.set_cons_zero, List.set_cons_succ, i64_w, i32_w]
              rfl
            refine one_ (i := 11) (N := some 78) #[true, true, true, true, true, true, true, true, true, true, true, true, false, false, false] rfl rfl (by kernel_rfl) (by decide) (fun K hK => ?_)
            refine Kd.R_append_step k42 (w0 := w0) (W := wN.drew) w0.heap.size (by rfl) (.tmp 71) (.tmp 77) 38 42 (.agg #[(.int .i64 0), (.string ⟨#[]⟩), (.string ⟨#[]⟩)]) 40 rfl Tryd.underlying38 info42 rfl (by decide) (by omega) (.slice A2 b.f2.length c2) b.f2 (⟨l.f0, name, value⟩ : S42) [.int .i64 l.f0, .string name, .string value] (fun k => oki k ∨ wN.heap.size ≤ k) (fun _ => False) rfl rfl ?aP (fun _ hk => hk.elim) ?aF ?aO ?aB ?aS ?aL ?_
            (case aP => exact k42_mkM _ _ _ (⟨l.f0, name, value⟩ : S42))
            (case aF => exact (fun _ hk => Or.inr hk))
            (case aO => exact Kd.R_mono (Kd.R_drew HR.out) (fun _ hk => Or.inl hk))
            (case aB => exact (by repeat (first | (with_reducible first | exact ST.out.hb | apply below_alloc | apply pw_below_drewN | apply below_drew1) | exact ST.out.hb)))
            (case aS => exact below_size (by repeat (first | (with_reducible first | exact ST.out.hb | apply below_alloc | apply pw_below_drewN | apply below_drew1) | exact ST.out.hb)))
            (case aL => have := HLEN.out; omega)
            intro v1 w1 hs hb hg hat
            have PB1 := Aside0.mk (blk_grown (g := pb) (o := .cells #[.slice (some ⟨g, 0, none⟩) out.length c0, .bool op] 60 (0, 0)) (blk_drew ST.out.hp) hg (fun e => (HOK.out _ (HR.out.1 _ e.symm)).1.1 rfl))
            have BK1 := Aside0.mk (blk_grown (g := gb) (o := .cells #[.int .i64 l.f0, .string l.f1] 62 (0, 0)) (blk_drew BK.out) hg (Kd.R_ne HR.out BK.out (by decide)))
            have HH1 := Aside0.mk (Kd.H_grown (Kd.H_drew HH.out) hg (fun k e => HR.out.1 k e))
            have k21 : w1.cell? ⟨g, i.toNat * 3 + 2, none⟩ = some (.slice A2 b.f2.length c2) := cell_grown (W := wN.drew) hg k2 (fun e => (HOK.out _ (HR.out.1 _ e.symm)).2 rfl)
            obtain ⟨cells, hgc⟩ := GC.out
            have GB1 := Aside0.mk (blk_grown (g := g) (o := .cells cells 40 (0, 0)) (blk_drew (blk_step hgc BW.out)) hg (fun e => (HOK.out _ (HR.out.1 _ e.symm)).2 rfl))
            clear hgc
            have HS1 := Aside0.mk hs
            have HB1 := Aside0.mk hb
            clear hs hb hg hat
            obtain ⟨A1, c1, ev⟩ := Kd.R_slice HS1.out
            rw [show (b.f2 ++ [(⟨l.f0, name, value⟩ : S42)]).length = b.f2.length + 1 by simp] at ev
            subst ev
            refine hK.out _ _ ⟨k21, (blk_cell BK1.out 0).trans rfl⟩ (fun hHeld => ?_)
            clear hK K
            refine norm_ (a' := ?_) ?_ ?_
            rotate_left
            · show Act.put _ (some 78) _ = _
              simp only [Act.put, List.setIfInBounds_toArray, List.set_cons_zero, List.set_cons_succ, i64_w, i32_w]
              rfl
            refine pure_ (i := 12) (N := some 79) (v := ?_) (a' := ?_) #[true, true, true, true, true, true, true, true, true, true, true, true, true, false, false] rfl rfl (by kernel_rfl) (fun _ _ _ h => h) (Or.inl ⟨by rfl, ?_⟩) ?_ ?_
            rotate_left
            · intro w'
              go_simp
              with_reducible rfl
            rotate_left
            · simp only [Act.put, List.setIfInBounds_toArray, List.set_cons_zero, List.set_cons_succ, i64_w, i32_w]
              rfl
            refine pure_ (i := 13) (N := some 80) (v := ?_) (a' := ?_) #[true, true, true, true, true, true, true, true, true, true, true, true, true, true, false] rfl rfl (by kernel_rfl) (fun _ _ _ h => h) (Or.inl ⟨by rfl, ?_⟩) ?_ ?_
            rotate_left
            · intro w'
              go_simp
              with_reducible rfl
            rotate_left
            · simp only [Act.put, List.setIfInBounds_toArray, List.set_cons_zero, List.set_cons_succ, i64_w, i32_w]
              rfl
            refine last_ (i := 14) (N := none) #[true, true, true, true, true, true, true, true, true, true, true, true, true, true, true] rfl rfl (by kernel_rfl) (by decide) (fun K hK => ?_)
            have hfs17 : w1.frozen? ⟨g, i.toNat * 3 + 2, none⟩ = false := blk_frozen GB1.out _
            refine skip_ (w1 := ?_) (by rfl) rfl ?_ ?_
            rotate_left
            · go_simp
              rfl
            refine hK.out _ _ ?_
            clear hK K
            refine done_ (by kernel_rfl) ?_
            have hgN : g < wN.heap.size := by obtain ⟨cells, hgc⟩ := GC.out; exact blk_lt (blk_step hgc BW.out)
            have hpN := blk_lt ST.out.hp
            have hSeg := (Kd.S_seg (okg := fun k => wN.heap.size ≤ k) (ok := fun k => k ≠ pb) (okp := fun k => oki k ∨ wN.heap.size ≤ k) (seg := [.slice A1 (b.f2.length + 1) c1]) (j := 2) (x' := (⟨b.f0, b.f1, b.f2 ++ [(⟨l.f0, name, value⟩ : S42)]⟩ : S40)) HH1.out HI.out.1 HI.out.2 (by show 2 + 1 ≤ 3; omega) (k40_mkM _ _ _ (⟨b.f0, b.f1, b.f2 ++ [(⟨l.f0, name, value⟩ : S42)]⟩ : S40) HS1.out) (fun _ hk => hk) (fun k hk => ⟨by omega, by omega⟩)).1
            have HSEG := Aside0.mk hSeg
            clear hSeg
            have hpb : (w1.setCell ⟨g, i.toNat * 3 + 2, none⟩ (.slice A1 (b.f2.length + 1) c1)).heap[pb]? = some (.cells #[.slice (some ⟨g, 0, none⟩) out.length c0, .bool op] 60 (0, 0)) := (Below.heap_setCell w1 ⟨g, i.toNat * 3 + 2, none⟩ _ pb (fun e => blk_ne PB1.out GB1.out (by decide) e)).trans PB1.out
            have HPB := Aside0.mk hpb
            clear hpb hgN hpN
            go_wp2
            go_ret
            exact ⟨rfl, fun e => absurd rfl e, _, ⟨below_set HB1.out GB.out, HPB.out, ST.out.hq, HSEG.out⟩⟩
end Go.Proofs.YtefjppdchgdjlaaDoor.P
