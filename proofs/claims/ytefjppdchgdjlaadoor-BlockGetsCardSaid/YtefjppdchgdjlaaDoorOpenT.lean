/- What opens the struct types of the printed kinds. -/
import Derived.Test.YtefjppdchgdjlaaDoorOpen
import Derived.Test.YtefjppdchgdjlaaDoorPk
import Derived.KernelRfl
namespace Go.Proofs.YtefjppdchgdjlaaDoor.T
open Go.RowKit Go.Proofs.YtefjppdchgdjlaaDoorW.PrintWords Go.Proofs.YtefjppdchgdjlaaDoorW.PrintLast Go.Proofs.YtefjppdchgdjlaaDoor.P
def good42 (x : S42) : Prop := (Lit.int .i64 x.f0).wf = true ∧ x.f1.size ≤ 9223372036854775807 ∧ x.f2.size ≤ 9223372036854775807
theorem split42 (cs : List Value) (hl : cs.length = 3) : cs = (cs.drop 0).take 1 ++ ((cs.drop 1).take 1 ++ ((cs.drop 2).take 1)) := by
  match cs, hl with
  | [u0, u1, u2], _ => rfl
theorem opens_T42 : Opens Tryd.prog 42 k42 good42 := by
  intro H enc w base spare held fuel cs x h
  obtain ⟨xs, n, _, _, hl, hlen, hf⟩ := DataW.trod_struct Tryd.underlying42 h
  have c3 : Tryd.prog.cellsOf 3 = 1 := by kernel_rfl
  have c9 : Tryd.prog.cellsOf 9 = 1 := by kernel_rfl
  have cT : Tryd.prog.cellsOf 42 = 3 := by kernel_rfl
  rw [cT] at hl
  match xs, hlen with
  | [y0, y1, y2], _ =>
    have t0 : DataW.trod enc Tryd.prog w base spare held n 3 ((cs.drop 0).take 1) = some y0 := by
      have e_ : DataW.trod enc Tryd.prog w base spare held n 3 ((cs.drop 0).take (Tryd.prog.cellsOf 3)) = some y0 := hf 0 _ rfl
      rw [c3] at e_
      exact e_
    obtain ⟨a0, h0, g0⟩ := (opens_int Tryd.underlying3) t0
    have t1 : DataW.trod enc Tryd.prog w base spare held n 9 ((cs.drop 1).take 1) = some y1 := by
      have e_ : DataW.trod enc Tryd.prog w base spare held n 9 ((cs.drop 1).take (Tryd.prog.cellsOf 9)) = some y1 := hf 1 _ rfl
      rw [c9] at e_
      exact e_
    obtain ⟨a1, h1, g1⟩ := (opens_string Tryd.underlying9) t1
    have t2 : DataW.trod enc Tryd.prog w base spare held n 9 ((cs.drop 2).take 1) = some y2 := by
      have e_ : DataW.trod enc Tryd.prog w base spare held n 9 ((cs.drop 2).take (Tryd.prog.cellsOf 9)) = some y2 := hf 2 _ rfl
      rw [c9] at e_
      exact e_
    obtain ⟨a2, h2, g2⟩ := (opens_string Tryd.underlying9) t2
    have hE_ := split42 cs hl
    refine ⟨⟨a0, a1, a2⟩, ?_, g0, g1, g2⟩
    exact ⟨(cs.drop 0).take 1, (cs.drop 1).take 1 ++ ((cs.drop 2).take 1), hE_, h0, ⟨(cs.drop 1).take 1, (cs.drop 2).take 1, rfl, h1, h2⟩⟩
def good40 (x : S40) : Prop := (Lit.int .i64 x.f0).wf = true ∧ x.f1.size ≤ 9223372036854775807 ∧ (x.f2.length ≤ 9223372036854775807 ∧ ∀ y ∈ x.f2, good42 y)
theorem split40 (cs : List Value) (hl : cs.length = 3) : cs = (cs.drop 0).take 1 ++ ((cs.drop 1).take 1 ++ ((cs.drop 2).take 1)) := by
  match cs, hl with
  | [u0, u1, u2], _ => rfl
theorem opens_T40 : Opens Tryd.prog 40 k40 good40 := by
  intro H enc w base spare held fuel cs x h
  obtain ⟨xs, n, _, _, hl, hlen, hf⟩ := DataW.trod_struct Tryd.underlying40 h
  have c3 : Tryd.prog.cellsOf 3 = 1 := by kernel_rfl
  have c9 : Tryd.prog.cellsOf 9 = 1 := by kernel_rfl
  have c38 : Tryd.prog.cellsOf 38 = 1 := by kernel_rfl
  have cT : Tryd.prog.cellsOf 40 = 3 := by kernel_rfl
  rw [cT] at hl
  match xs, hlen with
  | [y0, y1, y2], _ =>
    have t0 : DataW.trod enc Tryd.prog w base spare held n 3 ((cs.drop 0).take 1) = some y0 := by
      have e_ : DataW.trod enc Tryd.prog w base spare held n 3 ((cs.drop 0).take (Tryd.prog.cellsOf 3)) = some y0 := hf 0 _ rfl
      rw [c3] at e_
      exact e_
    obtain ⟨a0, h0, g0⟩ := (opens_int Tryd.underlying3) t0
    have t1 : DataW.trod enc Tryd.prog w base spare held n 9 ((cs.drop 1).take 1) = some y1 := by
      have e_ : DataW.trod enc Tryd.prog w base spare held n 9 ((cs.drop 1).take (Tryd.prog.cellsOf 9)) = some y1 := hf 1 _ rfl
      rw [c9] at e_
      exact e_
    obtain ⟨a1, h1, g1⟩ := (opens_string Tryd.underlying9) t1
    have t2 : DataW.trod enc Tryd.prog w base spare held n 38 ((cs.drop 2).take 1) = some y2 := by
      have e_ : DataW.trod enc Tryd.prog w base spare held n 38 ((cs.drop 2).take (Tryd.prog.cellsOf 38)) = some y2 := hf 2 _ rfl
      rw [c38] at e_
      exact e_
    obtain ⟨a2, h2, g2⟩ := (opens_slice Tryd.underlying38 (by kernel_rfl) opens_T42) t2
    have hE_ := split40 cs hl
    refine ⟨⟨a0, a1, a2⟩, ?_, g0, g1, g2⟩
    exact ⟨(cs.drop 0).take 1, (cs.drop 1).take 1 ++ ((cs.drop 2).take 1), hE_, h0, ⟨(cs.drop 1).take 1, (cs.drop 2).take 1, rfl, h1, h2⟩⟩
def good26 (x : S26) : Prop := (Lit.int .i64 x.f0).wf = true ∧ (Lit.int .i64 x.f1).wf = true
theorem split26 (cs : List Value) (hl : cs.length = 2) : cs = (cs.drop 0).take 1 ++ ((cs.drop 1).take 1) := by
  match cs, hl with
  | [u0, u1], _ => rfl
theorem opens_T26 : Opens Tryd.prog 26 k26 good26 := by
  intro H enc w base spare held fuel cs x h
  obtain ⟨xs, n, _, _, hl, hlen, hf⟩ := DataW.trod_struct Tryd.underlying26 h
  have c3 : Tryd.prog.cellsOf 3 = 1 := by kernel_rfl
  have c24 : Tryd.prog.cellsOf 24 = 1 := by kernel_rfl
  have cT : Tryd.prog.cellsOf 26 = 2 := by kernel_rfl
  rw [cT] at hl
  match xs, hlen with
  | [y0, y1], _ =>
    have t0 : DataW.trod enc Tryd.prog w base spare held n 3 ((cs.drop 0).take 1) = some y0 := by
      have e_ : DataW.trod enc Tryd.prog w base spare held n 3 ((cs.drop 0).take (Tryd.prog.cellsOf 3)) = some y0 := hf 0 _ rfl
      rw [c3] at e_
      exact e_
    obtain ⟨a0, h0, g0⟩ := (opens_int Tryd.underlying3) t0
    have t1 : DataW.trod enc Tryd.prog w base spare held n 24 ((cs.drop 1).take 1) = some y1 := by
      have e_ : DataW.trod enc Tryd.prog w base spare held n 24 ((cs.drop 1).take (Tryd.prog.cellsOf 24)) = some y1 := hf 1 _ rfl
      rw [c24] at e_
      exact e_
    obtain ⟨a1, h1, g1⟩ := (opens_int Tryd.underlying24) t1
    have hE_ := split26 cs hl
    refine ⟨⟨a0, a1⟩, ?_, g0, g1⟩
    exact ⟨(cs.drop 0).take 1, (cs.drop 1).take 1, hE_, h0, h1⟩
def good52 (x : S52) : Prop := (Lit.int .i64 x.f0).wf = true ∧ x.f1.size ≤ 9223372036854775807 ∧ x.f2.size ≤ 9223372036854775807
theorem split52 (cs : List Value) (hl : cs.length = 3) : cs = (cs.drop 0).take 1 ++ ((cs.drop 1).take 1 ++ ((cs.drop 2).take 1)) := by
  match cs, hl with
  | [u0, u1, u2], _ => rfl
theorem opens_T52 : Opens Tryd.prog 52 k52 good52 := by
  intro H enc w base spare held fuel cs x h
  obtain ⟨xs, n, _, _, hl, hlen, hf⟩ := DataW.trod_struct Tryd.underlying52 h
  have c3 : Tryd.prog.cellsOf 3 = 1 := by kernel_rfl
  have c9 : Tryd.prog.cellsOf 9 = 1 := by kernel_rfl
  have cT : Tryd.prog.cellsOf 52 = 3 := by kernel_rfl
  rw [cT] at hl
  match xs, hlen with
  | [y0, y1, y2], _ =>
    have t0 : DataW.trod enc Tryd.prog w base spare held n 3 ((cs.drop 0).take 1) = some y0 := by
      have e_ : DataW.trod enc Tryd.prog w base spare held n 3 ((cs.drop 0).take (Tryd.prog.cellsOf 3)) = some y0 := hf 0 _ rfl
      rw [c3] at e_
      exact e_
    obtain ⟨a0, h0, g0⟩ := (opens_int Tryd.underlying3) t0
    have t1 : DataW.trod enc Tryd.prog w base spare held n 9 ((cs.drop 1).take 1) = some y1 := by
      have e_ : DataW.trod enc Tryd.prog w base spare held n 9 ((cs.drop 1).take (Tryd.prog.cellsOf 9)) = some y1 := hf 1 _ rfl
      rw [c9] at e_
      exact e_
    obtain ⟨a1, h1, g1⟩ := (opens_string Tryd.underlying9) t1
    have t2 : DataW.trod enc Tryd.prog w base spare held n 9 ((cs.drop 2).take 1) = some y2 := by
      have e_ : DataW.trod enc Tryd.prog w base spare held n 9 ((cs.drop 2).take (Tryd.prog.cellsOf 9)) = some y2 := hf 2 _ rfl
      rw [c9] at e_
      exact e_
    obtain ⟨a2, h2, g2⟩ := (opens_string Tryd.underlying9) t2
    have hE_ := split52 cs hl
    refine ⟨⟨a0, a1, a2⟩, ?_, g0, g1, g2⟩
    exact ⟨(cs.drop 0).take 1, (cs.drop 1).take 1 ++ ((cs.drop 2).take 1), hE_, h0, ⟨(cs.drop 1).take 1, (cs.drop 2).take 1, rfl, h1, h2⟩⟩
def good67 (x : S67) : Prop := (Lit.int .i64 x.f0).wf = true ∧ x.f1.size ≤ 9223372036854775807
theorem split67 (cs : List Value) (hl : cs.length = 2) : cs = (cs.drop 0).take 1 ++ ((cs.drop 1).take 1) := by
  match cs, hl with
  | [u0, u1], _ => rfl
theorem opens_T67 : Opens Tryd.prog 67 k67 good67 := by
  intro H enc w base spare held fuel cs x h
  obtain ⟨xs, n, _, _, hl, hlen, hf⟩ := DataW.trod_struct Tryd.underlying67 h
  have c3 : Tryd.prog.cellsOf 3 = 1 := by kernel_rfl
  have c9 : Tryd.prog.cellsOf 9 = 1 := by kernel_rfl
  have cT : Tryd.prog.cellsOf 67 = 2 := by kernel_rfl
  rw [cT] at hl
  match xs, hlen with
  | [y0, y1], _ =>
    have t0 : DataW.trod enc Tryd.prog w base spare held n 3 ((cs.drop 0).take 1) = some y0 := by
      have e_ : DataW.trod enc Tryd.prog w base spare held n 3 ((cs.drop 0).take (Tryd.prog.cellsOf 3)) = some y0 := hf 0 _ rfl
      rw [c3] at e_
      exact e_
    obtain ⟨a0, h0, g0⟩ := (opens_int Tryd.underlying3) t0
    have t1 : DataW.trod enc Tryd.prog w base spare held n 9 ((cs.drop 1).take 1) = some y1 := by
      have e_ : DataW.trod enc Tryd.prog w base spare held n 9 ((cs.drop 1).take (Tryd.prog.cellsOf 9)) = some y1 := hf 1 _ rfl
      rw [c9] at e_
      exact e_
    obtain ⟨a1, h1, g1⟩ := (opens_string Tryd.underlying9) t1
    have hE_ := split67 cs hl
    refine ⟨⟨a0, a1⟩, ?_, g0, g1⟩
    exact ⟨(cs.drop 0).take 1, (cs.drop 1).take 1, hE_, h0, h1⟩
def good46 (x : S46) : Prop := (Lit.int .i64 x.f0).wf = true ∧ x.f1.size ≤ 9223372036854775807 ∧ (x.f2.length ≤ 9223372036854775807 ∧ ∀ y ∈ x.f2, good52 y)
theorem split46 (cs : List Value) (hl : cs.length = 3) : cs = (cs.drop 0).take 1 ++ ((cs.drop 1).take 1 ++ ((cs.drop 2).take 1)) := by
  match cs, hl with
  | [u0, u1, u2], _ => rfl
theorem opens_T46 : Opens Tryd.prog 46 k46 good46 := by
  intro H enc w base spare held fuel cs x h
  obtain ⟨xs, n, _, _, hl, hlen, hf⟩ := DataW.trod_struct Tryd.underlying46 h
  have c3 : Tryd.prog.cellsOf 3 = 1 := by kernel_rfl
  have c9 : Tryd.prog.cellsOf 9 = 1 := by kernel_rfl
  have c44 : Tryd.prog.cellsOf 44 = 1 := by kernel_rfl
  have cT : Tryd.prog.cellsOf 46 = 3 := by kernel_rfl
  rw [cT] at hl
  match xs, hlen with
  | [y0, y1, y2], _ =>
    have t0 : DataW.trod enc Tryd.prog w base spare held n 3 ((cs.drop 0).take 1) = some y0 := by
      have e_ : DataW.trod enc Tryd.prog w base spare held n 3 ((cs.drop 0).take (Tryd.prog.cellsOf 3)) = some y0 := hf 0 _ rfl
      rw [c3] at e_
      exact e_
    obtain ⟨a0, h0, g0⟩ := (opens_int Tryd.underlying3) t0
    have t1 : DataW.trod enc Tryd.prog w base spare held n 9 ((cs.drop 1).take 1) = some y1 := by
      have e_ : DataW.trod enc Tryd.prog w base spare held n 9 ((cs.drop 1).take (Tryd.prog.cellsOf 9)) = some y1 := hf 1 _ rfl
      rw [c9] at e_
      exact e_
    obtain ⟨a1, h1, g1⟩ := (opens_string Tryd.underlying9) t1
    have t2 : DataW.trod enc Tryd.prog w base spare held n 44 ((cs.drop 2).take 1) = some y2 := by
      have e_ : DataW.trod enc Tryd.prog w base spare held n 44 ((cs.drop 2).take (Tryd.prog.cellsOf 44)) = some y2 := hf 2 _ rfl
      rw [c44] at e_
      exact e_
    obtain ⟨a2, h2, g2⟩ := (opens_slice Tryd.underlying44 (by kernel_rfl) opens_T52) t2
    have hE_ := split46 cs hl
    refine ⟨⟨a0, a1, a2⟩, ?_, g0, g1, g2⟩
    exact ⟨(cs.drop 0).take 1, (cs.drop 1).take 1 ++ ((cs.drop 2).take 1), hE_, h0, ⟨(cs.drop 1).take 1, (cs.drop 2).take 1, rfl, h1, h2⟩⟩
def good62 (x : S62) : Prop := (Lit.int .i64 x.f0).wf = true ∧ x.f1.size ≤ 9223372036854775807
theorem split62 (cs : List Value) (hl : cs.length = 2) : cs = (cs.drop 0).take 1 ++ ((cs.drop 1).take 1) := by
  match cs, hl with
  | [u0, u1], _ => rfl
theorem opens_T62 : Opens Tryd.prog 62 k62 good62 := by
  intro H enc w base spare held fuel cs x h
  obtain ⟨xs, n, _, _, hl, hlen, hf⟩ := DataW.trod_struct Tryd.underlying62 h
  have c3 : Tryd.prog.cellsOf 3 = 1 := by kernel_rfl
  have c9 : Tryd.prog.cellsOf 9 = 1 := by kernel_rfl
  have cT : Tryd.prog.cellsOf 62 = 2 := by kernel_rfl
  rw [cT] at hl
  match xs, hlen with
  | [y0, y1], _ =>
    have t0 : DataW.trod enc Tryd.prog w base spare held n 3 ((cs.drop 0).take 1) = some y0 := by
      have e_ : DataW.trod enc Tryd.prog w base spare held n 3 ((cs.drop 0).take (Tryd.prog.cellsOf 3)) = some y0 := hf 0 _ rfl
      rw [c3] at e_
      exact e_
    obtain ⟨a0, h0, g0⟩ := (opens_int Tryd.underlying3) t0
    have t1 : DataW.trod enc Tryd.prog w base spare held n 9 ((cs.drop 1).take 1) = some y1 := by
      have e_ : DataW.trod enc Tryd.prog w base spare held n 9 ((cs.drop 1).take (Tryd.prog.cellsOf 9)) = some y1 := hf 1 _ rfl
      rw [c9] at e_
      exact e_
    obtain ⟨a1, h1, g1⟩ := (opens_string Tryd.underlying9) t1
    have hE_ := split62 cs hl
    refine ⟨⟨a0, a1⟩, ?_, g0, g1⟩
    exact ⟨(cs.drop 0).take 1, (cs.drop 1).take 1, hE_, h0, h1⟩
end Go.Proofs.YtefjppdchgdjlaaDoor.T
