/- The pure statement of BlockLines. -/
import Derived.Test.YtefjppdchgdjlaaDoorBlkSure
import Derived.Test.YtefjppdchgdjlaaDoorQl
namespace Go.Proofs.YtefjppdchgdjlaaDoor.T
open Go.RowKit Go.Proofs.YtefjppdchgdjlaaDoorW.PrintWords Go.Proofs.YtefjppdchgdjlaaDoorW.PrintLast Go.Proofs.YtefjppdchgdjlaaDoor.P

/-! ### lines of nothing ahead -/
def shL (n : Int) (x : Int × List UInt8) : Int × List UInt8 := (x.1 + n, x.2)
def shF (n : Int) (f : FD) : FD := (f.1 + n, f.2)
def shB (n : Int) (b : BD) : BD := (b.1 + n, b.2.1, b.2.2.map (shF n))
theorem go_shift (n : Int) : ∀ (ps : List (List UInt8)) (acc : List UInt8) (a b : Int) (out : List (Int × List UInt8)),
    go ps acc (a + n) (b + n) (out.map (shL n)) = ((go ps acc a b out).1.map (shL n), if (go ps acc a b out).2.2 = 0 then 0 else (go ps acc a b out).2.1 + n, (go ps acc a b out).2.2) := by
  intro ps
  induction ps with
  | nil => intro acc a b out; simp [go]
  | cons p ps ih =>
    intro acc a b out
    rw [go, go]
    by_cases h1 : stroke p = true ∧ ps ≠ []
    · rw [if_pos h1, if_pos h1, show b + n + 1 = (b + 1) + n by omega]; exact ih _ _ _ _
    · rw [if_neg h1, if_neg h1]
      by_cases h2 : said (acc ++ strip p) = []
      · rw [if_pos h2, if_pos h2, show b + n + 1 = (b + 1) + n by omega]; exact ih _ _ _ _
      · rw [if_neg h2, if_neg h2]
        by_cases h3 : (said (acc ++ strip p)).length > 4096
        · rw [if_pos h3, if_pos h3]; simp
        · rw [if_neg h3, if_neg h3, show b + n + 1 = (b + 1) + n by omega, show out.map (shL n) ++ [(a + n, said (acc ++ strip p))] = (out ++ [(a, said (acc ++ strip p))]).map (shL n) by rw [List.map_append]; rfl]
          exact ih _ _ _ _
theorem lines_shift (n : Nat) (l : List UInt8) (h : l.length ≤ 60000) (hn : n ≤ 100) : linesOf (List.replicate n 10 ++ l) = ((linesOf l).1.map (shL n), if (linesOf l).2.2 = 0 then 0 else (linesOf l).2.1 + n, (linesOf l).2.2) := by
  unfold linesOf
  rw [if_neg (by simp; omega), if_neg (by omega)]
  have key : ∀ (m : Nat) (a : Int), go (pieces (List.replicate m 10 ++ l)) [] a a [] = go (pieces l) [] (a + m) (a + m) [] := by
    intro m
    induction m with
    | zero => intro a; simp
    | succ m ih =>
      intro a
      rw [List.replicate_succ, List.cons_append, pieces, if_pos rfl, go, if_neg (by simp [stroke]), if_pos (by decide), ih (a + 1), show a + 1 + (m : Int) = a + ((m + 1 : Nat) : Int) by push_cast; omega]
  rw [key]
  exact go_shift n (pieces l) [] 1 1 []
theorem lastB_shift (n : Int) (out : List BD) (h : 0 < out.length) : lastB (out.map (shB n)) = shB n (lastB out) := by
  unfold lastB
  have hl : out.length - 1 < out.length := by omega
  rw [List.length_map, List.getD_eq_getElem?_getD, List.getD_eq_getElem?_getD, List.getElem?_map, List.getElem?_eq_getElem hl]; rfl
theorem hasF_shift (n : Int) (b : BD) (name : List UInt8) : hasF (shB n b) name = hasF b name := by
  unfold hasF shB
  rw [List.any_map]; rfl
theorem step_shift (n at_ : Int) (t : List UInt8) (out : List BD) (op : Bool) (hI : Inv out op) : stepB (at_ + n) t (out.map (shB n)) op = mS (shB n) (stepB at_ t out op) := by
  cases op with
  | false =>
    rw [stepB_false, stepB_false]
    by_cases h1 : (headR t).2 = false
    · rw [if_pos h1, if_pos h1]; rfl
    rw [if_neg h1, if_neg h1]
    by_cases h2 : wordP (headR t).1 = false
    · rw [if_pos h2, if_pos h2]; rfl
    rw [if_neg h2, if_neg h2, List.length_map]
    by_cases h3 : 1024 ≤ out.length
    · rw [if_pos h3, if_pos h3]; rfl
    rw [if_neg h3, if_neg h3]
    unfold mS
    dsimp only
    rw [List.map_append]; rfl
  | true =>
    have hp := hI.pos rfl
    rw [stepB_true, stepB_true, lastB_shift n out hp, hasF_shift]
    by_cases h1 : t = [125]
    · rw [if_pos h1, if_pos h1]; rfl
    rw [if_neg h1, if_neg h1]
    by_cases h2 : t.take (wl t) = defineL ∧ wl t < t.length
    · rw [if_pos h2, if_pos h2]; rfl
    rw [if_neg h2, if_neg h2]
    by_cases h3 : wordP (t.take (wl t)) = false
    · rw [if_pos h3, if_pos h3]; rfl
    rw [if_neg h3, if_neg h3]
    by_cases h4 : hasF (lastB out) (t.take (wl t)) = true
    · rw [if_pos h4, if_pos h4]; rfl
    rw [if_neg h4, if_neg h4, show (shB n (lastB out)).2.2.length = (lastB out).2.2.length from List.length_map _]
    by_cases h5 : 64 ≤ (lastB out).2.2.length
    · rw [if_pos h5, if_pos h5]; rfl
    rw [if_neg h5, if_neg h5]
    unfold mS
    dsimp only
    rw [List.length_map, List.map_set]
    have e : shB n ((lastB out).1, (lastB out).2.1, (lastB out).2.2 ++ [(at_, t.take (wl t), trim (t.drop (wl t)))]) = ((shB n (lastB out)).1, (shB n (lastB out)).2.1, (shB n (lastB out)).2.2 ++ [(at_ + n, t.take (wl t), trim (t.drop (wl t)))]) := by
      unfold shB; dsimp only; rw [List.map_append]; rfl
    rw [e]
def shP (n : Int) (r : List BD × Int × Int) : List BD × Int × Int := (r.1.map (shB n), if r.2.2 = 0 then 0 else r.2.1 + n, r.2.2)
theorem goB_shift (n : Int) : ∀ (ls : List (Int × List UInt8)) (out : List BD) (op : Bool), Inv out op → goB (ls.map (shL n)) (out.map (shB n)) op = shP n (goB ls out op)
  | [], out, op, hI => by
    show goB [] (out.map (shB n)) op = _
    unfold goB
    cases op with
    | true =>
      rw [if_pos rfl, if_pos rfl, lastB_shift n out (hI.pos rfl)]
      unfold shP
      rw [if_neg (show ¬ (4 : Int) = 0 by decide)]; rfl
    | false => rw [if_neg (by simp), if_neg (by simp)]; rfl
  | (at_, t) :: ls, out, op, hI => by
    rw [List.map_cons, show shL n (at_, t) = (at_ + n, t) from rfl, goB, goB, step_shift n at_ t out op hI]
    cases hs : (stepB at_ t out op).1 with
    | some e =>
      rw [show (mS (shB n) (stepB at_ t out op)).1 = some e from hs]
      unfold shP
      dsimp only
      rw [if_neg (step_err hs)]; rfl
    | none =>
      rw [show (mS (shB n) (stepB at_ t out op)).1 = none from hs]
      exact goB_shift n ls _ _ (hI.step hs)
theorem parse_shift (n : Nat) (l : List UInt8) (h : l.length ≤ 60000) (hn : n ≤ 100) : parseB (List.replicate n 10 ++ l) = shP n (parseB l) := by
  unfold parseB
  rw [lines_shift n l h hn]
  dsimp only
  by_cases h0 : (linesOf l).2.2 = 0
  · rw [if_pos h0, if_pos h0]
    exact goB_shift n _ [] false inv0
  · rw [if_neg h0, if_neg h0, if_neg h0]
    unfold shP
    dsimp only
    rw [if_neg h0]; rfl

/-! ### the numbers ascend -/
def nums9 (out : List BD) : List Int := out.flatMap fun b => b.1 :: b.2.2.map (·.1)
theorem nums9_app (a b : List BD) : nums9 (a ++ b) = nums9 a ++ nums9 b := by unfold nums9; rw [List.flatMap_append]
theorem last_split (out : List BD) (h : 0 < out.length) : out = out.dropLast ++ [lastB out] := by
  have e : lastB out = out.getLast (fun e => by rw [e] at h; simp at h) := by
    unfold lastB
    rw [List.getD_eq_getElem?_getD, List.getElem?_eq_getElem (by omega), List.getLast_eq_getElem]; rfl
  rw [e, List.dropLast_concat_getLast]
theorem set_last (out : List BD) (h : 0 < out.length) (b : BD) : out.set (out.length - 1) b = out.dropLast ++ [b] := by
  conv => lhs; rw [last_split out h]
  rw [List.set_append_right _ _ (by simp)]
  simp
theorem step_nums {at_ : Int} {t : List UInt8} {out : List BD} {op : Bool} (hI : Inv out op) (hn : (stepB at_ t out op).1 = none) : nums9 (stepB at_ t out op).2.1 = nums9 out ∨ nums9 (stepB at_ t out op).2.1 = nums9 out ++ [at_] := by
  cases op with
  | false =>
    rw [stepB_false] at hn ⊢
    split at hn
    · cases hn
    rename_i a1
    split at hn
    · cases hn
    rename_i a2
    split at hn
    · cases hn
    rename_i a3
    rw [if_neg a1, if_neg a2, if_neg a3]
    right
    rw [nums9_app]; rfl
  | true =>
    rw [stepB_true] at hn ⊢
    by_cases a0 : t = [125]
    · rw [if_pos a0]; exact .inl rfl
    rw [if_neg a0] at hn ⊢
    split at hn
    · cases hn
    rename_i a1
    split at hn
    · cases hn
    rename_i a2
    split at hn
    · cases hn
    rename_i a3
    split at hn
    · cases hn
    rename_i a4
    rw [if_neg a1, if_neg a2, if_neg a3, if_neg a4]
    right
    have hp := hI.pos rfl
    dsimp only
    rw [set_last out hp, nums9_app]
    conv => rhs; rw [last_split out hp]
    rw [nums9_app, List.append_assoc]
    congr 1
    simp [nums9]
theorem goB_nums : ∀ (ls : List (Int × List UInt8)) (out : List BD) (op : Bool), Inv out op → List.Pairwise (· < ·) (0 :: (nums9 out ++ ls.map (·.1))) → (goB ls out op).2.2 = 0 →
    List.Pairwise (· < ·) (0 :: nums9 (goB ls out op).1) ∧ ∀ x ∈ nums9 (goB ls out op).1, x ∈ nums9 out ∨ x ∈ ls.map (·.1)
  | [], out, op, hI, hs, h0 => by
    unfold goB at h0 ⊢
    cases op with
    | true => rw [if_pos rfl] at h0; cases h0
    | false =>
      rw [if_neg (by simp)]
      simp only [List.map_nil, List.append_nil] at hs
      exact ⟨hs, fun x hx => .inl hx⟩
  | (at_, t) :: ls, out, op, hI, hs, h0 => by
    rw [goB] at h0 ⊢
    cases hst : (stepB at_ t out op).1 with
    | some e => rw [hst] at h0; exact absurd h0 (step_err hst)
    | none =>
      rw [hst] at h0
      simp only at h0 ⊢
      have hs2 : List.Pairwise (· < ·) (0 :: (nums9 (stepB at_ t out op).2.1 ++ ls.map (·.1))) := by
        rcases step_nums hI hst with e | e
        · rw [e]
          refine hs.sublist ?_
          exact List.Sublist.cons_cons _ (List.Sublist.append_left (List.sublist_cons_self _ _) _)
        · rw [e, List.append_assoc]; exact hs
      obtain ⟨r1, r2⟩ := goB_nums ls _ _ (hI.step hst) hs2 h0
      refine ⟨r1, fun x hx => ?_⟩
      rcases r2 x hx with h | h
      · rcases step_nums hI hst with e | e
        · rw [e] at h; exact .inl h
        · rw [e] at h
          rcases List.mem_append.1 h with h | h
          · exact .inl h
          · right; simp at h; rw [h]; simp
      · right; simp only [List.map_cons]; exact List.mem_cons_of_mem _ h
theorem go_nums : ∀ (ps : List (List UInt8)) (acc : List UInt8) (a b : Int) (out : List (Int × List UInt8)), 0 < a → a ≤ b → List.Pairwise (· < ·) (0 :: out.map (·.1)) → (∀ x ∈ out, x.1 < a) →
    List.Pairwise (· < ·) (0 :: (go ps acc a b out).1.map (·.1)) ∧ ∀ x ∈ (go ps acc a b out).1, x.1 ≤ b + ps.length := by
  intro ps
  induction ps with
  | nil =>
    intro acc a b out h0 hab hs hl
    rw [go]
    exact ⟨hs, fun x hx => by have := hl x hx; simp; omega⟩
  | cons p ps ih =>
    intro acc a b out h0 hab hs hl
    rw [go]
    have fin : ∀ r : List (Int × List UInt8) × Int × Int, (List.Pairwise (· < ·) (0 :: r.1.map (·.1)) ∧ ∀ x ∈ r.1, x.1 ≤ b + 1 + ps.length) → (List.Pairwise (· < ·) (0 :: r.1.map (·.1)) ∧ ∀ x ∈ r.1, x.1 ≤ b + (p :: ps).length) := fun r h => ⟨h.1, fun x hx => by have := h.2 x hx; simp; omega⟩
    split
    · exact fin _ (ih _ a (b + 1) out h0 (by omega) hs hl)
    · split
      · exact fin _ (ih _ (b + 1) (b + 1) out (by omega) (by omega) hs (fun x hx => by have := hl x hx; omega))
      · split
        · exact ⟨by simp, fun x hx => by cases hx⟩
        · refine fin _ (ih _ (b + 1) (b + 1) _ (by omega) (by omega) ?_ (fun x hx => ?_))
          · rw [List.map_append, ← List.cons_append]
            refine List.pairwise_append.2 ⟨hs, by simp, fun x hx y hy => ?_⟩
            simp at hy
            rw [hy]
            rcases List.mem_cons.1 hx with rfl | hx
            · exact h0
            · obtain ⟨z, hz, rfl⟩ := List.mem_map.1 hx
              exact hl z hz
          · rcases List.mem_append.1 hx with hx | hx
            · have := hl x hx; omega
            · simp at hx; rw [hx]; simp; omega
theorem parse_nums (l : List UInt8) (h : (parseB l).2.2 = 0) : List.Pairwise (· < ·) (0 :: nums9 (parseB l).1) ∧ ∀ x ∈ nums9 (parseB l).1, x ≤ 1000000 := by
  unfold parseB at h ⊢
  by_cases h0 : (linesOf l).2.2 = 0
  · rw [if_pos h0] at h ⊢
    have hlen : l.length ≤ 65536 := by
      unfold linesOf at h0
      split at h0
      · cases h0
      · omega
    have hg : linesOf l = go (pieces l) [] 1 1 [] := by unfold linesOf; rw [if_neg (by omega)]
    have hp := pieces_len l
    obtain ⟨g1, g2⟩ := go_nums (pieces l) [] 1 1 [] (by decide) (by decide) (by simp) (fun x hx => by cases hx)
    rw [← hg] at g1 g2
    obtain ⟨r1, r2⟩ := goB_nums (linesOf l).1 [] false inv0 (by simpa [nums9] using g1) h
    refine ⟨r1, fun x hx => ?_⟩
    rcases r2 x hx with hx | hx
    · cases hx
    · obtain ⟨y, hy, rfl⟩ := List.mem_map.1 hx
      have := g2 y hy; omega
  · rw [if_neg h0] at h; exact absurd h h0

/-! ### BlockLines -/
theorem asc_fields (X : List BD) (n : Nat) (hX : X.length ≤ 100000) (hfs : ∀ b ∈ X, b.2.2.length ≤ 100000) (i : Nat) (hi : i < X.length) (hnext : ∀ last : Int, List.Pairwise (· < ·) (last :: nums9 (X.drop (i + 1))) → Ev (fun k => belvederelaw09_BlockLines.l1 k (X.map eB) (n : Int) ((X.map (shB n)).map eB) last ((i + 1 : Nat) : Int)) true) :
    ∀ (d k : Nat) (last : Int), X[i].2.2.length - k = d → k ≤ X[i].2.2.length → List.Pairwise (· < ·) (last :: ((X[i].2.2.drop k).map (·.1) ++ nums9 (X.drop (i + 1)))) →
    Ev (fun r => belvederelaw09_BlockLines.l2 r (X.map eB) (n : Int) ((X.map (shB n)).map eB) last (i : Int) (k : Int)) true := by
  have hm : X[i].2.2.length ≤ 100000 := hfs _ (List.getElem_mem hi)
  have wi : wrap64 ((i : Int) + 1) = ((i + 1 : Nat) : Int) := by rw [w64 (by omega) (by omega)]; omega
  intro d
  induction d with
  | zero =>
    intro k last hd hk hs
    have hk' : k = X[i].2.2.length := by omega
    refine Ev.step (fun k => by simp only [belvederelaw09_BlockLines.l2]; rfl) ?_
    refine evPos (by omega) ?_
    refine evPos (by rw [List.length_map]; omega) ?_
    rw [rdBi X i hi]
    refine evNeg (by show ¬ (k : Int) < ((X[i].2.2.map eF).length : Int); rw [List.length_map]; omega) ?_
    rw [wi]
    rw [hk', List.drop_length] at hs
    exact hnext last (by simpa using hs)
  | succ d ih =>
    intro k last hd hk hs
    have hlt : k < X[i].2.2.length := by omega
    have hdrop : X[i].2.2.drop k = X[i].2.2[k] :: X[i].2.2.drop (k + 1) := List.drop_eq_getElem_cons hlt
    have wk : wrap64 ((k : Int) + 1) = ((k + 1 : Nat) : Int) := by rw [w64 (by omega) (by omega)]; omega
    rw [hdrop, List.map_cons, List.cons_append] at hs
    have h1 := List.pairwise_cons.1 hs
    have hl : last < X[i].2.2[k].1 := h1.1 _ List.mem_cons_self
    refine Ev.step (fun k => by simp only [belvederelaw09_BlockLines.l2]; rfl) ?_
    refine evPos (by omega) ?_
    refine evPos (by rw [List.length_map]; omega) ?_
    rw [rdBi X i hi]
    refine evPos (by show (k : Int) < ((X[i].2.2.map eF).length : Int); rw [List.length_map]; omega) ?_
    refine evPos (by omega) ?_
    rw [show (eB X[i]).f2 = X[i].2.2.map eF from rfl, rdFi _ k hlt]
    refine evNeg (by show ¬ X[i].2.2[k].1 ≤ last; omega) ?_
    rw [wk]
    exact ih (k + 1) _ (by omega) (by omega) h1.2
theorem asc_blocks (X : List BD) (n : Nat) (hn : n ≤ 100) (hX : X.length ≤ 100000) (hfs : ∀ b ∈ X, b.2.2.length ≤ 100000) (hb : ∀ x ∈ nums9 X, 0 < x ∧ x ≤ 1000000) : ∀ (d i : Nat) (last : Int), X.length - i = d → i ≤ X.length → List.Pairwise (· < ·) (last :: nums9 (X.drop i)) →
    Ev (fun k => belvederelaw09_BlockLines.l1 k (X.map eB) (n : Int) ((X.map (shB n)).map eB) last (i : Int)) true := by
  intro d
  induction d with
  | zero =>
    intro i last hd hi hs
    refine Ev.step (fun k => by simp only [belvederelaw09_BlockLines.l1]; rfl) ?_
    refine evNeg (by rw [List.length_map]; omega) ?_
    exact Ev.bind sure9_eq (Ev.now _)
  | succ d ih =>
    intro i last hd hi hs
    have hlt : i < X.length := by omega
    have hdrop : X.drop i = X[i] :: X.drop (i + 1) := List.drop_eq_getElem_cons hlt
    have hnum : nums9 (X.drop i) = X[i].1 :: (X[i].2.2.map (·.1) ++ nums9 (X.drop (i + 1))) := by rw [hdrop]; unfold nums9; rw [List.flatMap_cons]; rfl
    rw [hnum] at hs
    have h1 := List.pairwise_cons.1 hs
    have hl : last < X[i].1 := h1.1 _ List.mem_cons_self
    have hbi : 0 < X[i].1 ∧ X[i].1 ≤ 1000000 := hb _ (List.mem_flatMap.2 ⟨X[i], List.getElem_mem hlt, List.mem_cons_self⟩)
    refine Ev.step (fun k => by simp only [belvederelaw09_BlockLines.l1]; rfl) ?_
    refine evPos (by rw [List.length_map]; omega) ?_
    refine evPos (by omega) ?_
    rw [rdBi X i hlt]
    refine evNeg (by show ¬ X[i].1 ≤ last; omega) ?_
    refine evPos (by rw [List.length_map, List.length_map]; omega) ?_
    rw [rdBi (X.map (shB n)) i (by rw [List.length_map]; exact hlt), List.getElem_map]
    refine evPos (by show X[i].1 + (n : Int) = wrap64 (X[i].1 + (n : Int)); rw [w64 (by omega) (by omega)]) ?_
    have hlen : ((((eB X[i]).f2.length : Nat) : Int) != (((eB (shB n X[i])).f2.length : Nat) : Int)) = false := by
      have : (eB X[i]).f2.length = (eB (shB n X[i])).f2.length := by show (List.map _ _).length = (List.map _ (List.map _ _)).length; rw [List.length_map, List.length_map, List.length_map]
      rw [this]; simp
    rw [hlen]
    refine Ev.step (fun k => by simp only [belvederelaw09_BlockLines.j3]; rfl) ?_
    refine evNeg (by simp) ?_
    refine evPos (by omega) ?_
    refine evPos (by rw [List.length_map]; omega) ?_
    rw [rdBi X i hlt]
    refine asc_fields X n hX hfs i hlt (fun last' hs' => ih (i + 1) last' (by omega) (by omega) hs') _ 0 _ rfl (Nat.zero_le _) ?_
    rw [List.drop_zero]
    exact h1.2
theorem goB_inv : ∀ (ls : List (Int × List UInt8)) (out : List BD) (op : Bool), Inv out op → Inv (goB ls out op).1 false
  | [], out, op, hI => by
    unfold goB
    split
    · exact inv0
    · exact ⟨hI.len, fun h => (by cases h), hI.fs⟩
  | (at_, t) :: ls, out, op, hI => by
    rw [goB]
    cases hs : (stepB at_ t out op).1 with
    | some e => exact inv0
    | none => exact goB_inv ls _ _ (hI.step hs)
theorem parse_inv (l : List UInt8) : Inv (parseB l).1 false := by
  unfold parseB
  split
  · exact goB_inv _ _ _ inv0
  · exact inv0
theorem umod (x : Int) (n : Nat) (hn : 0 < n) : ∃ j : Nat, Int.tmod (IntKind.u64.wrap x) (n : Int) = (j : Int) ∧ j < n := by
  have h0 : 0 ≤ IntKind.u64.wrap x := by
    unfold IntKind.wrap
    simp only [IntKind.signed, IntKind.bits]
    first | omega | (simp; omega) | (split <;> omega)
  refine ⟨(IntKind.u64.wrap x).toNat % n, ?_, Nat.mod_lt _ hn⟩
  rw [Int.tmod_eq_emod_of_nonneg h0]
  have : ((IntKind.u64.wrap x).toNat : Int) = IntKind.u64.wrap x := Int.toNat_of_nonneg h0
  rw [← this]; simp
theorem goB_at : ∀ (ls : List (Int × List UInt8)) (out : List BD) (op : Bool), Inv out op → (∀ x ∈ ls, 0 < x.1 ∧ x.1 ≤ 1000000) → (∀ b ∈ out, 0 < b.1 ∧ b.1 ≤ 1000000) → (goB ls out op).2.2 ≠ 0 → 0 < (goB ls out op).2.1 ∧ (goB ls out op).2.1 ≤ 1000000 ∧ (goB ls out op).1 = []
  | [], out, op, hI, _, ho, h0 => by
    unfold goB at h0 ⊢
    cases op with
    | true =>
      rw [if_pos rfl]
      have hp := hI.pos rfl
      have hl : out.length - 1 < out.length := by omega
      have e : lastB out = out[out.length - 1] := by unfold lastB; rw [List.getD_eq_getElem?_getD, List.getElem?_eq_getElem hl]; rfl
      rw [e]
      have := ho _ (List.getElem_mem hl)
      exact ⟨this.1, this.2, rfl⟩
    | false => rw [if_neg (by simp)] at h0; exact absurd rfl h0
  | (at_, t) :: ls, out, op, hI, hl, ho, h0 => by
    rw [goB] at h0 ⊢
    cases hs : (stepB at_ t out op).1 with
    | some e => have := hl (at_, t) List.mem_cons_self; exact ⟨this.1, this.2, rfl⟩
    | none =>
      rw [hs] at h0
      refine goB_at ls _ _ (hI.step hs) (fun x hx => hl x (List.mem_cons_of_mem _ hx)) ?_ h0
      have h1 := hl (at_, t) List.mem_cons_self
      intro b hb
      cases op with
      | false =>
        rw [stepB_false] at hb hs
        split at hs
        · cases hs
        rename_i a1
        split at hs
        · cases hs
        rename_i a2
        split at hs
        · cases hs
        rename_i a3
        rw [if_neg a1, if_neg a2, if_neg a3] at hb
        rcases List.mem_append.1 hb with hb | hb
        · exact ho b hb
        · simp at hb; rw [hb]; exact h1
      | true =>
        have hp := hI.pos rfl
        have hll : out.length - 1 < out.length := by omega
        have e : lastB out = out[out.length - 1] := by unfold lastB; rw [List.getD_eq_getElem?_getD, List.getElem?_eq_getElem hll]; rfl
        rw [stepB_true] at hb hs
        by_cases a0 : t = [125]
        · rw [if_pos a0] at hb; exact ho b hb
        rw [if_neg a0] at hb hs
        split at hs
        · cases hs
        rename_i a1
        split at hs
        · cases hs
        rename_i a2
        split at hs
        · cases hs
        rename_i a3
        split at hs
        · cases hs
        rename_i a4
        rw [if_neg a1, if_neg a2, if_neg a3, if_neg a4] at hb
        rcases List.mem_or_eq_of_mem_set hb with hb | hb
        · exact ho b hb
        · rw [hb]
          show 0 < (lastB out).1 ∧ (lastB out).1 ≤ 1000000
          rw [e]; exact ho _ (List.getElem_mem hll)
theorem go_at : ∀ (ps : List (List UInt8)) (acc : List UInt8) (a b : Int) (out : List (Int × List UInt8)), 0 < a → a ≤ b → (go ps acc a b out).2.2 ≠ 0 → 0 < (go ps acc a b out).2.1 ∧ (go ps acc a b out).2.1 ≤ b + ps.length := by
  intro ps
  induction ps with
  | nil => intro acc a b out h0 hab h; rw [go] at h; exact absurd rfl h
  | cons p ps ih =>
    intro acc a b out h0 hab h
    rw [go] at h ⊢
    have hp : ((p :: ps).length : Int) = ps.length + 1 := by simp
    split at h
    · rename_i a1; rw [if_pos a1]; have := ih _ a (b + 1) out h0 (by omega) h; omega
    · rename_i a1
      rw [if_neg a1]
      split at h
      · rename_i a2; rw [if_pos a2]; have := ih _ (b + 1) (b + 1) out (by omega) (by omega) h; omega
      · rename_i a2
        rw [if_neg a2]
        split at h
        · rename_i a3; rw [if_pos a3]; dsimp only; omega
        · rename_i a3; rw [if_neg a3]; have := ih _ (b + 1) (b + 1) _ (by omega) (by omega) h; omega
theorem parse_at (l : List UInt8) (hl : l.length ≤ 60000) (h : (parseB l).2.2 ≠ 0) : 0 < (parseB l).2.1 ∧ (parseB l).2.1 ≤ 1000000 ∧ (parseB l).1 = [] := by
  have hg : linesOf l = go (pieces l) [] 1 1 [] := by unfold linesOf; rw [if_neg (by omega)]
  have hp := pieces_len l
  unfold parseB at h ⊢
  by_cases h0 : (linesOf l).2.2 = 0
  · rw [if_pos h0] at h ⊢
    obtain ⟨g1, g2⟩ := go_nums (pieces l) [] 1 1 [] (by decide) (by decide) (by simp) (fun x hx => by cases hx)
    rw [← hg] at g1 g2
    refine goB_at _ _ _ inv0 (fun x hx => ⟨(List.pairwise_cons.1 g1).1 _ (List.mem_map.2 ⟨x, hx, rfl⟩), ?_⟩) (fun b hb => by cases hb) h
    have := g2 x hx; omega
  · rw [if_neg h0]
    have := go_at (pieces l) [] 1 1 [] (by decide) (by decide) (by rw [← hg]; exact h0)
    rw [← hg] at this
    exact ⟨this.1, by show (linesOf l).2.1 ≤ 1000000; omega, rfl⟩
theorem nums9_at (X : List BD) (b : BD) (h : b ∈ X) : b.1 ∈ nums9 X := List.mem_flatMap.2 ⟨b, h, List.mem_cons_self⟩
theorem blockLines_law : Go.Proofs.YtefjppdchgdjlaaDoor.P.belvederelaw09_BlockLines.Pure := by
  intro s ahead hs hw
  refine Ev.rounds ?_
  have hz := sz s
  unfold belvederelaw09_BlockLines.f
  by_cases h : (s.size : Int) > 4000
  · exact evPos h (Ev.bind sure9_eq (Ev.now _))
  refine evNeg h ?_
  refine Ev.bind (blockParse_eq s) ?_
  obtain ⟨n, hn, hn6⟩ := umod ahead 6 (by decide)
  have wn : wrap64 (Int.tmod (IntKind.u64.wrap ahead) 6) = (n : Int) := by
    have : Int.tmod (IntKind.u64.wrap ahead) 6 = (n : Int) := hn
    rw [this]; exact w64 (by omega) (by omega)
  rw [wn]
  have hl : (L s).length ≤ 4000 := by omega
  have hps : parseB (List.replicate n 10 ++ L s) = shP n (parseB (L s)) := parse_shift n (L s) (by omega) (by omega)
  generalize hR : parseB (L s) = R at hps
  have fin : Ev (fun k => belvederelaw09_BlockLines.l0 k (o1 R).1 (o1 R).2.2.2 (n : Int) (mkB (List.replicate n 10 ++ L s)) (n : Int) (o1 R).2.1 (o1 R).2.2.1) true := by
    refine Ev.step (fun k => by simp only [belvederelaw09_BlockLines.l0]; rfl) ?_
    refine evNeg (by omega) ?_
    refine Ev.bind (blockParse_eq _) ?_
    rw [L_mk, hps]
    refine evBnd (num9_errO _) ?_
    refine evBnd (num9_errO _) ?_
    refine evPos rfl ?_
    have hlen : ((((o1 R).1.length : Nat) : Int) != (((o1 (shP n R)).1.length : Nat) : Int)) = false := by
      have : (o1 R).1.length = (o1 (shP n R)).1.length := by show (List.map _ _).length = (List.map _ (List.map _ _)).length; rw [List.length_map, List.length_map, List.length_map]
      rw [this]; simp
    rw [hlen]
    refine Ev.step (fun k => by simp only [belvederelaw09_BlockLines.j1]; rfl) ?_
    refine evNeg (by simp) ?_
    by_cases h0 : R.2.2 = 0
    · refine evPos (by show (errO R.2.2).isNone = true; unfold errO; rw [if_pos h0]; rfl) ?_
      have hsorted := parse_nums (L s) (by rw [hR]; exact h0)
      have hinv := parse_inv (L s)
      rw [hR] at hsorted hinv
      refine asc_blocks R.1 n (by omega) (by have := hinv.len; omega) (fun b hb => by have := hinv.fs b hb; omega) (fun x hx => ⟨(List.pairwise_cons.1 hsorted.1).1 x hx, hsorted.2 x hx⟩) _ 0 0 rfl (Nat.zero_le _) ?_
      rw [List.drop_zero]
      exact hsorted.1
    · refine evNeg (by show ¬ (errO R.2.2).isNone = true; unfold errO; rw [if_neg h0]; simp) ?_
      have hat := parse_at (L s) (by omega) (by rw [hR]; exact h0)
      rw [hR] at hat
      refine evNeg (by show ¬ R.2.1 = 0; omega) ?_
      refine evPos (by show (if R.2.2 = 0 then 0 else R.2.1 + (n : Int)) = wrap64 (R.2.1 + (n : Int)); rw [if_neg h0, w64 (by omega) (by omega)]) ?_
      refine evPos rfl ?_
      exact Ev.bind sure9_eq (Ev.now _)
  have from_ : ∀ (d i : Nat), n - i = d → i ≤ n → Ev (fun k => belvederelaw09_BlockLines.l0 k (o1 R).1 (o1 R).2.2.2 (n : Int) (mkB (List.replicate i 10 ++ L s)) (i : Int) (o1 R).2.1 (o1 R).2.2.1) true := by
    intro d
    induction d with
    | zero =>
      intro i hd hi
      obtain rfl : i = n := by omega
      exact fin
    | succ d ih =>
      intro i hd hi
      refine Ev.step (fun k => by simp only [belvederelaw09_BlockLines.l0]; rfl) ?_
      refine evPos (by omega) ?_
      refine evPos (by rw [sz, L_mk]; simp; omega) ?_
      have w1 : wrap64 ((i : Int) + 1) = ((i + 1 : Nat) : Int) := by rw [w64 (by omega) (by omega)]; omega
      have e : (⟨#[10]⟩ : ByteArray) ++ mkB (List.replicate i 10 ++ L s) = mkB (List.replicate (i + 1) 10 ++ L s) := by
        apply L_inj; rw [L_app, L_mk, L_mk, L_lit, List.replicate_succ]; rfl
      rw [w1, e]
      exact ih (i + 1) (by omega) (by omega)
  have := from_ n 0 rfl (Nat.zero_le _)
  rw [List.replicate_zero, List.nil_append, mk_L] at this
  exact this
end Go.Proofs.YtefjppdchgdjlaaDoor.T
