/- The pure statements of LexLines and LexLong. -/
import Derived.Test.YtmpnmjomcbomnaaDoorLexB
import Derived.Test.YtmpnmjomcbomnaaDoorPx5
namespace Go.Proofs.YtmpnmjomcbomnaaDoor.T
open Go.RowKit Go.Proofs.YtmpnmjomcbomnaaDoorW.PrintWords Go.Proofs.YtmpnmjomcbomnaaDoorW.PrintLast Go.Proofs.YtmpnmjomcbomnaaDoor.P

theorem num_errO (n : Int) : belvederelaw08_num.f (errO n) = some n := by
  unfold belvederelaw08_num.f errO
  by_cases h : n = 0
  · rw [if_pos h, h]; rfl
  · rw [if_neg h]; rfl
theorem rd1 (out : List (Int × List UInt8)) (i : Nat) (h : i < out.length) : rd_T36 (out.map e1) (i : Int) = e1 out[i] := by
  unfold rd_T36
  rw [List.getD_eq_getElem?_getD, Int.toNat_natCast, List.getElem?_map, List.getElem?_eq_getElem h]; rfl
theorem rd2 (out : List (Int × List UInt8)) (i : Nat) (h : i < out.length) : rd_T44 (out.map e2) (i : Int) = e2 out[i] := by
  unfold rd_T44
  rw [List.getD_eq_getElem?_getD, Int.toNat_natCast, List.getElem?_map, List.getElem?_eq_getElem h]; rfl
theorem same_from (out : List (Int × List UInt8)) (hb : out.length ≤ 1000000) : ∀ (d i : Nat), out.length - i = d → i ≤ out.length → Ev (fun k => belvederelaw08_same.l0 k (out.map e1) (out.map e2) (i : Int)) true := by
  intro d
  induction d with
  | zero =>
    intro i hd hi
    refine Ev.step (fun k => by simp only [belvederelaw08_same.l0]; rfl) ?_
    exact evNeg (by rw [List.length_map]; omega) (Ev.now _)
  | succ d ih =>
    intro i hd hi
    have hlt : i < out.length := by omega
    refine Ev.step (fun k => by simp only [belvederelaw08_same.l0]; rfl) ?_
    refine evPos (by rw [List.length_map]; omega) ?_
    refine evPos (by omega) ?_
    refine evPos (by rw [List.length_map]; omega) ?_
    rw [rd1 out i hlt, rd2 out i hlt]
    refine evPos rfl ?_
    refine evPos rfl ?_
    have w1 : wrap64 ((i : Int) + 1) = ((i + 1 : Nat) : Int) := by rw [w64 (by omega) (by omega)]; omega
    rw [w1]
    exact ih (i + 1) (by omega) (by omega)
theorem same_eq (out : List (Int × List UInt8)) (hb : out.length ≤ 1000000) : Ev (fun k => belvederelaw08_same.f k (out.map e1) (out.map e2)) true := by
  unfold belvederelaw08_same.f
  refine evPos (by simp) ?_
  exact same_from out hb _ 0 rfl (Nat.zero_le _)
theorem go_out_len : ∀ (ps : List (List UInt8)) (acc : List UInt8) (a b : Int) (out : List (Int × List UInt8)), (go ps acc a b out).1.length ≤ out.length + ps.length := by
  intro ps
  induction ps with
  | nil => intro acc a b out; simp [go]
  | cons p ps ih =>
    intro acc a b out
    rw [go]
    split
    · have := ih (acc ++ p.dropLast) a (b + 1) out; simp; omega
    · split
      · have := ih [] (b + 1) (b + 1) out; simp; omega
      · split
        · simp
        · have := ih [] (b + 1) (b + 1) (out ++ [(a, said (acc ++ strip p))]); simp at this ⊢; omega
theorem linesOf_len (l : List UInt8) : (linesOf l).1.length ≤ 1000000 := by
  unfold linesOf
  split
  · simp
  · have h1 := go_out_len (pieces l) [] 1 1 []
    have h2 := pieces_len l
    simp at h1; omega
theorem sure_eq : Ev (fun k => belvederelaw08_sure.f k) true := by
  unfold belvederelaw08_sure.f
  refine Ev.bind (lexLines_eq _) ?_
  have h : linesOf (L (⟨#[97, 32, 59, 120, 10, 35, 32, 98, 10, 99, 92, 10, 100]⟩ : ByteArray)) = ([(1, [97]), (3, [99, 100])], 0, 0) := by decide +kernel
  rw [h]
  exact evNow (fun _ => by decide +kernel)
theorem lexLines_law : Go.Proofs.YtmpnmjomcbomnaaDoor.P.belvederelaw08_LexLines.Pure := by
  intro s hs
  refine Ev.rounds ?_
  have main : Ev (fun k => belvederelaw08_LexLines.j0 k s false) true := by
    refine Ev.step (fun k => by simp only [belvederelaw08_LexLines.j0]; rfl) ?_
    refine evNeg (by simp) ?_
    refine Ev.bind (lexLines_eq s) ?_
    refine Ev.bind (refLines_eq s) ?_
    have hl := linesOf_len (L s)
    generalize linesOf (L s) = R at hl
    refine Ev.bind (same_eq R.1 hl) ?_
    refine evPos rfl ?_
    refine evPos rfl ?_
    refine evBnd (num_errO _) ?_
    refine evPos rfl ?_
    exact Ev.bind sure_eq (Ev.now _)
  unfold belvederelaw08_LexLines.f
  by_cases h : (s.size : Int) > 9000
  · refine evPos h ?_
    by_cases h2 : (s.size : Int) ≤ 65536
    · rw [decide_eq_true h2]
      refine Ev.step (fun k => by simp only [belvederelaw08_LexLines.j0]; rfl) ?_
      exact evPos trivial (Ev.bind sure_eq (Ev.now _))
    · rw [decide_eq_false h2]; exact main
  · exact evNeg h main

/-! ### LexLong -/
theorem pieces_app {p : List UInt8} (h : (10 : UInt8) ∉ p) (l : List UInt8) : pieces (p ++ 10 :: l) = p :: pieces l := by
  induction p with
  | nil => simp [pieces]
  | cons c p ih =>
    have hc : c ≠ 10 := fun e => h (by simp [e])
    have := ih (fun e => h (by simp [e]))
    rw [List.cons_append, pieces, if_neg hc, this]
def heads : Nat → List UInt8
  | 0 => []
  | m + 1 => heads m ++ [97, 10]
def headLines (m : Nat) : List (Int × List UInt8) := (List.range m).map fun (i : Nat) => ((i : Int) + 1, [97])
theorem headLines_len (m : Nat) : (headLines m).length = m := by simp [headLines]
def longLine (K : Nat) : List UInt8 := [32, 32] ++ (List.replicate K 98 ++ [32, 59, 32, 109, 111, 114, 101])
theorem said_long (K : Nat) (hK : 0 < K) : said (longLine K) = List.replicate K 98 := by
  obtain ⟨j, rfl⟩ : ∃ j, K = j + 1 := ⟨K - 1, by omega⟩
  have hb : ∀ c ∈ ([32, 32] : List UInt8), isSp c = true := by intro c hc; simp at hc; subst hc; decide
  have h1 : trim (longLine (j + 1)) = List.replicate (j + 1) 98 ++ [32, 59, 32, 109, 111, 114, 101] := by
    have := trim_wrap (a := [32, 32]) (b := []) (l := List.replicate (j + 1) 98 ++ [32, 59, 32, 109, 111, 114, 101]) hb (by simp)
      ⟨by intro c hc; rw [List.replicate_succ] at hc; simp at hc; subst hc; decide, by intro c hc; simp at hc; subst hc; decide⟩
    simpa [longLine] using this
  have h2 : cut 59 (longLine (j + 1)) = [32, 32] ++ List.replicate (j + 1) 98 ++ [32] := by
    have : longLine (j + 1) = ([32, 32] ++ List.replicate (j + 1) 98 ++ [32]) ++ 59 :: [32, 109, 111, 114, 101] := by simp [longLine]
    rw [this]
    refine cut_at ?_ _
    intro h
    simp [List.mem_replicate] at h
  unfold said
  rw [h1, if_neg (by rw [List.replicate_succ]; simp), h2]
  refine trim_wrap hb (by intro c hc; simp at hc; subst hc; decide) ⟨?_, ?_⟩
  · intro c hc; rw [List.replicate_succ] at hc; simp at hc; subst hc; decide
  · intro c hc; rw [List.getLast?_replicate] at hc; simp at hc; subst hc; decide
theorem go_long (K : Nat) (hK : 0 < K) (m : Int) (out : List (Int × List UInt8)) :
    go [longLine K, []] [] m m out = if K > 4096 then ([], m, 2) else (out ++ [(m, List.replicate K 98)], 0, 0) := by
  have hst : stroke (longLine K) = false := by
    have : longLine K = ([32, 32] ++ (List.replicate K 98 ++ [32, 59, 32, 109, 111, 114])) ++ [101] := by simp [longLine]
    unfold stroke
    rw [this, List.getLast?_append]; rfl
  have hsp : strip (longLine K) = longLine K := by unfold strip; rw [if_neg (by rw [hst]; simp)]
  rw [go, if_neg (by rw [hst]; simp), hsp, List.nil_append, said_long K hK, if_neg (by intro h; have := congrArg List.length h; simp at this; omega), List.length_replicate]
  by_cases h : K > 4096
  · rw [if_pos h, if_pos h]
  · rw [if_neg h, if_neg h, go, if_neg (by simp [stroke]), if_pos (by decide)]
    rfl
theorem long_text (m K : Nat) (hm : m < 4) (hK : 0 < K) (hK2 : K < 5000) :
    linesOf ((heads m ++ [32, 32]) ++ List.replicate K 98 ++ [32, 59, 32, 109, 111, 114, 101, 10]) =
      if K > 4096 then ([], (m : Int) + 1, 2) else (headLines m ++ [((m : Int) + 1, List.replicate K 98)], 0, 0) := by
  have e : (heads m ++ [32, 32]) ++ List.replicate K 98 ++ [32, 59, 32, 109, 111, 114, 101, 10] = heads m ++ (longLine K ++ 10 :: []) := by simp [longLine]
  have hp : pieces (longLine K ++ 10 :: []) = [longLine K, []] := by
    rw [pieces_app]
    · rfl
    · intro h; simp [longLine, List.mem_replicate] at h
  have hlen : ((heads m ++ [32, 32]) ++ List.replicate K 98 ++ [32, 59, 32, 109, 111, 114, 101, 10]).length ≤ 65536 := by
    have : (heads m).length ≤ 8 := by
      obtain rfl | rfl | rfl | rfl : m = 0 ∨ m = 1 ∨ m = 2 ∨ m = 3 := by omega
      all_goals decide
    simp; omega
  unfold linesOf
  rw [if_neg (by omega), e]
  have one : ∀ (l : List UInt8) (n : Int) (out : List (Int × List UInt8)), pieces l ≠ [] → go ([97] :: pieces l) [] n n out = go (pieces l) [] (n + 1) (n + 1) (out ++ [(n, [97])]) := by
    intro l n out _
    rw [go, if_neg (by simp [stroke]), if_neg (by decide), if_neg (by decide)]
    have : said ([] ++ strip [97]) = [97] := by decide
    rw [this]
  obtain rfl | rfl | rfl | rfl : m = 0 ∨ m = 1 ∨ m = 2 ∨ m = 3 := by omega
  · show go (pieces (longLine K ++ 10 :: [])) [] 1 1 [] = _
    rw [hp, go_long K hK]; rfl
  · have e : heads 1 ++ (longLine K ++ 10 :: []) = [97] ++ 10 :: (longLine K ++ 10 :: []) := rfl
    rw [e, pieces_app (by decide), one _ _ _ (pieces_ne _), hp, go_long K hK]; rfl
  · have e : heads 2 ++ (longLine K ++ 10 :: []) = [97] ++ 10 :: ([97] ++ 10 :: (longLine K ++ 10 :: [])) := rfl
    rw [e, pieces_app (by decide), one _ _ _ (pieces_ne _), pieces_app (by decide), one _ _ _ (pieces_ne _), hp, go_long K hK]; rfl
  · have e : heads 3 ++ (longLine K ++ 10 :: []) = [97] ++ 10 :: ([97] ++ 10 :: ([97] ++ 10 :: (longLine K ++ 10 :: []))) := rfl
    rw [e, pieces_app (by decide), one _ _ _ (pieces_ne _), pieces_app (by decide), one _ _ _ (pieces_ne _), pieces_app (by decide), one _ _ _ (pieces_ne _), hp, go_long K hK]; rfl
section
variable (K m : Nat) (a1 : Int) (hK : 4090 ≤ K) (hK2 : K < 5000) (hm : m < 4) (ha : wrap64 (Int.tmod (IntKind.u64.wrap a1) 4) = (m : Int))
include hK hK2 hm ha
theorem long_end : Ev (fun k => belvederelaw08_LexLong.l2 k a1 (K : Int) (mkB (heads m)) (mkB (List.replicate K 98))) true := by
  have hh : (heads m).length ≤ 8 := by
    obtain rfl | rfl | rfl | rfl : m = 0 ∨ m = 1 ∨ m = 2 ∨ m = 3 := by omega
    all_goals decide
  refine Ev.step (fun k => by simp only [belvederelaw08_LexLong.l2]; rfl) ?_
  refine evNeg (by rw [sz, L_mk]; simp) ?_
  refine evPos (by rw [sz, L_mk]; omega) ?_
  refine evPos (by rw [sz, sz, L_app, L_mk, L_mk, L_lit]; simp; omega) ?_
  refine evPos (by rw [sz, L_app, L_app, L_mk, L_mk, L_lit]; simp; omega) ?_
  refine Ev.bind (lexLines_eq _) ?_
  have hL : L (((mkB (heads m) ++ (⟨#[32, 32]⟩ : ByteArray)) ++ mkB (List.replicate K 98)) ++ (⟨#[32, 59, 32, 109, 111, 114, 101, 10]⟩ : ByteArray)) = (heads m ++ [32, 32]) ++ List.replicate K 98 ++ [32, 59, 32, 109, 111, 114, 101, 10] := by
    rw [L_app, L_app, L_app, L_mk, L_mk]; rfl
  rw [hL, long_text m K hm (by omega) hK2, ha]
  have w1 : wrap64 ((m : Int) + 1) = (m : Int) + 1 := w64 (by omega) (by omega)
  rw [w1]
  by_cases h : K > 4096
  · rw [if_pos h]
    refine evPos (by omega) ?_
    refine evBnd (num_errO 2) ?_
    refine evPos rfl ?_
    refine evPos rfl ?_
    refine evPos rfl ?_
    exact Ev.bind sure_eq (Ev.now _)
  · rw [if_neg h]
    refine evNeg (by omega) ?_
    refine evPos rfl ?_
    refine evPos rfl ?_
    have hlen : ((out1 (headLines m ++ [((m : Int) + 1, List.replicate K 98)], 0, 0)).1.length : Int) = (m : Int) + 1 := by simp [out1, headLines_len]
    rw [hlen]
    refine evPos rfl ?_
    have w2 : wrap64 ((m : Int) + 1 - 1) = (m : Int) := by rw [w64 (by omega) (by omega)]; omega
    rw [w2]
    refine evPos (by omega) ?_
    refine evPos (by omega) ?_
    have hr : rd_T36 (out1 (headLines m ++ [((m : Int) + 1, List.replicate K 98)], 0, 0)).1 (m : Int) = e1 ((m : Int) + 1, List.replicate K 98) := by
      show rd_T36 (List.map e1 _) (m : Int) = _
      rw [rd1 _ m (by simp [headLines_len])]
      congr 1
      rw [List.getElem_append_right (by simp [headLines_len])]
      simp
    rw [hr]
    refine evPos rfl ?_
    exact Ev.bind sure_eq (Ev.now _)
theorem long_ones : ∀ (d j : Nat), K - j = d → j ≤ K → Ev (fun k => belvederelaw08_LexLong.l2 k a1 (K : Int) (mkB (heads m)) (mkB (List.replicate j 98))) true := by
  intro d
  induction d with
  | zero =>
    intro j hd hj
    obtain rfl : j = K := by omega
    exact long_end j m a1 hK hK2 hm ha
  | succ d ih =>
    intro j hd hj
    refine Ev.step (fun k => by simp only [belvederelaw08_LexLong.l2]; rfl) ?_
    refine evPos (by rw [sz, L_mk]; simp; omega) ?_
    refine evPos (by rw [sz, L_mk]; simp; omega) ?_
    have e : mkB (List.replicate j 98) ++ (⟨#[98]⟩ : ByteArray) = mkB (List.replicate (j + 1) 98) := by
      apply L_inj; rw [L_app, L_mk, L_mk, List.replicate_succ']; rfl
    rw [e]
    exact ih (j + 1) (by omega) (by omega)
theorem long_many : ∀ (d j : Nat), K - j ≤ d → j ≤ K → Ev (fun k => belvederelaw08_LexLong.l1 k a1 (K : Int) (mkB (heads m)) (mkB (List.replicate j 98))) true := by
  intro d
  induction d with
  | zero =>
    intro j hd hj
    refine Ev.step (fun k => by simp only [belvederelaw08_LexLong.l1]; rfl) ?_
    have w : wrap64 (((mkB (List.replicate j 98)).size : Int) + 64) = (j : Int) + 64 := by rw [sz, L_mk, List.length_replicate, w64 (by omega) (by omega)]
    rw [w]
    refine evNeg (by omega) ?_
    exact long_ones K m a1 hK hK2 hm ha _ j rfl hj
  | succ d ih =>
    intro j hd hj
    refine Ev.step (fun k => by simp only [belvederelaw08_LexLong.l1]; rfl) ?_
    have w : wrap64 (((mkB (List.replicate j 98)).size : Int) + 64) = (j : Int) + 64 := by rw [sz, L_mk, List.length_replicate, w64 (by omega) (by omega)]
    rw [w]
    by_cases h : j + 64 ≤ K
    · refine evPos (by omega) ?_
      refine evPos (by rw [sz, L_mk]; simp; omega) ?_
      have e : mkB (List.replicate j 98) ++ (⟨#[98, 98, 98, 98, 98, 98, 98, 98, 98, 98, 98, 98, 98, 98, 98, 98, 98, 98, 98, 98, 98, 98, 98, 98, 98, 98, 98, 98, 98, 98, 98, 98, 98, 98, 98, 98, 98, 98, 98, 98, 98, 98, 98, 98, 98, 98, 98, 98, 98, 98, 98, 98, 98, 98, 98, 98, 98, 98, 98, 98, 98, 98, 98, 98]⟩ : ByteArray) = mkB (List.replicate (j + 64) 98) := by
        apply L_inj; rw [L_app, L_mk, L_mk, ← List.replicate_append_replicate]; rfl
      rw [e]
      exact ih (j + 64) (by omega) h
    · refine evNeg (by omega) ?_
      exact long_ones K m a1 hK hK2 hm ha _ j rfl hj
theorem long_heads : ∀ (d i : Nat), m - i = d → i ≤ m → Ev (fun k => belvederelaw08_LexLong.l0 k a1 (K : Int) (mkB (heads i)) (i : Int)) true := by
  intro d
  induction d with
  | zero =>
    intro i hd hi
    obtain rfl : i = m := by omega
    refine Ev.step (fun k => by simp only [belvederelaw08_LexLong.l0]; rfl) ?_
    rw [ha]
    refine evNeg (by omega) ?_
    exact long_many K i a1 hK hK2 hm ha _ 0 (Nat.le_refl _) (Nat.zero_le _)
  | succ d ih =>
    intro i hd hi
    refine Ev.step (fun k => by simp only [belvederelaw08_LexLong.l0]; rfl) ?_
    rw [ha]
    refine evPos (by omega) ?_
    have hh : (heads i).length ≤ 8 := by
      obtain rfl | rfl | rfl | rfl : i = 0 ∨ i = 1 ∨ i = 2 ∨ i = 3 := by omega
      all_goals decide
    refine evPos (by rw [sz, L_mk]; omega) ?_
    have e : mkB (heads i) ++ (⟨#[97, 10]⟩ : ByteArray) = mkB (heads (i + 1)) := by
      apply L_inj; rw [L_app, L_mk, L_mk]; rfl
    have w1 : wrap64 ((i : Int) + 1) = ((i + 1 : Nat) : Int) := by rw [w64 (by omega) (by omega)]; omega
    rw [e, w1]
    exact ih (i + 1) (by omega) (by omega)
end
theorem u64_pos (x : Int) : 0 ≤ IntKind.u64.wrap x := by
  unfold IntKind.wrap
  simp [IntKind.bits, IntKind.signed]
  omega
theorem tmod_small (x : Int) (n : Nat) (hn : 0 < n) (hx : 0 ≤ x) : ∃ j : Nat, Int.tmod x (n : Int) = (j : Int) ∧ j < n := by
  refine ⟨x.toNat % n, ?_, Nat.mod_lt _ hn⟩
  obtain ⟨y, rfl⟩ := Int.eq_ofNat_of_zero_le hx
  rw [Int.toNat_natCast]; rfl
theorem lexLong_law : Go.Proofs.YtmpnmjomcbomnaaDoor.P.belvederelaw08_LexLong.Pure := by
  intro a0 a1 _ _
  refine Ev.rounds ?_
  have p0 : 0 ≤ IntKind.u64.wrap a0 := u64_pos _
  have p1 : 0 ≤ IntKind.u64.wrap a1 := u64_pos _
  obtain ⟨j, hj, hj2⟩ := tmod_small _ 12 (by omega) p0
  obtain ⟨m, hm, hm2⟩ := tmod_small _ 4 (by omega) p1
  have hj' : wrap64 (4090 + wrap64 (Int.tmod (IntKind.u64.wrap a0) 12)) = ((4090 + j : Nat) : Int) := by
    rw [show ((12 : Nat) : Int) = 12 from rfl] at hj
    rw [hj, w64 (x := (j : Int)) (by omega) (by omega), w64 (by omega) (by omega)]; omega
  have hm' : wrap64 (Int.tmod (IntKind.u64.wrap a1) 4) = (m : Int) := by
    rw [show ((4 : Nat) : Int) = 4 from rfl] at hm
    rw [hm, w64 (by omega) (by omega)]
  unfold belvederelaw08_LexLong.f
  rw [hj']
  exact long_heads (4090 + j) m a1 (by omega) (by omega) hm2 hm' _ 0 rfl (Nat.zero_le _)
end Go.Proofs.YtmpnmjomcbomnaaDoor.T
