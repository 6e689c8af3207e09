/- The law BreaksWider, by contract. -/
import Derived.Test.YtehelanfgepcmaaPj
import Derived.Test.YtehelanfgepcmaaPe
import Derived.Test.YtehelanfgepcmaaDx
set_option linter.unusedSimpArgs false
set_option linter.unusedVariables false
set_option linter.unusedSectionVars false
namespace Go.Proofs.Ytehelanfgepcmaa
open Go.RowKit Dak
theorem wordL_valid (l : List Int) (w : Nat) : wordOK (wordL l w) = true := by
  have h := wordL_ok l w
  have hl : (wordL l w).length = piecesL l w := by simp [wordL]
  unfold wordOK
  rw [Bool.and_eq_true, decide_eq_true_iff, List.all_eq_true]
  refine ⟨⟨h.pos, by have := h.le; omega⟩, fun i hi => ?_⟩
  have hi : i < (wordL l w).length := List.mem_range.1 hi
  have hg : (wordL l w).getD i [] = (wordL l w)[i] := by simp [hi]
  rw [hg]
  unfold rowOK
  rw [Bool.and_eq_true, decide_eq_true_iff, List.all_eq_true]
  refine ⟨by rw [hl]; simp [wordL, rowGo_len], fun n hn => ?_⟩
  have := h.num _ (List.getElem_mem hi) n hn
  unfold elOK
  rw [decide_eq_true_iff]; omega
theorem validB_of {X : Words3} {w : Int} (h1 : X.length ≤ 512) (h2 : ∀ x ∈ X, wordOK x = true) (hw : 1 ≤ w ∧ w ≤ 512) : validB X w = true := by
  unfold validB
  rw [Bool.and_eq_true, Bool.and_eq_true, decide_eq_true_iff, decide_eq_true_iff, List.all_eq_true]
  exact ⟨⟨h1, hw⟩, h2⟩
theorem wordsL_valid (l : List Int) (most : Int) (h : 0 ≤ most) : ∀ x ∈ wordsL l most, wordOK x = true := by
  intro x hx
  obtain ⟨i, hi, rfl⟩ := List.mem_map.1 hx
  exact wordL_valid l i
theorem toI_len (r : List Place) : (toI r).length = r.length := by simp [toI]
theorem wider_law {X : Words3} {w v : Int} {k : Nat} (hl : X.length ≤ 512) (hX : ∀ x ∈ X, wordOK x = true) (hw : 1 ≤ w ∧ w ≤ 512) (hv : w ≤ v ∧ v ≤ 512) (hk : k ≤ X.length) :
    fillM X w = (14, [], []) ∨ ∃ A B C K L M, fillM X w = (0, A, K) ∧ fillM X v = (0, B, L) ∧ fillM (X.take k) w = (0, C, M) ∧ B.length ≤ A.length ∧ C.length ≤ A.length := by
  have h1 := validB_of hl hX hw
  have h2 := validB_of (w := v) hl hX (by omega)
  have h3 : validB (X.take k) w = true := validB_of (by rw [List.length_take]; omega) (fun x hx => hX x (List.mem_of_mem_take hx)) hw
  have V := (validB_VW h1).1
  rcases fill_best h1 with ⟨e, _⟩ | ⟨r, d1, e1, _, _, _⟩
  · exact .inl e
  right
  have d2 := IsDiv.wider hv.1 r _ d1
  obtain ⟨s, d3, hs⟩ : ∃ s, IsDiv (X.take k) w (0, 0) s ∧ s.length ≤ r.length := by
    by_cases h0 : k = 0
    · subst h0; exact ⟨[], rfl, Nat.zero_le _⟩
    · exact IsDiv.cut V hk r _ d1 (Nat.pos_of_ne_zero h0)
  rcases fill_best h2 with ⟨_, e⟩ | ⟨r2, c1, e2, _, _, f2⟩
  · exact absurd d2 (e r)
  rcases fill_best h3 with ⟨_, e⟩ | ⟨r3, c2, e3, _, _, f3⟩
  · exact absurd d3 (e s)
  refine ⟨_, _, _, _, _, _, e1, e2, e3, ?_, ?_⟩
  · rw [toI_len, toI_len]
    exact cost_lines V V (by omega) (by omega) c1 d2 (f2 r d2)
  · rw [toI_len, toI_len]
    exact Nat.le_trans (cost_lines (V.take k) (V.take k) hw hw c2 d3 (f3 s d3)) hs
set_option maxRecDepth 100000 in
set_option maxHeartbeats 4000000 in
theorem BreaksWider_s (l : List Int) (width more first : Int) (hl : ∀ x ∈ l, I64 x) (h1 : I64 width) (h2 : I64 more) (h3 : I64 first) :
    Ctr Try.prog 4 [vints l, vi width, vi more, vi first] (vb true) := by
  refine specC f4 (by simp) fun F0 w0 => ?_
  have hX1 := (wordsL_ok l 12 (by omega)).1
  have hX2 := wordsL_valid l 12 (by omega)
  have hX3 := wordsL_I64 l 12 (by omega)
  have hW := Words_s l 12 hl (by omega) (by omega)
  generalize wordsL l 12 = X at *
  have a1 := aroundL_bd width 20 (by omega)
  have a2 := aroundL_bd more 20 (by omega)
  have a3 := aroundL_bd first (X.length + 1) (by omega)
  have s1 := Around_s width 20 h1 ⟨by omega, by omega⟩
  have s2 := Around_s more 20 h2 ⟨by omega, by omega⟩
  have s3 := Around_s first (X.length + 1) h3 ⟨by omega, by omega⟩
  generalize aroundL width 20 = u1 at *
  generalize aroundL more 20 = u2 at *
  obtain ⟨k, hk⟩ : ∃ k : Nat, aroundL first (X.length + 1) = k := ⟨(aroundL first (X.length + 1)).toNat, by omega⟩
  rw [hk] at a3 s3
  clear hk
  have w1 : IntKind.i64.wrap (1 + u1) = 1 + u1 := wrap_id (by omega) (by omega)
  have w2 : IntKind.i64.wrap (1 + u1 + u2) = 1 + u1 + u2 := wrap_id (by omega) (by omega)
  have w3 : IntKind.i64.wrap ((X.length : Int) + 1) = (X.length : Int) + 1 := wrap_id (by omega) (by omega)
  have g1 : (0 : Int) ≤ (k : Int) := by omega
  have g2 : (k : Int) ≤ (X.length : Int) := by omega
  have g3 : k ≤ X.length := by omega
  have hA := Fill_s X (1 + u1) hX3 ⟨by omega, by omega⟩
  unfold c4
  refine CwpE.cut (st := ⟨[(0, vints l), (1, vi width), (2, vi more), (3, vi first)], []⟩) ?_ ?_
  · simp only [go_sem, List.replicate_succ, Nat.reducePow, Nat.reduceLeDiff, ↓reduceIte, reduceCtorEq, Nat.reduceLT, Nat.reduceEqDiff, Nat.reduceAdd, Nat.reduceSub, Nat.reduceMul, Int.reduceToNat]
    exact ⟨_, WkE.keep (by simp only [go_sem, List.replicate_succ, Nat.reducePow, Nat.reduceLeDiff, ↓reduceIte, reduceCtorEq, Nat.reduceLT, Nat.reduceEqDiff, Nat.reduceAdd, Nat.reduceSub, Nat.reduceMul, Int.reduceToNat]), rfl⟩
  refine CwpE.cut (st := ⟨[(1, vi width), (2, vi more), (3, vi first), (9, vwords X)], []⟩) ?_ ?_
  · simp only [go_sem, List.replicate_succ, Nat.reducePow, Nat.reduceLeDiff, ↓reduceIte, reduceCtorEq, Nat.reduceLT, Nat.reduceEqDiff, Nat.reduceAdd, Nat.reduceSub, Nat.reduceMul, Int.reduceToNat]
    refine callT hW rfl ?_
    simp only [go_sem, List.replicate_succ, Nat.reducePow, Nat.reduceLeDiff, ↓reduceIte, reduceCtorEq, Nat.reduceLT, Nat.reduceEqDiff, Nat.reduceAdd, Nat.reduceSub, Nat.reduceMul, Int.reduceToNat]
    refine callT (words_s X (by omega)) rfl ?_
    simp only [go_sem, List.replicate_succ, Nat.reducePow, Nat.reduceLeDiff, ↓reduceIte, reduceCtorEq, Nat.reduceLT, Nat.reduceEqDiff, Nat.reduceAdd, Nat.reduceSub, Nat.reduceMul, Int.reduceToNat]
    exact ⟨_, WkE.keep (by simp only [go_sem, List.replicate_succ, Nat.reducePow, Nat.reduceLeDiff, ↓reduceIte, reduceCtorEq, Nat.reduceLT, Nat.reduceEqDiff, Nat.reduceAdd, Nat.reduceSub, Nat.reduceMul, Int.reduceToNat]), rfl⟩
  refine CwpE.cut (st := ⟨[(2, vi more), (3, vi first), (9, vwords X), (10, vi (1 + u1))], []⟩) ?_ ?_
  · simp only [go_sem, List.replicate_succ, Nat.reducePow, Nat.reduceLeDiff, ↓reduceIte, reduceCtorEq, Nat.reduceLT, Nat.reduceEqDiff, Nat.reduceAdd, Nat.reduceSub, Nat.reduceMul, Int.reduceToNat]
    refine callT s1 rfl ?_
    simp only [go_sem, List.replicate_succ, Nat.reducePow, Nat.reduceLeDiff, ↓reduceIte, reduceCtorEq, Nat.reduceLT, Nat.reduceEqDiff, Nat.reduceAdd, Nat.reduceSub, Nat.reduceMul, Int.reduceToNat, w1]
    exact ⟨_, WkE.keep (by simp only [go_sem, List.replicate_succ, Nat.reducePow, Nat.reduceLeDiff, ↓reduceIte, reduceCtorEq, Nat.reduceLT, Nat.reduceEqDiff, Nat.reduceAdd, Nat.reduceSub, Nat.reduceMul, Int.reduceToNat]), rfl⟩
  rcases wider_law (w := 1 + u1) (v := 1 + u1 + u2) (k := k) (by omega) hX2 (by omega) (by omega) g3 with e | ⟨A, B, C, K, L, M, e1, e2, e3, l1, l2⟩
  · rw [e] at hA
    refine CwpE.cut (st := ⟨[(12, vi 14)], []⟩) ?_ ?_
    · simp only [go_sem, List.replicate_succ, Nat.reducePow, Nat.reduceLeDiff, ↓reduceIte, reduceCtorEq, Nat.reduceLT, Nat.reduceEqDiff, Nat.reduceAdd, Nat.reduceSub, Nat.reduceMul, Int.reduceToNat]
      refine callT hA rfl ?_
      simp only [go_sem, List.replicate_succ, Nat.reducePow, Nat.reduceLeDiff, ↓reduceIte, reduceCtorEq, Nat.reduceLT, Nat.reduceEqDiff, Nat.reduceAdd, Nat.reduceSub, Nat.reduceMul, Int.reduceToNat]
      exact ⟨_, WkE.round (by simp only [go_sem, List.replicate_succ, Nat.reducePow, Nat.reduceLeDiff, ↓reduceIte, reduceCtorEq, Nat.reduceLT, Nat.reduceEqDiff, Nat.reduceAdd, Nat.reduceSub, Nat.reduceMul, Int.reduceToNat]) (by simp [AV.inn, AV.inn1]) (by simp) (by simp), rfl⟩
    refine CwpE.vc ?_
    have q1 : ¬ (14 : Int) = 0 := by omega
    simp only [go_sem, List.replicate_succ, Nat.reducePow, Nat.reduceLeDiff, ↓reduceIte, reduceCtorEq, Nat.reduceLT, Nat.reduceEqDiff, Nat.reduceAdd, Nat.reduceSub, Nat.reduceMul, Int.reduceToNat, q1]
    refine callT lives_s rfl ?_
    simp only [go_sem, List.replicate_succ, Nat.reducePow, Nat.reduceLeDiff, ↓reduceIte, reduceCtorEq, Nat.reduceLT, Nat.reduceEqDiff, Nat.reduceAdd, Nat.reduceSub, Nat.reduceMul, Int.reduceToNat]
    exact .tree _ rfl
  · rw [e1] at hA
    have hB := Fill_s X (1 + u1 + u2) hX3 ⟨by omega, by omega⟩
    have hC := Fill_s (X.take k) (1 + u1) (fun x hx => hX3 x (List.mem_of_mem_take hx)) ⟨by omega, by omega⟩
    rw [e2] at hB
    rw [e3, vwords, List.map_take] at hC
    have q1 : (B.length : Int) ≤ (A.length : Int) := by omega
    have q2 : (C.length : Int) ≤ (A.length : Int) := by omega
    refine CwpE.cut (st := ⟨[(2, vi more), (3, vi first), (9, vwords X), (10, vi (1 + u1)), (11, .ref 0 1 0 0), (12, vi 0)], [.arr 1 2 30 [vcert (A, K)]]⟩) ?_ ?_
    · simp only [go_sem, List.replicate_succ, Nat.reducePow, Nat.reduceLeDiff, ↓reduceIte, reduceCtorEq, Nat.reduceLT, Nat.reduceEqDiff, Nat.reduceAdd, Nat.reduceSub, Nat.reduceMul, Int.reduceToNat]
      refine callT hA rfl ?_
      simp only [go_sem, List.replicate_succ, Nat.reducePow, Nat.reduceLeDiff, ↓reduceIte, reduceCtorEq, Nat.reduceLT, Nat.reduceEqDiff, Nat.reduceAdd, Nat.reduceSub, Nat.reduceMul, Int.reduceToNat]
      exact ⟨_, WkE.keep (by simp only [go_sem, List.replicate_succ, Nat.reducePow, Nat.reduceLeDiff, ↓reduceIte, reduceCtorEq, Nat.reduceLT, Nat.reduceEqDiff, Nat.reduceAdd, Nat.reduceSub, Nat.reduceMul, Int.reduceToNat]), rfl⟩
    refine CwpE.cut (st := ⟨[(2, vi more), (3, vi first), (9, vwords X), (10, vi (1 + u1)), (11, .ref 0 1 0 0), (12, vi 0)], [.arr 1 2 30 [vcert (A, K)]]⟩) ?_ ?_
    · simp only [go_sem, List.replicate_succ, Nat.reducePow, Nat.reduceLeDiff, ↓reduceIte, reduceCtorEq, Nat.reduceLT, Nat.reduceEqDiff, Nat.reduceAdd, Nat.reduceSub, Nat.reduceMul, Int.reduceToNat]
      exact ⟨_, WkE.keep (by simp only [go_sem, List.replicate_succ, Nat.reducePow, Nat.reduceLeDiff, ↓reduceIte, reduceCtorEq, Nat.reduceLT, Nat.reduceEqDiff, Nat.reduceAdd, Nat.reduceSub, Nat.reduceMul, Int.reduceToNat]), rfl⟩
    refine CwpE.cut (st := ⟨[(3, vi first), (9, vwords X), (10, vi (1 + u1)), (11, .ref 0 1 0 0), (13, .ref 1 1 0 0), (14, vi 0)], [.arr 1 2 30 [vcert (A, K)], .arr 1 2 30 [vcert (B, L)]]⟩) ?_ ?_
    · simp only [go_sem, List.replicate_succ, Nat.reducePow, Nat.reduceLeDiff, ↓reduceIte, reduceCtorEq, Nat.reduceLT, Nat.reduceEqDiff, Nat.reduceAdd, Nat.reduceSub, Nat.reduceMul, Int.reduceToNat]
      refine callT s2 rfl ?_
      simp only [go_sem, List.replicate_succ, Nat.reducePow, Nat.reduceLeDiff, ↓reduceIte, reduceCtorEq, Nat.reduceLT, Nat.reduceEqDiff, Nat.reduceAdd, Nat.reduceSub, Nat.reduceMul, Int.reduceToNat, w2]
      refine callT hB rfl ?_
      simp only [go_sem, List.replicate_succ, Nat.reducePow, Nat.reduceLeDiff, ↓reduceIte, reduceCtorEq, Nat.reduceLT, Nat.reduceEqDiff, Nat.reduceAdd, Nat.reduceSub, Nat.reduceMul, Int.reduceToNat]
      exact ⟨_, WkE.keep (by simp only [go_sem, List.replicate_succ, Nat.reducePow, Nat.reduceLeDiff, ↓reduceIte, reduceCtorEq, Nat.reduceLT, Nat.reduceEqDiff, Nat.reduceAdd, Nat.reduceSub, Nat.reduceMul, Int.reduceToNat]), rfl⟩
    refine CwpE.cut (st := ⟨[(11, .ref 0 1 0 0), (13, .ref 1 1 0 0), (14, vi 0), (15, .ref 2 1 0 0), (16, vi 0)], [.arr 1 2 30 [vcert (A, K)], .arr 1 2 30 [vcert (B, L)], .arr 1 2 30 [vcert (C, M)]]⟩) ?_ ?_
    · simp only [go_sem, List.replicate_succ, Nat.reducePow, Nat.reduceLeDiff, ↓reduceIte, reduceCtorEq, Nat.reduceLT, Nat.reduceEqDiff, Nat.reduceAdd, Nat.reduceSub, Nat.reduceMul, Int.reduceToNat, w3]
      refine callT s3 rfl ?_
      simp only [go_sem, List.replicate_succ, Nat.reducePow, Nat.reduceLeDiff, ↓reduceIte, reduceCtorEq, Nat.reduceLT, Nat.reduceEqDiff, Nat.reduceAdd, Nat.reduceSub, Nat.reduceMul, Int.reduceToNat, g1, g2]
      refine callT hC rfl ?_
      simp only [go_sem, List.replicate_succ, Nat.reducePow, Nat.reduceLeDiff, ↓reduceIte, reduceCtorEq, Nat.reduceLT, Nat.reduceEqDiff, Nat.reduceAdd, Nat.reduceSub, Nat.reduceMul, Int.reduceToNat]
      exact ⟨_, WkE.keep (by simp only [go_sem, List.replicate_succ, Nat.reducePow, Nat.reduceLeDiff, ↓reduceIte, reduceCtorEq, Nat.reduceLT, Nat.reduceEqDiff, Nat.reduceAdd, Nat.reduceSub, Nat.reduceMul, Int.reduceToNat]), rfl⟩
    refine CwpE.vc ?_
    simp only [go_sem, List.replicate_succ, Nat.reducePow, Nat.reduceLeDiff, ↓reduceIte, reduceCtorEq, Nat.reduceLT, Nat.reduceEqDiff, Nat.reduceAdd, Nat.reduceSub, Nat.reduceMul, Int.reduceToNat, q1, q2]
    refine callT lives_s rfl ?_
    simp only [go_sem, List.replicate_succ, Nat.reducePow, Nat.reduceLeDiff, ↓reduceIte, reduceCtorEq, Nat.reduceLT, Nat.reduceEqDiff, Nat.reduceAdd, Nat.reduceSub, Nat.reduceMul, Int.reduceToNat]
    exact .tree _ rfl
end Go.Proofs.Ytehelanfgepcmaa
