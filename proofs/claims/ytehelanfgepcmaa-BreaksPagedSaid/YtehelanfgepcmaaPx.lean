/- The law BreaksPaged, by contract. -/
import Derived.Test.YtehelanfgepcmaaPw
set_option linter.unusedSimpArgs false
set_option linter.unusedVariables false
set_option linter.unusedSectionVars false
namespace Go.Proofs.Ytehelanfgepcmaa
open Go.RowKit Dak
set_option maxRecDepth 100000 in
set_option maxHeartbeats 8000000 in
theorem BreaksPaged_s (l : List Int) (lines at_ : Int) (hl : ∀ x ∈ l, I64 x) (h1 : I64 lines) (h2 : I64 at_) : Ctr Try.prog 7 [vints l, vi lines, vi at_] (vb true) := by
  refine specC f7 (by simp) fun F0 w0 => ?_
  have hK1 := keepL_len l 40 (by omega)
  have hKs := Keep_s l 40 hl (by omega) (by omega)
  generalize keepL l 40 = K at *
  have a1 := aroundL_bd lines 9 (by omega)
  have s1 := Around_s lines 9 h1 ⟨by omega, by omega⟩
  obtain ⟨L, hL⟩ : ∃ L : Nat, 1 + aroundL lines 9 = L := ⟨(1 + aroundL lines 9).toNat, by omega⟩
  have w1 : IntKind.i64.wrap (1 + aroundL lines 9) = (L : Int) := by rw [wrap_id (by omega) (by omega)]; exact hL
  have hL1 : 1 ≤ L := by omega
  have hL9 : L ≤ 9 := by omega
  have hLI : I64 L := ⟨by omega, by omega⟩
  clear hL a1
  obtain ⟨k, hk1, hk2⟩ : ∃ k : Nat, (0 < K.length → k < K.length) ∧ (0 < K.length → aroundL at_ K.length = k) := by
    by_cases h : 0 < K.length
    · have := aroundL_bd at_ K.length (by omega)
      exact ⟨(aroundL at_ K.length).toNat, fun _ => by omega, fun _ => by omega⟩
    · exact ⟨0, fun h' => absurd h' h, fun h' => absurd h' h⟩
  obtain ⟨B0, m1, hBl, law⟩ := paged_law (k := k) hL1 hL9 (K := K) (by omega)
  have hP0 := Pages_s K L hLI
  have hP1 := Pages_s (List.replicate K.length false) L hLI
  have hP2 := Pages_s (K.set k true) L hLI
  rw [m1] at hP1
  obtain ⟨B, hB⟩ : ∃ B, nI B0 = B := ⟨_, rfl⟩
  have hBq : B.length = (K.length + L - 1) / L := by rw [← hB, ← hBl]; simp [nI]
  simp only [pagesV, hB] at hP1
  unfold c7
  refine CwpE.cut (st := ⟨[(0, vints l), (1, vi lines), (2, vi at_)], []⟩) ?_ ?_
  · simp only [go_sem, List.replicate_succ, Nat.reducePow, Nat.reduceLeDiff, ↓reduceIte, reduceCtorEq, Nat.reduceLT, Nat.reduceEqDiff, Nat.reduceAdd, Nat.reduceSub, Nat.reduceMul, Int.reduceToNat]
    exact ⟨_, WkE.keep (by simp only [go_sem, List.replicate_succ, Nat.reducePow, Nat.reduceLeDiff, ↓reduceIte, reduceCtorEq, Nat.reduceLT, Nat.reduceEqDiff, Nat.reduceAdd, Nat.reduceSub, Nat.reduceMul, Int.reduceToNat]), rfl⟩
  refine CwpE.cut (st := ⟨[(1, vi lines), (2, vi at_), (7, vbools K)], []⟩) ?_ ?_
  · simp only [go_sem, List.replicate_succ, Nat.reducePow, Nat.reduceLeDiff, ↓reduceIte, reduceCtorEq, Nat.reduceLT, Nat.reduceEqDiff, Nat.reduceAdd, Nat.reduceSub, Nat.reduceMul, Int.reduceToNat]
    refine callT hKs rfl ?_
    simp only [go_sem, List.replicate_succ, Nat.reducePow, Nat.reduceLeDiff, ↓reduceIte, reduceCtorEq, Nat.reduceLT, Nat.reduceEqDiff, Nat.reduceAdd, Nat.reduceSub, Nat.reduceMul, Int.reduceToNat]
    exact ⟨_, WkE.keep (by simp only [go_sem, List.replicate_succ, Nat.reducePow, Nat.reduceLeDiff, ↓reduceIte, reduceCtorEq, Nat.reduceLT, Nat.reduceEqDiff, Nat.reduceAdd, Nat.reduceSub, Nat.reduceMul, Int.reduceToNat]), rfl⟩
  refine CwpE.cut (st := ⟨[(2, vi at_), (7, vbools K), (8, vi L)], []⟩) ?_ ?_
  · simp only [go_sem, List.replicate_succ, Nat.reducePow, Nat.reduceLeDiff, ↓reduceIte, reduceCtorEq, Nat.reduceLT, Nat.reduceEqDiff, Nat.reduceAdd, Nat.reduceSub, Nat.reduceMul, Int.reduceToNat]
    refine callT s1 rfl ?_
    simp only [go_sem, List.replicate_succ, Nat.reducePow, Nat.reduceLeDiff, ↓reduceIte, reduceCtorEq, Nat.reduceLT, Nat.reduceEqDiff, Nat.reduceAdd, Nat.reduceSub, Nat.reduceMul, Int.reduceToNat, w1]
    exact ⟨_, WkE.keep (by simp only [go_sem, List.replicate_succ, Nat.reducePow, Nat.reduceLeDiff, ↓reduceIte, reduceCtorEq, Nat.reduceLT, Nat.reduceEqDiff, Nat.reduceAdd, Nat.reduceSub, Nat.reduceMul, Int.reduceToNat]), rfl⟩
  rcases hm : pagesM K L with ⟨e, A0⟩
  rw [hm] at hP0
  obtain ⟨A, hA⟩ : ∃ A, nI A0 = A := ⟨_, rfl⟩
  have hA0l : A.length = A0.length := by rw [← hA]; simp [nI]
  simp only [pagesV, hA] at hP0
  refine CwpE.cut (st := ⟨[(2, vi at_), (7, vbools K), (8, vi L), (9, vints A), (10, vi e)], []⟩) ?_ ?_
  · simp only [go_sem, List.replicate_succ, Nat.reducePow, Nat.reduceLeDiff, ↓reduceIte, reduceCtorEq, Nat.reduceLT, Nat.reduceEqDiff, Nat.reduceAdd, Nat.reduceSub, Nat.reduceMul, Int.reduceToNat]
    refine callT hP0 rfl ?_
    simp only [go_sem, List.replicate_succ, Nat.reducePow, Nat.reduceLeDiff, ↓reduceIte, reduceCtorEq, Nat.reduceLT, Nat.reduceEqDiff, Nat.reduceAdd, Nat.reduceSub, Nat.reduceMul, Int.reduceToNat]
    exact ⟨_, WkE.keep (by simp only [go_sem, List.replicate_succ, Nat.reducePow, Nat.reduceLeDiff, ↓reduceIte, reduceCtorEq, Nat.reduceLT, Nat.reduceEqDiff, Nat.reduceAdd, Nat.reduceSub, Nat.reduceMul, Int.reduceToNat]), rfl⟩
  refine CwpE.seqJ (fun s => s = ⟨[(2, vi at_), (7, vbools K), (8, vi L), (9, vints A), (10, vi e), (11, vints B), (12, vi 0)], []⟩) (CwpE.regionW 3 ?_) ?_
  · have q1 : (0 : Int) ≤ (K.length : Int) := by omega
    have q2 : (K.length : Int) ≤ (K.length : Int) := Int.le_refl _
    have q3 : ((1 : Nat) : Int) * (K.length : Int) ≤ 281474976710656 := by omega
    have q4 : (K.length : Int) ≤ 9223372036854775807 := by omega
    simp only [go_sem, Nat.reducePow, Nat.reduceLeDiff, ↓reduceIte, reduceCtorEq, Nat.reduceLT, Nat.reduceEqDiff, Nat.reduceAdd, Nat.reduceSub, Nat.reduceMul, Int.reduceToNat, q1, q2, q3, q4]
    refine ⟨⟨[(2, vi at_), (7, vbools K), (8, vi L), (9, vints A), (10, vi e), (30, vbools (List.replicate K.length false))], []⟩, ?_, ?_⟩
    · refine (WkE.freeze 30 0 K.length 0 K.length 1 4 (List.replicate K.length (vb false)) (by omega) rfl rfl (by rw [List.length_replicate]; omega) (List.all_eq_true.2 fun x hx => by rw [(List.mem_replicate.1 hx).2]; rfl)).trans (WkE.round ?_ (by simp [AV.inn, AV.inn1]) rfl rfl)
      simp only [go_sem, Nat.reducePow, Nat.reduceLeDiff, ↓reduceIte, reduceCtorEq, Nat.reduceLT, Nat.reduceEqDiff, Nat.reduceAdd, Nat.reduceSub, Nat.reduceMul, Int.reduceToNat, List.map_replicate]
      exact congrArg (AV.list 1) ((List.take_of_length_le (Nat.le_of_eq List.length_replicate)).trans List.map_replicate.symm)
    simp only [go_sem, Nat.reducePow, Nat.reduceLeDiff, ↓reduceIte, reduceCtorEq, Nat.reduceLT, Nat.reduceEqDiff, Nat.reduceAdd, Nat.reduceSub, Nat.reduceMul, Int.reduceToNat]
    refine callT hP1 (by simp [AV.isT, AV.isT1]) ?_
    simp only [go_sem, Nat.reducePow, Nat.reduceLeDiff, ↓reduceIte, reduceCtorEq, Nat.reduceLT, Nat.reduceEqDiff, Nat.reduceAdd, Nat.reduceSub, Nat.reduceMul, Int.reduceToNat]
    exact ⟨_, WkE.keep (by simp only [go_sem, List.replicate_succ, Nat.reducePow, Nat.reduceLeDiff, ↓reduceIte, reduceCtorEq, Nat.reduceLT, Nat.reduceEqDiff, Nat.reduceAdd, Nat.reduceSub, Nat.reduceMul, Int.reduceToNat]), rfl⟩
  rintro s rfl
  have z1 : ¬ (L : Int) = 0 := by omega
  have w2 : IntKind.i64.wrap ((K.length : Int) + (L : Int)) = ((K.length + L : Nat) : Int) := by rw [wrap_id (by omega) (by omega)]; omega
  have w3 : IntKind.i64.wrap (((K.length + L : Nat) : Int) - 1) = ((K.length + L - 1 : Nat) : Int) := by rw [wrap_id (by omega) (by omega)]; omega
  have hdiv : (K.length + L - 1) / L ≤ K.length + L - 1 := Nat.div_le_self _ _
  have w4 : IntKind.i64.wrap (((K.length + L - 1 : Nat) : Int).tdiv (L : Int)) = (B.length : Int) := by
    rw [hBq, ← Int.ofNat_tdiv, wrap_id (by omega) (by omega)]
  have hA' : ∀ x ∈ A, I64 x := fun x hx => by
    rw [← hA] at hx
    obtain ⟨y, hy, rfl⟩ := List.mem_map.1 hx
    have := (pagesM_bd K L).2 y (by rw [hm]; exact hy)
    exact ⟨by omega, by omega⟩
  have hAl : A.length ≤ 40 := by have := (pagesM_bd K L).1; rw [hm] at this; simp only at this; omega
  have hPg := Paged_s K L A hLI hA' (by omega) (by omega)
  refine CwpE.cut (st := ⟨[(2, vi at_), (7, vbools K), (8, vi L), (9, vints A), (10, vi e)], []⟩) ?_ ?_
  · rcases law with ⟨A1, e1, e2, e3, _⟩ | ⟨e1, _⟩
    · rw [hm] at e1
      obtain ⟨rfl, rfl⟩ : e = 0 ∧ A0 = A1 := by simpa using e1
      rw [hA] at e3
      rw [e3] at hPg
      have q1 : ¬ (A.length : Int) < (B.length : Int) := by omega
      simp only [go_sem, List.replicate_succ, Nat.reducePow, Nat.reduceLeDiff, ↓reduceIte, reduceCtorEq, Nat.reduceLT, Nat.reduceEqDiff, Nat.reduceAdd, Nat.reduceSub, Nat.reduceMul, Int.reduceToNat, z1, w2, w3, w4, q1]
      refine callT hPg rfl ?_
      simp only [go_sem, List.replicate_succ, Nat.reducePow, Nat.reduceLeDiff, ↓reduceIte, reduceCtorEq, Nat.reduceLT, Nat.reduceEqDiff, Nat.reduceAdd, Nat.reduceSub, Nat.reduceMul, Int.reduceToNat]
      exact ⟨_, WkE.keep (by simp only [go_sem, List.replicate_succ, Nat.reducePow, Nat.reduceLeDiff, ↓reduceIte, reduceCtorEq, Nat.reduceLT, Nat.reduceEqDiff, Nat.reduceAdd, Nat.reduceSub, Nat.reduceMul, Int.reduceToNat]), rfl⟩
    · rw [hm] at e1
      obtain ⟨rfl, rfl⟩ : e = 14 ∧ A0 = [] := by simpa using e1
      have q1 : ¬ (14 : Int) = 0 := by omega
      simp only [go_sem, List.replicate_succ, Nat.reducePow, Nat.reduceLeDiff, ↓reduceIte, reduceCtorEq, Nat.reduceLT, Nat.reduceEqDiff, Nat.reduceAdd, Nat.reduceSub, Nat.reduceMul, Int.reduceToNat, z1, w2, w3, w4, q1]
      exact ⟨_, WkE.keep (by simp only [go_sem, List.replicate_succ, Nat.reducePow, Nat.reduceLeDiff, ↓reduceIte, reduceCtorEq, Nat.reduceLT, Nat.reduceEqDiff, Nat.reduceAdd, Nat.reduceSub, Nat.reduceMul, Int.reduceToNat]), rfl⟩
  by_cases h0 : K.length = 0
  · have h0' : ((K.length : Int) = 0) = True := eq_true (by omega)
    refine CwpE.vc ?_
    simp only [go_sem, List.replicate_succ, Nat.reducePow, Nat.reduceLeDiff, ↓reduceIte, reduceCtorEq, Nat.reduceLT, Nat.reduceEqDiff, Nat.reduceAdd, Nat.reduceSub, Nat.reduceMul, Int.reduceToNat, h0']
    refine callT lives_s rfl ?_
    simp only [go_sem, List.replicate_succ, Nat.reducePow, Nat.reduceLeDiff, ↓reduceIte, reduceCtorEq, Nat.reduceLT, Nat.reduceEqDiff, Nat.reduceAdd, Nat.reduceSub, Nat.reduceMul, Int.reduceToNat]
    exact .tree _ rfl
  have h0' : ¬ (K.length : Int) = 0 := by omega
  have hb : K.length * 1 ≤ 140737488355328 := by omega
  have hk1 := hk1 (by omega)
  have hk2 := hk2 (by omega)
  have s2 := Around_s at_ K.length h2 ⟨by omega, by omega⟩
  rw [hk2] at s2
  refine CwpE.cut (st := ⟨[(2, vi at_), (7, vbools K), (8, vi L), (9, vints A), (10, vi e)], []⟩) ?_ ?_
  · simp only [go_sem, List.replicate_succ, Nat.reducePow, Nat.reduceLeDiff, ↓reduceIte, reduceCtorEq, Nat.reduceLT, Nat.reduceEqDiff, Nat.reduceAdd, Nat.reduceSub, Nat.reduceMul, Int.reduceToNat, h0']
    exact ⟨_, WkE.keep (by simp only [go_sem, List.replicate_succ, Nat.reducePow, Nat.reduceLeDiff, ↓reduceIte, reduceCtorEq, Nat.reduceLT, Nat.reduceEqDiff, Nat.reduceAdd, Nat.reduceSub, Nat.reduceMul, Int.reduceToNat]), rfl⟩
  refine CwpE.cut (st := ⟨[(2, vi at_), (8, vi L), (9, vints A), (10, vi e), (13, ownV 0 K.length)], [.arr K.length 1 4 (K.map vb)]⟩) ?_ ?_
  · simp only [go_sem, List.replicate_succ, Nat.reducePow, Nat.reduceLeDiff, ↓reduceIte, reduceCtorEq, Nat.reduceLT, Nat.reduceEqDiff, Nat.reduceAdd, Nat.reduceSub, Nat.reduceMul, Int.reduceToNat, h0, hb]
    exact ⟨_, WkE.keep (by simp only [go_sem, List.replicate_succ, Nat.reducePow, Nat.reduceLeDiff, ↓reduceIte, reduceCtorEq, Nat.reduceLT, Nat.reduceEqDiff, Nat.reduceAdd, Nat.reduceSub, Nat.reduceMul, Int.reduceToNat]), rfl⟩
  refine CwpE.cut (st := ⟨[(8, vi L), (9, vints A), (10, vi e), (13, vbools (K.set k true))], []⟩) ?_ ?_
  · have q1 : (0 : Int) ≤ (k : Int) := by omega
    have q2 : (k : Int) < (K.length : Int) := by omega
    simp only [go_sem, List.replicate_succ, Nat.reducePow, Nat.reduceLeDiff, ↓reduceIte, reduceCtorEq, Nat.reduceLT, Nat.reduceEqDiff, Nat.reduceAdd, Nat.reduceSub, Nat.reduceMul, Int.reduceToNat]
    refine callT s2 rfl ?_
    simp only [go_sem, List.replicate_succ, Nat.reducePow, Nat.reduceLeDiff, ↓reduceIte, reduceCtorEq, Nat.reduceLT, Nat.reduceEqDiff, Nat.reduceAdd, Nat.reduceSub, Nat.reduceMul, Int.reduceToNat, q1, q2, List.getElem?_map, List.getElem?_eq_getElem hk1]
    refine ⟨_, (WkE.freeze 13 0 K.length 0 K.length 1 4 ((K.map vb).set k (vb true)) (by omega) rfl rfl (by rw [List.length_set, List.length_map]; omega) ?_).trans (WkE.round ?_ (by simp [AV.inn, AV.inn1]) rfl rfl), rfl⟩
    · rw [← List.map_set, List.all_map]; exact List.all_eq_true.2 fun x _ => rfl
    · simp only [go_sem, List.replicate_succ, Nat.reducePow, Nat.reduceLeDiff, ↓reduceIte, reduceCtorEq, Nat.reduceLT, Nat.reduceEqDiff, Nat.reduceAdd, Nat.reduceSub, Nat.reduceMul, Int.reduceToNat]
      rw [List.take_of_length_le (by rw [List.length_set, List.length_map]; exact Nat.le_refl _), ← List.map_set]
  rcases hm2 : pagesM (K.set k true) L with ⟨g, C0⟩
  rw [hm2] at hP2
  obtain ⟨C, hC⟩ : ∃ C, nI C0 = C := ⟨_, rfl⟩
  have hC0l : C.length = C0.length := by rw [← hC]; simp [nI]
  simp only [pagesV, hC] at hP2
  refine CwpE.cut (st := ⟨[(9, vints A), (10, vi e), (14, vints C), (15, vi g)], []⟩) ?_ ?_
  · simp only [go_sem, List.replicate_succ, Nat.reducePow, Nat.reduceLeDiff, ↓reduceIte, reduceCtorEq, Nat.reduceLT, Nat.reduceEqDiff, Nat.reduceAdd, Nat.reduceSub, Nat.reduceMul, Int.reduceToNat]
    refine callT hP2 rfl ?_
    simp only [go_sem, List.replicate_succ, Nat.reducePow, Nat.reduceLeDiff, ↓reduceIte, reduceCtorEq, Nat.reduceLT, Nat.reduceEqDiff, Nat.reduceAdd, Nat.reduceSub, Nat.reduceMul, Int.reduceToNat]
    exact ⟨_, WkE.keep (by simp only [go_sem, List.replicate_succ, Nat.reducePow, Nat.reduceLeDiff, ↓reduceIte, reduceCtorEq, Nat.reduceLT, Nat.reduceEqDiff, Nat.reduceAdd, Nat.reduceSub, Nat.reduceMul, Int.reduceToNat]), rfl⟩
  refine CwpE.vc ?_
  rcases law with ⟨A1, e1, _, _, law⟩ | ⟨e1, e2⟩
  · rw [hm] at e1
    obtain ⟨rfl, rfl⟩ : e = 0 ∧ A0 = A1 := by simpa using e1
    rcases law with e2 | ⟨C1, e2, e3⟩
    · rw [hm2] at e2
      obtain ⟨rfl, rfl⟩ : g = 14 ∧ C0 = [] := by simpa using e2
      simp only [go_sem, List.replicate_succ, Nat.reducePow, Nat.reduceLeDiff, ↓reduceIte, reduceCtorEq, Nat.reduceLT, Nat.reduceEqDiff, Nat.reduceAdd, Nat.reduceSub, Nat.reduceMul, Int.reduceToNat]
      refine callT lives_s rfl ?_
      simp only [go_sem, List.replicate_succ, Nat.reducePow, Nat.reduceLeDiff, ↓reduceIte, reduceCtorEq, Nat.reduceLT, Nat.reduceEqDiff, Nat.reduceAdd, Nat.reduceSub, Nat.reduceMul, Int.reduceToNat]
      exact .tree _ rfl
    · rw [hm2] at e2
      obtain ⟨rfl, rfl⟩ : g = 0 ∧ C0 = C1 := by simpa using e2
      have q1 : (A.length : Int) ≤ (C.length : Int) := by omega
      have q2 : ¬ (0 : Int) = 14 := by omega
      simp only [go_sem, List.replicate_succ, Nat.reducePow, Nat.reduceLeDiff, ↓reduceIte, reduceCtorEq, Nat.reduceLT, Nat.reduceEqDiff, Nat.reduceAdd, Nat.reduceSub, Nat.reduceMul, Int.reduceToNat, q1, q2]
      refine callT lives_s rfl ?_
      simp only [go_sem, List.replicate_succ, Nat.reducePow, Nat.reduceLeDiff, ↓reduceIte, reduceCtorEq, Nat.reduceLT, Nat.reduceEqDiff, Nat.reduceAdd, Nat.reduceSub, Nat.reduceMul, Int.reduceToNat]
      exact .tree _ rfl
  · rw [hm] at e1
    obtain ⟨rfl, rfl⟩ : e = 14 ∧ A0 = [] := by simpa using e1
    rw [hm2] at e2
    obtain ⟨rfl, rfl⟩ : g = 14 ∧ C0 = [] := by simpa using e2
    have q1 : ¬ (14 : Int) = 0 := by omega
    simp only [go_sem, List.replicate_succ, Nat.reducePow, Nat.reduceLeDiff, ↓reduceIte, reduceCtorEq, Nat.reduceLT, Nat.reduceEqDiff, Nat.reduceAdd, Nat.reduceSub, Nat.reduceMul, Int.reduceToNat, q1]
    refine callT lives_s rfl ?_
    simp only [go_sem, List.replicate_succ, Nat.reducePow, Nat.reduceLeDiff, ↓reduceIte, reduceCtorEq, Nat.reduceLT, Nat.reduceEqDiff, Nat.reduceAdd, Nat.reduceSub, Nat.reduceMul, Int.reduceToNat]
    exact .tree _ rfl
end Go.Proofs.Ytehelanfgepcmaa
