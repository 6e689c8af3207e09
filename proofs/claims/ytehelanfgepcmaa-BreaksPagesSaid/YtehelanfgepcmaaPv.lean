/- The law BreaksPages, by contract. -/
import Derived.Test.YtehelanfgepcmaaPu
import Derived.Test.YtehelanfgepcmaaPe
import Derived.Test.YtehelanfgepcmaaDz
set_option linter.unusedSimpArgs false
set_option linter.unusedVariables false
set_option linter.unusedSectionVars false
namespace Go.Proofs.Ytehelanfgepcmaa
open Go.RowKit Dak
def zOf (k : Nat) : Int := ([0, 1001, 1000, -1] : List Int).getD k 0
theorem none_M : pagesM (List.replicate 4097 false) 5 = (1, []) := by rw [pagesM, if_pos (.inr (.inr (by rw [List.length_replicate]; omega)))]
set_option maxRecDepth 100000 in
set_option maxHeartbeats 8000000 in
theorem BreaksPages_s (l : List Int) (lines at_ by_ : Int) (raw : List Int) (hl : ∀ x ∈ l, I64 x) (h1 : I64 lines) (h2 : I64 at_) (h3 : I64 by_) (h4 : ∀ x ∈ raw, I64 x) :
    Ctr Try.prog 6 [vints l, vi lines, vi at_, vi by_, vints raw] (vb true) := by
  refine specC f6 (by simp) fun F0 w0 => ?_
  have hK1 := keepL_len l 30 (by omega)
  have hKs := Keep_s l 30 hl (by omega) (by omega)
  generalize keepL l 30 = K at *
  have a1 := aroundL_bd lines 9 (by omega)
  have a2 := aroundL_bd lines 4 (by omega)
  have s1 := Around_s lines 9 h1 ⟨by omega, by omega⟩
  have s2 := Around_s lines 4 h1 ⟨by omega, by omega⟩
  generalize aroundL lines 9 = u1 at *
  obtain ⟨k2, hk2⟩ : ∃ k : Nat, aroundL lines 4 = k := ⟨(aroundL lines 4).toNat, by omega⟩
  rw [hk2] at a2 s2
  have w1 : IntKind.i64.wrap (1 + u1) = 1 + u1 := wrap_id (by omega) (by omega)
  have hzo : I64 (zOf k2) := by
    rcases (by omega : k2 = 0 ∨ k2 = 1 ∨ k2 = 2 ∨ k2 = 3) with rfl | rfl | rfl | rfl <;> exact ⟨by decide, by decide⟩
  unfold c6
  refine CwpE.cut (st := ⟨[(0, vints l), (1, vi lines), (2, vi at_), (3, vi by_), (4, vints raw)], []⟩) ?_ ?_
  · simp only [go_sem, List.replicate_succ, Nat.reducePow, Nat.reduceLeDiff, ↓reduceIte, reduceCtorEq, Nat.reduceLT, Nat.reduceEqDiff, Nat.reduceAdd, Nat.reduceSub, Nat.reduceMul, Int.reduceToNat]
    exact ⟨_, WkE.keep (by simp only [go_sem, List.replicate_succ, Nat.reducePow, Nat.reduceLeDiff, ↓reduceIte, reduceCtorEq, Nat.reduceLT, Nat.reduceEqDiff, Nat.reduceAdd, Nat.reduceSub, Nat.reduceMul, Int.reduceToNat]), rfl⟩
  refine CwpE.cut (st := ⟨[(1, vi lines), (2, vi at_), (3, vi by_), (4, vints raw), (11, vbools K)], []⟩) ?_ ?_
  · simp only [go_sem, List.replicate_succ, Nat.reducePow, Nat.reduceLeDiff, ↓reduceIte, reduceCtorEq, Nat.reduceLT, Nat.reduceEqDiff, Nat.reduceAdd, Nat.reduceSub, Nat.reduceMul, Int.reduceToNat]
    refine callT hKs rfl ?_
    simp only [go_sem, List.replicate_succ, Nat.reducePow, Nat.reduceLeDiff, ↓reduceIte, reduceCtorEq, Nat.reduceLT, Nat.reduceEqDiff, Nat.reduceAdd, Nat.reduceSub, Nat.reduceMul, Int.reduceToNat]
    exact ⟨_, WkE.keep (by simp only [go_sem, List.replicate_succ, Nat.reducePow, Nat.reduceLeDiff, ↓reduceIte, reduceCtorEq, Nat.reduceLT, Nat.reduceEqDiff, Nat.reduceAdd, Nat.reduceSub, Nat.reduceMul, Int.reduceToNat]), rfl⟩
  refine CwpE.cut (st := ⟨[(2, vi at_), (3, vi by_), (4, vints raw), (11, vbools K), (12, vints [1 + u1, zOf k2])], []⟩) ?_ ?_
  · simp only [go_sem, List.replicate_succ, Nat.reducePow, Nat.reduceLeDiff, ↓reduceIte, reduceCtorEq, Nat.reduceLT, Nat.reduceEqDiff, Nat.reduceAdd, Nat.reduceSub, Nat.reduceMul, Int.reduceToNat]
    refine callT s1 rfl ?_
    simp only [go_sem, List.replicate_succ, Nat.reducePow, Nat.reduceLeDiff, ↓reduceIte, reduceCtorEq, Nat.reduceLT, Nat.reduceEqDiff, Nat.reduceAdd, Nat.reduceSub, Nat.reduceMul, Int.reduceToNat, w1]
    refine callT s2 rfl ?_
    rcases (by omega : k2 = 0 ∨ k2 = 1 ∨ k2 = 2 ∨ k2 = 3) with rfl | rfl | rfl | rfl
    · simp only [go_sem, List.replicate_succ, Nat.reducePow, Nat.reduceLeDiff, ↓reduceIte, reduceCtorEq, Nat.reduceLT, Nat.reduceEqDiff, Nat.reduceAdd, Nat.reduceSub, Nat.reduceMul, Int.reduceToNat, show (0 : Int) ≤ ((0 : Nat) : Int) by omega, show ((0 : Nat) : Int) < ((4 : Nat) : Int) by omega]
      exact ⟨_, WkE.keep (by simp only [go_sem, List.replicate_succ, Nat.reducePow, Nat.reduceLeDiff, ↓reduceIte, reduceCtorEq, Nat.reduceLT, Nat.reduceEqDiff, Nat.reduceAdd, Nat.reduceSub, Nat.reduceMul, Int.reduceToNat]; rfl), rfl⟩
    · simp only [go_sem, List.replicate_succ, Nat.reducePow, Nat.reduceLeDiff, ↓reduceIte, reduceCtorEq, Nat.reduceLT, Nat.reduceEqDiff, Nat.reduceAdd, Nat.reduceSub, Nat.reduceMul, Int.reduceToNat, show (0 : Int) ≤ ((1 : Nat) : Int) by omega, show ((1 : Nat) : Int) < ((4 : Nat) : Int) by omega]
      exact ⟨_, WkE.keep (by simp only [go_sem, List.replicate_succ, Nat.reducePow, Nat.reduceLeDiff, ↓reduceIte, reduceCtorEq, Nat.reduceLT, Nat.reduceEqDiff, Nat.reduceAdd, Nat.reduceSub, Nat.reduceMul, Int.reduceToNat]; rfl), rfl⟩
    · simp only [go_sem, List.replicate_succ, Nat.reducePow, Nat.reduceLeDiff, ↓reduceIte, reduceCtorEq, Nat.reduceLT, Nat.reduceEqDiff, Nat.reduceAdd, Nat.reduceSub, Nat.reduceMul, Int.reduceToNat, show (0 : Int) ≤ ((2 : Nat) : Int) by omega, show ((2 : Nat) : Int) < ((4 : Nat) : Int) by omega]
      exact ⟨_, WkE.keep (by simp only [go_sem, List.replicate_succ, Nat.reducePow, Nat.reduceLeDiff, ↓reduceIte, reduceCtorEq, Nat.reduceLT, Nat.reduceEqDiff, Nat.reduceAdd, Nat.reduceSub, Nat.reduceMul, Int.reduceToNat]; rfl), rfl⟩
    · simp only [go_sem, List.replicate_succ, Nat.reducePow, Nat.reduceLeDiff, ↓reduceIte, reduceCtorEq, Nat.reduceLT, Nat.reduceEqDiff, Nat.reduceAdd, Nat.reduceSub, Nat.reduceMul, Int.reduceToNat, show (0 : Int) ≤ ((3 : Nat) : Int) by omega, show ((3 : Nat) : Int) < ((4 : Nat) : Int) by omega]
      exact ⟨_, WkE.keep (by simp only [go_sem, List.replicate_succ, Nat.reducePow, Nat.reduceLeDiff, ↓reduceIte, reduceCtorEq, Nat.reduceLT, Nat.reduceEqDiff, Nat.reduceAdd, Nat.reduceSub, Nat.reduceMul, Int.reduceToNat]; rfl), rfl⟩
  obtain ⟨Z, hZ⟩ : ∃ Z, [1 + u1, zOf k2] = Z := ⟨_, rfl⟩
  have hZ1 : Z.length = 2 := by rw [← hZ]; rfl
  have hZ2 : ∀ x ∈ Z, I64 x := by
    rw [← hZ]
    intro x hx
    rcases List.mem_cons.1 hx with rfl | hx
    · exact ⟨by omega, by omega⟩
    · rw [List.mem_singleton.1 hx]; exact hzo
  rw [hZ]
  clear hZ hzo s1 s2 w1 a1 a2 hk2
  refine CwpE.cut (st := ⟨[], []⟩) ?_ ?_
  · simp only [go_sem, List.replicate_succ, Nat.reducePow, Nat.reduceLeDiff, ↓reduceIte, reduceCtorEq, Nat.reduceLT, Nat.reduceEqDiff, Nat.reduceAdd, Nat.reduceSub, Nat.reduceMul, Int.reduceToNat]
    refine loopXC 0 (fun m s => ∃ i : Nat, m = 2 - i ∧ i ≤ 2 ∧ s = ⟨[(2, vi at_), (3, vi by_), (4, vints raw), (11, vbools K), (12, vints Z), (13, vi i)], []⟩) (fun s => s = ⟨[], []⟩) 2
      ⟨[(2, vi at_), (3, vi by_), (4, vints raw), (11, vbools K), (12, vints Z), (13, vi (0 : Nat))], []⟩ (WkE.keep (by simp only [go_sem, List.replicate_succ, Nat.reducePow, Nat.reduceLeDiff, ↓reduceIte, reduceCtorEq, Nat.reduceLT, Nat.reduceEqDiff, Nat.reduceAdd, Nat.reduceSub, Nat.reduceMul, Int.reduceToNat]; rfl)) ⟨0, by omega, by omega, rfl⟩ ?_ ?_
    rotate_left
    · rintro s rfl
      simp only [go_sem, List.replicate_succ, Nat.reducePow, Nat.reduceLeDiff, ↓reduceIte, reduceCtorEq, Nat.reduceLT, Nat.reduceEqDiff, Nat.reduceAdd, Nat.reduceSub, Nat.reduceMul, Int.reduceToNat]
      exact ⟨_, .refl _ _, rfl⟩
    rintro m s ⟨i, rfl, hi, rfl⟩
    by_cases hlt : i < 2
    rotate_left
    · have g : ¬ (i : Int) < 2 := by omega
      refine CwpE.vc ?_
      simp only [go_sem, List.replicate_succ, Nat.reducePow, Nat.reduceLeDiff, ↓reduceIte, reduceCtorEq, Nat.reduceLT, Nat.reduceEqDiff, Nat.reduceAdd, Nat.reduceSub, Nat.reduceMul, Int.reduceToNat, g]
      exact ⟨_, WkE.keep (by simp only [go_sem, List.replicate_succ, Nat.reducePow, Nat.reduceLeDiff, ↓reduceIte, reduceCtorEq, Nat.reduceLT, Nat.reduceEqDiff, Nat.reduceAdd, Nat.reduceSub, Nat.reduceMul, Int.reduceToNat]), rfl⟩
    have g1 : (i : Int) < 2 := by omega
    have g2 : (0 : Int) ≤ (i : Int) := by omega
    have g3 : (i : Int) < (Z.length : Int) := by omega
    have g4 : i < Z.length := by omega
    have g5 := hZ2 _ (List.getElem_mem g4)
    generalize hz : Z[i] = z at g5
    have w6 : IntKind.i64.wrap ((i : Int) + 1) = ((i + 1 : Nat) : Int) := by rw [wrap_id (by omega) (by omega)]; rfl
    refine CwpE.cut (st := ⟨[(2, vi at_), (3, vi by_), (4, vints raw), (11, vbools K), (12, vints Z), (13, vi i)], []⟩) ?_ ?_
    · simp only [go_sem, List.replicate_succ, Nat.reducePow, Nat.reduceLeDiff, ↓reduceIte, reduceCtorEq, Nat.reduceLT, Nat.reduceEqDiff, Nat.reduceAdd, Nat.reduceSub, Nat.reduceMul, Int.reduceToNat, g1]
      exact ⟨_, WkE.keep (by simp only [go_sem, List.replicate_succ, Nat.reducePow, Nat.reduceLeDiff, ↓reduceIte, reduceCtorEq, Nat.reduceLT, Nat.reduceEqDiff, Nat.reduceAdd, Nat.reduceSub, Nat.reduceMul, Int.reduceToNat]), rfl⟩
    refine CwpE.seqJ (fun s => s = ⟨[(2, vi at_), (3, vi by_), (4, vints raw), (11, vbools K), (12, vints Z), (13, vi i)], []⟩) (CwpE.block ?_) ?_
    rotate_left
    · rintro s rfl
      refine CwpE.vc ?_
      simp only [go_sem, List.replicate_succ, Nat.reducePow, Nat.reduceLeDiff, ↓reduceIte, reduceCtorEq, Nat.reduceLT, Nat.reduceEqDiff, Nat.reduceAdd, Nat.reduceSub, Nat.reduceMul, Int.reduceToNat, w6]
      exact ⟨2 - (i + 1), ⟨[(2, vi at_), (3, vi by_), (4, vints raw), (11, vbools K), (12, vints Z), (13, vi (i + 1 : Nat))], []⟩, by omega, WkE.keep (by simp only [go_sem, List.replicate_succ, Nat.reducePow, Nat.reduceLeDiff, ↓reduceIte, reduceCtorEq, Nat.reduceLT, Nat.reduceEqDiff, Nat.reduceAdd, Nat.reduceSub, Nat.reduceMul, Int.reduceToNat]), i + 1, rfl, by omega, rfl⟩
    have hP := Pages_s K z g5
    have hQ := refPages_s K z g5
    obtain ⟨b1, b2⟩ := pagesM_bd K z
    rcases hm : pagesM K z with ⟨e, A0⟩
    rw [hm] at hP hQ b1 b2
    simp only at b1 b2
    obtain ⟨A, hA⟩ : ∃ A, nI A0 = A := ⟨_, rfl⟩
    have hAl : A.length ≤ 30 := by rw [← hA]; simp [nI]; omega
    have hAI : ∀ x ∈ A, 0 ≤ x ∧ x ≤ 30 := fun x hx => by
      rw [← hA] at hx
      obtain ⟨y, hy, rfl⟩ := List.mem_map.1 hx
      have := b2 y hy
      omega
    simp only [pagesV, hA] at hP hQ
    clear hm b1 b2 hA
    refine CwpE.cut (st := ⟨[(2, vi at_), (3, vi by_), (4, vints raw), (11, vbools K), (12, vints Z), (13, vi i), (14, vints A), (15, vi e)], []⟩) ?_ ?_
    · simp only [go_sem, List.replicate_succ, Nat.reducePow, Nat.reduceLeDiff, ↓reduceIte, reduceCtorEq, Nat.reduceLT, Nat.reduceEqDiff, Nat.reduceAdd, Nat.reduceSub, Nat.reduceMul, Int.reduceToNat, g2, g3, List.getElem?_map, List.getElem?_eq_getElem g4, hz]
      refine callT hP rfl ?_
      simp only [go_sem, List.replicate_succ, Nat.reducePow, Nat.reduceLeDiff, ↓reduceIte, reduceCtorEq, Nat.reduceLT, Nat.reduceEqDiff, Nat.reduceAdd, Nat.reduceSub, Nat.reduceMul, Int.reduceToNat]
      exact ⟨_, WkE.keep (by simp only [go_sem, List.replicate_succ, Nat.reducePow, Nat.reduceLeDiff, ↓reduceIte, reduceCtorEq, Nat.reduceLT, Nat.reduceEqDiff, Nat.reduceAdd, Nat.reduceSub, Nat.reduceMul, Int.reduceToNat]), rfl⟩
    refine CwpE.cut (st := ⟨[(2, vi at_), (3, vi by_), (4, vints raw), (11, vbools K), (12, vints Z), (13, vi i), (14, vints A), (15, vi e), (16, vints A), (17, vi e)], []⟩) ?_ ?_
    · simp only [go_sem, List.replicate_succ, Nat.reducePow, Nat.reduceLeDiff, ↓reduceIte, reduceCtorEq, Nat.reduceLT, Nat.reduceEqDiff, Nat.reduceAdd, Nat.reduceSub, Nat.reduceMul, Int.reduceToNat, g2, g3, List.getElem?_map, List.getElem?_eq_getElem g4, hz]
      refine callT hQ rfl ?_
      simp only [go_sem, List.replicate_succ, Nat.reducePow, Nat.reduceLeDiff, ↓reduceIte, reduceCtorEq, Nat.reduceLT, Nat.reduceEqDiff, Nat.reduceAdd, Nat.reduceSub, Nat.reduceMul, Int.reduceToNat]
      exact ⟨_, WkE.keep (by simp only [go_sem, List.replicate_succ, Nat.reducePow, Nat.reduceLeDiff, ↓reduceIte, reduceCtorEq, Nat.reduceLT, Nat.reduceEqDiff, Nat.reduceAdd, Nat.reduceSub, Nat.reduceMul, Int.reduceToNat]), rfl⟩
    refine CwpE.cut (st := ⟨[(2, vi at_), (3, vi by_), (4, vints raw), (11, vbools K), (12, vints Z), (13, vi i), (16, vints A)], []⟩) ?_ ?_
    · simp only [go_sem, List.replicate_succ, Nat.reducePow, Nat.reduceLeDiff, ↓reduceIte, reduceCtorEq, Nat.reduceLT, Nat.reduceEqDiff, Nat.reduceAdd, Nat.reduceSub, Nat.reduceMul, Int.reduceToNat]
      refine callT (SameInts_s A A (by omega)) rfl ?_
      simp only [go_sem, List.replicate_succ, Nat.reducePow, Nat.reduceLeDiff, ↓reduceIte, reduceCtorEq, Nat.reduceLT, Nat.reduceEqDiff, Nat.reduceAdd, Nat.reduceSub, Nat.reduceMul, Int.reduceToNat]
      exact ⟨_, WkE.keep (by simp only [go_sem, List.replicate_succ, Nat.reducePow, Nat.reduceLeDiff, ↓reduceIte, reduceCtorEq, Nat.reduceLT, Nat.reduceEqDiff, Nat.reduceAdd, Nat.reduceSub, Nat.reduceMul, Int.reduceToNat]), rfl⟩
    have hb8 : A.length * 8 ≤ 140737488355328 := by omega
    refine CwpE.cut (st := ⟨[(2, vi at_), (3, vi by_), (4, vints raw), (11, vbools K), (12, vints Z), (13, vi i), (16, vints A), (18, ownV 0 A.length)], [.arr A.length 1 3 (A.map vi)]⟩) ?_ ?_
    · by_cases hA0 : A.length = 0
      · obtain rfl : A = [] := List.length_eq_zero_iff.1 hA0
        simp only [go_sem, List.replicate_succ, Nat.reducePow, Nat.reduceLeDiff, ↓reduceIte, reduceCtorEq, Nat.reduceLT, Nat.reduceEqDiff, Nat.reduceAdd, Nat.reduceSub, Nat.reduceMul, Int.reduceToNat]
        exact ⟨_, WkE.keep (by simp only [go_sem, List.replicate_succ, Nat.reducePow, Nat.reduceLeDiff, ↓reduceIte, reduceCtorEq, Nat.reduceLT, Nat.reduceEqDiff, Nat.reduceAdd, Nat.reduceSub, Nat.reduceMul, Int.reduceToNat]), rfl⟩
      · simp only [go_sem, List.replicate_succ, Nat.reducePow, Nat.reduceLeDiff, ↓reduceIte, reduceCtorEq, Nat.reduceLT, Nat.reduceEqDiff, Nat.reduceAdd, Nat.reduceSub, Nat.reduceMul, Int.reduceToNat, hb8, hA0]
        exact ⟨_, WkE.keep (by simp only [go_sem, List.replicate_succ, Nat.reducePow, Nat.reduceLeDiff, ↓reduceIte, reduceCtorEq, Nat.reduceLT, Nat.reduceEqDiff, Nat.reduceAdd, Nat.reduceSub, Nat.reduceMul, Int.reduceToNat]), rfl⟩
    refine CwpE.step (fun s => ∃ C : List Int, C.length = A.length ∧ (∀ x ∈ C, I64 x) ∧ s = ⟨[(2, vi at_), (3, vi by_), (4, vints raw), (11, vbools K), (12, vints Z), (13, vi i), (16, vints A), (18, vints C)], []⟩) ?_ ?_
    · have fr : ∀ C : List Int, C.length = A.length → WkE 136 ⟨[(2, vi at_), (3, vi by_), (4, vints raw), (11, vbools K), (12, vints Z), (13, vi i), (16, vints A), (18, ownV 0 A.length)], [.arr A.length 1 3 (C.map vi)]⟩ ⟨[(2, vi at_), (3, vi by_), (4, vints raw), (11, vbools K), (12, vints Z), (13, vi i), (16, vints A), (18, vints C)], []⟩ := fun C hC => by
        refine (WkE.freeze 18 0 A.length 0 A.length 1 3 (C.map vi) (by omega) rfl rfl (by simp [hC]) (by simp [List.all_map, AV.isT, AV.isT1])).trans (WkE.round ?_ (by simp [AV.inn, AV.inn1]) (by simp) (by simp))
        simp only [go_sem, List.replicate_succ, Nat.reducePow, Nat.reduceLeDiff, ↓reduceIte, reduceCtorEq, Nat.reduceLT, Nat.reduceEqDiff, Nat.reduceAdd, Nat.reduceSub, Nat.reduceMul, Int.reduceToNat]
        exact congrArg (AV.list 1) (List.take_of_length_le (by simp [hC]))
      by_cases hA0 : 0 < A.length
      · have q1 : (0 : Int) < (A.length : Int) := by omega
        have a3 := aroundL_bd at_ A.length (by omega)
        have s3 := Around_s at_ A.length h2 ⟨by omega, by omega⟩
        obtain ⟨k, hk⟩ : ∃ k : Nat, aroundL at_ A.length = k := ⟨(aroundL at_ A.length).toNat, by omega⟩
        rw [hk] at a3 s3
        have a4 := aroundL_bd by_ 5 (by omega)
        have s4 := Around_s by_ 5 h3 ⟨by omega, by omega⟩
        generalize aroundL by_ 5 = u4 at *
        have hkl : k < A.length := by omega
        have hak := hAI _ (List.getElem_mem hkl)
        have q2 : (0 : Int) ≤ (k : Int) := by omega
        have q3 : (k : Int) < (A.length : Int) := by omega
        have w7 : IntKind.i64.wrap (A[k] + u4) = A[k] + u4 := wrap_id (by omega) (by omega)
        have w8 : IntKind.i64.wrap (A[k] + u4 - 2) = A[k] + u4 - 2 := wrap_id (by omega) (by omega)
        simp only [go_sem, List.replicate_succ, Nat.reducePow, Nat.reduceLeDiff, ↓reduceIte, reduceCtorEq, Nat.reduceLT, Nat.reduceEqDiff, Nat.reduceAdd, Nat.reduceSub, Nat.reduceMul, Int.reduceToNat, q1]
        refine callT s3 rfl ?_
        simp only [go_sem, List.replicate_succ, Nat.reducePow, Nat.reduceLeDiff, ↓reduceIte, reduceCtorEq, Nat.reduceLT, Nat.reduceEqDiff, Nat.reduceAdd, Nat.reduceSub, Nat.reduceMul, Int.reduceToNat, q2, q3, List.getElem?_map, List.getElem?_eq_getElem hkl]
        refine callT s4 rfl ?_
        simp only [go_sem, List.replicate_succ, Nat.reducePow, Nat.reduceLeDiff, ↓reduceIte, reduceCtorEq, Nat.reduceLT, Nat.reduceEqDiff, Nat.reduceAdd, Nat.reduceSub, Nat.reduceMul, Int.reduceToNat, q2, q3, w7, w8, List.getElem?_map, List.getElem?_eq_getElem hkl]
        refine ⟨_, WkE.trans (WkE.keep (env' := [(2, vi at_), (3, vi by_), (4, vints raw), (11, vbools K), (12, vints Z), (13, vi i), (16, vints A), (18, ownV 0 A.length)]) (by simp only [go_sem, List.replicate_succ, Nat.reducePow, Nat.reduceLeDiff, ↓reduceIte, reduceCtorEq, Nat.reduceLT, Nat.reduceEqDiff, Nat.reduceAdd, Nat.reduceSub, Nat.reduceMul, Int.reduceToNat])) ?_, A.set k (A[k] + u4 - 2), by simp, fun x hx => ?_, rfl⟩
        · have := fr (A.set k (A[k] + u4 - 2)) (by simp)
          rw [List.map_set] at this
          exact this
        · rcases List.mem_or_eq_of_mem_set hx with h | rfl
          · have := hAI x h; exact ⟨by omega, by omega⟩
          · exact ⟨by omega, by omega⟩
      · have q1 : ¬ (0 : Int) < (A.length : Int) := by omega
        simp only [go_sem, List.replicate_succ, Nat.reducePow, Nat.reduceLeDiff, ↓reduceIte, reduceCtorEq, Nat.reduceLT, Nat.reduceEqDiff, Nat.reduceAdd, Nat.reduceSub, Nat.reduceMul, Int.reduceToNat, q1]
        exact ⟨_, WkE.trans (WkE.keep (env' := [(2, vi at_), (3, vi by_), (4, vints raw), (11, vbools K), (12, vints Z), (13, vi i), (16, vints A), (18, ownV 0 A.length)]) (by simp only [go_sem, List.replicate_succ, Nat.reducePow, Nat.reduceLeDiff, ↓reduceIte, reduceCtorEq, Nat.reduceLT, Nat.reduceEqDiff, Nat.reduceAdd, Nat.reduceSub, Nat.reduceMul, Int.reduceToNat])) (fr A rfl), A, rfl, fun x hx => by have := hAI x hx; exact ⟨by omega, by omega⟩, rfl⟩
    rintro s ⟨C, hC1, hC2, rfl⟩
    have hT := Take_s raw 30 (by omega)
    have hTl : (raw.take 30).length ≤ 30 := by rw [List.length_take]; omega
    have hTI : ∀ x ∈ raw.take 30, I64 x := fun x hx => h4 x (List.mem_of_mem_take hx)
    generalize raw.take 30 = T at *
    have hb9 : (A.length + 1) * 8 ≤ 140737488355328 := by omega
    refine CwpE.cut (st := ⟨[(2, vi at_), (3, vi by_), (4, vints raw), (11, vbools K), (12, vints Z), (13, vi i), (20, .list 1 [vints A, vints C, vints T, .val (.slice none 0 0), vints (A ++ [(K.length : Int)])])], []⟩) ?_ ?_
    · have fr : WkE 136 ⟨[(2, vi at_), (3, vi by_), (4, vints raw), (11, vbools K), (12, vints Z), (13, vi i), (20, .own 1 5 0 5)], [.arr (A.length + 1) 1 3 (A.map vi ++ [vi K.length]), .arr 5 1 22 [vints A, vints C, vints T, .val (.slice none 0 0), .own 0 (A.length + 1) 0 (A.length + 1)]]⟩
          ⟨[(2, vi at_), (3, vi by_), (4, vints raw), (11, vbools K), (12, vints Z), (13, vi i), (20, .list 1 [vints A, vints C, vints T, .val (.slice none 0 0), vints (A ++ [(K.length : Int)])])], []⟩ := by
        refine (WkE.freezeCell 1 5 1 4 0 0 (A.length + 1) 0 (A.length + 1) 1 22 3 _ _ (.own 0 (A.length + 1) 0 (A.length + 1)) rfl rfl rfl rfl (by omega) (by simp) (by simp [List.all_map, AV.isT, AV.isT1])).trans ?_
        refine (WkE.freeze 20 1 5 0 5 1 22 [vints A, vints C, vints T, .val (.slice none 0 0), vints (A ++ [(K.length : Int)])] (by omega) rfl ?_ (by simp) (by simp [AV.isT, AV.isT1])).trans (WkE.round ?_ (by simp [AV.inn, AV.inn1]) (by simp) (by simp))
        · simp [recell, AV.cells]
          exact List.take_of_length_le (by simp)
        · simp only [go_sem, List.replicate_succ, Nat.reducePow, Nat.reduceLeDiff, ↓reduceIte, reduceCtorEq, Nat.reduceLT, Nat.reduceEqDiff, Nat.reduceAdd, Nat.reduceSub, Nat.reduceMul, Int.reduceToNat]
      by_cases hA0 : A.length = 0
      · obtain rfl : A = [] := List.length_eq_zero_iff.1 hA0
        simp only [go_sem, List.replicate_succ, Nat.reducePow, Nat.reduceLeDiff, ↓reduceIte, reduceCtorEq, Nat.reduceLT, Nat.reduceEqDiff, Nat.reduceAdd, Nat.reduceSub, Nat.reduceMul, Int.reduceToNat]
        refine callT hT rfl ?_
        simp only [go_sem, List.replicate_succ, Nat.reducePow, Nat.reduceLeDiff, ↓reduceIte, reduceCtorEq, Nat.reduceLT, Nat.reduceEqDiff, Nat.reduceAdd, Nat.reduceSub, Nat.reduceMul, Int.reduceToNat]
        exact ⟨_, WkE.trans (WkE.keep (by simp only [go_sem, List.replicate_succ, Nat.reducePow, Nat.reduceLeDiff, ↓reduceIte, reduceCtorEq, Nat.reduceLT, Nat.reduceEqDiff, Nat.reduceAdd, Nat.reduceSub, Nat.reduceMul, Int.reduceToNat])) fr, rfl⟩
      · simp only [go_sem, List.replicate_succ, Nat.reducePow, Nat.reduceLeDiff, ↓reduceIte, reduceCtorEq, Nat.reduceLT, Nat.reduceEqDiff, Nat.reduceAdd, Nat.reduceSub, Nat.reduceMul, Int.reduceToNat]
        refine callT hT rfl ?_
        simp only [go_sem, List.replicate_succ, Nat.reducePow, Nat.reduceLeDiff, ↓reduceIte, reduceCtorEq, Nat.reduceLT, Nat.reduceEqDiff, Nat.reduceAdd, Nat.reduceSub, Nat.reduceMul, Int.reduceToNat, hb8, hb9, hA0]
        exact ⟨_, WkE.trans (WkE.keep (by simp only [go_sem, List.replicate_succ, Nat.reducePow, Nat.reduceLeDiff, ↓reduceIte, reduceCtorEq, Nat.reduceLT, Nat.reduceEqDiff, Nat.reduceAdd, Nat.reduceSub, Nat.reduceMul, Int.reduceToNat])) fr, rfl⟩
    have hBI : ∀ x ∈ A ++ [(K.length : Int)], I64 x := fun x hx => by
      rcases List.mem_append.1 hx with h | h
      · have := hAI x h; exact ⟨by omega, by omega⟩
      · rw [List.mem_singleton.1 h]; exact ⟨by omega, by omega⟩
    have hBl : (A ++ [(K.length : Int)]).length ≤ 31 := by simp; omega
    have hAI' : ∀ x ∈ A, I64 x := fun x hx => by have := hAI x hx; exact ⟨by omega, by omega⟩
    generalize A ++ [(K.length : Int)] = B at *
    obtain ⟨R, hR⟩ : ∃ R : List AV, [vints A, vints C, vints T, .val (.slice none 0 0), vints B] = R := ⟨_, rfl⟩
    have hRl : R.length = 5 := by rw [← hR]; rfl
    have hRg : ∀ k, k < 5 → ∃ X L, R[k]? = some X ∧ ((∃ ys, X = .list 1 ys) ∨ X = .val (.slice none 0 0)) ∧ Snap [] X (vints L) ∧ (∀ x ∈ L, I64 x) ∧ L.length ≤ 1000000 := fun k hk => by
      rw [← hR]
      match k, hk with
      | 0, _ => exact ⟨_, A, rfl, .inl ⟨_, rfl⟩, .tree _ rfl, hAI', by omega⟩
      | 1, _ => exact ⟨_, C, rfl, .inl ⟨_, rfl⟩, .tree _ rfl, hC2, by omega⟩
      | 2, _ => exact ⟨_, T, rfl, .inl ⟨_, rfl⟩, .tree _ rfl, hTI, by omega⟩
      | 3, _ => exact ⟨_, [], rfl, .inr rfl, .nil _, fun x hx => (by cases hx), by simp⟩
      | 4, _ => exact ⟨_, B, rfl, .inl ⟨_, rfl⟩, .tree _ rfl, hBI, by omega⟩
    rw [hR]
    clear hR
    refine CwpE.cut (st := ⟨[(2, vi at_), (3, vi by_), (4, vints raw), (11, vbools K), (12, vints Z), (13, vi i), (20, .list 1 R), (21, vi 0)], []⟩) ?_ ?_
    · simp only [go_sem, List.replicate_succ, Nat.reducePow, Nat.reduceLeDiff, ↓reduceIte, reduceCtorEq, Nat.reduceLT, Nat.reduceEqDiff, Nat.reduceAdd, Nat.reduceSub, Nat.reduceMul, Int.reduceToNat]
      exact ⟨_, WkE.keep (by simp only [go_sem, List.replicate_succ, Nat.reducePow, Nat.reduceLeDiff, ↓reduceIte, reduceCtorEq, Nat.reduceLT, Nat.reduceEqDiff, Nat.reduceAdd, Nat.reduceSub, Nat.reduceMul, Int.reduceToNat]), rfl⟩
    refine CwpE.block ?_
    refine loopXC 2 (fun m s => ∃ k : Nat, m = 5 - k ∧ k ≤ 5 ∧ s = ⟨[(2, vi at_), (3, vi by_), (4, vints raw), (11, vbools K), (12, vints Z), (13, vi i), (20, .list 1 R), (21, vi k)], []⟩)
      (fun s => s = ⟨[(2, vi at_), (3, vi by_), (4, vints raw), (11, vbools K), (12, vints Z), (13, vi i)], []⟩) 5
      ⟨[(2, vi at_), (3, vi by_), (4, vints raw), (11, vbools K), (12, vints Z), (13, vi i), (20, .list 1 R), (21, vi (0 : Nat))], []⟩ (WkE.keep (by simp only [go_sem, List.replicate_succ, Nat.reducePow, Nat.reduceLeDiff, ↓reduceIte, reduceCtorEq, Nat.reduceLT, Nat.reduceEqDiff, Nat.reduceAdd, Nat.reduceSub, Nat.reduceMul, Int.reduceToNat]; rfl)) ⟨0, by omega, by omega, rfl⟩ ?_ ?_
    rotate_left
    · rintro s rfl
      simp only [go_sem, List.replicate_succ, Nat.reducePow, Nat.reduceLeDiff, ↓reduceIte, reduceCtorEq, Nat.reduceLT, Nat.reduceEqDiff, Nat.reduceAdd, Nat.reduceSub, Nat.reduceMul, Int.reduceToNat]
      exact ⟨_, .refl _ _, rfl⟩
    rintro m s ⟨k, rfl, hk, rfl⟩
    refine CwpE.vc ?_
    by_cases hk5 : k < 5
    rotate_left
    · have e1 : ¬ (k : Int) < (R.length : Int) := by omega
      simp only [go_sem, List.replicate_succ, Nat.reducePow, Nat.reduceLeDiff, ↓reduceIte, reduceCtorEq, Nat.reduceLT, Nat.reduceEqDiff, Nat.reduceAdd, Nat.reduceSub, Nat.reduceMul, Int.reduceToNat, e1]
      exact ⟨_, WkE.keep (by simp only [go_sem, List.replicate_succ, Nat.reducePow, Nat.reduceLeDiff, ↓reduceIte, reduceCtorEq, Nat.reduceLT, Nat.reduceEqDiff, Nat.reduceAdd, Nat.reduceSub, Nat.reduceMul, Int.reduceToNat]), rfl⟩
    obtain ⟨V, L, r1, hV, r2, r3, r4⟩ := hRg k hk5
    have e1 : (k : Int) < (R.length : Int) := by omega
    have e2 : (0 : Int) ≤ (k : Int) := by omega
    have w9 : IntKind.i64.wrap ((k : Int) + 1) = ((k + 1 : Nat) : Int) := by rw [wrap_id (by omega) (by omega)]; omega
    have c1 := Paged_s K z L g5 r3 (by omega) r4
    have c2 := refPaged_s K z L g5 r3 (by omega) r4
    rw [paged_eq] at c1
    have sn : Snaps [] [vbools K, vi z, V] [vbools K, vi z, vints L] := .cons (.tree _ rfl) (.cons (.tree _ rfl) (.cons r2 .nil))
    rcases hV with ⟨ys, rfl⟩ | rfl
    · simp only [go_sem, List.replicate_succ, Nat.reducePow, Nat.reduceLeDiff, ↓reduceIte, reduceCtorEq, Nat.reduceLT, Nat.reduceEqDiff, Nat.reduceAdd, Nat.reduceSub, Nat.reduceMul, Int.reduceToNat, e1, e2, g2, g3, r1, List.getElem?_map, List.getElem?_eq_getElem g4, hz]
      refine callN c1 sn ?_
      simp only [go_sem, List.replicate_succ, Nat.reducePow, Nat.reduceLeDiff, ↓reduceIte, reduceCtorEq, Nat.reduceLT, Nat.reduceEqDiff, Nat.reduceAdd, Nat.reduceSub, Nat.reduceMul, Int.reduceToNat, e1, e2, g2, g3, r1, List.getElem?_map, List.getElem?_eq_getElem g4, hz]
      refine callN c2 sn ?_
      simp only [go_sem, List.replicate_succ, Nat.reducePow, Nat.reduceLeDiff, ↓reduceIte, reduceCtorEq, Nat.reduceLT, Nat.reduceEqDiff, Nat.reduceAdd, Nat.reduceSub, Nat.reduceMul, Int.reduceToNat, w9]
      exact ⟨5 - (k + 1), ⟨[(2, vi at_), (3, vi by_), (4, vints raw), (11, vbools K), (12, vints Z), (13, vi i), (20, .list 1 R), (21, vi (k + 1 : Nat))], []⟩, by omega, WkE.keep (by simp only [go_sem, List.replicate_succ, Nat.reducePow, Nat.reduceLeDiff, ↓reduceIte, reduceCtorEq, Nat.reduceLT, Nat.reduceEqDiff, Nat.reduceAdd, Nat.reduceSub, Nat.reduceMul, Int.reduceToNat]), k + 1, rfl, by omega, rfl⟩
    · simp only [go_sem, List.replicate_succ, Nat.reducePow, Nat.reduceLeDiff, ↓reduceIte, reduceCtorEq, Nat.reduceLT, Nat.reduceEqDiff, Nat.reduceAdd, Nat.reduceSub, Nat.reduceMul, Int.reduceToNat, e1, e2, g2, g3, r1, List.getElem?_map, List.getElem?_eq_getElem g4, hz]
      refine callN c1 sn ?_
      simp only [go_sem, List.replicate_succ, Nat.reducePow, Nat.reduceLeDiff, ↓reduceIte, reduceCtorEq, Nat.reduceLT, Nat.reduceEqDiff, Nat.reduceAdd, Nat.reduceSub, Nat.reduceMul, Int.reduceToNat, e1, e2, g2, g3, r1, List.getElem?_map, List.getElem?_eq_getElem g4, hz]
      refine callN c2 sn ?_
      simp only [go_sem, List.replicate_succ, Nat.reducePow, Nat.reduceLeDiff, ↓reduceIte, reduceCtorEq, Nat.reduceLT, Nat.reduceEqDiff, Nat.reduceAdd, Nat.reduceSub, Nat.reduceMul, Int.reduceToNat, w9]
      exact ⟨5 - (k + 1), ⟨[(2, vi at_), (3, vi by_), (4, vints raw), (11, vbools K), (12, vints Z), (13, vi i), (20, .list 1 R), (21, vi (k + 1 : Nat))], []⟩, by omega, WkE.keep (by simp only [go_sem, List.replicate_succ, Nat.reducePow, Nat.reduceLeDiff, ↓reduceIte, reduceCtorEq, Nat.reduceLT, Nat.reduceEqDiff, Nat.reduceAdd, Nat.reduceSub, Nat.reduceMul, Int.reduceToNat]), k + 1, rfl, by omega, rfl⟩
  have hP := Pages_s (List.replicate 4097 false) 5 ⟨by omega, by omega⟩
  rw [none_M, vbools, List.map_replicate] at hP
  refine CwpE.seq (CwpE.regionW 1 ?_)
  have q1 : (0 : Int) ≤ 4097 := by omega
  have q2 : (4097 : Int) ≤ 4097 := by omega
  have q3 : ((1 : Nat) : Int) * 4097 ≤ 281474976710656 := by omega
  have q4 : (4097 : Int) ≤ 9223372036854775807 := by omega
  simp only [go_sem, Nat.reducePow, Nat.reduceLeDiff, ↓reduceIte, reduceCtorEq, Nat.reduceLT, Nat.reduceEqDiff, Nat.reduceAdd, Nat.reduceSub, Nat.reduceMul, Int.reduceToNat, q1, q2, q3, q4]
  refine ⟨⟨[(127, .list 1 (List.replicate 4097 (vb false)))], []⟩, ?_, ?_⟩
  · refine (WkE.freeze 127 0 4097 0 4097 1 4 (List.replicate 4097 (vb false)) (by omega) rfl rfl (by rw [List.length_replicate]; exact Nat.le_refl _) (List.all_eq_true.2 fun x hx => by rw [(List.mem_replicate.1 hx).2]; rfl)).trans (WkE.round ?_ (List.all_eq_true.2 fun x hx => ?_) rfl rfl)
    · simp only [go_sem, Nat.reducePow, Nat.reduceLeDiff, ↓reduceIte, reduceCtorEq, Nat.reduceLT, Nat.reduceEqDiff, Nat.reduceAdd, Nat.reduceSub, Nat.reduceMul, Int.reduceToNat]
      exact congrArg (AV.list 1) (List.take_of_length_le (Nat.le_of_eq List.length_replicate))
    · rw [List.mem_singleton.1 hx]; rfl
  simp only [go_sem, Nat.reducePow, Nat.reduceLeDiff, ↓reduceIte, reduceCtorEq, Nat.reduceLT, Nat.reduceEqDiff, Nat.reduceAdd, Nat.reduceSub, Nat.reduceMul, Int.reduceToNat]
  refine callT hP (by simp only [List.all_cons, List.all_nil, Bool.and_true, Bool.and_eq_true]; exact ⟨by
    show (List.replicate 4097 (vb false)).all AV.isT1 = true
    exact List.all_eq_true.2 fun x hx => by rw [(List.mem_replicate.1 hx).2]; rfl, rfl⟩) ?_
  simp only [go_sem, Nat.reducePow, Nat.reduceLeDiff, ↓reduceIte, reduceCtorEq, Nat.reduceLT, Nat.reduceEqDiff, Nat.reduceAdd, Nat.reduceSub, Nat.reduceMul, Int.reduceToNat]
  refine CwpE.vc ?_
  simp only [go_sem, Nat.reducePow, Nat.reduceLeDiff, ↓reduceIte, reduceCtorEq, Nat.reduceLT, Nat.reduceEqDiff, Nat.reduceAdd, Nat.reduceSub, Nat.reduceMul, Int.reduceToNat]
  refine callT lives_s rfl ?_
  simp only [go_sem, Nat.reducePow, Nat.reduceLeDiff, ↓reduceIte, reduceCtorEq, Nat.reduceLT, Nat.reduceEqDiff, Nat.reduceAdd, Nat.reduceSub, Nat.reduceMul, Int.reduceToNat]
  exact .tree _ rfl
end Go.Proofs.Ytehelanfgepcmaa
