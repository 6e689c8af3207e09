/- The examples of the section, by contract. -/
import Derived.Test.YtehelanfgepcmaaPd
import Derived.Test.YtehelanfgepcmaaDv
set_option linter.unusedSimpArgs false
set_option linter.unusedVariables false
set_option linter.unusedSectionVars false
namespace Go.Proofs.Ytehelanfgepcmaa
open Go.RowKit Dak
theorem livesA : fillM ([3, 2, 5].map fun n => [[n]]) 6 = (0, [(2, 0), (3, 0)], [[8589934592], [8589934608], [4294967296]]) := by decide +kernel
theorem livesB : fillM ([3, 2, 5].map fun n => [[n]]) 5 = (0, [(1, 0), (2, 0), (3, 0)], [[12884901901], [8589934601], [4294967296]]) := by decide +kernel
theorem livesC : fillM [[[4, 7], [3]]] 5 = (0, [(0, 1), (1, 0)], [[8589934592, 4294967296]]) := by decide +kernel
theorem livesI : I64w ([3, 2, 5].map fun n => [[n]]) := by
  intro x hx r hr n hn
  simp only [List.map_cons, List.map_nil, List.mem_cons, List.not_mem_nil, or_false] at hx
  rcases hx with rfl | rfl | rfl <;> (simp at hr; subst hr; simp at hn; subst hn; unfold I64; omega)
theorem livesJ : I64w [[[4, 7], [3]]] := by
  intro x hx r hr n hn
  simp only [List.mem_cons, List.not_mem_nil, or_false] at hx
  subst hx
  simp at hr
  rcases hr with rfl | rfl <;> (simp at hn; rcases hn with rfl | rfl <;> unfold I64 <;> omega)
set_option maxRecDepth 100000 in
set_option maxHeartbeats 20000000 in
theorem lives_s : Ctr Try.prog 18 [] (vb true) := by
  refine specC f18 (by simp) fun F0 w0 => ?_
  have i5 : I64 5 := ⟨by omega, by omega⟩
  have i6 : I64 6 := ⟨by omega, by omega⟩
  have hA := Fill_s _ 6 livesI i6
  have hB := Fill_s _ 5 livesI i5
  have hC := Fill_s _ 5 livesJ i5
  rw [livesA] at hA
  rw [livesB] at hB
  rw [livesC] at hC
  have z0 : (0 : Int) ≤ 0 := by omega
  have z1 : (0 : Int) ≤ 1 := by omega
  have c1 : ((1 : Nat) : Int) = 1 := rfl
  have c2 : ((2 : Nat) : Int) = 2 := rfl
  have c3 : ((3 : Nat) : Int) = 3 := rfl
  have y1 : (0 : Int) < 1 := by omega
  have y2 : (0 : Int) < 3 := by omega
  have y3 : (0 : Int) < 2 := by omega
  have y4 : (1 : Int) < 2 := by omega
  unfold c18
  refine CwpE.step (fun s => s = ⟨[], []⟩) ?_ ?_
  · simp only [go_sem, List.replicate_succ, Nat.reducePow, Nat.reduceLeDiff, ↓reduceIte, reduceCtorEq, Nat.reduceLT, Nat.reduceEqDiff, Nat.reduceAdd, Nat.reduceSub, Nat.reduceMul, Int.reduceToNat]
    exact ⟨_, WkE.keep (by simp only [go_sem, List.replicate_succ, Nat.reducePow, Nat.reduceLeDiff, ↓reduceIte, reduceCtorEq, Nat.reduceLT, Nat.reduceEqDiff, Nat.reduceAdd, Nat.reduceSub, Nat.reduceMul, Int.reduceToNat]), rfl⟩
  rintro s rfl
  refine CwpE.step (fun s => s = ⟨[(1, vwords ([3, 2, 5].map fun n => [[n]]))], []⟩) ?_ ?_
  · simp only [go_sem, List.replicate_succ, Nat.reducePow, Nat.reduceLeDiff, ↓reduceIte, reduceCtorEq, Nat.reduceLT, Nat.reduceEqDiff, Nat.reduceAdd, Nat.reduceSub, Nat.reduceMul, Int.reduceToNat]
    refine callT (simple_s [3, 2, 5] (by simp)) rfl ?_
    simp only [go_sem, List.replicate_succ, Nat.reducePow, Nat.reduceLeDiff, ↓reduceIte, reduceCtorEq, Nat.reduceLT, Nat.reduceEqDiff, Nat.reduceAdd, Nat.reduceSub, Nat.reduceMul, Int.reduceToNat]
    exact ⟨_, WkE.keep (by simp only [go_sem, List.replicate_succ, Nat.reducePow, Nat.reduceLeDiff, ↓reduceIte, reduceCtorEq, Nat.reduceLT, Nat.reduceEqDiff, Nat.reduceAdd, Nat.reduceSub, Nat.reduceMul, Int.reduceToNat]), rfl⟩
  rintro s rfl
  refine CwpE.step (fun s => s = ⟨[(1, vwords ([3, 2, 5].map fun n => [[n]])), (2, .ref 0 1 0 0), (3, vi 0)], [.arr 1 2 30 [vcert ([(2, 0), (3, 0)], [[8589934592], [8589934608], [4294967296]])]]⟩) ?_ ?_
  · simp only [go_sem, List.replicate_succ, Nat.reducePow, Nat.reduceLeDiff, ↓reduceIte, reduceCtorEq, Nat.reduceLT, Nat.reduceEqDiff, Nat.reduceAdd, Nat.reduceSub, Nat.reduceMul, Int.reduceToNat]
    refine callT hA rfl ?_
    simp only [go_sem, List.replicate_succ, Nat.reducePow, Nat.reduceLeDiff, ↓reduceIte, reduceCtorEq, Nat.reduceLT, Nat.reduceEqDiff, Nat.reduceAdd, Nat.reduceSub, Nat.reduceMul, Int.reduceToNat]
    exact ⟨_, WkE.keep (by simp only [go_sem, List.replicate_succ, Nat.reducePow, Nat.reduceLeDiff, ↓reduceIte, reduceCtorEq, Nat.reduceLT, Nat.reduceEqDiff, Nat.reduceAdd, Nat.reduceSub, Nat.reduceMul, Int.reduceToNat]), rfl⟩
  rintro s rfl
  refine CwpE.step (fun s => s = ⟨[(2, .ref 0 1 0 0), (3, vi 0), (4, .ref 1 1 0 0), (5, vi 0)], [.arr 1 2 30 [vcert ([(2, 0), (3, 0)], [[8589934592], [8589934608], [4294967296]])], .arr 1 2 30 [vcert ([(1, 0), (2, 0), (3, 0)], [[12884901901], [8589934601], [4294967296]])]]⟩) ?_ ?_
  · simp only [go_sem, List.replicate_succ, Nat.reducePow, Nat.reduceLeDiff, ↓reduceIte, reduceCtorEq, Nat.reduceLT, Nat.reduceEqDiff, Nat.reduceAdd, Nat.reduceSub, Nat.reduceMul, Int.reduceToNat]
    refine callT hB rfl ?_
    simp only [go_sem, List.replicate_succ, Nat.reducePow, Nat.reduceLeDiff, ↓reduceIte, reduceCtorEq, Nat.reduceLT, Nat.reduceEqDiff, Nat.reduceAdd, Nat.reduceSub, Nat.reduceMul, Int.reduceToNat]
    exact ⟨_, WkE.keep (by simp only [go_sem, List.replicate_succ, Nat.reducePow, Nat.reduceLeDiff, ↓reduceIte, reduceCtorEq, Nat.reduceLT, Nat.reduceEqDiff, Nat.reduceAdd, Nat.reduceSub, Nat.reduceMul, Int.reduceToNat]), rfl⟩
  rintro s rfl
  refine CwpE.step (fun s => s = ⟨[(2, .ref 0 1 0 0), (3, vi 0), (4, .ref 1 1 0 0), (5, vi 0), (6, .ref 2 1 0 0), (7, vi 0)], [.arr 1 2 30 [vcert ([(2, 0), (3, 0)], [[8589934592], [8589934608], [4294967296]])], .arr 1 2 30 [vcert ([(1, 0), (2, 0), (3, 0)], [[12884901901], [8589934601], [4294967296]])], .arr 1 2 30 [vcert ([(0, 1), (1, 0)], [[8589934592, 4294967296]])]]⟩) ?_ ?_
  · simp only [go_sem, List.replicate_succ, Nat.reducePow, Nat.reduceLeDiff, ↓reduceIte, reduceCtorEq, Nat.reduceLT, Nat.reduceEqDiff, Nat.reduceAdd, Nat.reduceSub, Nat.reduceMul, Int.reduceToNat]
    refine callT hC rfl ?_
    simp only [go_sem, List.replicate_succ, Nat.reducePow, Nat.reduceLeDiff, ↓reduceIte, reduceCtorEq, Nat.reduceLT, Nat.reduceEqDiff, Nat.reduceAdd, Nat.reduceSub, Nat.reduceMul, Int.reduceToNat]
    exact ⟨_, WkE.keep (by simp only [go_sem, List.replicate_succ, Nat.reducePow, Nat.reduceLeDiff, ↓reduceIte, reduceCtorEq, Nat.reduceLT, Nat.reduceEqDiff, Nat.reduceAdd, Nat.reduceSub, Nat.reduceMul, Int.reduceToNat]), rfl⟩
  rintro s rfl
  refine CwpE.step (fun s => s = ⟨[(2, .ref 0 1 0 0), (3, vi 0), (4, .ref 1 1 0 0), (5, vi 0), (6, .ref 2 1 0 0), (7, vi 0)], [.arr 1 2 30 [vcert ([(2, 0), (3, 0)], [[8589934592], [8589934608], [4294967296]])], .arr 1 2 30 [vcert ([(1, 0), (2, 0), (3, 0)], [[12884901901], [8589934601], [4294967296]])], .arr 1 2 30 [vcert ([(0, 1), (1, 0)], [[8589934592, 4294967296]])]]⟩) ?_ ?_
  · simp only [go_sem, List.replicate_succ, Nat.reducePow, Nat.reduceLeDiff, ↓reduceIte, reduceCtorEq, Nat.reduceLT, Nat.reduceEqDiff, Nat.reduceAdd, Nat.reduceSub, Nat.reduceMul, Int.reduceToNat, c1, c2, c3, z0, z1, y1, y2, y3, y4]
    exact ⟨_, WkE.keep (by simp only [go_sem, List.replicate_succ, Nat.reducePow, Nat.reduceLeDiff, ↓reduceIte, reduceCtorEq, Nat.reduceLT, Nat.reduceEqDiff, Nat.reduceAdd, Nat.reduceSub, Nat.reduceMul, Int.reduceToNat]), rfl⟩
  rintro s rfl
  refine CwpE.vc ?_
  simp only [go_sem, List.replicate_succ, Nat.reducePow, Nat.reduceLeDiff, ↓reduceIte, reduceCtorEq, Nat.reduceLT, Nat.reduceEqDiff, Nat.reduceAdd, Nat.reduceSub, Nat.reduceMul, Int.reduceToNat, c1, c2, c3, z0, z1, y1, y2, y3, y4]
  exact .tree _ rfl
end Go.Proofs.Ytehelanfgepcmaa
