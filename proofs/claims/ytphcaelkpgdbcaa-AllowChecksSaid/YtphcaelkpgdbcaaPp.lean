/- The example of chapter 32 holds. -/
import Derived.Test.YtphcaelkpgdbcaaPo
set_option linter.unusedSimpArgs false
set_option linter.unusedVariables false
set_option linter.unusedSectionVars false
namespace Go.Proofs.Ytphcaelkpgdbcaa
open Go.RowKit Dak
theorem lives_s : Ctr Try.prog 15 [] (vb true) := by
  refine specE f15 (by simp) fun F0 w0 => ?_
  have sL := Least_s [2, 3, 4] [5, 9, 10] 6 (by simp) (by simp)
  have hL : leastL [2, 3, 4] [5, 9, 10] 6 = (15, [0, 2], tabA [2, 3, 4] [5, 9, 10] 6, 0) := by decide
  have sF := Factor_s [2, 3, 4] [5, 9, 10] 6 (by simp) (by simp)
  have hF : factorL [2, 3, 4] [5, 9, 10] 6 = (3, 1, 0) := by decide
  have hT : (tabA [2, 3, 4] [5, 9, 10] 6).length ≤ 1000000 ∧ ∀ x ∈ tabA [2, 3, 4] [5, 9, 10] 6, x.length ≤ 1000000 := by decide
  have sC := Check_s [2, 3, 4] [5, 9, 10] 6 15 [0, 2] (tabA [2, 3, 4] [5, 9, 10] 6) (by simp) (by simp) (by simp) hT.1 hT.2
  have hC : checkL [2, 3, 4] [5, 9, 10] 6 15 [0, 2] (tabA [2, 3, 4] [5, 9, 10] 6) = 0 := by decide
  have sS := SameInts_s [0, 2] [0, 2] (by simp)
  have hS : decide (([0, 2] : List Int) = [0, 2]) = true := by decide
  rw [hL] at sL
  rw [hF] at sF
  rw [hC] at sC
  rw [hS] at sS
  generalize tabA [2, 3, 4] [5, 9, 10] 6 = T at sL sC
  simp only [c15, go_sem, List.replicate_succ, Nat.reducePow, Nat.reduceLeDiff, ↓reduceIte, reduceCtorEq, Nat.reduceLT, Nat.reduceEqDiff, Nat.reduceAdd, Nat.reduceSub, Nat.reduceMul, Int.reduceToNat]
  refine callT sL rfl ?_
  simp only [go_sem, List.replicate_succ, Nat.reducePow, Nat.reduceLeDiff, ↓reduceIte, reduceCtorEq, Nat.reduceLT, Nat.reduceEqDiff, Nat.reduceAdd, Nat.reduceSub, Nat.reduceMul, Int.reduceToNat]
  refine callT sF rfl ?_
  have e1 : (((3 : Nat) : Int) = 3) = True := eq_true rfl
  have e2 : (((1 : Nat) : Int) = 1) = True := eq_true rfl
  simp only [go_sem, List.replicate_succ, Nat.reducePow, Nat.reduceLeDiff, ↓reduceIte, reduceCtorEq, Nat.reduceLT, Nat.reduceEqDiff, Nat.reduceAdd, Nat.reduceSub, Nat.reduceMul, Int.reduceToNat, List.drop_succ_cons]
  refine callT sS rfl ?_
  simp only [go_sem, List.replicate_succ, Nat.reducePow, Nat.reduceLeDiff, ↓reduceIte, reduceCtorEq, Nat.reduceLT, Nat.reduceEqDiff, Nat.reduceAdd, Nat.reduceSub, Nat.reduceMul, Int.reduceToNat, e1, e2, List.drop_succ_cons]
  refine callT sC rfl ?_
  simp only [go_sem, List.replicate_succ, Nat.reducePow, Nat.reduceLeDiff, ↓reduceIte, reduceCtorEq, Nat.reduceLT, Nat.reduceEqDiff, Nat.reduceAdd, Nat.reduceSub, Nat.reduceMul, Int.reduceToNat]
  exact .tree _ rfl
end Go.Proofs.Ytphcaelkpgdbcaa
