/- The examples of the section (printed by genR9.py). -/
import Derived.Test.YtjpknjicfoiheaaPh
set_option linter.unusedSimpArgs false
set_option linter.unusedVariables false
set_option linter.unusedSectionVars false
namespace Go.Proofs.Ytjpknjicfoiheaa
open Go.RowKit Dak
theorem z0 : ((0 : Nat) : Int) = 0 := rfl
def S0 : Hs := newH 2
def S1 : Hs := announceH S0 7
def S2 : Hs := stepH S1 ⟨0, 0, 0, 0, 0⟩
def S3 : Hs := stepH S2 ⟨0, 1, 0, 0, 0⟩
def S4 : Hs := stepH S3 ⟨0, 1, 6, 5, 0⟩
def S5 : Hs := stepH S4 ⟨0, 0, 0, 1, 0⟩
def S6 : Hs := stepH S5 ⟨0, 1, 0, 1, 0⟩
def S7 : Hs := stepH S6 ⟨0, 0, 0, 2, 0⟩
def S8 : Hs := stepH S7 ⟨0, 0, 6, 3, 0⟩
def S9 : Hs := stepH S8 ⟨0, 1, 0, 2, 0⟩
def S10 : Hs := stepH S9 ⟨0, 1, 6, 4, 0⟩
def S11 : Hs := stepH S10 ⟨0, 1, 3, 0, 0⟩
def S12 : Hs := stepH S11 ⟨0, 1, 4, 0, 0⟩
def S13 : Hs := stepH S12 ⟨0, 1, 6, 0, 0⟩
def S14 : Hs := stepH S13 ⟨0, 1, 0, 2, 0⟩
theorem o0 : OkH S0 := ⟨by decide +kernel, by decide +kernel, by decide +kernel, by decide +kernel⟩
theorem b0 : Bd S0 := ⟨o0.1, o0.2.1, o0.2.2.1⟩
theorem o1 : OkH S1 := ⟨by decide +kernel, by decide +kernel, by decide +kernel, by decide +kernel⟩
theorem b1 : Bd S1 := ⟨o1.1, o1.2.1, o1.2.2.1⟩
theorem o2 : OkH S2 := ⟨by decide +kernel, by decide +kernel, by decide +kernel, by decide +kernel⟩
theorem b2 : Bd S2 := ⟨o2.1, o2.2.1, o2.2.2.1⟩
theorem o3 : OkH S3 := ⟨by decide +kernel, by decide +kernel, by decide +kernel, by decide +kernel⟩
theorem b3 : Bd S3 := ⟨o3.1, o3.2.1, o3.2.2.1⟩
theorem o4 : OkH S4 := ⟨by decide +kernel, by decide +kernel, by decide +kernel, by decide +kernel⟩
theorem b4 : Bd S4 := ⟨o4.1, o4.2.1, o4.2.2.1⟩
theorem o5 : OkH S5 := ⟨by decide +kernel, by decide +kernel, by decide +kernel, by decide +kernel⟩
theorem b5 : Bd S5 := ⟨o5.1, o5.2.1, o5.2.2.1⟩
theorem o6 : OkH S6 := ⟨by decide +kernel, by decide +kernel, by decide +kernel, by decide +kernel⟩
theorem b6 : Bd S6 := ⟨o6.1, o6.2.1, o6.2.2.1⟩
theorem o7 : OkH S7 := ⟨by decide +kernel, by decide +kernel, by decide +kernel, by decide +kernel⟩
theorem b7 : Bd S7 := ⟨o7.1, o7.2.1, o7.2.2.1⟩
theorem o8 : OkH S8 := ⟨by decide +kernel, by decide +kernel, by decide +kernel, by decide +kernel⟩
theorem b8 : Bd S8 := ⟨o8.1, o8.2.1, o8.2.2.1⟩
theorem o9 : OkH S9 := ⟨by decide +kernel, by decide +kernel, by decide +kernel, by decide +kernel⟩
theorem b9 : Bd S9 := ⟨o9.1, o9.2.1, o9.2.2.1⟩
theorem o10 : OkH S10 := ⟨by decide +kernel, by decide +kernel, by decide +kernel, by decide +kernel⟩
theorem b10 : Bd S10 := ⟨o10.1, o10.2.1, o10.2.2.1⟩
theorem o11 : OkH S11 := ⟨by decide +kernel, by decide +kernel, by decide +kernel, by decide +kernel⟩
theorem b11 : Bd S11 := ⟨o11.1, o11.2.1, o11.2.2.1⟩
theorem o12 : OkH S12 := ⟨by decide +kernel, by decide +kernel, by decide +kernel, by decide +kernel⟩
theorem b12 : Bd S12 := ⟨o12.1, o12.2.1, o12.2.2.1⟩
theorem o13 : OkH S13 := ⟨by decide +kernel, by decide +kernel, by decide +kernel, by decide +kernel⟩
theorem b13 : Bd S13 := ⟨o13.1, o13.2.1, o13.2.2.1⟩
theorem o14 : OkH S14 := ⟨by decide +kernel, by decide +kernel, by decide +kernel, by decide +kernel⟩
theorem b14 : Bd S14 := ⟨o14.1, o14.2.1, o14.2.2.1⟩
theorem q1 : announceE S0 7 = 0 := by decide +kernel
theorem q2 : stepE S1 ⟨0, 0, 0, 0, 0⟩ = 0 := by decide +kernel
theorem q3 : stepE S2 ⟨0, 1, 0, 0, 0⟩ = 0 := by decide +kernel
theorem q4 : stepE S3 ⟨0, 1, 6, 5, 0⟩ = 0 := by decide +kernel
theorem q5 : stepE S4 ⟨0, 0, 0, 1, 0⟩ = 0 := by decide +kernel
theorem q6 : (S5.dec.length : Int) = 0 := by decide +kernel
theorem q7 : stepE S5 ⟨0, 1, 0, 1, 0⟩ = 0 := by decide +kernel
theorem q8 : (S6.dec.length : Int) = 1 := by decide +kernel
theorem q9 : shownE S6 0 = [] := by decide +kernel
theorem q10 : stepE S6 ⟨0, 0, 0, 2, 0⟩ = 0 := by decide +kernel
theorem q11 : shownE S7 0 = [7] := by decide +kernel
theorem q12 : stepE S7 ⟨0, 0, 6, 3, 0⟩ = 0 := by decide +kernel
theorem q13 : stepE S8 ⟨0, 1, 0, 2, 0⟩ = 0 := by decide +kernel
theorem q14 : stepE S9 ⟨0, 1, 6, 4, 0⟩ = 0 := by decide +kernel
theorem q15 : S10.ans = [(1, 5, 0), (0, 3, 1), (1, 4, 1)] := by decide +kernel
theorem q16 : stepE S10 ⟨0, 1, 3, 0, 0⟩ = 0 := by decide +kernel
theorem q17 : stepE S11 ⟨0, 1, 4, 0, 0⟩ = 0 := by decide +kernel
theorem q18 : stepE S12 ⟨0, 1, 6, 0, 0⟩ = 21 := by decide +kernel
theorem q19 : shownE S13 1 = [] := by decide +kernel
theorem q20 : stepE S13 ⟨0, 1, 0, 2, 0⟩ = 0 := by decide +kernel
theorem q21 : shownE S14 1 = [7] := by decide +kernel
set_option maxRecDepth 100000 in
theorem lives_s : Ctr Try.prog 16 [] (vb true) := by
  refine specE f16 (by simp) fun F0 w0 => ?_
  simp only [c16, go_sem, List.replicate_succ, Nat.reducePow, Nat.reduceLeDiff, ↓reduceIte, reduceCtorEq, Nat.reduceLT, Nat.reduceEqDiff, Nat.reduceAdd, Nat.reduceSub, Nat.reduceMul, Int.reduceToNat, Int.reduceLT, Int.reduceLE, Int.reduceEq, Int.reduceNe, Int.reduceNeg, Int.reduceToNat, Int.lt_irrefl, Int.le_refl]
  refine callNew (New_s 2 (by omega) (by omega)) (.cons (.tree _ rfl) .nil) ?_
  have e1 : (objsH (newH 2)).map (AObj.shiftO 0) = objsH S0 := rfl
  have e2 : AV.shift 0 (.tup [.ref 2 1 0 0, vi 0]) = .tup [.ref 2 1 0 0, vi 0] := rfl
  simp only [List.length_nil, List.nil_append, e1, e2]
  simp only [go_sem, List.replicate_succ, Nat.reducePow, Nat.reduceLeDiff, ↓reduceIte, reduceCtorEq, Nat.reduceLT, Nat.reduceEqDiff, Nat.reduceAdd, Nat.reduceSub, Nat.reduceMul, Int.reduceToNat, Int.reduceLT, Int.reduceLE, Int.reduceEq, Int.reduceNe, Int.reduceNeg, Int.reduceToNat, Int.lt_irrefl, Int.le_refl]
  refine callM (objsH S0) [] (objsH S1) (Announce_s S0 7 b0.1 b0.2.1) rfl (objsH_inn _ 5 (by omega)) rfl ?_
  simp only [q1, z0, go_sem, List.replicate_succ, Nat.reducePow, Nat.reduceLeDiff, ↓reduceIte, reduceCtorEq, Nat.reduceLT, Nat.reduceEqDiff, Nat.reduceAdd, Nat.reduceSub, Nat.reduceMul, Int.reduceToNat, Int.reduceLT, Int.reduceLE, Int.reduceEq, Int.reduceNe, Int.reduceNeg, Int.reduceToNat, Int.lt_irrefl, Int.le_refl]
  refine callM (objsH S1) [] (objsH S2) (event_s S1 b1 0 0 0) rfl (objsH_inn _ 5 (by omega)) rfl ?_
  simp only [q2, z0, go_sem, List.replicate_succ, Nat.reducePow, Nat.reduceLeDiff, ↓reduceIte, reduceCtorEq, Nat.reduceLT, Nat.reduceEqDiff, Nat.reduceAdd, Nat.reduceSub, Nat.reduceMul, Int.reduceToNat, Int.reduceLT, Int.reduceLE, Int.reduceEq, Int.reduceNe, Int.reduceNeg, Int.reduceToNat, Int.lt_irrefl, Int.le_refl]
  refine callM (objsH S2) [] (objsH S3) (event_s S2 b2 0 1 0) rfl (objsH_inn _ 5 (by omega)) rfl ?_
  simp only [q3, z0, go_sem, List.replicate_succ, Nat.reducePow, Nat.reduceLeDiff, ↓reduceIte, reduceCtorEq, Nat.reduceLT, Nat.reduceEqDiff, Nat.reduceAdd, Nat.reduceSub, Nat.reduceMul, Int.reduceToNat, Int.reduceLT, Int.reduceLE, Int.reduceEq, Int.reduceNe, Int.reduceNeg, Int.reduceToNat, Int.lt_irrefl, Int.le_refl]
  refine callM (objsH S3) [] (objsH S4) (event_s S3 b3 6 1 5) rfl (objsH_inn _ 5 (by omega)) rfl ?_
  simp only [q4, z0, go_sem, List.replicate_succ, Nat.reducePow, Nat.reduceLeDiff, ↓reduceIte, reduceCtorEq, Nat.reduceLT, Nat.reduceEqDiff, Nat.reduceAdd, Nat.reduceSub, Nat.reduceMul, Int.reduceToNat, Int.reduceLT, Int.reduceLE, Int.reduceEq, Int.reduceNe, Int.reduceNeg, Int.reduceToNat, Int.lt_irrefl, Int.le_refl]
  refine callM (objsH S4) [] (objsH S5) (event_s S4 b4 0 0 1) rfl (objsH_inn _ 5 (by omega)) rfl ?_
  simp only [q5, z0, go_sem, List.replicate_succ, Nat.reducePow, Nat.reduceLeDiff, ↓reduceIte, reduceCtorEq, Nat.reduceLT, Nat.reduceEqDiff, Nat.reduceAdd, Nat.reduceSub, Nat.reduceMul, Int.reduceToNat, Int.reduceLT, Int.reduceLE, Int.reduceEq, Int.reduceNe, Int.reduceNeg, Int.reduceToNat, Int.lt_irrefl, Int.le_refl]
  refine callM (objsH S5) [] (objsH S5) (Moment_s S5) rfl (objsH_inn _ 5 (by omega)) rfl ?_
  simp only [q6, z0, go_sem, List.replicate_succ, Nat.reducePow, Nat.reduceLeDiff, ↓reduceIte, reduceCtorEq, Nat.reduceLT, Nat.reduceEqDiff, Nat.reduceAdd, Nat.reduceSub, Nat.reduceMul, Int.reduceToNat, Int.reduceLT, Int.reduceLE, Int.reduceEq, Int.reduceNe, Int.reduceNeg, Int.reduceToNat, Int.lt_irrefl, Int.le_refl]
  refine callM (objsH S5) [] (objsH S6) (event_s S5 b5 0 1 1) rfl (objsH_inn _ 5 (by omega)) rfl ?_
  simp only [q7, z0, go_sem, List.replicate_succ, Nat.reducePow, Nat.reduceLeDiff, ↓reduceIte, reduceCtorEq, Nat.reduceLT, Nat.reduceEqDiff, Nat.reduceAdd, Nat.reduceSub, Nat.reduceMul, Int.reduceToNat, Int.reduceLT, Int.reduceLE, Int.reduceEq, Int.reduceNe, Int.reduceNeg, Int.reduceToNat, Int.lt_irrefl, Int.le_refl]
  refine callM (objsH S6) [] (objsH S6) (Moment_s S6) rfl (objsH_inn _ 5 (by omega)) rfl ?_
  simp only [q8, z0, go_sem, List.replicate_succ, Nat.reducePow, Nat.reduceLeDiff, ↓reduceIte, reduceCtorEq, Nat.reduceLT, Nat.reduceEqDiff, Nat.reduceAdd, Nat.reduceSub, Nat.reduceMul, Int.reduceToNat, Int.reduceLT, Int.reduceLE, Int.reduceEq, Int.reduceNe, Int.reduceNeg, Int.reduceToNat, Int.lt_irrefl, Int.le_refl]
  refine callM (objsH S6) [] (objsH S6) (Shown_s S6 o6 0) rfl (objsH_inn _ 5 (by omega)) rfl ?_
  simp only [q9, z0, go_sem, List.replicate_succ, Nat.reducePow, Nat.reduceLeDiff, ↓reduceIte, reduceCtorEq, Nat.reduceLT, Nat.reduceEqDiff, Nat.reduceAdd, Nat.reduceSub, Nat.reduceMul, Int.reduceToNat, Int.reduceLT, Int.reduceLE, Int.reduceEq, Int.reduceNe, Int.reduceNeg, Int.reduceToNat, Int.lt_irrefl, Int.le_refl]
  refine callM (objsH S6) [] (objsH S7) (event_s S6 b6 0 0 2) rfl (objsH_inn _ 5 (by omega)) rfl ?_
  simp only [q10, z0, go_sem, List.replicate_succ, Nat.reducePow, Nat.reduceLeDiff, ↓reduceIte, reduceCtorEq, Nat.reduceLT, Nat.reduceEqDiff, Nat.reduceAdd, Nat.reduceSub, Nat.reduceMul, Int.reduceToNat, Int.reduceLT, Int.reduceLE, Int.reduceEq, Int.reduceNe, Int.reduceNeg, Int.reduceToNat, Int.lt_irrefl, Int.le_refl]
  refine callM (objsH S7) [] (objsH S7) (Shown_s S7 o7 0) rfl (objsH_inn _ 5 (by omega)) rfl ?_
  simp only [q11, z0, go_sem, List.replicate_succ, Nat.reducePow, Nat.reduceLeDiff, ↓reduceIte, reduceCtorEq, Nat.reduceLT, Nat.reduceEqDiff, Nat.reduceAdd, Nat.reduceSub, Nat.reduceMul, Int.reduceToNat, Int.reduceLT, Int.reduceLE, Int.reduceEq, Int.reduceNe, Int.reduceNeg, Int.reduceToNat, Int.lt_irrefl, Int.le_refl]
  refine callT (SameInts_s [7] [7] (by decide)) rfl ?_
  simp only [go_sem, List.replicate_succ, Nat.reducePow, Nat.reduceLeDiff, ↓reduceIte, reduceCtorEq, Nat.reduceLT, Nat.reduceEqDiff, Nat.reduceAdd, Nat.reduceSub, Nat.reduceMul, Int.reduceToNat, Int.reduceLT, Int.reduceLE, Int.reduceEq, Int.reduceNe, Int.reduceNeg, Int.reduceToNat, Int.lt_irrefl, Int.le_refl]
  refine callM (objsH S7) [] (objsH S8) (event_s S7 b7 6 0 3) rfl (objsH_inn _ 5 (by omega)) rfl ?_
  simp only [q12, z0, go_sem, List.replicate_succ, Nat.reducePow, Nat.reduceLeDiff, ↓reduceIte, reduceCtorEq, Nat.reduceLT, Nat.reduceEqDiff, Nat.reduceAdd, Nat.reduceSub, Nat.reduceMul, Int.reduceToNat, Int.reduceLT, Int.reduceLE, Int.reduceEq, Int.reduceNe, Int.reduceNeg, Int.reduceToNat, Int.lt_irrefl, Int.le_refl]
  refine callM (objsH S8) [] (objsH S9) (event_s S8 b8 0 1 2) rfl (objsH_inn _ 5 (by omega)) rfl ?_
  simp only [q13, z0, go_sem, List.replicate_succ, Nat.reducePow, Nat.reduceLeDiff, ↓reduceIte, reduceCtorEq, Nat.reduceLT, Nat.reduceEqDiff, Nat.reduceAdd, Nat.reduceSub, Nat.reduceMul, Int.reduceToNat, Int.reduceLT, Int.reduceLE, Int.reduceEq, Int.reduceNe, Int.reduceNeg, Int.reduceToNat, Int.lt_irrefl, Int.le_refl]
  refine callM (objsH S9) [] (objsH S10) (event_s S9 b9 6 1 4) rfl (objsH_inn _ 5 (by omega)) rfl ?_
  simp only [q14, z0, go_sem, List.replicate_succ, Nat.reducePow, Nat.reduceLeDiff, ↓reduceIte, reduceCtorEq, Nat.reduceLT, Nat.reduceEqDiff, Nat.reduceAdd, Nat.reduceSub, Nat.reduceMul, Int.reduceToNat, Int.reduceLT, Int.reduceLE, Int.reduceEq, Int.reduceNe, Int.reduceNeg, Int.reduceToNat, Int.lt_irrefl, Int.le_refl]
  refine callM (objsH S10) [] (objsH S10) (Answers_s S10 b10.2.2) rfl (objsH_inn _ 5 (by omega)) rfl ?_
  simp only [q15, z0, go_sem, List.replicate_succ, Nat.reducePow, Nat.reduceLeDiff, ↓reduceIte, reduceCtorEq, Nat.reduceLT, Nat.reduceEqDiff, Nat.reduceAdd, Nat.reduceSub, Nat.reduceMul, Int.reduceToNat, Int.reduceLT, Int.reduceLE, Int.reduceEq, Int.reduceNe, Int.reduceNeg, Int.reduceToNat, Int.lt_irrefl, Int.le_refl]
  refine callT (SameAnswers_s [(1, 5, 0), (0, 3, 1), (1, 4, 1)] [(1, 5, 0), (0, 3, 1), (1, 4, 1)] (by decide)) rfl ?_
  simp only [go_sem, List.replicate_succ, Nat.reducePow, Nat.reduceLeDiff, ↓reduceIte, reduceCtorEq, Nat.reduceLT, Nat.reduceEqDiff, Nat.reduceAdd, Nat.reduceSub, Nat.reduceMul, Int.reduceToNat, Int.reduceLT, Int.reduceLE, Int.reduceEq, Int.reduceNe, Int.reduceNeg, Int.reduceToNat, Int.lt_irrefl, Int.le_refl]
  refine callM (objsH S10) [] (objsH S11) (event_s S10 b10 3 1 0) rfl (objsH_inn _ 5 (by omega)) rfl ?_
  simp only [q16, z0, go_sem, List.replicate_succ, Nat.reducePow, Nat.reduceLeDiff, ↓reduceIte, reduceCtorEq, Nat.reduceLT, Nat.reduceEqDiff, Nat.reduceAdd, Nat.reduceSub, Nat.reduceMul, Int.reduceToNat, Int.reduceLT, Int.reduceLE, Int.reduceEq, Int.reduceNe, Int.reduceNeg, Int.reduceToNat, Int.lt_irrefl, Int.le_refl]
  refine callM (objsH S11) [] (objsH S12) (event_s S11 b11 4 1 0) rfl (objsH_inn _ 5 (by omega)) rfl ?_
  simp only [q17, z0, go_sem, List.replicate_succ, Nat.reducePow, Nat.reduceLeDiff, ↓reduceIte, reduceCtorEq, Nat.reduceLT, Nat.reduceEqDiff, Nat.reduceAdd, Nat.reduceSub, Nat.reduceMul, Int.reduceToNat, Int.reduceLT, Int.reduceLE, Int.reduceEq, Int.reduceNe, Int.reduceNeg, Int.reduceToNat, Int.lt_irrefl, Int.le_refl]
  refine callM (objsH S12) [] (objsH S13) (Step_s S12 b12.1 b12.2.1 b12.2.2 ⟨0, 1, 6, 0, 0⟩) rfl (objsH_inn _ 5 (by omega)) rfl ?_
  simp only [q18, z0, go_sem, List.replicate_succ, Nat.reducePow, Nat.reduceLeDiff, ↓reduceIte, reduceCtorEq, Nat.reduceLT, Nat.reduceEqDiff, Nat.reduceAdd, Nat.reduceSub, Nat.reduceMul, Int.reduceToNat, Int.reduceLT, Int.reduceLE, Int.reduceEq, Int.reduceNe, Int.reduceNeg, Int.reduceToNat, Int.lt_irrefl, Int.le_refl]
  refine callM (objsH S13) [] (objsH S13) (Shown_s S13 o13 1) rfl (objsH_inn _ 5 (by omega)) rfl ?_
  simp only [q19, z0, go_sem, List.replicate_succ, Nat.reducePow, Nat.reduceLeDiff, ↓reduceIte, reduceCtorEq, Nat.reduceLT, Nat.reduceEqDiff, Nat.reduceAdd, Nat.reduceSub, Nat.reduceMul, Int.reduceToNat, Int.reduceLT, Int.reduceLE, Int.reduceEq, Int.reduceNe, Int.reduceNeg, Int.reduceToNat, Int.lt_irrefl, Int.le_refl]
  refine callM (objsH S13) [] (objsH S14) (event_s S13 b13 0 1 2) rfl (objsH_inn _ 5 (by omega)) rfl ?_
  simp only [q20, z0, go_sem, List.replicate_succ, Nat.reducePow, Nat.reduceLeDiff, ↓reduceIte, reduceCtorEq, Nat.reduceLT, Nat.reduceEqDiff, Nat.reduceAdd, Nat.reduceSub, Nat.reduceMul, Int.reduceToNat, Int.reduceLT, Int.reduceLE, Int.reduceEq, Int.reduceNe, Int.reduceNeg, Int.reduceToNat, Int.lt_irrefl, Int.le_refl]
  refine callM (objsH S14) [] (objsH S14) (Shown_s S14 o14 1) rfl (objsH_inn _ 5 (by omega)) rfl ?_
  simp only [q21, z0, go_sem, List.replicate_succ, Nat.reducePow, Nat.reduceLeDiff, ↓reduceIte, reduceCtorEq, Nat.reduceLT, Nat.reduceEqDiff, Nat.reduceAdd, Nat.reduceSub, Nat.reduceMul, Int.reduceToNat, Int.reduceLT, Int.reduceLE, Int.reduceEq, Int.reduceNe, Int.reduceNeg, Int.reduceToNat, Int.lt_irrefl, Int.le_refl]
  refine callT (SameInts_s [7] [7] (by decide)) rfl ?_
  simp only [go_sem, List.replicate_succ, Nat.reducePow, Nat.reduceLeDiff, ↓reduceIte, reduceCtorEq, Nat.reduceLT, Nat.reduceEqDiff, Nat.reduceAdd, Nat.reduceSub, Nat.reduceMul, Int.reduceToNat, Int.reduceLT, Int.reduceLE, Int.reduceEq, Int.reduceNe, Int.reduceNeg, Int.reduceToNat, Int.lt_irrefl, Int.le_refl]
  exact .tree _ rfl
end Go.Proofs.Ytjpknjicfoiheaa
