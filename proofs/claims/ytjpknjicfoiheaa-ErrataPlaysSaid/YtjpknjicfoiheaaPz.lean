/- An act that is changed; a new hall that is none; a hall that is none. -/
import Derived.Test.YtjpknjicfoiheaaPy
set_option linter.unusedSimpArgs false
set_option linter.unusedVariables false
set_option linter.unusedSectionVars false
namespace Go.Proofs.Ytjpknjicfoiheaa
open Go.RowKit Dak
/-- Odd -/
def oddN (k : Int) : Int := if k = 0 then -1 else if k = 1 then 0 else if k = 2 then 1000 else if k = 3 then 1001 else 1
def oddL (x : Act') (how b : Int) : Act' :=
  if aroundL how 4 = 0 then ⟨oddN (aroundL b 5), x.ev⟩ else
  if aroundL how 4 = 1 then ⟨x.num, { x.ev with kind := aroundL b 10 - 2 }⟩ else
  if aroundL how 4 = 2 then ⟨x.num, { x.ev with seat := aroundL b 11 - 2 }⟩ else ⟨x.num, { x.ev with a := aroundL b 7 - 2 }⟩
set_option maxHeartbeats 4000000 in
set_option maxRecDepth 100000 in
theorem Odd_s (x : Act') (how b : Int) (hh : I64 how) (hb : I64 b) : Ctr Try.prog 24 [vact x, vi how, vi b] (vact (oddL x how b)) := by
  refine specE f24 (by simp) fun F0 w0 => ?_
  have b4 := aroundL_bd how 4 (by omega)
  have hA := Around_s how 4 hh ⟨by omega, by omega⟩
  obtain ⟨num, tick, seat, kind, a, eb⟩ := x
  have ck : aroundL how 4 = 0 ∨ aroundL how 4 = 1 ∨ aroundL how 4 = 2 ∨ aroundL how 4 = 3 := by omega
  unfold oddL
  generalize aroundL how 4 = q at *
  simp only [c24, vact, go_sem, List.replicate_succ, Nat.reducePow, Nat.reduceLeDiff, ↓reduceIte, reduceCtorEq, Nat.reduceLT, Nat.reduceEqDiff, Nat.reduceAdd, Nat.reduceSub, Nat.reduceMul, Int.reduceToNat, Int.reduceLT, Int.reduceLE, Int.reduceEq, Int.reduceNe, Int.reduceNeg, Int.reduceToNat, Int.lt_irrefl, Int.le_refl]
  refine callT hA rfl ?_
  rcases ck with rfl | rfl | rfl | rfl
  · have b5 := aroundL_bd b 5 (by omega)
    have hB := Around_s b 5 hb ⟨by omega, by omega⟩
    have ck : aroundL b 5 = 0 ∨ aroundL b 5 = 1 ∨ aroundL b 5 = 2 ∨ aroundL b 5 = 3 ∨ aroundL b 5 = 4 := by omega
    generalize aroundL b 5 = k at *
    simp only [go_sem, List.replicate_succ, Nat.reducePow, Nat.reduceLeDiff, ↓reduceIte, reduceCtorEq, Nat.reduceLT, Nat.reduceEqDiff, Nat.reduceAdd, Nat.reduceSub, Nat.reduceMul, Int.reduceToNat, Int.reduceLT, Int.reduceLE, Int.reduceEq, Int.reduceNe, Int.reduceNeg, Int.reduceToNat, Int.lt_irrefl, Int.le_refl]
    refine callT hB rfl ?_
    rcases ck with rfl | rfl | rfl | rfl | rfl <;> simp only [go_sem, List.replicate_succ, Nat.reducePow, Nat.reduceLeDiff, ↓reduceIte, reduceCtorEq, Nat.reduceLT, Nat.reduceEqDiff, Nat.reduceAdd, Nat.reduceSub, Nat.reduceMul, Int.reduceToNat, Int.reduceLT, Int.reduceLE, Int.reduceEq, Int.reduceNe, Int.reduceNeg, Int.reduceToNat, Int.lt_irrefl, Int.le_refl] <;> exact .tree _ rfl
  · have b5 := aroundL_bd b 10 (by omega)
    have hB := Around_s b 10 hb ⟨by omega, by omega⟩
    have w1 : IntKind.i64.wrap (aroundL b 10 - 2) = aroundL b 10 - 2 := wrap_id (by omega) (by omega)
    simp only [go_sem, List.replicate_succ, Nat.reducePow, Nat.reduceLeDiff, ↓reduceIte, reduceCtorEq, Nat.reduceLT, Nat.reduceEqDiff, Nat.reduceAdd, Nat.reduceSub, Nat.reduceMul, Int.reduceToNat, Int.reduceLT, Int.reduceLE, Int.reduceEq, Int.reduceNe, Int.reduceNeg, Int.reduceToNat, Int.lt_irrefl, Int.le_refl]
    refine callT hB rfl ?_
    simp only [go_sem, List.replicate_succ, Nat.reducePow, Nat.reduceLeDiff, ↓reduceIte, reduceCtorEq, Nat.reduceLT, Nat.reduceEqDiff, Nat.reduceAdd, Nat.reduceSub, Nat.reduceMul, Int.reduceToNat, Int.reduceLT, Int.reduceLE, Int.reduceEq, Int.reduceNe, Int.reduceNeg, Int.reduceToNat, Int.lt_irrefl, Int.le_refl, w1]
    exact .tree _ rfl
  · have b5 := aroundL_bd b 11 (by omega)
    have hB := Around_s b 11 hb ⟨by omega, by omega⟩
    have w1 : IntKind.i64.wrap (aroundL b 11 - 2) = aroundL b 11 - 2 := wrap_id (by omega) (by omega)
    simp only [go_sem, List.replicate_succ, Nat.reducePow, Nat.reduceLeDiff, ↓reduceIte, reduceCtorEq, Nat.reduceLT, Nat.reduceEqDiff, Nat.reduceAdd, Nat.reduceSub, Nat.reduceMul, Int.reduceToNat, Int.reduceLT, Int.reduceLE, Int.reduceEq, Int.reduceNe, Int.reduceNeg, Int.reduceToNat, Int.lt_irrefl, Int.le_refl]
    refine callT hB rfl ?_
    simp only [go_sem, List.replicate_succ, Nat.reducePow, Nat.reduceLeDiff, ↓reduceIte, reduceCtorEq, Nat.reduceLT, Nat.reduceEqDiff, Nat.reduceAdd, Nat.reduceSub, Nat.reduceMul, Int.reduceToNat, Int.reduceLT, Int.reduceLE, Int.reduceEq, Int.reduceNe, Int.reduceNeg, Int.reduceToNat, Int.lt_irrefl, Int.le_refl, w1]
    exact .tree _ rfl
  · have b5 := aroundL_bd b 7 (by omega)
    have hB := Around_s b 7 hb ⟨by omega, by omega⟩
    have w1 : IntKind.i64.wrap (aroundL b 7 - 2) = aroundL b 7 - 2 := wrap_id (by omega) (by omega)
    simp only [go_sem, List.replicate_succ, Nat.reducePow, Nat.reduceLeDiff, ↓reduceIte, reduceCtorEq, Nat.reduceLT, Nat.reduceEqDiff, Nat.reduceAdd, Nat.reduceSub, Nat.reduceMul, Int.reduceToNat, Int.reduceLT, Int.reduceLE, Int.reduceEq, Int.reduceNe, Int.reduceNeg, Int.reduceToNat, Int.lt_irrefl, Int.le_refl]
    refine callT hB rfl ?_
    simp only [go_sem, List.replicate_succ, Nat.reducePow, Nat.reduceLeDiff, ↓reduceIte, reduceCtorEq, Nat.reduceLT, Nat.reduceEqDiff, Nat.reduceAdd, Nat.reduceSub, Nat.reduceMul, Int.reduceToNat, Int.reduceLT, Int.reduceLE, Int.reduceEq, Int.reduceNe, Int.reduceNeg, Int.reduceToNat, Int.lt_irrefl, Int.le_refl, w1]
    exact .tree _ rfl
theorem New_bad (n : Int) (h : n < 1 ∨ 8 < n) : Ctr Try.prog 9 [vi n] (.tup [.val (.pointer none), vi 1]) := by
  refine specE f9 (by simp) fun F0 w0 => ?_
  by_cases a1 : n < 1
  · simp only [c9, go_sem, List.replicate_succ, Nat.reducePow, Nat.reduceLeDiff, ↓reduceIte, reduceCtorEq, Nat.reduceLT, Nat.reduceEqDiff, Nat.reduceAdd, Nat.reduceSub, Nat.reduceMul, Int.reduceToNat, Int.reduceLT, Int.reduceLE, Int.reduceEq, Int.reduceNe, Int.reduceNeg, Int.reduceToNat, Int.lt_irrefl, Int.le_refl, a1]
    exact .tree _ rfl
  · have a2 : 8 < n := by omega
    simp only [c9, go_sem, List.replicate_succ, Nat.reducePow, Nat.reduceLeDiff, ↓reduceIte, reduceCtorEq, Nat.reduceLT, Nat.reduceEqDiff, Nat.reduceAdd, Nat.reduceSub, Nat.reduceMul, Int.reduceToNat, Int.reduceLT, Int.reduceLE, Int.reduceEq, Int.reduceNe, Int.reduceNeg, Int.reduceToNat, Int.lt_irrefl, Int.le_refl, a1, a2]
    exact .tree _ rfl
abbrev vnil : AV := .val (.pointer none)
theorem Announce_nil (k : Int) : Ctr Try.prog 19 [vnil, vi k] (vi 1) := by
  refine specE f19 (by simp) fun F0 w0 => ?_
  simp only [c19, go_sem, List.replicate_succ, Nat.reducePow, Nat.reduceLeDiff, ↓reduceIte, reduceCtorEq, Nat.reduceLT, Nat.reduceEqDiff, Nat.reduceAdd, Nat.reduceSub, Nat.reduceMul, Int.reduceToNat, Int.reduceLT, Int.reduceLE, Int.reduceEq, Int.reduceNe, Int.reduceNeg, Int.reduceToNat, Int.lt_irrefl, Int.le_refl]
  exact .tree _ rfl
theorem Step_nil (x : Ev) : Ctr Try.prog 18 [vnil, vev x] (vi 1) := by
  refine specE f18 (by simp) fun F0 w0 => ?_
  simp only [c18, vev, go_sem, List.replicate_succ, Nat.reducePow, Nat.reduceLeDiff, ↓reduceIte, reduceCtorEq, Nat.reduceLT, Nat.reduceEqDiff, Nat.reduceAdd, Nat.reduceSub, Nat.reduceMul, Int.reduceToNat, Int.reduceLT, Int.reduceLE, Int.reduceEq, Int.reduceNe, Int.reduceNeg, Int.reduceToNat, Int.lt_irrefl, Int.le_refl]
  exact .tree _ rfl
theorem Moment_nil : Ctr Try.prog 15 [vnil] (vi 0) := by
  refine specE f15 (by simp) fun F0 w0 => ?_
  simp only [c15, go_sem, List.replicate_succ, Nat.reducePow, Nat.reduceLeDiff, ↓reduceIte, reduceCtorEq, Nat.reduceLT, Nat.reduceEqDiff, Nat.reduceAdd, Nat.reduceSub, Nat.reduceMul, Int.reduceToNat, Int.reduceLT, Int.reduceLE, Int.reduceEq, Int.reduceNe, Int.reduceNeg, Int.reduceToNat, Int.lt_irrefl, Int.le_refl]
  exact .tree _ rfl
theorem Shown_nil (k : Int) : Ctr Try.prog 11 [vnil, vi k] (.list 1 []) := by
  refine specE f11 (by simp) fun F0 w0 => ?_
  simp only [c11, go_sem, List.replicate_succ, Nat.reducePow, Nat.reduceLeDiff, ↓reduceIte, reduceCtorEq, Nat.reduceLT, Nat.reduceEqDiff, Nat.reduceAdd, Nat.reduceSub, Nat.reduceMul, Int.reduceToNat, Int.reduceLT, Int.reduceLE, Int.reduceEq, Int.reduceNe, Int.reduceNeg, Int.reduceToNat, Int.lt_irrefl, Int.le_refl]
  exact .nil _
theorem Answers_nil : Ctr Try.prog 12 [vnil] (.list 3 []) := by
  refine specE f12 (by simp) fun F0 w0 => ?_
  simp only [c12, go_sem, List.replicate_succ, Nat.reducePow, Nat.reduceLeDiff, ↓reduceIte, reduceCtorEq, Nat.reduceLT, Nat.reduceEqDiff, Nat.reduceAdd, Nat.reduceSub, Nat.reduceMul, Int.reduceToNat, Int.reduceLT, Int.reduceLE, Int.reduceEq, Int.reduceNe, Int.reduceNeg, Int.reduceToNat, Int.lt_irrefl, Int.le_refl]
  exact .nil _
theorem Copy_nil : Ctr Try.prog 25 [vnil] vnil := by
  refine specE f25 (by simp) fun F0 w0 => ?_
  simp only [c25, go_sem, List.replicate_succ, Nat.reducePow, Nat.reduceLeDiff, ↓reduceIte, reduceCtorEq, Nat.reduceLT, Nat.reduceEqDiff, Nat.reduceAdd, Nat.reduceSub, Nat.reduceMul, Int.reduceToNat, Int.reduceLT, Int.reduceLE, Int.reduceEq, Int.reduceNe, Int.reduceNeg, Int.reduceToNat, Int.lt_irrefl, Int.le_refl]
  exact .tree _ rfl
end Go.Proofs.Ytjpknjicfoiheaa
