/- The small functions of the law, by contract. -/
import Derived.Test.YtehelanfgepcmaaPb
set_option linter.unusedSimpArgs false
set_option linter.unusedVariables false
set_option linter.unusedSectionVars false
namespace Go.Proofs.Ytehelanfgepcmaa
open Go.RowKit Dak

set_option maxRecDepth 100000 in
theorem words_s (X : List (List (List Int))) (hX : X.length ≤ 1000000) : Ctr Try.prog 14 [vwords X] (vwords X) := by
  refine specE f14 (by simp) fun F0 w0 => ?_
  simp only [c14, go_sem, List.replicate_succ, Nat.reducePow, Nat.reduceLeDiff, ↓reduceIte, reduceCtorEq, Nat.reduceLT, Nat.reduceEqDiff, Nat.reduceAdd, Nat.reduceSub, Nat.reduceMul, Int.reduceToNat]
  refine loopX 0 (fun m s => ∃ k : Nat, m = X.length - k ∧ k ≤ X.length ∧ s = ⟨[(0, vwords X), (3, ownV 0 k), (4, vi k)], [.arr k 1 42 ((X.take k).map vword)]⟩)
    (fun s => s = ⟨[(3, ownV 0 X.length)], [.arr X.length 1 42 (X.map vword)]⟩) X.length
    ⟨[(0, vwords X), (3, ownV 0 0), (4, vi (0 : Nat))], [.arr 0 1 42 []]⟩ ((WkE.nil 3 1 42 (by omega) rfl).trans (WkE.keep (by simp [go_sem, List.replicate_succ, Nat.reducePow, Nat.reduceLeDiff, ↓reduceIte, reduceCtorEq, Nat.reduceLT, Nat.reduceEqDiff, Nat.reduceAdd, Nat.reduceSub, Nat.reduceMul, Int.reduceToNat]))) ⟨0, by simp⟩ ?_ ?_
  rotate_left
  · rintro s rfl
    simp only [go_sem, List.replicate_succ, Nat.reducePow, Nat.reduceLeDiff, ↓reduceIte, reduceCtorEq, Nat.reduceLT, Nat.reduceEqDiff, Nat.reduceAdd, Nat.reduceSub, Nat.reduceMul, Int.reduceToNat]
    refine .own 0 _ 0 _ 1 42 _ _ rfl (by simp) (by simp) fun i hi => ?_
    simp only [Nat.zero_add, List.getElem_map]
    exact .tree _ rfl
  rintro m s ⟨k, rfl, hk, rfl⟩
  by_cases hlt : k < X.length
  · have h1 : (k : Int) < (X.length : Int) := by omega
    have h0 : (0 : Int) ≤ (k : Int) := by omega
    have hw : IntKind.i64.wrap ((k : Int) + 1) = ((k + 1 : Nat) : Int) := by rw [wrap_id (by omega) (by omega)]; omega
    have hb : (k + 1) * 24 ≤ 140737488355328 := by omega
    have hm : min k X.length = k := by omega
    simp only [go_sem, List.replicate_succ, Nat.reducePow, Nat.reduceLeDiff, ↓reduceIte, reduceCtorEq, Nat.reduceLT, Nat.reduceEqDiff, Nat.reduceAdd, Nat.reduceSub, Nat.reduceMul, Int.reduceToNat, h1, h0, List.getElem?_map, List.getElem?_eq_getElem hlt, hw, hb, List.length_take, hm]
    refine ⟨X.length - (k + 1), ⟨[(0, vwords X), (3, ownV 0 (k + 1)), (4, vi (k + 1 : Nat))], [.arr (k + 1) 1 42 ((X.take (k + 1)).map vword)]⟩, by omega, ?_, k + 1, rfl, by omega, rfl⟩
    rw [List.take_succ_eq_append_getElem hlt]
    simp only [List.map_append, List.map_cons, List.map_nil]
    exact WkE.keep (by simp only [go_sem, List.replicate_succ, Nat.reducePow, Nat.reduceLeDiff, ↓reduceIte, reduceCtorEq, Nat.reduceLT, Nat.reduceEqDiff, Nat.reduceAdd, Nat.reduceSub, Nat.reduceMul, Int.reduceToNat])
  · have e : k = X.length := by omega
    subst e
    simp only [go_sem, List.replicate_succ, Nat.reducePow, Nat.reduceLeDiff, ↓reduceIte, reduceCtorEq, Nat.reduceLT, Nat.reduceEqDiff, Nat.reduceAdd, Nat.reduceSub, Nat.reduceMul, Int.reduceToNat, Int.lt_irrefl]
    exact ⟨_, WkE.keep (by simp [go_sem, List.replicate_succ, Nat.reducePow, Nat.reduceLeDiff, ↓reduceIte, reduceCtorEq, Nat.reduceLT, Nat.reduceEqDiff, Nat.reduceAdd, Nat.reduceSub, Nat.reduceMul, Int.reduceToNat]), rfl⟩

set_option maxRecDepth 100000 in
theorem simple_s (L : List Int) (hX : L.length ≤ 1000000) : Ctr Try.prog 21 [vints L] (vwords (L.map fun n => [[n]])) := by
  refine specE f21 (by simp) fun F0 w0 => ?_
  simp only [c21, go_sem, List.replicate_succ, Nat.reducePow, Nat.reduceLeDiff, ↓reduceIte, reduceCtorEq, Nat.reduceLT, Nat.reduceEqDiff, Nat.reduceAdd, Nat.reduceSub, Nat.reduceMul, Int.reduceToNat]
  refine loopX 0 (fun m s => ∃ k : Nat, m = L.length - k ∧ k ≤ L.length ∧ s = ⟨[(0, vints L), (3, ownV 0 k), (4, vi k)], [.arr k 1 42 ((L.take k).map fun n => vword [[n]])]⟩)
    (fun s => s = ⟨[(3, ownV 0 L.length)], [.arr L.length 1 42 (L.map fun n => vword [[n]])]⟩) L.length
    ⟨[(0, vints L), (3, ownV 0 0), (4, vi (0 : Nat))], [.arr 0 1 42 []]⟩ ((WkE.nil 3 1 42 (by omega) rfl).trans (WkE.keep (by simp [go_sem, List.replicate_succ, Nat.reducePow, Nat.reduceLeDiff, ↓reduceIte, reduceCtorEq, Nat.reduceLT, Nat.reduceEqDiff, Nat.reduceAdd, Nat.reduceSub, Nat.reduceMul, Int.reduceToNat]))) ⟨0, by simp⟩ ?_ ?_
  rotate_left
  · rintro s rfl
    simp only [go_sem, List.replicate_succ, Nat.reducePow, Nat.reduceLeDiff, ↓reduceIte, reduceCtorEq, Nat.reduceLT, Nat.reduceEqDiff, Nat.reduceAdd, Nat.reduceSub, Nat.reduceMul, Int.reduceToNat]
    refine .own 0 _ 0 _ 1 42 _ _ rfl (by simp) (by simp) fun i hi => ?_
    simp only [Nat.zero_add, List.getElem_map]
    exact .tree _ rfl
  rintro m s ⟨k, rfl, hk, rfl⟩
  by_cases hlt : k < L.length
  · have h1 : (k : Int) < (L.length : Int) := by omega
    have h0 : (0 : Int) ≤ (k : Int) := by omega
    have hw : IntKind.i64.wrap ((k : Int) + 1) = ((k + 1 : Nat) : Int) := by rw [wrap_id (by omega) (by omega)]; omega
    have hb : (k + 1) * 24 ≤ 140737488355328 := by omega
    have hm : min k L.length = k := by omega
    simp only [go_sem, List.replicate_succ, Nat.reducePow, Nat.reduceLeDiff, ↓reduceIte, reduceCtorEq, Nat.reduceLT, Nat.reduceEqDiff, Nat.reduceAdd, Nat.reduceSub, Nat.reduceMul, Int.reduceToNat, h1, h0, List.getElem?_map, List.getElem?_eq_getElem hlt, hw, hb, List.length_take, hm]
    refine ⟨L.length - (k + 1), ⟨[(0, vints L), (3, ownV 0 (k + 1)), (4, vi (k + 1 : Nat))], [.arr (k + 1) 1 42 ((L.take (k + 1)).map fun n => vword [[n]])]⟩, by omega, ?_, k + 1, rfl, by omega, rfl⟩
    rw [List.take_succ_eq_append_getElem hlt]
    simp only [List.map_append, List.map_cons, List.map_nil]
    exact WkE.keep (by simp only [go_sem, List.replicate_succ, Nat.reducePow, Nat.reduceLeDiff, ↓reduceIte, reduceCtorEq, Nat.reduceLT, Nat.reduceEqDiff, Nat.reduceAdd, Nat.reduceSub, Nat.reduceMul, Int.reduceToNat])
  · have e : k = L.length := by omega
    subst e
    simp only [go_sem, List.replicate_succ, Nat.reducePow, Nat.reduceLeDiff, ↓reduceIte, reduceCtorEq, Nat.reduceLT, Nat.reduceEqDiff, Nat.reduceAdd, Nat.reduceSub, Nat.reduceMul, Int.reduceToNat, Int.lt_irrefl]
    exact ⟨_, WkE.keep (by simp [go_sem, List.replicate_succ, Nat.reducePow, Nat.reduceLeDiff, ↓reduceIte, reduceCtorEq, Nat.reduceLT, Nat.reduceEqDiff, Nat.reduceAdd, Nat.reduceSub, Nat.reduceMul, Int.reduceToNat]), rfl⟩

def widthsL (n : Int) : List Int := [1 + aroundL n 20, ([0, 513, 512, 1, -1] : List Int).getD (aroundL n 5).toNat 0]
theorem widths_s (n : Int) (h : I64 n) : Ctr Try.prog 12 [vi n] (vints (widthsL n)) := by
  refine specE f12 (by simp) fun F0 w0 => ?_
  have a1 := aroundL_bd n 20 (by omega)
  have a2 := aroundL_bd n 5 (by omega)
  have e1 : IntKind.i64.wrap (1 + aroundL n 20) = 1 + aroundL n 20 := wrap_id (by omega) (by omega)
  obtain ⟨k, hk⟩ : ∃ k : Nat, aroundL n 5 = k := ⟨(aroundL n 5).toNat, by omega⟩
  simp only [c12, go_sem, List.replicate_succ, Nat.reducePow, Nat.reduceLeDiff, ↓reduceIte, reduceCtorEq, Nat.reduceLT, Nat.reduceEqDiff, Nat.reduceAdd, Nat.reduceSub, Nat.reduceMul, Int.reduceToNat]
  refine callT (Around_s n 20 h ⟨by omega, by omega⟩) rfl ?_
  simp only [go_sem, List.replicate_succ, Nat.reducePow, Nat.reduceLeDiff, ↓reduceIte, reduceCtorEq, Nat.reduceLT, Nat.reduceEqDiff, Nat.reduceAdd, Nat.reduceSub, Nat.reduceMul, Int.reduceToNat, e1]
  refine callT (Around_s n 5 h ⟨by omega, by omega⟩) rfl ?_
  have h0 : (0 : Int) ≤ (k : Int) := by omega
  have h5 : k < 5 := by omega
  have : ([0, 513, 512, 1, -1] : List Int).getD k 0 = [0, 513, 512, 1, -1][k] := by simp [h5]
  simp only [hk, go_sem, List.replicate_succ, Nat.reducePow, Nat.reduceLeDiff, ↓reduceIte, reduceCtorEq, Nat.reduceLT, Nat.reduceEqDiff, Nat.reduceAdd, Nat.reduceSub, Nat.reduceMul, Int.reduceToNat, h0, widthsL, this]
  rcases (by omega : k = 0 ∨ k = 1 ∨ k = 2 ∨ k = 3 ∨ k = 4) with rfl | rfl | rfl | rfl | rfl <;> simp only [go_sem, List.replicate_succ, Nat.reducePow, Nat.reduceLeDiff, ↓reduceIte, reduceCtorEq, Nat.reduceLT, Nat.reduceEqDiff, Nat.reduceAdd, Nat.reduceSub, Nat.reduceMul, Int.reduceToNat] <;> exact .tree _ rfl

theorem Same_s (A B : List (List Int)) (hA : A.length ≤ 1000000) (hA2 : ∀ x ∈ A, x.length ≤ 1000000) : Ctr Try.prog 17 [vrows A, vrows B] (vb (decide (A = B))) := by
  refine specE f17 (by simp) fun F0 w0 => ?_
  by_cases hl : A.length = B.length
  · have hl' : (A.length : Int) = (B.length : Int) := by omega
    simp only [c17, go_sem, List.replicate_succ, Nat.reducePow, Nat.reduceLeDiff, ↓reduceIte, reduceCtorEq, Nat.reduceLT, Nat.reduceEqDiff, Nat.reduceAdd, Nat.reduceSub, Nat.reduceMul, Int.reduceToNat, hl']
    refine loopE (fun m s => ∃ k : Nat, m = B.length - k ∧ k ≤ B.length ∧ A.take k = B.take k ∧ s = ⟨[(0, vrows A), (1, vrows B), (5, vi k)], []⟩) B.length ⟨[(0, vrows A), (1, vrows B), (5, vi (0 : Nat))], []⟩ (WkE.keep (by simp [go_sem, List.replicate_succ, Nat.reducePow, Nat.reduceLeDiff, ↓reduceIte, reduceCtorEq, Nat.reduceLT, Nat.reduceEqDiff, Nat.reduceAdd, Nat.reduceSub, Nat.reduceMul, Int.reduceToNat])) ⟨0, by simp⟩ ?_
    rintro m s ⟨k, rfl, hk, ht, rfl⟩
    by_cases hlt : k < B.length
    · have hltA : k < A.length := by omega
      have h1 : (k : Int) < (A.length : Int) := by omega
      have h0 : (0 : Int) ≤ (k : Int) := by omega
      have hw : IntKind.i64.wrap ((k : Int) + 1) = ((k + 1 : Nat) : Int) := by rw [wrap_id (by omega) (by omega)]; omega
      simp only [go_sem, List.replicate_succ, Nat.reducePow, Nat.reduceLeDiff, ↓reduceIte, reduceCtorEq, Nat.reduceLT, Nat.reduceEqDiff, Nat.reduceAdd, Nat.reduceSub, Nat.reduceMul, Int.reduceToNat, h1, h0, List.getElem?_map, List.getElem?_eq_getElem hlt, List.getElem?_eq_getElem hltA]
      refine callT (SameInts_s A[k] B[k] (by have := hA2 _ (List.getElem_mem hltA); omega)) rfl ?_
      by_cases he : A[k] = B[k]
      · simp only [go_sem, List.replicate_succ, Nat.reducePow, Nat.reduceLeDiff, ↓reduceIte, reduceCtorEq, Nat.reduceLT, Nat.reduceEqDiff, Nat.reduceAdd, Nat.reduceSub, Nat.reduceMul, Int.reduceToNat, he, hw]
        refine ⟨B.length - (k + 1), ⟨[(0, vrows A), (1, vrows B), (5, vi (k + 1 : Nat))], []⟩, by omega, WkE.keep (by simp [go_sem, List.replicate_succ, Nat.reducePow, Nat.reduceLeDiff, ↓reduceIte, reduceCtorEq, Nat.reduceLT, Nat.reduceEqDiff, Nat.reduceAdd, Nat.reduceSub, Nat.reduceMul, Int.reduceToNat]), k + 1, rfl, by omega, takeS_eq ht hltA hlt he, rfl⟩
      · simp only [go_sem, List.replicate_succ, Nat.reducePow, Nat.reduceLeDiff, ↓reduceIte, reduceCtorEq, Nat.reduceLT, Nat.reduceEqDiff, Nat.reduceAdd, Nat.reduceSub, Nat.reduceMul, Int.reduceToNat, he, hw]
        have : decide (A = B) = false := by rw [decide_eq_false_iff_not]; rintro rfl; exact he rfl
        rw [this]; exact .tree _ rfl
    · have hkB : k = B.length := by omega
      have h1 : ¬ (k : Int) < (A.length : Int) := by omega
      simp only [go_sem, List.replicate_succ, Nat.reducePow, Nat.reduceLeDiff, ↓reduceIte, reduceCtorEq, Nat.reduceLT, Nat.reduceEqDiff, Nat.reduceAdd, Nat.reduceSub, Nat.reduceMul, Int.reduceToNat, h1]
      have : decide (A = B) = true := by
        rw [decide_eq_true_eq]
        rw [hkB, List.take_length, ← hl, List.take_length] at ht
        exact ht
      rw [this]; exact .tree _ rfl
  · have hl' : ¬ (A.length : Int) = (B.length : Int) := by omega
    simp only [c17, go_sem, List.replicate_succ, Nat.reducePow, Nat.reduceLeDiff, ↓reduceIte, reduceCtorEq, Nat.reduceLT, Nat.reduceEqDiff, Nat.reduceAdd, Nat.reduceSub, Nat.reduceMul, Int.reduceToNat, hl']
    have : decide (A = B) = false := by rw [decide_eq_false_iff_not]; rintro rfl; exact hl rfl
    rw [this]; exact .tree _ rfl

theorem SameEnds_s (A B : List (Int × Int)) (hA : A.length ≤ 1000000) : Ctr Try.prog 16 [vpairs A, vpairs B] (vb (decide (A = B))) := by
  refine specE f16 (by simp) fun F0 w0 => ?_
  by_cases hl : A.length = B.length
  · have hl' : (A.length : Int) = (B.length : Int) := by omega
    simp only [c16, go_sem, List.replicate_succ, Nat.reducePow, Nat.reduceLeDiff, ↓reduceIte, reduceCtorEq, Nat.reduceLT, Nat.reduceEqDiff, Nat.reduceAdd, Nat.reduceSub, Nat.reduceMul, Int.reduceToNat, hl']
    refine loopE (fun m s => ∃ k : Nat, m = B.length - k ∧ k ≤ B.length ∧ A.take k = B.take k ∧ s = ⟨[(0, vpairs A), (1, vpairs B), (5, vi k)], []⟩) B.length ⟨[(0, vpairs A), (1, vpairs B), (5, vi (0 : Nat))], []⟩ (WkE.keep (by simp [go_sem, List.replicate_succ, Nat.reducePow, Nat.reduceLeDiff, ↓reduceIte, reduceCtorEq, Nat.reduceLT, Nat.reduceEqDiff, Nat.reduceAdd, Nat.reduceSub, Nat.reduceMul, Int.reduceToNat])) ⟨0, by simp⟩ ?_
    rintro m s ⟨k, rfl, hk, ht, rfl⟩
    by_cases hlt : k < B.length
    · have hltA : k < A.length := by omega
      have h1 : (k : Int) < (A.length : Int) := by omega
      have h0 : (0 : Int) ≤ (k : Int) := by omega
      have hw : IntKind.i64.wrap ((k : Int) + 1) = ((k + 1 : Nat) : Int) := by rw [wrap_id (by omega) (by omega)]; omega
      by_cases he : A[k] = B[k]
      · simp only [go_sem, List.replicate_succ, Nat.reducePow, Nat.reduceLeDiff, ↓reduceIte, reduceCtorEq, Nat.reduceLT, Nat.reduceEqDiff, Nat.reduceAdd, Nat.reduceSub, Nat.reduceMul, Int.reduceToNat, h1, h0, List.getElem?_map, List.getElem?_eq_getElem hlt, List.getElem?_eq_getElem hltA, he, hw]
        refine ⟨B.length - (k + 1), ⟨[(0, vpairs A), (1, vpairs B), (5, vi (k + 1 : Nat))], []⟩, by omega, WkE.keep (by simp [go_sem, List.replicate_succ, Nat.reducePow, Nat.reduceLeDiff, ↓reduceIte, reduceCtorEq, Nat.reduceLT, Nat.reduceEqDiff, Nat.reduceAdd, Nat.reduceSub, Nat.reduceMul, Int.reduceToNat]), k + 1, rfl, by omega, takeS_eq ht hltA hlt he, rfl⟩
      · have he1 : ¬ (A[k].1 = B[k].1 ∧ A[k].2 = B[k].2) := fun h => he (Prod.ext h.1 h.2)
        simp only [go_sem, List.replicate_succ, Nat.reducePow, Nat.reduceLeDiff, ↓reduceIte, reduceCtorEq, Nat.reduceLT, Nat.reduceEqDiff, Nat.reduceAdd, Nat.reduceSub, Nat.reduceMul, Int.reduceToNat, List.cons.injEq, h1, h0, List.getElem?_map, List.getElem?_eq_getElem hlt, List.getElem?_eq_getElem hltA, he1, hw]
        have : decide (A = B) = false := by rw [decide_eq_false_iff_not]; rintro rfl; exact he rfl
        rw [this]; exact .tree _ rfl
    · have hkB : k = B.length := by omega
      have h1 : ¬ (k : Int) < (A.length : Int) := by omega
      simp only [go_sem, List.replicate_succ, Nat.reducePow, Nat.reduceLeDiff, ↓reduceIte, reduceCtorEq, Nat.reduceLT, Nat.reduceEqDiff, Nat.reduceAdd, Nat.reduceSub, Nat.reduceMul, Int.reduceToNat, h1]
      have : decide (A = B) = true := by
        rw [decide_eq_true_eq]
        rw [hkB, List.take_length, ← hl, List.take_length] at ht
        exact ht
      rw [this]; exact .tree _ rfl
  · have hl' : ¬ (A.length : Int) = (B.length : Int) := by omega
    simp only [c16, go_sem, List.replicate_succ, Nat.reducePow, Nat.reduceLeDiff, ↓reduceIte, reduceCtorEq, Nat.reduceLT, Nat.reduceEqDiff, Nat.reduceAdd, Nat.reduceSub, Nat.reduceMul, Int.reduceToNat, hl']
    have : decide (A = B) = false := by rw [decide_eq_false_iff_not]; rintro rfl; exact hl rfl
    rw [this]; exact .tree _ rfl
end Go.Proofs.Ytehelanfgepcmaa
