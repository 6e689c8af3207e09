/- slices.Equal, slices.EqualFunc, gcd, by contract. -/
import Derived.Test.YtphcaelkpgdbcaaPj
set_option linter.unusedSimpArgs false
set_option linter.unusedVariables false
set_option linter.unusedSectionVars false
namespace Go.Proofs.Ytphcaelkpgdbcaa
open Go.RowKit Dak
theorem Equal_s (A B : List Int) (hA : A.length ≤ 9223372036854775806) : Ctr Try.prog 32 [vints A, vints B] (vb (decide (A = B))) := by
  refine specE f32 (by simp) fun F0 w0 => ?_
  by_cases hl : A.length = B.length
  · have hl' : (A.length : Int) = (B.length : Int) := by omega
    simp only [c32, go_sem, List.replicate_succ, Nat.reducePow, Nat.reduceLeDiff, ↓reduceIte, reduceCtorEq, Nat.reduceLT, Nat.reduceEqDiff, Nat.reduceAdd, Nat.reduceSub, Nat.reduceMul, Int.reduceToNat, hl']
    refine loopX 0 (fun m s => ∃ k : Nat, m = B.length - k ∧ k ≤ B.length ∧ A.take k = B.take k ∧ s = ⟨[(0, vints A), (1, vints B), (12, vi B.length), (13, vi k)], []⟩) (fun _ => A = B) B.length ⟨[(0, vints A), (1, vints B), (12, vi B.length), (13, vi (0 : Nat))], []⟩ (WkE.keep (by simp only [go_sem, List.replicate_succ, Nat.reducePow, Nat.reduceLeDiff, ↓reduceIte, reduceCtorEq, Nat.reduceLT, Nat.reduceEqDiff, Nat.reduceAdd, Nat.reduceSub, Nat.reduceMul, Int.reduceToNat]; rfl)) ⟨0, by omega, by omega, rfl, rfl⟩ ?_ ?_
    rotate_left
    · rintro s e
      simp only [go_sem, List.replicate_succ, Nat.reducePow, Nat.reduceLeDiff, ↓reduceIte, reduceCtorEq, Nat.reduceLT, Nat.reduceEqDiff, Nat.reduceAdd, Nat.reduceSub, Nat.reduceMul, Int.reduceToNat, e]
      exact .tree _ rfl
    rintro m s ⟨k, rfl, hk, ht, rfl⟩
    by_cases hlt : k < B.length
    · have hltA : k < A.length := by omega
      have h1 : (k : Int) < (B.length : Int) := by omega
      have h0 : (0 : Int) ≤ (k : Int) := by omega
      have hw : IntKind.i64.wrap ((k : Int) + 1) = ((k + 1 : Nat) : Int) := by rw [wrap_id (by omega) (by omega)]; omega
      by_cases he : A[k] = B[k]
      · simp only [go_sem, List.replicate_succ, Nat.reducePow, Nat.reduceLeDiff, ↓reduceIte, reduceCtorEq, Nat.reduceLT, Nat.reduceEqDiff, Nat.reduceAdd, Nat.reduceSub, Nat.reduceMul, Int.reduceToNat, h1, h0, List.getElem?_map, List.getElem?_eq_getElem hlt, List.getElem?_eq_getElem hltA, he, hw]
        exact ⟨B.length - (k + 1), ⟨[(0, vints A), (1, vints B), (12, vi B.length), (13, vi (k + 1 : Nat))], []⟩, by omega, WkE.keep (by simp only [go_sem, List.replicate_succ, Nat.reducePow, Nat.reduceLeDiff, ↓reduceIte, reduceCtorEq, Nat.reduceLT, Nat.reduceEqDiff, Nat.reduceAdd, Nat.reduceSub, Nat.reduceMul, Int.reduceToNat]), k + 1, rfl, by omega, takeS_eq ht hltA hlt he, rfl⟩
      · simp only [go_sem, List.replicate_succ, Nat.reducePow, Nat.reduceLeDiff, ↓reduceIte, reduceCtorEq, Nat.reduceLT, Nat.reduceEqDiff, Nat.reduceAdd, Nat.reduceSub, Nat.reduceMul, Int.reduceToNat, h1, h0, List.getElem?_map, List.getElem?_eq_getElem hlt, List.getElem?_eq_getElem hltA, he, hw]
        have : decide (A = B) = false := by rw [decide_eq_false_iff_not]; rintro rfl; exact he rfl
        rw [this]; exact .tree _ rfl
    · have hkB : k = B.length := by omega
      have h1 : ¬ (k : Int) < (B.length : Int) := by omega
      simp only [go_sem, List.replicate_succ, Nat.reducePow, Nat.reduceLeDiff, ↓reduceIte, reduceCtorEq, Nat.reduceLT, Nat.reduceEqDiff, Nat.reduceAdd, Nat.reduceSub, Nat.reduceMul, Int.reduceToNat, h1]
      refine ⟨⟨[], []⟩, WkE.keep trivial, ?_⟩
      rw [hkB, List.take_length, ← hl, List.take_length] at ht
      exact ht
  · have hl' : ¬ (A.length : Int) = (B.length : Int) := by omega
    simp only [c32, go_sem, List.replicate_succ, Nat.reducePow, Nat.reduceLeDiff, ↓reduceIte, reduceCtorEq, Nat.reduceLT, Nat.reduceEqDiff, Nat.reduceAdd, Nat.reduceSub, Nat.reduceMul, Int.reduceToNat, hl']
    have : decide (A = B) = false := by rw [decide_eq_false_iff_not]; rintro rfl; exact hl rfl
    rw [this]; exact .tree _ rfl
theorem EqualFunc_s (A B : List (List Int)) (hA : A.length ≤ 1000000) (hA2 : ∀ x ∈ A, x.length ≤ 1000000) : Ctr Try.prog 31 [vrows A, vrows B, .clo (.func 32) []] (vb (decide (A = B))) := by
  refine specE f31 (by simp) fun F0 w0 => ?_
  by_cases hl : A.length = B.length
  · have hl' : (A.length : Int) = (B.length : Int) := by omega
    simp only [c31, go_sem, List.replicate_succ, Nat.reducePow, Nat.reduceLeDiff, ↓reduceIte, reduceCtorEq, Nat.reduceLT, Nat.reduceEqDiff, Nat.reduceAdd, Nat.reduceSub, Nat.reduceMul, Int.reduceToNat, hl']
    refine loopX 0 (fun m s => ∃ k : Nat, m = B.length - k ∧ k ≤ B.length ∧ A.take k = B.take k ∧ s = ⟨[(1, vrows B), (2, .clo (.func 32) []), (15, vrows A), (16, vi B.length), (17, vi k)], []⟩) (fun _ => A = B) B.length ⟨[(1, vrows B), (2, .clo (.func 32) []), (15, vrows A), (16, vi B.length), (17, vi (0 : Nat))], []⟩ (WkE.keep (by simp only [go_sem, List.replicate_succ, Nat.reducePow, Nat.reduceLeDiff, ↓reduceIte, reduceCtorEq, Nat.reduceLT, Nat.reduceEqDiff, Nat.reduceAdd, Nat.reduceSub, Nat.reduceMul, Int.reduceToNat]; rfl)) ⟨0, by omega, by omega, rfl, rfl⟩ ?_ ?_
    rotate_left
    · rintro s e
      simp only [go_sem, List.replicate_succ, Nat.reducePow, Nat.reduceLeDiff, ↓reduceIte, reduceCtorEq, Nat.reduceLT, Nat.reduceEqDiff, Nat.reduceAdd, Nat.reduceSub, Nat.reduceMul, Int.reduceToNat, e]
      exact .tree _ rfl
    rintro m s ⟨k, rfl, hk, ht, rfl⟩
    by_cases hlt : k < B.length
    · have hltA : k < A.length := by omega
      have h1 : (k : Int) < (B.length : Int) := by omega
      have h0 : (0 : Int) ≤ (k : Int) := by omega
      have hw : IntKind.i64.wrap ((k : Int) + 1) = ((k + 1 : Nat) : Int) := by rw [wrap_id (by omega) (by omega)]; omega
      simp only [go_sem, List.replicate_succ, Nat.reducePow, Nat.reduceLeDiff, ↓reduceIte, reduceCtorEq, Nat.reduceLT, Nat.reduceEqDiff, Nat.reduceAdd, Nat.reduceSub, Nat.reduceMul, Int.reduceToNat, h1, h0, List.getElem?_map, List.getElem?_eq_getElem hlt, List.getElem?_eq_getElem hltA]
      refine callT (Equal_s A[k] B[k] (by have := hA2 _ (List.getElem_mem hltA); omega)) rfl ?_
      by_cases he : A[k] = B[k]
      · simp only [go_sem, List.replicate_succ, Nat.reducePow, Nat.reduceLeDiff, ↓reduceIte, reduceCtorEq, Nat.reduceLT, Nat.reduceEqDiff, Nat.reduceAdd, Nat.reduceSub, Nat.reduceMul, Int.reduceToNat, he, hw]
        exact ⟨B.length - (k + 1), ⟨[(1, vrows B), (2, .clo (.func 32) []), (15, vrows A), (16, vi B.length), (17, vi (k + 1 : Nat))], []⟩, by omega, WkE.keep (by simp only [go_sem, List.replicate_succ, Nat.reducePow, Nat.reduceLeDiff, ↓reduceIte, reduceCtorEq, Nat.reduceLT, Nat.reduceEqDiff, Nat.reduceAdd, Nat.reduceSub, Nat.reduceMul, Int.reduceToNat]), k + 1, rfl, by omega, takeS_eq ht hltA hlt he, rfl⟩
      · simp only [go_sem, List.replicate_succ, Nat.reducePow, Nat.reduceLeDiff, ↓reduceIte, reduceCtorEq, Nat.reduceLT, Nat.reduceEqDiff, Nat.reduceAdd, Nat.reduceSub, Nat.reduceMul, Int.reduceToNat, he, hw]
        have : decide (A = B) = false := by rw [decide_eq_false_iff_not]; rintro rfl; exact he rfl
        rw [this]; exact .tree _ rfl
    · have hkB : k = B.length := by omega
      have h1 : ¬ (k : Int) < (B.length : Int) := by omega
      simp only [go_sem, List.replicate_succ, Nat.reducePow, Nat.reduceLeDiff, ↓reduceIte, reduceCtorEq, Nat.reduceLT, Nat.reduceEqDiff, Nat.reduceAdd, Nat.reduceSub, Nat.reduceMul, Int.reduceToNat, h1]
      refine ⟨⟨[], []⟩, WkE.keep trivial, ?_⟩
      rw [hkB, List.take_length, ← hl, List.take_length] at ht
      exact ht
  · have hl' : ¬ (A.length : Int) = (B.length : Int) := by omega
    simp only [c31, go_sem, List.replicate_succ, Nat.reducePow, Nat.reduceLeDiff, ↓reduceIte, reduceCtorEq, Nat.reduceLT, Nat.reduceEqDiff, Nat.reduceAdd, Nat.reduceSub, Nat.reduceMul, Int.reduceToNat, hl']
    have : decide (A = B) = false := by rw [decide_eq_false_iff_not]; rintro rfl; exact hl rfl
    rw [this]; exact .tree _ rfl
theorem tmod_nat (a b : Nat) : ((a : Int)).tmod (b : Int) = ((a % b : Nat) : Int) := by
  rw [Int.ofNat_tmod]
theorem gcd_s (a b : Nat) (ha : a ≤ 1000000000) (hb : b ≤ 1000000000) : Ctr Try.prog 33 [vi a, vi b] (vi (Nat.gcd a b : Nat)) := by
  refine specE f33 (by simp) fun F0 w0 => ?_
  obtain ⟨g, hg⟩ : ∃ g, Nat.gcd a b = g := ⟨_, rfl⟩
  rw [hg]
  simp only [c33, go_sem, List.replicate_succ, Nat.reducePow, Nat.reduceLeDiff, ↓reduceIte, reduceCtorEq, Nat.reduceLT, Nat.reduceEqDiff, Nat.reduceAdd, Nat.reduceSub, Nat.reduceMul, Int.reduceToNat]
  refine loopX 0 (fun m s => ∃ x y : Nat, m = y ∧ Nat.gcd x y = g ∧ s = ⟨[(0, vi x), (1, vi y)], []⟩) (fun s => s = ⟨[(0, vi g)], []⟩) b ⟨[(0, vi a), (1, vi b)], []⟩ (WkE.keep (by simp only [go_sem, List.replicate_succ, Nat.reducePow, Nat.reduceLeDiff, ↓reduceIte, reduceCtorEq, Nat.reduceLT, Nat.reduceEqDiff, Nat.reduceAdd, Nat.reduceSub, Nat.reduceMul, Int.reduceToNat])) ⟨a, b, rfl, hg, rfl⟩ ?_ ?_
  rotate_left
  · rintro s rfl
    simp only [go_sem, List.replicate_succ, Nat.reducePow, Nat.reduceLeDiff, ↓reduceIte, reduceCtorEq, Nat.reduceLT, Nat.reduceEqDiff, Nat.reduceAdd, Nat.reduceSub, Nat.reduceMul, Int.reduceToNat]
    exact .tree _ rfl
  rintro m s ⟨x, y, hmy, hxy, rfl⟩
  rw [hmy]
  by_cases hy : y = 0
  · subst hy
    rw [Nat.gcd_zero_right] at hxy
    subst hxy
    have h0 : (((0 : Nat) : Int) = 0) = True := eq_true rfl
    simp only [go_sem, List.replicate_succ, Nat.reducePow, Nat.reduceLeDiff, ↓reduceIte, reduceCtorEq, Nat.reduceLT, Nat.reduceEqDiff, Nat.reduceAdd, Nat.reduceSub, Nat.reduceMul, Int.reduceToNat, h0]
    exact ⟨_, WkE.keep (by simp only [go_sem, List.replicate_succ, Nat.reducePow, Nat.reduceLeDiff, ↓reduceIte, reduceCtorEq, Nat.reduceLT, Nat.reduceEqDiff, Nat.reduceAdd, Nat.reduceSub, Nat.reduceMul, Int.reduceToNat]), rfl⟩
  · have h0 : ((y : Int) = 0) = False := eq_false (by omega)
    simp only [go_sem, List.replicate_succ, Nat.reducePow, Nat.reduceLeDiff, ↓reduceIte, reduceCtorEq, Nat.reduceLT, Nat.reduceEqDiff, Nat.reduceAdd, Nat.reduceSub, Nat.reduceMul, Int.reduceToNat, h0, tmod_nat]
    exact ⟨x % y, ⟨[(0, vi y), (1, vi (x % y : Nat))], []⟩, Nat.mod_lt _ (by omega), WkE.keep (by simp only [go_sem, List.replicate_succ, Nat.reducePow, Nat.reduceLeDiff, ↓reduceIte, reduceCtorEq, Nat.reduceLT, Nat.reduceEqDiff, Nat.reduceAdd, Nat.reduceSub, Nat.reduceMul, Int.reduceToNat]), y, by rw [← hxy, Nat.gcd_comm x y, Nat.gcd_rec y x, Nat.gcd_comm], rfl⟩
end Go.Proofs.Ytphcaelkpgdbcaa
