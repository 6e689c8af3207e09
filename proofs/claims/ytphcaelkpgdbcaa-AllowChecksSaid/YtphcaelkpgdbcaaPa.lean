/- Small functions of the reference, by contract. -/
import Derived.Test.YtphcaelkpgdbcaaCo
import Derived.Test.YtphcaelkpgdbcaaDu
set_option linter.unusedSimpArgs false
set_option linter.unusedVariables false
set_option linter.unusedSectionVars false
namespace Go.Proofs.Ytphcaelkpgdbcaa
open Go.RowKit Dak

def I64 (n : Int) : Prop := -9223372036854775808 ≤ n ∧ n ≤ 9223372036854775807
abbrev vi (n : Int) : AV := .val (.int .i64 n)
abbrev vb (b : Bool) : AV := .val (.bool b)
abbrev vints (l : List Int) : AV := .list 1 (l.map vi)
abbrev vbools (l : List Bool) : AV := .list 1 (l.map vb)
abbrev vrows (l : List (List Int)) : AV := .list 1 (l.map vints)
abbrev vword (l : List (List Int)) : AV := .agg [vrows l]
abbrev vwords (l : List (List (List Int))) : AV := .list 1 (l.map vword)
abbrev vpair (p : Int × Int) : AV := .agg [vi p.1, vi p.2]
abbrev vpairs (l : List (Int × Int)) : AV := .list 2 (l.map vpair)

theorem wrap_id {n : Int} (h1 : -9223372036854775808 ≤ n) (h2 : n ≤ 9223372036854775807) : IntKind.i64.wrap n = n := by rw [IntKind.wrap_i64]; omega

/-- dactylref01.Around -/
def aroundL (n most : Int) : Int := if most < 1 then 0 else (if n < 0 then -(n + 1) else n) % most

theorem Around_s (n most : Int) (hn : I64 n) (hm : I64 most) : Ctr Try.prog 10 [vi n, vi most] (vi (aroundL n most)) := by
  obtain ⟨h1, h2⟩ := hn
  obtain ⟨h3, h4⟩ := hm
  refine specE f10 (by simp) fun F0 w0 => ?_
  by_cases a : n < 0
  · have e1 : IntKind.i64.wrap (n + 1) = n + 1 := wrap_id (by omega) (by omega)
    have e2 : IntKind.i64.wrap (0 - (n + 1)) = -(n + 1) := by rw [wrap_id (by omega) (by omega)]; omega
    by_cases b : most < 1
    · simp only [c10, go_sem, List.replicate_succ, Nat.reducePow, Nat.reduceLeDiff, ↓reduceIte, reduceCtorEq, Nat.reduceLT, Nat.reduceEqDiff, Nat.reduceAdd, Nat.reduceSub, Nat.reduceMul, Int.reduceToNat, a, b, e1, e2]
      simp only [aroundL, a, b, if_true]
      exact .tree _ rfl
    · have b0 : ¬ most = 0 := by omega
      simp only [c10, go_sem, List.replicate_succ, Nat.reducePow, Nat.reduceLeDiff, ↓reduceIte, reduceCtorEq, Nat.reduceLT, Nat.reduceEqDiff, Nat.reduceAdd, Nat.reduceSub, Nat.reduceMul, Int.reduceToNat, a, b, e1, e2, b0]
      have : (-(n + 1)).tmod most = aroundL n most := by
        simp only [aroundL, a, b, if_true, if_false]
        rw [Int.tmod_eq_emod_of_nonneg (by omega)]
      rw [this]
      exact .tree _ rfl
  · by_cases b : most < 1
    · simp only [c10, go_sem, List.replicate_succ, Nat.reducePow, Nat.reduceLeDiff, ↓reduceIte, reduceCtorEq, Nat.reduceLT, Nat.reduceEqDiff, Nat.reduceAdd, Nat.reduceSub, Nat.reduceMul, Int.reduceToNat, a, b]
      simp only [aroundL, b, if_true]
      exact .tree _ rfl
    · have b0 : ¬ most = 0 := by omega
      simp only [c10, go_sem, List.replicate_succ, Nat.reducePow, Nat.reduceLeDiff, ↓reduceIte, reduceCtorEq, Nat.reduceLT, Nat.reduceEqDiff, Nat.reduceAdd, Nat.reduceSub, Nat.reduceMul, Int.reduceToNat, a, b, b0]
      have : n.tmod most = aroundL n most := by
        simp only [aroundL, a, b, if_false]
        rw [Int.tmod_eq_emod_of_nonneg (by omega)]
      rw [this]
      exact .tree _ rfl

/-- dactylref01.At -/
def atL (l : List Int) (i most : Int) : Int := if i < 0 then 0 else match l[i.toNat]? with
  | some x => aroundL x most
  | none => 0

theorem At_s (l : List Int) (i most : Int) (hl : ∀ x ∈ l, I64 x) (hm : I64 most) : Ctr Try.prog 20 [vints l, vi i, vi most] (vi (atL l i most)) := by
  refine specE f20 (by simp) fun F0 w0 => ?_
  by_cases a : i < 0
  · simp only [c20, go_sem, List.replicate_succ, Nat.reducePow, Nat.reduceLeDiff, ↓reduceIte, reduceCtorEq, Nat.reduceLT, Nat.reduceEqDiff, Nat.reduceAdd, Nat.reduceSub, Nat.reduceMul, Int.reduceToNat, a, List.length_map]
    simp only [atL, a, if_true]
    exact .tree _ rfl
  · by_cases b : (l.length : Int) ≤ i
    · simp only [c20, go_sem, List.replicate_succ, Nat.reducePow, Nat.reduceLeDiff, ↓reduceIte, reduceCtorEq, Nat.reduceLT, Nat.reduceEqDiff, Nat.reduceAdd, Nat.reduceSub, Nat.reduceMul, Int.reduceToNat, a, b, List.length_map]
      have : l[i.toNat]? = none := by rw [List.getElem?_eq_none]; omega
      simp only [atL, a, if_false, this]
      exact .tree _ rfl
    · have hlt : i.toNat < l.length := by omega
      have a' : 0 ≤ i := by omega
      simp only [c20, go_sem, List.replicate_succ, Nat.reducePow, Nat.reduceLeDiff, ↓reduceIte, reduceCtorEq, Nat.reduceLT, Nat.reduceEqDiff, Nat.reduceAdd, Nat.reduceSub, Nat.reduceMul, Int.reduceToNat, a, b, a', List.length_map, List.getElem?_map, List.getElem?_eq_getElem hlt]
      refine callF (Around_s _ _ (hl _ (List.getElem_mem _)) hm) (.cons (.tree _ rfl) (.cons (.tree _ rfl) .nil)) rfl ?_
      have : atL l i most = aroundL l[i.toNat] most := by simp only [atL, a, if_false, List.getElem?_eq_getElem hlt]
      rw [this]
      simp only [go_sem, List.replicate_succ, Nat.reducePow, Nat.reduceLeDiff, ↓reduceIte, reduceCtorEq, Nat.reduceLT, Nat.reduceEqDiff, Nat.reduceAdd, Nat.reduceSub, Nat.reduceMul, Int.reduceToNat]
      exact .tree _ rfl

theorem takeS_eq {α : Type} {A B : List α} {k : Nat} (h : A.take k = B.take k) (ha : k < A.length) (hb : k < B.length) (he : A[k] = B[k]) : A.take (k + 1) = B.take (k + 1) := by
  rw [List.take_succ_eq_append_getElem ha, List.take_succ_eq_append_getElem hb, h, he]

theorem SameInts_s (A B : List Int) (hA : A.length ≤ 9223372036854775806) : Ctr Try.prog 13 [vints A, vints B] (vb (decide (A = B))) := by
  refine specE f13 (by simp) fun F0 w0 => ?_
  by_cases hl : A.length = B.length
  · have hl' : (A.length : Int) = (B.length : Int) := by omega
    simp only [c13, go_sem, List.replicate_succ, Nat.reducePow, Nat.reduceLeDiff, ↓reduceIte, reduceCtorEq, Nat.reduceLT, Nat.reduceEqDiff, Nat.reduceAdd, Nat.reduceSub, Nat.reduceMul, Int.reduceToNat, hl']
    refine loopE (fun m s => ∃ k : Nat, m = B.length - k ∧ k ≤ B.length ∧ A.take k = B.take k ∧ s = ⟨[(0, vints A), (1, vints B), (5, vi k)], []⟩) B.length ⟨[(0, vints A), (1, vints B), (5, vi (0 : Nat))], []⟩ (WkE.keep (by simp [go_sem, List.replicate_succ, Nat.reducePow, Nat.reduceLeDiff, ↓reduceIte, reduceCtorEq, Nat.reduceLT, Nat.reduceEqDiff, Nat.reduceAdd, Nat.reduceSub, Nat.reduceMul, Int.reduceToNat])) ⟨0, by simp⟩ ?_
    rintro m s ⟨k, rfl, hk, ht, rfl⟩
    by_cases hlt : k < B.length
    · have hltA : k < A.length := by omega
      have h1 : (k : Int) < (A.length : Int) := by omega
      have h0 : (0 : Int) ≤ (k : Int) := by omega
      have hw : IntKind.i64.wrap ((k : Int) + 1) = ((k + 1 : Nat) : Int) := by rw [wrap_id (by omega) (by omega)]; omega
      by_cases he : A[k] = B[k]
      · simp only [go_sem, List.replicate_succ, Nat.reducePow, Nat.reduceLeDiff, ↓reduceIte, reduceCtorEq, Nat.reduceLT, Nat.reduceEqDiff, Nat.reduceAdd, Nat.reduceSub, Nat.reduceMul, Int.reduceToNat, h1, h0, List.getElem?_map, List.getElem?_eq_getElem hlt, List.getElem?_eq_getElem hltA, he, hw]
        refine ⟨B.length - (k + 1), ⟨[(0, vints A), (1, vints B), (5, vi (k + 1 : Nat))], []⟩, by omega, WkE.keep (by simp [go_sem, List.replicate_succ, Nat.reducePow, Nat.reduceLeDiff, ↓reduceIte, reduceCtorEq, Nat.reduceLT, Nat.reduceEqDiff, Nat.reduceAdd, Nat.reduceSub, Nat.reduceMul, Int.reduceToNat]), k + 1, rfl, by omega, takeS_eq ht hltA hlt he, rfl⟩
      · simp only [go_sem, List.replicate_succ, Nat.reducePow, Nat.reduceLeDiff, ↓reduceIte, reduceCtorEq, Nat.reduceLT, Nat.reduceEqDiff, Nat.reduceAdd, Nat.reduceSub, Nat.reduceMul, Int.reduceToNat, h1, h0, List.getElem?_map, List.getElem?_eq_getElem hlt, List.getElem?_eq_getElem hltA, he, hw]
        have : decide (A = B) = false := by rw [decide_eq_false_iff_not]; rintro rfl; exact he rfl
        rw [this]; exact .tree _ rfl
    · have hkB : k = B.length := by omega
      have h1 : ¬ (k : Int) < (A.length : Int) := by omega
      simp only [go_sem, List.replicate_succ, Nat.reducePow, Nat.reduceLeDiff, ↓reduceIte, reduceCtorEq, Nat.reduceLT, Nat.reduceEqDiff, Nat.reduceAdd, Nat.reduceSub, Nat.reduceMul, Int.reduceToNat, h1]
      have : decide (A = B) = true := by
        rw [decide_eq_true_eq]
        rw [hkB, List.take_length, ← hl, List.take_length] at ht
        exact ht
      rw [this]; exact .tree _ rfl
  · have hl' : ¬ (A.length : Int) = (B.length : Int) := by omega
    simp only [c13, go_sem, List.replicate_succ, Nat.reducePow, Nat.reduceLeDiff, ↓reduceIte, reduceCtorEq, Nat.reduceLT, Nat.reduceEqDiff, Nat.reduceAdd, Nat.reduceSub, Nat.reduceMul, Int.reduceToNat, hl']
    have : decide (A = B) = false := by rw [decide_eq_false_iff_not]; rintro rfl; exact hl rfl
    rw [this]; exact .tree _ rfl
theorem aroundL_bd (n most : Int) (h : 1 ≤ most) : 0 ≤ aroundL n most ∧ aroundL n most < most := by
  unfold aroundL
  rw [if_neg (by omega)]
  exact ⟨Int.emod_nonneg _ (by omega), Int.emod_lt_of_pos _ (by omega)⟩
theorem atL_bd (l : List Int) (i most : Int) (h : 1 ≤ most) : 0 ≤ atL l i most ∧ atL l i most < most := by
  unfold atL
  split
  · omega
  · split
    · exact aroundL_bd _ _ h
    · omega

abbrev ownV (id n : Nat) : AV := .own id n 0 n
theorem Same_s (A B : List (List Int)) (hA : A.length ≤ 1000000) (hA2 : ∀ x ∈ A, x.length ≤ 1000000) : Ctr Try.prog 14 [vrows A, vrows B] (vb (decide (A = B))) := by
  refine specE f14 (by simp) fun F0 w0 => ?_
  by_cases hl : A.length = B.length
  · have hl' : (A.length : Int) = (B.length : Int) := by omega
    simp only [c14, go_sem, List.replicate_succ, Nat.reducePow, Nat.reduceLeDiff, ↓reduceIte, reduceCtorEq, Nat.reduceLT, Nat.reduceEqDiff, Nat.reduceAdd, Nat.reduceSub, Nat.reduceMul, Int.reduceToNat, hl']
    refine loopE (fun m s => ∃ k : Nat, m = B.length - k ∧ k ≤ B.length ∧ A.take k = B.take k ∧ s = ⟨[(0, vrows A), (1, vrows B), (5, vi k)], []⟩) B.length ⟨[(0, vrows A), (1, vrows B), (5, vi (0 : Nat))], []⟩ (WkE.keep (by simp [go_sem, List.replicate_succ, Nat.reducePow, Nat.reduceLeDiff, ↓reduceIte, reduceCtorEq, Nat.reduceLT, Nat.reduceEqDiff, Nat.reduceAdd, Nat.reduceSub, Nat.reduceMul, Int.reduceToNat])) ⟨0, by simp⟩ ?_
    rintro m s ⟨k, rfl, hk, ht, rfl⟩
    by_cases hlt : k < B.length
    · have hltA : k < A.length := by omega
      have h1 : (k : Int) < (A.length : Int) := by omega
      have h0 : (0 : Int) ≤ (k : Int) := by omega
      have hw : IntKind.i64.wrap ((k : Int) + 1) = ((k + 1 : Nat) : Int) := by rw [wrap_id (by omega) (by omega)]; omega
      simp only [go_sem, List.replicate_succ, Nat.reducePow, Nat.reduceLeDiff, ↓reduceIte, reduceCtorEq, Nat.reduceLT, Nat.reduceEqDiff, Nat.reduceAdd, Nat.reduceSub, Nat.reduceMul, Int.reduceToNat, h1, h0, List.getElem?_map, List.getElem?_eq_getElem hlt, List.getElem?_eq_getElem hltA]
      refine callT (SameInts_s A[k] B[k] (by have := hA2 _ (List.getElem_mem hltA); omega)) rfl ?_
      by_cases he : A[k] = B[k]
      · simp only [go_sem, List.replicate_succ, Nat.reducePow, Nat.reduceLeDiff, ↓reduceIte, reduceCtorEq, Nat.reduceLT, Nat.reduceEqDiff, Nat.reduceAdd, Nat.reduceSub, Nat.reduceMul, Int.reduceToNat, he, hw]
        refine ⟨B.length - (k + 1), ⟨[(0, vrows A), (1, vrows B), (5, vi (k + 1 : Nat))], []⟩, by omega, WkE.keep (by simp [go_sem, List.replicate_succ, Nat.reducePow, Nat.reduceLeDiff, ↓reduceIte, reduceCtorEq, Nat.reduceLT, Nat.reduceEqDiff, Nat.reduceAdd, Nat.reduceSub, Nat.reduceMul, Int.reduceToNat]), k + 1, rfl, by omega, takeS_eq ht hltA hlt he, rfl⟩
      · simp only [go_sem, List.replicate_succ, Nat.reducePow, Nat.reduceLeDiff, ↓reduceIte, reduceCtorEq, Nat.reduceLT, Nat.reduceEqDiff, Nat.reduceAdd, Nat.reduceSub, Nat.reduceMul, Int.reduceToNat, he, hw]
        have : decide (A = B) = false := by rw [decide_eq_false_iff_not]; rintro rfl; exact he rfl
        rw [this]; exact .tree _ rfl
    · have hkB : k = B.length := by omega
      have h1 : ¬ (k : Int) < (A.length : Int) := by omega
      simp only [go_sem, List.replicate_succ, Nat.reducePow, Nat.reduceLeDiff, ↓reduceIte, reduceCtorEq, Nat.reduceLT, Nat.reduceEqDiff, Nat.reduceAdd, Nat.reduceSub, Nat.reduceMul, Int.reduceToNat, h1]
      have : decide (A = B) = true := by
        rw [decide_eq_true_eq]
        rw [hkB, List.take_length, ← hl, List.take_length] at ht
        exact ht
      rw [this]; exact .tree _ rfl
  · have hl' : ¬ (A.length : Int) = (B.length : Int) := by omega
    simp only [c14, go_sem, List.replicate_succ, Nat.reducePow, Nat.reduceLeDiff, ↓reduceIte, reduceCtorEq, Nat.reduceLT, Nat.reduceEqDiff, Nat.reduceAdd, Nat.reduceSub, Nat.reduceMul, Int.reduceToNat, hl']
    have : decide (A = B) = false := by rw [decide_eq_false_iff_not]; rintro rfl; exact hl rfl
    rw [this]; exact .tree _ rfl

end Go.Proofs.Ytphcaelkpgdbcaa
