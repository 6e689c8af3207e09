/- Least, the program's and the reference's, by contract. -/
import Derived.Test.YtphcaelkpgdbcaaPi
set_option linter.unusedSimpArgs false
set_option linter.unusedVariables false
set_option linter.unusedSectionVars false
namespace Go.Proofs.Ytphcaelkpgdbcaa
open Go.RowKit Dak
abbrev certV (t : Int) (s : List Int) (T : List (List Int)) : AV := .agg [vi t, vints s, vrows T]
def timeL (p o : List Int) (m : Nat) : Int := (rowQ p o m 0).getD m 0
/-- A time, a set, a table and an error. -/
def leastL (p o : List Int) (lim : Int) : Int × List Int × List (List Int) × Int :=
  if validL p o lim = true then (timeL p o lim.toNat, setA p o lim.toNat 0 lim.toNat, tabA p o lim.toNat, 0) else (0, [], [], 1)
abbrev leastV (x : Int × List Int × List (List Int) × Int) : AV := .tup [certV x.1 x.2.1 x.2.2.1, vi x.2.2.2]
set_option maxRecDepth 100000 in
theorem Least_s (p o : List Int) (lim : Int) (hp : p.length ≤ 1000000) (ho : o.length ≤ 1000000) : Ctr Try.prog 11 [vints p, vints o, vi lim] (leastV (leastL p o lim)) := by
  refine specC f11 (by simp) fun F0 w0 => ?_
  unfold c11
  refine CwpE.cut (st := ⟨[(0, vints p), (1, vints o), (2, vi lim), (6, .ref 0 1 0 0), (7, vi 0)], [.arr 1 3 30 [.agg [vi 0, nilV, nilV]]]⟩) ?_ ?_
  · simp only [go_sem, List.replicate_succ, Nat.reducePow, Nat.reduceLeDiff, ↓reduceIte, reduceCtorEq, Nat.reduceLT, Nat.reduceEqDiff, Nat.reduceAdd, Nat.reduceSub, Nat.reduceMul, Int.reduceToNat]
    exact ⟨_, WkE.keep (by simp only [go_sem, List.replicate_succ, Nat.reducePow, Nat.reduceLeDiff, ↓reduceIte, reduceCtorEq, Nat.reduceLT, Nat.reduceEqDiff, Nat.reduceAdd, Nat.reduceSub, Nat.reduceMul, Int.reduceToNat]), rfl⟩
  cases hv : validL p o lim with
  | false =>
    have e : leastL p o lim = (0, [], [], 1) := by unfold leastL; rw [if_neg (by simp [hv])]
    rw [e]
    refine CwpE.vc ?_
    simp only [go_sem, List.replicate_succ, Nat.reducePow, Nat.reduceLeDiff, ↓reduceIte, reduceCtorEq, Nat.reduceLT, Nat.reduceEqDiff, Nat.reduceAdd, Nat.reduceSub, Nat.reduceMul, Int.reduceToNat]
    refine callT (valid_s p o _ (by omega) (by omega)) rfl ?_
    simp only [go_sem, List.replicate_succ, Nat.reducePow, Nat.reduceLeDiff, ↓reduceIte, reduceCtorEq, Nat.reduceLT, Nat.reduceEqDiff, Nat.reduceAdd, Nat.reduceSub, Nat.reduceMul, Int.reduceToNat, hv]
    refine .tup _ _ rfl fun i h1 h2 => ?_
    rcases (by simp at h1; omega : i = 0 ∨ i = 1) with rfl | rfl
    · refine .agg _ _ rfl fun j h1 h2 => ?_
      rcases (by simp at h1; omega : j = 0 ∨ j = 1 ∨ j = 2) with rfl | rfl | rfl
      · exact .tree _ rfl
      · exact .nil _
      · exact .nil _
    · exact .tree _ rfl
  | true =>
    have hq := validL_ok.1 hv
    obtain ⟨m, hm⟩ : ∃ m : Nat, lim = m := ⟨lim.toNat, by have := hq.lim; omega⟩
    subst hm
    have e : leastL p o (m : Int) = (timeL p o m, setA p o m 0 m, tabA p o m, 0) := by unfold leastL; rw [if_pos hv, Int.toNat_natCast]
    rw [e]
    have hTg := tabA_get hq.len m (q := 0) (by omega)
    obtain ⟨hl0, _⟩ := rowQ_bd hq m p.length 0 (by omega)
    have hRg : (rowQ p o m 0)[m]? = some (timeL p o m) := getD_get (by omega)
    have hs := set_s p o m hq
    generalize timeL p o m = t at hRg ⊢
    generalize setA p o m 0 m = S at hs ⊢
    generalize hT : tabA p o m = T at hTg hs ⊢
    have m0 : (0 : Int) ≤ (m : Int) := by omega
    refine CwpE.cut (st := ⟨[(0, vints p), (1, vints o), (2, vi m), (6, .ref 0 1 0 0), (7, vi 0)], [.arr 1 3 30 [.agg [vi 0, nilV, nilV]]]⟩) ?_ ?_
    · simp only [go_sem, List.replicate_succ, Nat.reducePow, Nat.reduceLeDiff, ↓reduceIte, reduceCtorEq, Nat.reduceLT, Nat.reduceEqDiff, Nat.reduceAdd, Nat.reduceSub, Nat.reduceMul, Int.reduceToNat]
      refine callT (valid_s p o _ (by omega) (by omega)) rfl ?_
      simp only [go_sem, List.replicate_succ, Nat.reducePow, Nat.reduceLeDiff, ↓reduceIte, reduceCtorEq, Nat.reduceLT, Nat.reduceEqDiff, Nat.reduceAdd, Nat.reduceSub, Nat.reduceMul, Int.reduceToNat, hv]
      exact ⟨_, WkE.keep (by simp only [go_sem, List.replicate_succ, Nat.reducePow, Nat.reduceLeDiff, ↓reduceIte, reduceCtorEq, Nat.reduceLT, Nat.reduceEqDiff, Nat.reduceAdd, Nat.reduceSub, Nat.reduceMul, Int.reduceToNat]), rfl⟩
    refine CwpE.cut (st := ⟨[(0, vints p), (1, vints o), (2, vi m), (6, .ref 0 1 0 0), (7, vi 0), (8, vrows T)], [.arr 1 3 30 [.agg [vi 0, nilV, nilV]]]⟩) ?_ ?_
    · simp only [go_sem, List.replicate_succ, Nat.reducePow, Nat.reduceLeDiff, ↓reduceIte, reduceCtorEq, Nat.reduceLT, Nat.reduceEqDiff, Nat.reduceAdd, Nat.reduceSub, Nat.reduceMul, Int.reduceToNat]
      refine callT (table_s p o m hq) rfl ?_
      rw [hT]
      simp only [go_sem, List.replicate_succ, Nat.reducePow, Nat.reduceLeDiff, ↓reduceIte, reduceCtorEq, Nat.reduceLT, Nat.reduceEqDiff, Nat.reduceAdd, Nat.reduceSub, Nat.reduceMul, Int.reduceToNat]
      exact ⟨_, WkE.keep (by simp only [go_sem, List.replicate_succ, Nat.reducePow, Nat.reduceLeDiff, ↓reduceIte, reduceCtorEq, Nat.reduceLT, Nat.reduceEqDiff, Nat.reduceAdd, Nat.reduceSub, Nat.reduceMul, Int.reduceToNat]), rfl⟩
    refine CwpE.vc ?_
    simp only [go_sem, List.replicate_succ, Nat.reducePow, Nat.reduceLeDiff, ↓reduceIte, reduceCtorEq, Nat.reduceLT, Nat.reduceEqDiff, Nat.reduceAdd, Nat.reduceSub, Nat.reduceMul, Int.reduceToNat, m0, Int.le_refl, List.getElem?_map, hTg, hRg]
    refine callT hs rfl ?_
    simp only [go_sem, List.replicate_succ, Nat.reducePow, Nat.reduceLeDiff, ↓reduceIte, reduceCtorEq, Nat.reduceLT, Nat.reduceEqDiff, Nat.reduceAdd, Nat.reduceSub, Nat.reduceMul, Int.reduceToNat, List.drop_succ_cons, List.drop_nil]
    refine .tup _ _ rfl fun i h1 h2 => ?_
    rcases (by simp at h1; omega : i = 0 ∨ i = 1) with rfl | rfl
    · refine .agg _ _ rfl fun j h1 h2 => ?_
      rcases (by simp at h1; omega : j = 0 ∨ j = 1 ∨ j = 2) with rfl | rfl | rfl <;> exact .tree _ rfl
    · exact .tree _ rfl
set_option maxRecDepth 100000 in
theorem refLeast_s (p o : List Int) (lim : Int) (hp : p.length ≤ 1000000) (ho : o.length ≤ 1000000) : Ctr Try.prog 12 [vints p, vints o, vi lim] (leastV (leastL p o lim)) := by
  refine specC f12 (by simp) fun F0 w0 => ?_
  unfold c12
  refine CwpE.cut (st := ⟨[(0, vints p), (1, vints o), (2, vi lim), (6, .ref 0 1 0 0), (7, vi 0)], [.arr 1 3 34 [.agg [vi 0, nilV, nilV]]]⟩) ?_ ?_
  · simp only [go_sem, List.replicate_succ, Nat.reducePow, Nat.reduceLeDiff, ↓reduceIte, reduceCtorEq, Nat.reduceLT, Nat.reduceEqDiff, Nat.reduceAdd, Nat.reduceSub, Nat.reduceMul, Int.reduceToNat]
    exact ⟨_, WkE.keep (by simp only [go_sem, List.replicate_succ, Nat.reducePow, Nat.reduceLeDiff, ↓reduceIte, reduceCtorEq, Nat.reduceLT, Nat.reduceEqDiff, Nat.reduceAdd, Nat.reduceSub, Nat.reduceMul, Int.reduceToNat]), rfl⟩
  cases hv : validL p o lim with
  | false =>
    have e : leastL p o lim = (0, [], [], 1) := by unfold leastL; rw [if_neg (by simp [hv])]
    rw [e]
    refine CwpE.vc ?_
    simp only [go_sem, List.replicate_succ, Nat.reducePow, Nat.reduceLeDiff, ↓reduceIte, reduceCtorEq, Nat.reduceLT, Nat.reduceEqDiff, Nat.reduceAdd, Nat.reduceSub, Nat.reduceMul, Int.reduceToNat]
    refine callT (refValid_s p o _) rfl ?_
    simp only [go_sem, List.replicate_succ, Nat.reducePow, Nat.reduceLeDiff, ↓reduceIte, reduceCtorEq, Nat.reduceLT, Nat.reduceEqDiff, Nat.reduceAdd, Nat.reduceSub, Nat.reduceMul, Int.reduceToNat, hv]
    refine .tup _ _ rfl fun i h1 h2 => ?_
    rcases (by simp at h1; omega : i = 0 ∨ i = 1) with rfl | rfl
    · refine .agg _ _ rfl fun j h1 h2 => ?_
      rcases (by simp at h1; omega : j = 0 ∨ j = 1 ∨ j = 2) with rfl | rfl | rfl
      · exact .tree _ rfl
      · exact .nil _
      · exact .nil _
    · exact .tree _ rfl
  | true =>
    have hq := validL_ok.1 hv
    obtain ⟨m, hm⟩ : ∃ m : Nat, lim = m := ⟨lim.toNat, by have := hq.lim; omega⟩
    subst hm
    have e : leastL p o (m : Int) = (timeL p o m, setA p o m 0 m, tabA p o m, 0) := by unfold leastL; rw [if_pos hv, Int.toNat_natCast]
    rw [e]
    have hTg := tabA_get hq.len m (q := 0) (by omega)
    obtain ⟨hl0, _⟩ := rowQ_bd hq m p.length 0 (by omega)
    have hRg : (rowQ p o m 0)[m]? = some (timeL p o m) := getD_get (by omega)
    have hs := refSet_s p o m hq
    generalize timeL p o m = t at hRg ⊢
    generalize setA p o m 0 m = S at hs ⊢
    generalize hT : tabA p o m = T at hTg hs ⊢
    have m0 : (0 : Int) ≤ (m : Int) := by omega
    refine CwpE.cut (st := ⟨[(0, vints p), (1, vints o), (2, vi m), (6, .ref 0 1 0 0), (7, vi 0)], [.arr 1 3 34 [.agg [vi 0, nilV, nilV]]]⟩) ?_ ?_
    · simp only [go_sem, List.replicate_succ, Nat.reducePow, Nat.reduceLeDiff, ↓reduceIte, reduceCtorEq, Nat.reduceLT, Nat.reduceEqDiff, Nat.reduceAdd, Nat.reduceSub, Nat.reduceMul, Int.reduceToNat]
      refine callT (refValid_s p o _) rfl ?_
      simp only [go_sem, List.replicate_succ, Nat.reducePow, Nat.reduceLeDiff, ↓reduceIte, reduceCtorEq, Nat.reduceLT, Nat.reduceEqDiff, Nat.reduceAdd, Nat.reduceSub, Nat.reduceMul, Int.reduceToNat, hv]
      exact ⟨_, WkE.keep (by simp only [go_sem, List.replicate_succ, Nat.reducePow, Nat.reduceLeDiff, ↓reduceIte, reduceCtorEq, Nat.reduceLT, Nat.reduceEqDiff, Nat.reduceAdd, Nat.reduceSub, Nat.reduceMul, Int.reduceToNat]), rfl⟩
    refine CwpE.cut (st := ⟨[(0, vints p), (1, vints o), (2, vi m), (6, .ref 0 1 0 0), (7, vi 0), (8, vrows T)], [.arr 1 3 34 [.agg [vi 0, nilV, nilV]]]⟩) ?_ ?_
    · simp only [go_sem, List.replicate_succ, Nat.reducePow, Nat.reduceLeDiff, ↓reduceIte, reduceCtorEq, Nat.reduceLT, Nat.reduceEqDiff, Nat.reduceAdd, Nat.reduceSub, Nat.reduceMul, Int.reduceToNat]
      refine callT (refTable_s p o m hq) rfl ?_
      rw [hT]
      simp only [go_sem, List.replicate_succ, Nat.reducePow, Nat.reduceLeDiff, ↓reduceIte, reduceCtorEq, Nat.reduceLT, Nat.reduceEqDiff, Nat.reduceAdd, Nat.reduceSub, Nat.reduceMul, Int.reduceToNat]
      exact ⟨_, WkE.keep (by simp only [go_sem, List.replicate_succ, Nat.reducePow, Nat.reduceLeDiff, ↓reduceIte, reduceCtorEq, Nat.reduceLT, Nat.reduceEqDiff, Nat.reduceAdd, Nat.reduceSub, Nat.reduceMul, Int.reduceToNat]), rfl⟩
    refine CwpE.vc ?_
    simp only [go_sem, List.replicate_succ, Nat.reducePow, Nat.reduceLeDiff, ↓reduceIte, reduceCtorEq, Nat.reduceLT, Nat.reduceEqDiff, Nat.reduceAdd, Nat.reduceSub, Nat.reduceMul, Int.reduceToNat, m0, Int.le_refl, List.getElem?_map, hTg, hRg]
    refine callT hs rfl ?_
    simp only [go_sem, List.replicate_succ, Nat.reducePow, Nat.reduceLeDiff, ↓reduceIte, reduceCtorEq, Nat.reduceLT, Nat.reduceEqDiff, Nat.reduceAdd, Nat.reduceSub, Nat.reduceMul, Int.reduceToNat, List.drop_succ_cons, List.drop_nil]
    refine .tup _ _ rfl fun i h1 h2 => ?_
    rcases (by simp at h1; omega : i = 0 ∨ i = 1) with rfl | rfl
    · refine .agg _ _ rfl fun j h1 h2 => ?_
      rcases (by simp at h1; omega : j = 0 ∨ j = 1 ∨ j = 2) with rfl | rfl | rfl <;> exact .tree _ rfl
    · exact .tree _ rfl
end Go.Proofs.Ytphcaelkpgdbcaa
