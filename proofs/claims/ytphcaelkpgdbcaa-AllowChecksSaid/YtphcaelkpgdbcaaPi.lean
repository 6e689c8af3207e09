/- allow.table, by contract. -/
import Derived.Test.YtphcaelkpgdbcaaPh
set_option linter.unusedSimpArgs false
set_option linter.unusedVariables false
set_option linter.unusedSectionVars false
namespace Go.Proofs.Ytphcaelkpgdbcaa
open Go.RowKit Dak
set_option maxRecDepth 100000 in
set_option maxHeartbeats 4000000 in
theorem table_s (p o : List Int) (m : Nat) (h : OkQ p o m) : Ctr Try.prog 26 [vints p, vints o, vi m] (vrows (tabA p o m)) := by
  refine specC f26 (by simp) fun F0 w0 => ?_
  obtain ⟨n, hn⟩ : ∃ n, p.length = n := ⟨_, rfl⟩
  have hs := solve_s p o m n h hn n 0 (by omega)
  obtain ⟨hlen, hmost, hp, ho, hm0, hm1⟩ := h
  have e3 : tabA p o m = (List.range (n + 1)).map (rowQ p o m) := by rw [tabA_rows hlen m, hn]
  have w1 : IntKind.i64.wrap ((n : Int) + 1) = ((n + 1 : Nat) : Int) := by rw [wrap_id (by omega) (by omega)]; omega
  have q1 : (0 : Int) ≤ ((n + 1 : Nat) : Int) := by omega
  have q2 : ((24 : Nat) : Int) * ((n + 1 : Nat) : Int) ≤ 281474976710656 := by omega
  have q3 : ((n + 1 : Nat) : Int) ≤ 9223372036854775807 := by omega
  have er : (lstV n fun _ => nilV) = rowsT p o m n (n + 1) := lstV_congr fun q hq => by rw [if_neg (by omega)]
  rw [e3]
  have hVl : ((List.range (n + 1)).map (rowQ p o m)).length = n + 1 := by simp
  have hVg : ∀ q (h : q < ((List.range (n + 1)).map (rowQ p o m)).length), ((List.range (n + 1)).map (rowQ p o m))[q] = rowQ p o m q := fun q h => by simp
  generalize (List.range (n + 1)).map (rowQ p o m) = V at hVl hVg ⊢
  unfold c26
  refine CwpE.cut (st := ⟨[(3, .ref 0 1 0 0), (4, .ref 1 1 0 0), (5, .ref 2 1 0 0)], [.arr 1 1 22 [vints p], .arr 1 1 22 [vints o], .arr 1 1 3 [vi m]]⟩) ?_ ?_
  · simp only [go_sem, List.replicate_succ, Nat.reducePow, Nat.reduceLeDiff, ↓reduceIte, reduceCtorEq, Nat.reduceLT, Nat.reduceEqDiff, Nat.reduceAdd, Nat.reduceSub, Nat.reduceMul, Int.reduceToNat]
    exact ⟨_, WkE.keep (by simp only [go_sem, List.replicate_succ, Nat.reducePow, Nat.reduceLeDiff, ↓reduceIte, reduceCtorEq, Nat.reduceLT, Nat.reduceEqDiff, Nat.reduceAdd, Nat.reduceSub, Nat.reduceMul, Int.reduceToNat]), rfl⟩
  refine CwpE.cut (st := ⟨[(3, .ref 0 1 0 0), (4, .ref 1 1 0 0), (5, .ref 2 1 0 0), (7, .ref 3 1 0 0)], [.arr 1 1 22 [vints p], .arr 1 1 22 [vints o], .arr 1 1 3 [vi m], .arr 1 1 3 [vi n]]⟩) ?_ ?_
  · simp only [go_sem, List.replicate_succ, Nat.reducePow, Nat.reduceLeDiff, ↓reduceIte, reduceCtorEq, Nat.reduceLT, Nat.reduceEqDiff, Nat.reduceAdd, Nat.reduceSub, Nat.reduceMul, Int.reduceToNat, hn]
    exact ⟨_, WkE.keep (by simp only [go_sem, List.replicate_succ, Nat.reducePow, Nat.reduceLeDiff, ↓reduceIte, reduceCtorEq, Nat.reduceLT, Nat.reduceEqDiff, Nat.reduceAdd, Nat.reduceSub, Nat.reduceMul, Int.reduceToNat]), rfl⟩
  refine CwpE.cut (st := ⟨[(3, .ref 0 1 0 0), (4, .ref 1 1 0 0), (5, .ref 2 1 0 0), (7, .ref 3 1 0 0), (8, .ref 5 1 0 0)], [.arr 1 1 22 [vints p], .arr 1 1 22 [vints o], .arr 1 1 3 [vi m], .arr 1 1 3 [vi n], .arr (n + 1) 1 22 (rowsT p o m n (n + 1)), .arr 1 1 25 [.own 4 (n + 1) 0 (n + 1)]]⟩) ?_ ?_
  · simp only [go_sem, Nat.reducePow, Nat.reduceLeDiff, ↓reduceIte, reduceCtorEq, Nat.reduceLT, Nat.reduceEqDiff, Nat.reduceAdd, Nat.reduceSub, Nat.reduceMul, Int.reduceToNat, w1, q1, q2, q3, Int.le_refl, lstV_rep, er]
    exact ⟨_, WkE.keep (by simp only [go_sem, List.replicate_succ, Nat.reducePow, Nat.reduceLeDiff, ↓reduceIte, reduceCtorEq, Nat.reduceLT, Nat.reduceEqDiff, Nat.reduceAdd, Nat.reduceSub, Nat.reduceMul, Int.reduceToNat]), rfl⟩
  refine CwpE.cut (st := ⟨[(3, .ref 0 1 0 0), (4, .ref 1 1 0 0), (5, .ref 2 1 0 0), (7, .ref 3 1 0 0), (8, .ref 5 1 0 0), (9, .ref 6 1 0 0)], [.arr 1 1 22 [vints p], .arr 1 1 22 [vints o], .arr 1 1 3 [vi m], .arr 1 1 3 [vi n], .arr (n + 1) 1 22 (rowsT p o m n (n + 1)), .arr 1 1 25 [.own 4 (n + 1) 0 (n + 1)], .arr 1 1 57 [.val .nilFunc]]⟩) ?_ ?_
  · simp only [go_sem, List.replicate_succ, Nat.reducePow, Nat.reduceLeDiff, ↓reduceIte, reduceCtorEq, Nat.reduceLT, Nat.reduceEqDiff, Nat.reduceAdd, Nat.reduceSub, Nat.reduceMul, Int.reduceToNat]
    exact ⟨_, WkE.keep (by simp only [go_sem, List.replicate_succ, Nat.reducePow, Nat.reduceLeDiff, ↓reduceIte, reduceCtorEq, Nat.reduceLT, Nat.reduceEqDiff, Nat.reduceAdd, Nat.reduceSub, Nat.reduceMul, Int.reduceToNat]), rfl⟩
  refine CwpE.cut (st := ⟨[(8, .ref 5 1 0 0), (9, .ref 6 1 0 0)], baseT p o m n (rowsT p o m n (n + 1))⟩) ?_ ?_
  · simp only [baseT, go_sem, List.replicate_succ, Nat.reducePow, Nat.reduceLeDiff, ↓reduceIte, reduceCtorEq, Nat.reduceLT, Nat.reduceEqDiff, Nat.reduceAdd, Nat.reduceSub, Nat.reduceMul, Int.reduceToNat]
    exact ⟨_, WkE.keep (by simp only [go_sem, List.replicate_succ, Nat.reducePow, Nat.reduceLeDiff, ↓reduceIte, reduceCtorEq, Nat.reduceLT, Nat.reduceEqDiff, Nat.reduceAdd, Nat.reduceSub, Nat.reduceMul, Int.reduceToNat]), rfl⟩
  refine CwpE.cut (st := ⟨[(8, .ref 5 1 0 0)], baseT p o m n (rowsT p o m n 0)⟩) ?_ ?_
  · simp only [baseT, go_sem, List.replicate_succ, Nat.reducePow, Nat.reduceLeDiff, ↓reduceIte, reduceCtorEq, Nat.reduceLT, Nat.reduceEqDiff, Nat.reduceAdd, Nat.reduceSub, Nat.reduceMul, Int.reduceToNat]
    refine callM (baseT p o m n (rowsT p o m n (n + 1))) [] (baseT p o m n (rowsT p o m n 0)) hs (List.append_nil _).symm ?_ rfl ?_
    · simp only [baseT, List.length_cons, List.length_nil, List.all_cons, List.all_nil, Bool.and_true]
      simp only [AObj.innO, rowsT_inn]
      rfl
    simp only [baseT, go_sem, List.replicate_succ, Nat.reducePow, Nat.reduceLeDiff, ↓reduceIte, reduceCtorEq, Nat.reduceLT, Nat.reduceEqDiff, Nat.reduceAdd, Nat.reduceSub, Nat.reduceMul, Int.reduceToNat]
    exact ⟨_, WkE.keep (by simp only [go_sem, List.replicate_succ, Nat.reducePow, Nat.reduceLeDiff, ↓reduceIte, reduceCtorEq, Nat.reduceLT, Nat.reduceEqDiff, Nat.reduceAdd, Nat.reduceSub, Nat.reduceMul, Int.reduceToNat]), rfl⟩
  refine CwpE.vc ?_
  simp only [baseT, go_sem, List.replicate_succ, Nat.reducePow, Nat.reduceLeDiff, ↓reduceIte, reduceCtorEq, Nat.reduceLT, Nat.reduceEqDiff, Nat.reduceAdd, Nat.reduceSub, Nat.reduceMul, Int.reduceToNat]
  refine .own 4 (n + 1) 0 (n + 1) 1 22 _ _ rfl (by rw [lstV_len]; omega) (by rw [List.length_map, hVl]) fun q hq => ?_
  simp only [Nat.zero_add, rowsT, lstV, List.getElem_map, List.getElem_range, Nat.zero_le, if_true, hVg]
  exact .tree _ rfl
end Go.Proofs.Ytphcaelkpgdbcaa
