/- A word in which two neighbouring pieces are one, by contract. -/
import Derived.Test.YtehelanfgepcmaaPj
import Derived.Test.YtehelanfgepcmaaDx
set_option linter.unusedSimpArgs false
set_option linter.unusedVariables false
set_option linter.unusedSectionVars false
namespace Go.Proofs.Ytehelanfgepcmaa
open Go.RowKit Dak
/-- A row without what ends ahead of piece k. -/
def rowK (k i : Nat) (r : List Int) (n : Nat) : List Int := ((List.range n).filter fun d => decide (i + d + 1 ≠ k)).map fun d => r.getD d 0
def rowsK (x : List (List Int)) (k n : Nat) : List (List Int) := ((List.range n).filter fun i => decide (i ≠ k)).map fun i => rowK k i (x.getD i []) (x.length - i)
/-- dactylref11.Merged -/
def mergedL (x : List (List Int)) (point : Int) : List (List Int) := if x.length < 2 then x else rowsK x (1 + aroundL point (x.length - 1)).toNat x.length
theorem rowK_eq {k i : Nat} {r : List Int} {n : Nat} (h : i + n + 1 = k) : rowK k i r (n + 1) = rowK k i r n := by simp [rowK, List.range_succ, List.filter_append, h]
theorem rowK_ne {k i : Nat} {r : List Int} {n : Nat} (h : ¬ i + n + 1 = k) : rowK k i r (n + 1) = rowK k i r n ++ [r.getD n 0] := by simp [rowK, List.range_succ, List.filter_append, h]
theorem rowsK_eq {x : List (List Int)} {k : Nat} : rowsK x k (k + 1) = rowsK x k k := by simp [rowsK, List.range_succ, List.filter_append]
theorem rowsK_ne {x : List (List Int)} {k n : Nat} (h : ¬ n = k) : rowsK x k (n + 1) = rowsK x k n ++ [rowK k n (x.getD n []) (x.length - n)] := by simp [rowsK, List.range_succ, List.filter_append, h]
theorem rowK_len {k i : Nat} {r : List Int} {n : Nat} : (rowK k i r n).length ≤ n := by
  rw [rowK, List.length_map]; have := List.length_filter_le (fun d => decide (i + d + 1 ≠ k)) (List.range n); rw [List.length_range] at this; exact this
theorem rowsK_len {x : List (List Int)} {k n : Nat} : (rowsK x k n).length ≤ n := by
  rw [rowsK, List.length_map]; have := List.length_filter_le (fun i => decide (i ≠ k)) (List.range n); rw [List.length_range] at this; exact this
set_option maxRecDepth 100000 in
set_option maxHeartbeats 4000000 in
theorem Merged_s (x : List (List Int)) (point : Int) (hx : x.length ≤ 1000) (hr : ∀ i (h : i < x.length), x[i].length = x.length - i) (hp : I64 point) : Ctr Try.prog 20 [vword x, vi point] (vword (mergedL x point)) := by
  refine specE f20 (by simp) fun F0 w0 => ?_
  by_cases h2 : x.length < 2
  · have h2' : (x.length : Int) < 2 := by omega
    simp only [c20, go_sem, List.replicate_succ, Nat.reducePow, Nat.reduceLeDiff, ↓reduceIte, reduceCtorEq, Nat.reduceLT, Nat.reduceEqDiff, Nat.reduceAdd, Nat.reduceSub, Nat.reduceMul, Int.reduceToNat, h2']
    rw [mergedL, if_pos h2]
    exact .tree _ rfl
  have h2' : ¬ (x.length : Int) < 2 := by omega
  have w1 : IntKind.i64.wrap ((x.length : Int) - 1) = (x.length : Int) - 1 := wrap_id (by omega) (by omega)
  simp only [c20, go_sem, List.replicate_succ, Nat.reducePow, Nat.reduceLeDiff, ↓reduceIte, reduceCtorEq, Nat.reduceLT, Nat.reduceEqDiff, Nat.reduceAdd, Nat.reduceSub, Nat.reduceMul, Int.reduceToNat, h2', w1]
  refine callT (Around_s point _ hp ⟨by omega, by omega⟩) rfl ?_
  have hb := aroundL_bd point ((x.length : Int) - 1) (by omega)
  obtain ⟨k, hk⟩ : ∃ k : Nat, 1 + aroundL point ((x.length : Int) - 1) = k := ⟨(1 + aroundL point ((x.length : Int) - 1)).toNat, by omega⟩
  have hm : mergedL x point = rowsK x k x.length := by rw [mergedL, if_neg h2, hk]; rfl
  rw [hm]
  have w2 : IntKind.i64.wrap (1 + aroundL point ((x.length : Int) - 1)) = (k : Int) := by rw [wrap_id (by omega) (by omega)]; exact hk
  simp only [go_sem, List.replicate_succ, Nat.reducePow, Nat.reduceLeDiff, ↓reduceIte, reduceCtorEq, Nat.reduceLT, Nat.reduceEqDiff, Nat.reduceAdd, Nat.reduceSub, Nat.reduceMul, Int.reduceToNat, w2]
  have hk1 : k < x.length := by omega
  clear hm w2 hk hb
  refine loopX 0 (fun m s => ∃ i : Nat, m = x.length - i ∧ i ≤ x.length ∧ s = ⟨[(2, .ref 0 1 0 0), (4, .ref 1 1 0 0), (5, vi x.length), (6, vi k), (7, .ref 2 1 0 0), (8, vi i)],
      [.arr 1 1 47 [vword x], .arr 1 1 47 [.agg [.val (.slice none 0 0)]], .arr 1 1 47 [.agg [ownV 3 (rowsK x k i).length]], .arr (rowsK x k i).length 1 22 ((rowsK x k i).map vints)]⟩)
    (fun s => s = ⟨[(4, .ref 1 1 0 0), (7, .ref 2 1 0 0)], [.arr 1 1 47 [vword x], .arr 1 1 47 [.agg [.val (.slice none 0 0)]], .arr 1 1 47 [vword (rowsK x k x.length)]]⟩) x.length
    ⟨[(2, .ref 0 1 0 0), (4, .ref 1 1 0 0), (5, vi x.length), (6, vi k), (7, .ref 2 1 0 0), (8, vi (0 : Nat))], [.arr 1 1 47 [vword x], .arr 1 1 47 [.agg [.val (.slice none 0 0)]], .arr 1 1 47 [.agg [ownV 3 0]], .arr 0 1 22 []]⟩
    ((WkE.nilCell 2 1 1 0 0 1 22 47 _ (.agg [.val (.slice none 0 0)]) rfl rfl rfl).trans (WkE.keep (by simp only [go_sem, List.replicate_succ, Nat.reducePow, Nat.reduceLeDiff, ↓reduceIte, reduceCtorEq, Nat.reduceLT, Nat.reduceEqDiff, Nat.reduceAdd, Nat.reduceSub, Nat.reduceMul, Int.reduceToNat]; rfl))) ⟨0, by simp [rowsK]⟩ ?_ ?_
  rotate_left
  · rintro s rfl
    simp only [go_sem, List.replicate_succ, Nat.reducePow, Nat.reduceLeDiff, ↓reduceIte, reduceCtorEq, Nat.reduceLT, Nat.reduceEqDiff, Nat.reduceAdd, Nat.reduceSub, Nat.reduceMul, Int.reduceToNat]
    exact .tree _ rfl
  rintro m s ⟨i, rfl, hi, rfl⟩
  by_cases hlt : i < x.length
  rotate_left
  · have e : i = x.length := by omega
    subst e
    simp only [go_sem, List.replicate_succ, Nat.reducePow, Nat.reduceLeDiff, ↓reduceIte, reduceCtorEq, Nat.reduceLT, Nat.reduceEqDiff, Nat.reduceAdd, Nat.reduceSub, Nat.reduceMul, Int.reduceToNat, Int.lt_irrefl]
    exact ⟨_, (WkE.freezeCell 2 1 1 0 0 3 (rowsK x k x.length).length 0 (rowsK x k x.length).length 1 47 22 _ _ (.agg [ownV 3 (rowsK x k x.length).length]) rfl rfl rfl rfl (by omega) (by simp) (by simp [List.all_map, AV.isT, AV.isT1])).trans (WkE.round (env' := [(4, .ref 1 1 0 0), (7, .ref 2 1 0 0)]) (objs' := [.arr 1 1 47 [vword x], .arr 1 1 47 [.agg [.val (.slice none 0 0)]], .arr 1 1 47 [vword (rowsK x k x.length)]]) (by simp only [go_sem, List.replicate_succ, Nat.reducePow, Nat.reduceLeDiff, ↓reduceIte, reduceCtorEq, Nat.reduceLT, Nat.reduceEqDiff, Nat.reduceAdd, Nat.reduceSub, Nat.reduceMul, Int.reduceToNat]) (by simp [AV.inn, AV.inn1]) (by simp [AObj.innO, AV.inn, AV.inn1, List.all_map]) (by simp [go_sem, List.replicate_succ, Nat.reducePow, Nat.reduceLeDiff, ↓reduceIte, reduceCtorEq, Nat.reduceLT, Nat.reduceEqDiff, Nat.reduceAdd, Nat.reduceSub, Nat.reduceMul, Int.reduceToNat])), rfl⟩
  have g1 : (i : Int) < (x.length : Int) := by omega
  have g0 : (0 : Int) ≤ (i : Int) := by omega
  have w3 : IntKind.i64.wrap ((i : Int) + 1) = ((i + 1 : Nat) : Int) := by rw [wrap_id (by omega) (by omega)]; omega
  by_cases hik : i = k
  · subst hik
    simp only [go_sem, List.replicate_succ, Nat.reducePow, Nat.reduceLeDiff, ↓reduceIte, reduceCtorEq, Nat.reduceLT, Nat.reduceEqDiff, Nat.reduceAdd, Nat.reduceSub, Nat.reduceMul, Int.reduceToNat, g1, w3]
    refine ⟨x.length - (i + 1), ⟨[(2, .ref 0 1 0 0), (4, .ref 1 1 0 0), (5, vi x.length), (6, vi i), (7, .ref 2 1 0 0), (8, vi (i + 1 : Nat))],
      [.arr 1 1 47 [vword x], .arr 1 1 47 [.agg [.val (.slice none 0 0)]], .arr 1 1 47 [.agg [ownV 3 (rowsK x i i).length]], .arr (rowsK x i i).length 1 22 ((rowsK x i i).map vints)]⟩, by omega, WkE.keep (by simp only [go_sem, List.replicate_succ, Nat.reducePow, Nat.reduceLeDiff, ↓reduceIte, reduceCtorEq, Nat.reduceLT, Nat.reduceEqDiff, Nat.reduceAdd, Nat.reduceSub, Nat.reduceMul, Int.reduceToNat]), i + 1, rfl, by omega, ?_⟩
    rw [rowsK_eq]
  have g2 : ¬ (i : Int) = (k : Int) := by omega
  have hri := hr i hlt
  have hgd : x.getD i [] = x[i] := by simp [hlt]
  have hL := rowsK_len (x := x) (k := k) (n := i)
  have hb : ((rowsK x k i).length + 1) * 24 ≤ 140737488355328 := by omega
  have hne := rowsK_ne (x := x) hik
  rw [hgd] at hne
  simp only [go_sem, List.replicate_succ, Nat.reducePow, Nat.reduceLeDiff, ↓reduceIte, reduceCtorEq, Nat.reduceLT, Nat.reduceEqDiff, Nat.reduceAdd, Nat.reduceSub, Nat.reduceMul, Int.reduceToNat, g1, g2]
  generalize hR : rowsK x k i = R at *
  refine loopX 2 (fun m s => ∃ d : Nat, m = x.length - i - d ∧ d ≤ x.length - i ∧ s = ⟨[(2, .ref 0 1 0 0), (4, .ref 1 1 0 0), (5, vi x.length), (6, vi k), (7, .ref 2 1 0 0), (8, vi i), (9, ownV 4 (rowK k i x[i] d).length), (10, vi (i + d : Nat))],
      [.arr 1 1 47 [vword x], .arr 1 1 47 [.agg [.val (.slice none 0 0)]], .arr 1 1 47 [.agg [ownV 3 R.length]], .arr R.length 1 22 (R.map vints), .arr (rowK k i x[i] d).length 1 3 ((rowK k i x[i] d).map vi)]⟩)
    (fun s => s = ⟨[(2, .ref 0 1 0 0), (4, .ref 1 1 0 0), (5, vi x.length), (6, vi k), (7, .ref 2 1 0 0), (8, vi i), (9, vints (rowK k i x[i] (x.length - i)))],
      [.arr 1 1 47 [vword x], .arr 1 1 47 [.agg [.val (.slice none 0 0)]], .arr 1 1 47 [.agg [ownV 3 R.length]], .arr R.length 1 22 (R.map vints)]⟩) (x.length - i)
    ⟨[(2, .ref 0 1 0 0), (4, .ref 1 1 0 0), (5, vi x.length), (6, vi k), (7, .ref 2 1 0 0), (8, vi i), (9, ownV 4 0), (10, vi i)], [.arr 1 1 47 [vword x], .arr 1 1 47 [.agg [.val (.slice none 0 0)]], .arr 1 1 47 [.agg [ownV 3 R.length]], .arr R.length 1 22 (R.map vints), .arr 0 1 3 []]⟩
    ((WkE.nil 9 1 3 (by omega) rfl).trans (WkE.keep (by simp only [go_sem, List.replicate_succ, Nat.reducePow, Nat.reduceLeDiff, ↓reduceIte, reduceCtorEq, Nat.reduceLT, Nat.reduceEqDiff, Nat.reduceAdd, Nat.reduceSub, Nat.reduceMul, Int.reduceToNat]))) ⟨0, by simp [rowK]⟩ ?_ ?_
  rotate_left
  · rintro s rfl
    simp only [go_sem, List.replicate_succ, Nat.reducePow, Nat.reduceLeDiff, ↓reduceIte, reduceCtorEq, Nat.reduceLT, Nat.reduceEqDiff, Nat.reduceAdd, Nat.reduceSub, Nat.reduceMul, Int.reduceToNat, w3, hb]
    refine ⟨x.length - (i + 1), ⟨[(2, .ref 0 1 0 0), (4, .ref 1 1 0 0), (5, vi x.length), (6, vi k), (7, .ref 2 1 0 0), (8, vi (i + 1 : Nat))],
      [.arr 1 1 47 [vword x], .arr 1 1 47 [.agg [.val (.slice none 0 0)]], .arr 1 1 47 [.agg [ownV 3 (rowsK x k (i + 1)).length]], .arr (rowsK x k (i + 1)).length 1 22 ((rowsK x k (i + 1)).map vints)]⟩, by omega, ?_, i + 1, rfl, by omega, rfl⟩
    rw [hne, List.length_append, List.map_append]
    exact WkE.keep (by simp only [go_sem, List.replicate_succ, Nat.reducePow, Nat.reduceLeDiff, ↓reduceIte, reduceCtorEq, Nat.reduceLT, Nat.reduceEqDiff, Nat.reduceAdd, Nat.reduceSub, Nat.reduceMul, Int.reduceToNat])
  rintro m s ⟨d, rfl, hd, rfl⟩
  by_cases hdl : d < x.length - i
  rotate_left
  · have e : d = x.length - i := by omega
    subst e
    have g3 : ¬ ((i + (x.length - i) : Nat) : Int) < (x.length : Int) := by omega
    simp only [go_sem, List.replicate_succ, Nat.reducePow, Nat.reduceLeDiff, ↓reduceIte, reduceCtorEq, Nat.reduceLT, Nat.reduceEqDiff, Nat.reduceAdd, Nat.reduceSub, Nat.reduceMul, Int.reduceToNat, g3]
    exact ⟨_, (WkE.freeze 9 4 (rowK k i x[i] (x.length - i)).length 0 (rowK k i x[i] (x.length - i)).length 1 3 ((rowK k i x[i] (x.length - i)).map vi) (by omega) rfl rfl (by simp) (by simp [List.all_map, AV.isT, AV.isT1])).trans (WkE.round (by simp only [go_sem, List.replicate_succ, Nat.reducePow, Nat.reduceLeDiff, ↓reduceIte, reduceCtorEq, Nat.reduceLT, Nat.reduceEqDiff, Nat.reduceAdd, Nat.reduceSub, Nat.reduceMul, Int.reduceToNat]) (by simp [AV.inn, AV.inn1]) (by simp [AObj.innO, AV.inn, AV.inn1, List.all_map]) (by simp)), rfl⟩
  have g3 : ((i + d : Nat) : Int) < (x.length : Int) := by omega
  have w4 : IntKind.i64.wrap (((i + d : Nat) : Int) + 1) = ((i + (d + 1) : Nat) : Int) := by rw [wrap_id (by omega) (by omega)]; omega
  have w5 : IntKind.i64.wrap (((i + d : Nat) : Int) - (i : Int)) = (d : Int) := by rw [wrap_id (by omega) (by omega)]; omega
  have gd : d < x[i].length := by omega
  have g4 : (0 : Int) ≤ (d : Int) := by omega
  have g5 : (d : Int) < (x[i].length : Int) := by omega
  have hD := rowK_len (k := k) (i := i) (r := x[i]) (n := d)
  have hb2 : ((rowK k i x[i] d).length + 1) * 8 ≤ 140737488355328 := by omega
  by_cases hek : i + d + 1 = k
  · have g6 : (((i + (d + 1) : Nat) : Int) = (k : Int)) = True := eq_true (by omega)
    simp only [go_sem, List.replicate_succ, Nat.reducePow, Nat.reduceLeDiff, ↓reduceIte, reduceCtorEq, Nat.reduceLT, Nat.reduceEqDiff, Nat.reduceAdd, Nat.reduceSub, Nat.reduceMul, Int.reduceToNat, g3, w4, g6]
    refine ⟨x.length - i - (d + 1), ⟨[(2, .ref 0 1 0 0), (4, .ref 1 1 0 0), (5, vi x.length), (6, vi k), (7, .ref 2 1 0 0), (8, vi i), (9, ownV 4 (rowK k i x[i] d).length), (10, vi (i + (d + 1) : Nat))],
      [.arr 1 1 47 [vword x], .arr 1 1 47 [.agg [.val (.slice none 0 0)]], .arr 1 1 47 [.agg [ownV 3 R.length]], .arr R.length 1 22 (R.map vints), .arr (rowK k i x[i] d).length 1 3 ((rowK k i x[i] d).map vi)]⟩, by omega, WkE.keep (by simp only [go_sem, List.replicate_succ, Nat.reducePow, Nat.reduceLeDiff, ↓reduceIte, reduceCtorEq, Nat.reduceLT, Nat.reduceEqDiff, Nat.reduceAdd, Nat.reduceSub, Nat.reduceMul, Int.reduceToNat]), d + 1, rfl, by omega, ?_⟩
    rw [rowK_eq hek]
  · have g6 : ¬ ((i + (d + 1) : Nat) : Int) = (k : Int) := by omega
    simp only [go_sem, List.replicate_succ, Nat.reducePow, Nat.reduceLeDiff, ↓reduceIte, reduceCtorEq, Nat.reduceLT, Nat.reduceEqDiff, Nat.reduceAdd, Nat.reduceSub, Nat.reduceMul, Int.reduceToNat, g0, g1, g3, g4, g5, w4, w5, g6, hb2, List.getElem?_map, List.getElem?_eq_getElem hlt, List.getElem?_eq_getElem gd]
    refine ⟨x.length - i - (d + 1), ⟨[(2, .ref 0 1 0 0), (4, .ref 1 1 0 0), (5, vi x.length), (6, vi k), (7, .ref 2 1 0 0), (8, vi i), (9, ownV 4 (rowK k i x[i] (d + 1)).length), (10, vi (i + (d + 1) : Nat))],
      [.arr 1 1 47 [vword x], .arr 1 1 47 [.agg [.val (.slice none 0 0)]], .arr 1 1 47 [.agg [ownV 3 R.length]], .arr R.length 1 22 (R.map vints), .arr (rowK k i x[i] (d + 1)).length 1 3 ((rowK k i x[i] (d + 1)).map vi)]⟩, by omega, ?_, d + 1, rfl, by omega, rfl⟩
    have hg : x[i].getD d 0 = x[i][d] := by simp [gd]
    rw [rowK_ne hek, hg, List.length_append, List.map_append]
    exact WkE.keep (by simp only [go_sem, List.replicate_succ, Nat.reducePow, Nat.reduceLeDiff, ↓reduceIte, reduceCtorEq, Nat.reduceLT, Nat.reduceEqDiff, Nat.reduceAdd, Nat.reduceSub, Nat.reduceMul, Int.reduceToNat])
end Go.Proofs.Ytehelanfgepcmaa
