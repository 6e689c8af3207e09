/- The generator of words, by contract. -/
import Derived.Test.YtehelanfgepcmaaPa
set_option linter.unusedSimpArgs false
set_option linter.unusedVariables false
set_option linter.unusedSectionVars false
namespace Go.Proofs.Ytehelanfgepcmaa
open Go.RowKit Dak

theorem aroundL_bd (n most : Int) (h : 1 ≤ most) : 0 ≤ aroundL n most ∧ aroundL n most < most := by
  unfold aroundL
  rw [if_neg (by omega)]
  exact ⟨Int.emod_nonneg _ (by omega), Int.emod_lt_of_pos _ (by omega)⟩
theorem atL_bd (l : List Int) (i most : Int) (h : 1 ≤ most) : 0 ≤ atL l i most ∧ atL l i most < most := by
  unfold atL
  split
  · omega
  · split
    · exact aroundL_bd _ _ h
    · omega

/-- One row: the rest of it from the place k on. -/
def rowGo (l : List Int) (w : Nat) : Nat → Nat → Int → List Int
  | 0, _, _ => []
  | d + 1, k, s =>
    let s' := if atL l (3 + 4 * w) 7 = 0 then atL l (4 + 4 * w + k) 6 else s + 1 + atL l (2 + 4 * w + k) 4
    s' :: rowGo l w d (k + 1) s'
def piecesL (l : List Int) (w : Nat) : Nat := (1 + (atL l (1 + 4 * w) 6) / 2).toNat
def wordL (l : List Int) (w : Nat) : List (List Int) := (List.range (piecesL l w)).map fun i => rowGo l w (piecesL l w - i) i 0
def wordsL (l : List Int) (most : Int) : List (List (List Int)) := (List.range (atL l 0 (most + 1)).toNat).map (wordL l)

theorem pieces_bd (l : List Int) (w : Nat) : 1 ≤ piecesL l w ∧ piecesL l w ≤ 3 := by
  have := atL_bd l (1 + 4 * w) 6 (by omega)
  unfold piecesL; omega

abbrev ownV (id n : Nat) : AV := .own id n 0 n

set_option maxRecDepth 100000 in
set_option maxHeartbeats 1000000 in
theorem Words_s (l : List Int) (most : Int) (hl : ∀ x ∈ l, I64 x) (h1 : 0 ≤ most) (h2 : most ≤ 100) : Ctr Try.prog 10 [vints l, vi most] (vwords (wordsL l most)) := by
  refine specE f10 (by simp) fun F0 w0 => ?_
  have hA : ∀ i m : Int, 1 ≤ m → m ≤ 1000 → Ctr Try.prog 34 [vints l, vi i, vi m] (vi (atL l i m)) := fun i m h1 h2 => At_s l i m hl ⟨by omega, by omega⟩
  have hn := atL_bd l 0 (most + 1) (by omega)
  have ew : IntKind.i64.wrap (most + 1) = most + 1 := wrap_id (by omega) (by omega)
  simp only [c10, go_sem, List.replicate_succ, Nat.reducePow, Nat.reduceLeDiff, ↓reduceIte, reduceCtorEq, Nat.reduceLT, Nat.reduceEqDiff, Nat.reduceAdd, Nat.reduceSub, Nat.reduceMul, Int.reduceToNat, ew]
  refine callT (hA _ _ (by omega) (by omega)) rfl ?_
  obtain ⟨N, hN⟩ : ∃ N : Nat, atL l 0 (most + 1) = N := ⟨(atL l 0 (most + 1)).toNat, by omega⟩
  have hWL : wordsL l most = (List.range N).map (wordL l) := by simp [wordsL, hN]
  rw [hN] at hn ⊢
  simp only [go_sem, List.replicate_succ, Nat.reducePow, Nat.reduceLeDiff, ↓reduceIte, reduceCtorEq, Nat.reduceLT, Nat.reduceEqDiff, Nat.reduceAdd, Nat.reduceSub, Nat.reduceMul, Int.reduceToNat]
  refine loopX 0 (fun m s => ∃ w : Nat, m = N - w ∧ w ≤ N ∧ s = ⟨[(0, vints l), (1, vi most), (5, ownV 0 w), (6, vi N), (7, vi w)], [.arr w 1 47 (((List.range w).map (wordL l)).map vword)]⟩)
    (fun s => s = ⟨[(5, ownV 0 N)], [.arr N 1 47 (((List.range N).map (wordL l)).map vword)]⟩) N
    ⟨[(0, vints l), (1, vi most), (5, ownV 0 0), (6, vi N), (7, vi (0 : Nat))], [.arr 0 1 47 []]⟩ ((WkE.nil 5 1 47 (by omega) rfl).trans (WkE.keep (by simp [go_sem, List.replicate_succ, Nat.reducePow, Nat.reduceLeDiff, ↓reduceIte, reduceCtorEq, Nat.reduceLT, Nat.reduceEqDiff, Nat.reduceAdd, Nat.reduceSub, Nat.reduceMul, Int.reduceToNat]))) ⟨0, by simp⟩ ?_ ?_
  rotate_left
  · rintro s rfl
    simp only [go_sem, List.replicate_succ, Nat.reducePow, Nat.reduceLeDiff, ↓reduceIte, reduceCtorEq, Nat.reduceLT, Nat.reduceEqDiff, Nat.reduceAdd, Nat.reduceSub, Nat.reduceMul, Int.reduceToNat]
    rw [hWL]
    refine .own 0 N 0 N 1 47 _ _ rfl (by simp) (by simp) fun i hi => ?_
    simp only [Nat.zero_add, List.getElem_map]
    exact .tree _ rfl
  rintro m s ⟨w, rfl, hw, rfl⟩
  by_cases hlt : w < N
  rotate_left
  · have e : w = N := by omega
    subst e
    simp only [go_sem, List.replicate_succ, Nat.reducePow, Nat.reduceLeDiff, ↓reduceIte, reduceCtorEq, Nat.reduceLT, Nat.reduceEqDiff, Nat.reduceAdd, Nat.reduceSub, Nat.reduceMul, Int.reduceToNat, Int.lt_irrefl]
    exact ⟨_, WkE.keep (by simp [go_sem, List.replicate_succ, Nat.reducePow, Nat.reduceLeDiff, ↓reduceIte, reduceCtorEq, Nat.reduceLT, Nat.reduceEqDiff, Nat.reduceAdd, Nat.reduceSub, Nat.reduceMul, Int.reduceToNat]), rfl⟩
  have g1 : (w : Int) < (N : Int) := by omega
  have e1 : IntKind.i64.wrap (4 * (w : Int)) = 4 * w := wrap_id (by omega) (by omega)
  have e2 : IntKind.i64.wrap (1 + 4 * (w : Int)) = 1 + 4 * w := wrap_id (by omega) (by omega)
  have e9 : IntKind.i64.wrap ((w : Int) + 1) = ((w + 1 : Nat) : Int) := by rw [wrap_id (by omega) (by omega)]; omega
  simp only [go_sem, List.replicate_succ, Nat.reducePow, Nat.reduceLeDiff, ↓reduceIte, reduceCtorEq, Nat.reduceLT, Nat.reduceEqDiff, Nat.reduceAdd, Nat.reduceSub, Nat.reduceMul, Int.reduceToNat, g1, e1, e2]
  refine callT (hA _ _ (by omega) (by omega)) rfl ?_
  have hpb := pieces_bd l w
  have hp6 := atL_bd l (1 + 4 * w) 6 (by omega)
  have e3 : IntKind.i64.wrap (1 + IntKind.i64.wrap ((atL l (1 + 4 * w) 6).tdiv 2)) = (piecesL l w : Int) := by
    have ei : IntKind.i64.wrap (atL l (1 + 4 * w) 6 / 2) = atL l (1 + 4 * w) 6 / 2 := wrap_id (by omega) (by omega)
    rw [Int.tdiv_eq_ediv_of_nonneg hp6.1, ei, wrap_id (by omega) (by omega)]
    unfold piecesL; omega
  have z2 : ¬ (2 : Int) = 0 := by omega
  have hWd : wordL l w = (List.range (piecesL l w)).map fun i => rowGo l w (piecesL l w - i) i 0 := rfl
  simp only [go_sem, List.replicate_succ, Nat.reducePow, Nat.reduceLeDiff, ↓reduceIte, reduceCtorEq, Nat.reduceLT, Nat.reduceEqDiff, Nat.reduceAdd, Nat.reduceSub, Nat.reduceMul, Int.reduceToNat, z2, e3]
  generalize piecesL l w = p at *
  have hw8 : (w + 1) * 24 ≤ 140737488355328 := by omega
  -- the rows
  refine loopX 2 (fun m s => ∃ i : Nat, m = p - i ∧ i ≤ p ∧ s = ⟨[(0, vints l), (1, vi most), (5, ownV 0 w), (6, vi N), (7, vi w), (8, .ref 1 1 0 0), (9, vi p), (10, vi i)],
      [.arr w 1 47 (((List.range w).map (wordL l)).map vword), .arr 1 1 47 [.agg [ownV 2 i]], .arr i 1 22 (((List.range i).map fun i => rowGo l w (p - i) i 0).map vints)]⟩)
    (fun s => s = ⟨[(0, vints l), (1, vi most), (5, ownV 0 w), (6, vi N), (7, vi w), (8, .ref 1 1 0 0)], [.arr w 1 47 (((List.range w).map (wordL l)).map vword), .arr 1 1 47 [vword (wordL l w)]]⟩) p
    ⟨[(0, vints l), (1, vi most), (5, ownV 0 w), (6, vi N), (7, vi w), (8, .ref 1 1 0 0), (9, vi p), (10, vi (0 : Nat))], [.arr w 1 47 (((List.range w).map (wordL l)).map vword), .arr 1 1 47 [.agg [ownV 2 0]], .arr 0 1 22 []]⟩
    ((WkE.nilCell 1 1 1 0 0 1 22 47 _ (.agg [.val (.slice none 0 0)]) rfl rfl rfl).trans (WkE.keep (by simp [go_sem, List.replicate_succ, Nat.reducePow, Nat.reduceLeDiff, ↓reduceIte, reduceCtorEq, Nat.reduceLT, Nat.reduceEqDiff, Nat.reduceAdd, Nat.reduceSub, Nat.reduceMul, Int.reduceToNat]))) ⟨0, by simp⟩ ?_ ?_
  rotate_left
  · rintro s rfl
    simp only [go_sem, List.replicate_succ, Nat.reducePow, Nat.reduceLeDiff, ↓reduceIte, reduceCtorEq, Nat.reduceLT, Nat.reduceEqDiff, Nat.reduceAdd, Nat.reduceSub, Nat.reduceMul, Int.reduceToNat, e9, hw8]
    refine ⟨N - (w + 1), ⟨[(0, vints l), (1, vi most), (5, ownV 0 (w + 1)), (6, vi N), (7, vi (w + 1 : Nat))], [.arr (w + 1) 1 47 (((List.range (w + 1)).map (wordL l)).map vword)]⟩, by omega, ?_, w + 1, rfl, by omega, rfl⟩
    refine WkE.round (by simp [go_sem, List.replicate_succ, Nat.reducePow, Nat.reduceLeDiff, ↓reduceIte, reduceCtorEq, Nat.reduceLT, Nat.reduceEqDiff, Nat.reduceAdd, Nat.reduceSub, Nat.reduceMul, Int.reduceToNat]) (by simp [AV.inn, AV.inn1]) (by simp [AObj.innO, AV.inn, AV.inn1, List.all_map]) (by simp [List.range_succ])
  rintro m s ⟨i, rfl, hi, rfl⟩
  by_cases hip : i < p
  rotate_left
  · have e : i = p := by omega
    subst e
    simp only [go_sem, List.replicate_succ, Nat.reducePow, Nat.reduceLeDiff, ↓reduceIte, reduceCtorEq, Nat.reduceLT, Nat.reduceEqDiff, Nat.reduceAdd, Nat.reduceSub, Nat.reduceMul, Int.reduceToNat, Int.lt_irrefl]
    refine ⟨_, (WkE.freezeCell 1 1 1 0 0 2 i 0 i 1 47 22 _ _ (.agg [ownV 2 i]) rfl rfl rfl rfl (by omega) (by simp) (by simp [List.all_map, AV.isT, AV.isT1])).trans (WkE.round (env' := [(0, vints l), (1, vi most), (5, ownV 0 w), (6, vi N), (7, vi w), (8, .ref 1 1 0 0)]) (objs' := [.arr w 1 47 (((List.range w).map (wordL l)).map vword), .arr 1 1 47 [vword (wordL l w)]]) (by simp [go_sem, List.replicate_succ, Nat.reducePow, Nat.reduceLeDiff, ↓reduceIte, reduceCtorEq, Nat.reduceLT, Nat.reduceEqDiff, Nat.reduceAdd, Nat.reduceSub, Nat.reduceMul, Int.reduceToNat]) (by simp [AV.inn, AV.inn1]) (by simp [AObj.innO, AV.inn, AV.inn1, List.all_map]) (by simp [hWd, go_sem, List.replicate_succ, Nat.reducePow, Nat.reduceLeDiff, ↓reduceIte, reduceCtorEq, Nat.reduceLT, Nat.reduceEqDiff, Nat.reduceAdd, Nat.reduceSub, Nat.reduceMul, Int.reduceToNat])), rfl⟩
  have g2 : (i : Int) < (p : Int) := by omega
  have e8 : IntKind.i64.wrap ((i : Int) + 1) = ((i + 1 : Nat) : Int) := by rw [wrap_id (by omega) (by omega)]; omega
  have hi8 : (i + 1) * 24 ≤ 140737488355328 := by omega
  simp only [go_sem, List.replicate_succ, Nat.reducePow, Nat.reduceLeDiff, ↓reduceIte, reduceCtorEq, Nat.reduceLT, Nat.reduceEqDiff, Nat.reduceAdd, Nat.reduceSub, Nat.reduceMul, Int.reduceToNat, g2]
  refine loopX 4 (fun m s => ∃ (k : Nat) (sm : Int) (done : List Int), m = p - k ∧ i ≤ k ∧ k ≤ p ∧ 0 ≤ sm ∧ sm ≤ 10 * k ∧ done.length + i = k ∧ done ++ rowGo l w (p - k) k sm = rowGo l w (p - i) i 0 ∧
      s = ⟨[(0, vints l), (1, vi most), (5, ownV 0 w), (6, vi N), (7, vi w), (8, .ref 1 1 0 0), (9, vi p), (10, vi i), (11, ownV 3 done.length), (12, vi sm), (13, vi k)],
      [.arr w 1 47 (((List.range w).map (wordL l)).map vword), .arr 1 1 47 [.agg [ownV 2 i]], .arr i 1 22 (((List.range i).map fun i => rowGo l w (p - i) i 0).map vints), .arr done.length 1 3 (done.map vi)]⟩)
    (fun s => s = ⟨[(0, vints l), (1, vi most), (5, ownV 0 w), (6, vi N), (7, vi w), (8, .ref 1 1 0 0), (9, vi p), (10, vi i), (11, vints (rowGo l w (p - i) i 0))],
      [.arr w 1 47 (((List.range w).map (wordL l)).map vword), .arr 1 1 47 [.agg [ownV 2 i]], .arr i 1 22 (((List.range i).map fun i => rowGo l w (p - i) i 0).map vints)]⟩) (p - i)
    ⟨[(0, vints l), (1, vi most), (5, ownV 0 w), (6, vi N), (7, vi w), (8, .ref 1 1 0 0), (9, vi p), (10, vi i), (11, ownV 3 0), (12, vi 0), (13, vi i)], [.arr w 1 47 (((List.range w).map (wordL l)).map vword), .arr 1 1 47 [.agg [ownV 2 i]], .arr i 1 22 (((List.range i).map fun i => rowGo l w (p - i) i 0).map vints), .arr 0 1 3 []]⟩
    ((WkE.nil 11 1 3 (by omega) rfl).trans (WkE.keep (by simp [go_sem, List.replicate_succ, Nat.reducePow, Nat.reduceLeDiff, ↓reduceIte, reduceCtorEq, Nat.reduceLT, Nat.reduceEqDiff, Nat.reduceAdd, Nat.reduceSub, Nat.reduceMul, Int.reduceToNat]))) ⟨i, 0, [], by simp; omega⟩ ?_ ?_
  rotate_left
  · rintro s rfl
    simp only [go_sem, List.replicate_succ, Nat.reducePow, Nat.reduceLeDiff, ↓reduceIte, reduceCtorEq, Nat.reduceLT, Nat.reduceEqDiff, Nat.reduceAdd, Nat.reduceSub, Nat.reduceMul, Int.reduceToNat, e8, hi8]
    refine ⟨p - (i + 1), ⟨[(0, vints l), (1, vi most), (5, ownV 0 w), (6, vi N), (7, vi w), (8, .ref 1 1 0 0), (9, vi p), (10, vi (i + 1 : Nat))],
      [.arr w 1 47 (((List.range w).map (wordL l)).map vword), .arr 1 1 47 [.agg [ownV 2 (i + 1)]], .arr (i + 1) 1 22 (((List.range (i + 1)).map fun i => rowGo l w (p - i) i 0).map vints)]⟩, by omega, ?_, i + 1, rfl, by omega, rfl⟩
    refine WkE.round (by simp [go_sem, List.replicate_succ, Nat.reducePow, Nat.reduceLeDiff, ↓reduceIte, reduceCtorEq, Nat.reduceLT, Nat.reduceEqDiff, Nat.reduceAdd, Nat.reduceSub, Nat.reduceMul, Int.reduceToNat]) (by simp [AV.inn, AV.inn1]) (by simp [AObj.innO, AV.inn, AV.inn1, List.all_map]) (by simp [List.range_succ])
  rintro m s ⟨k, sm, done, rfl, hik, hkp, hs0, hs1, hdl, hdone, rfl⟩
  by_cases hk : k < p
  rotate_left
  · have e : k = p := by omega
    subst e
    simp only [go_sem, List.replicate_succ, Nat.reducePow, Nat.reduceLeDiff, ↓reduceIte, reduceCtorEq, Nat.reduceLT, Nat.reduceEqDiff, Nat.reduceAdd, Nat.reduceSub, Nat.reduceMul, Int.reduceToNat, Int.lt_irrefl]
    have hd : done = rowGo l w (k - i) i 0 := by rw [Nat.sub_self, rowGo, List.append_nil] at hdone; exact hdone
    refine ⟨_, (WkE.freeze 11 3 done.length 0 done.length 1 3 (done.map vi) (by omega) rfl rfl (by simp) (by simp [List.all_map, AV.isT, AV.isT1])).trans (WkE.round (by simp [go_sem, List.replicate_succ, Nat.reducePow, Nat.reduceLeDiff, ↓reduceIte, reduceCtorEq, Nat.reduceLT, Nat.reduceEqDiff, Nat.reduceAdd, Nat.reduceSub, Nat.reduceMul, Int.reduceToNat, ← hd]) (by simp [AV.inn, AV.inn1]) (by simp [AObj.innO, AV.inn, AV.inn1, List.all_map]) (by simp)), rfl⟩
  have g3 : (k : Int) < (p : Int) := by omega
  have b2 := atL_bd l (2 + 4 * w + k) 4 (by omega)
  have b3 := atL_bd l (3 + 4 * w) 7 (by omega)
  have b4 := atL_bd l (4 + 4 * w + k) 6 (by omega)
  have f1 : IntKind.i64.wrap (sm + 1) = sm + 1 := wrap_id (by omega) (by omega)
  have f2 : IntKind.i64.wrap (2 + 4 * (w : Int)) = 2 + 4 * w := wrap_id (by omega) (by omega)
  have f3 : IntKind.i64.wrap (2 + 4 * (w : Int) + k) = 2 + 4 * w + k := wrap_id (by omega) (by omega)
  have f4 : IntKind.i64.wrap (3 + 4 * (w : Int)) = 3 + 4 * w := wrap_id (by omega) (by omega)
  have f5 : IntKind.i64.wrap (4 + 4 * (w : Int)) = 4 + 4 * w := wrap_id (by omega) (by omega)
  have f6 : IntKind.i64.wrap (4 + 4 * (w : Int) + k) = 4 + 4 * w + k := wrap_id (by omega) (by omega)
  have f7 : IntKind.i64.wrap ((k : Int) + 1) = ((k + 1 : Nat) : Int) := by rw [wrap_id (by omega) (by omega)]; omega
  have f8 : IntKind.i64.wrap (sm + 1 + atL l (2 + 4 * w + k) 4) = sm + 1 + atL l (2 + 4 * w + k) 4 := wrap_id (by omega) (by omega)
  have hb : (done.length + 1) * 8 ≤ 140737488355328 := by omega
  simp only [go_sem, List.replicate_succ, Nat.reducePow, Nat.reduceLeDiff, ↓reduceIte, reduceCtorEq, Nat.reduceLT, Nat.reduceEqDiff, Nat.reduceAdd, Nat.reduceSub, Nat.reduceMul, Int.reduceToNat, g3, e1, f1, f2, f3]
  refine callT (hA _ _ (by omega) (by omega)) rfl ?_
  simp only [go_sem, List.replicate_succ, Nat.reducePow, Nat.reduceLeDiff, ↓reduceIte, reduceCtorEq, Nat.reduceLT, Nat.reduceEqDiff, Nat.reduceAdd, Nat.reduceSub, Nat.reduceMul, Int.reduceToNat, e1, f4, f8]
  refine callT (hA _ _ (by omega) (by omega)) rfl ?_
  have step : ∀ s', (if atL l (3 + 4 * w) 7 = 0 then atL l (4 + 4 * w + k) 6 else sm + 1 + atL l (2 + 4 * w + k) 4) = s' → 0 ≤ s' → s' ≤ 10 * ((k + 1 : Nat) : Int) → ∃ m s, m < p - k ∧
      WkE 79 ⟨[(0, vints l), (1, vi most), (5, ownV 0 w), (6, vi N), (7, vi w), (8, .ref 1 1 0 0), (9, vi p), (10, vi i), (11, ownV 3 (done.length + 1)), (12, vi s'), (13, vi (k + 1 : Nat))], [.arr w 1 47 (((List.range w).map (wordL l)).map vword), .arr 1 1 47 [.agg [ownV 2 i]], .arr i 1 22 (((List.range i).map fun i => rowGo l w (p - i) i 0).map vints), .arr (done.length + 1) 1 3 (done.map vi ++ [vi s'])]⟩ s ∧
      ∃ (k : Nat) (sm : Int) (done : List Int), m = p - k ∧ i ≤ k ∧ k ≤ p ∧ 0 ≤ sm ∧ sm ≤ 10 * k ∧ done.length + i = k ∧ done ++ rowGo l w (p - k) k sm = rowGo l w (p - i) i 0 ∧
      s = ⟨[(0, vints l), (1, vi most), (5, ownV 0 w), (6, vi N), (7, vi w), (8, .ref 1 1 0 0), (9, vi p), (10, vi i), (11, ownV 3 done.length), (12, vi sm), (13, vi k)],
      [.arr w 1 47 (((List.range w).map (wordL l)).map vword), .arr 1 1 47 [.agg [ownV 2 i]], .arr i 1 22 (((List.range i).map fun i => rowGo l w (p - i) i 0).map vints), .arr done.length 1 3 (done.map vi)]⟩ := by
    intro s' hs' h1 h2
    refine ⟨p - (k + 1), _, by omega, .refl _ _, k + 1, s', done ++ [s'], rfl, by omega, by omega, h1, h2, by simp; omega, ?_, by simp⟩
    rw [← hdone, show p - k = (p - (k + 1)) + 1 from by omega, rowGo]
    simp only [hs', List.append_assoc, List.cons_append, List.nil_append]
  by_cases h0 : atL l (3 + 4 * w) 7 = 0
  · simp only [go_sem, List.replicate_succ, Nat.reducePow, Nat.reduceLeDiff, ↓reduceIte, reduceCtorEq, Nat.reduceLT, Nat.reduceEqDiff, Nat.reduceAdd, Nat.reduceSub, Nat.reduceMul, Int.reduceToNat, h0, e1, f5, f6]
    refine callT (hA _ _ (by omega) (by omega)) rfl ?_
    simp only [go_sem, List.replicate_succ, Nat.reducePow, Nat.reduceLeDiff, ↓reduceIte, reduceCtorEq, Nat.reduceLT, Nat.reduceEqDiff, Nat.reduceAdd, Nat.reduceSub, Nat.reduceMul, Int.reduceToNat, f7, hb]
    obtain ⟨m, s, h1, h2, h3⟩ := step _ (by rw [if_pos h0]) b4.1 (by omega)
    refine ⟨m, s, h1, WkE.trans (WkE.keep ?_) h2, h3⟩
    simp only [go_sem, List.replicate_succ, Nat.reducePow, Nat.reduceLeDiff, ↓reduceIte, reduceCtorEq, Nat.reduceLT, Nat.reduceEqDiff, Nat.reduceAdd, Nat.reduceSub, Nat.reduceMul, Int.reduceToNat]
  · simp only [go_sem, List.replicate_succ, Nat.reducePow, Nat.reduceLeDiff, ↓reduceIte, reduceCtorEq, Nat.reduceLT, Nat.reduceEqDiff, Nat.reduceAdd, Nat.reduceSub, Nat.reduceMul, Int.reduceToNat, h0, f7, hb]
    obtain ⟨m, s, h1, h2, h3⟩ := step _ (by rw [if_neg h0]) (by omega) (by omega)
    refine ⟨m, s, h1, WkE.trans (WkE.keep ?_) h2, h3⟩
    simp only [go_sem, List.replicate_succ, Nat.reducePow, Nat.reduceLeDiff, ↓reduceIte, reduceCtorEq, Nat.reduceLT, Nat.reduceEqDiff, Nat.reduceAdd, Nat.reduceSub, Nat.reduceMul, Int.reduceToNat]
end Go.Proofs.Ytehelanfgepcmaa
