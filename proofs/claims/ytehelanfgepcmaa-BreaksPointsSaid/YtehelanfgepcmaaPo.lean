/- The law BreaksPoints, by contract. -/
import Derived.Test.YtehelanfgepcmaaPm
import Derived.Test.YtehelanfgepcmaaPn
import Derived.Test.YtehelanfgepcmaaPk
import Derived.Test.YtehelanfgepcmaaDy
set_option linter.unusedSimpArgs false
set_option linter.unusedVariables false
set_option linter.unusedSectionVars false
namespace Go.Proofs.Ytehelanfgepcmaa
open Go.RowKit Dak
theorem mergedL_I64 {x : List (List Int)} (p : Int) (h : ∀ r ∈ x, I64s r) : ∀ r ∈ mergedL x p, I64s r := by
  intro r hr
  unfold mergedL at hr
  split at hr
  · exact h r hr
  · unfold rowsK at hr
    obtain ⟨i, hi, rfl⟩ := List.mem_map.1 hr
    intro n hn
    unfold rowK at hn
    obtain ⟨d, hd, rfl⟩ := List.mem_map.1 hn
    rw [List.getD_eq_getElem?_getD]
    cases h1 : (x.getD i [])[d]? with
    | none => exact ⟨by decide, by decide⟩
    | some y =>
      have h2 := List.mem_of_getElem? h1
      rw [List.getD_eq_getElem?_getD] at h2
      cases h3 : x[i]? with
      | none => rw [h3] at h2; cases h2
      | some z => rw [h3] at h2; exact h z (List.mem_of_getElem? h3) y h2
theorem foldG_bd (w : Int) (hw : 0 ≤ w) : ∀ (L : List Int) (a b : Int), (∀ n ∈ L, 0 ≤ n ∧ n ≤ w) → 0 ≤ a → -1 ≤ b → b ≤ w → a ≤ (L.foldl (stepG w) (a, b)).1 ∧ (L.foldl (stepG w) (a, b)).1 ≤ a + L.length ∧ -1 ≤ (L.foldl (stepG w) (a, b)).2 ∧ (L.foldl (stepG w) (a, b)).2 ≤ w
  | [], a, b, _, h1, h2, h3 => by simp; omega
  | n :: L, a, b, h, h1, h2, h3 => by
    have hn := h n (by simp)
    rw [List.foldl_cons, stepG]
    split
    · have := foldG_bd w hw L (a + 1) (w - n) (fun x hx => h x (by simp [hx])) (by omega) (by omega) (by omega)
      simp only [List.length_cons]; omega
    · have := foldG_bd w hw L a (b - 1 - n) (fun x hx => h x (by simp [hx])) (by omega) (by dsimp only at *; omega) (by omega)
      simp only [List.length_cons]; omega
set_option maxRecDepth 100000 in
set_option maxHeartbeats 8000000 in
theorem BreaksPoints_s (l : List Int) (width at_ point : Int) (sizes : List Int) (hl : ∀ x ∈ l, I64 x) (h1 : I64 width) (h2 : I64 at_) (h3 : I64 point) (h4 : ∀ x ∈ sizes, I64 x) :
    Ctr Try.prog 5 [vints l, vi width, vi at_, vi point, vints sizes] (vb true) := by
  refine specC f5 (by simp) fun F0 w0 => ?_
  have hX1 := (wordsL_ok l 10 (by omega)).1
  have hX2 := wordsL_valid l 10 (by omega)
  have hX3 := wordsL_I64 l 10 (by omega)
  have hW := Words_s l 10 hl (by omega) (by omega)
  generalize wordsL l 10 = X at *
  have a1 := aroundL_bd width 20 (by omega)
  have s1 := Around_s width 20 h1 ⟨by omega, by omega⟩
  generalize aroundL width 20 = u1 at *
  have w1 : IntKind.i64.wrap (1 + u1) = 1 + u1 := wrap_id (by omega) (by omega)
  obtain ⟨w, hw⟩ : ∃ w, 1 + u1 = w := ⟨_, rfl⟩
  rw [hw] at w1
  have hw1 : 1 ≤ w ∧ w ≤ 20 := by omega
  unfold c5
  refine CwpE.cut (st := ⟨[(0, vints l), (1, vi width), (2, vi at_), (3, vi point), (4, vints sizes)], []⟩) ?_ ?_
  · simp only [go_sem, List.replicate_succ, Nat.reducePow, Nat.reduceLeDiff, ↓reduceIte, reduceCtorEq, Nat.reduceLT, Nat.reduceEqDiff, Nat.reduceAdd, Nat.reduceSub, Nat.reduceMul, Int.reduceToNat]
    exact ⟨_, WkE.keep (by simp only [go_sem, List.replicate_succ, Nat.reducePow, Nat.reduceLeDiff, ↓reduceIte, reduceCtorEq, Nat.reduceLT, Nat.reduceEqDiff, Nat.reduceAdd, Nat.reduceSub, Nat.reduceMul, Int.reduceToNat]), rfl⟩
  refine CwpE.cut (st := ⟨[(1, vi width), (2, vi at_), (3, vi point), (4, vints sizes), (11, vwords X)], []⟩) ?_ ?_
  · simp only [go_sem, List.replicate_succ, Nat.reducePow, Nat.reduceLeDiff, ↓reduceIte, reduceCtorEq, Nat.reduceLT, Nat.reduceEqDiff, Nat.reduceAdd, Nat.reduceSub, Nat.reduceMul, Int.reduceToNat]
    refine callT hW rfl ?_
    simp only [go_sem, List.replicate_succ, Nat.reducePow, Nat.reduceLeDiff, ↓reduceIte, reduceCtorEq, Nat.reduceLT, Nat.reduceEqDiff, Nat.reduceAdd, Nat.reduceSub, Nat.reduceMul, Int.reduceToNat]
    exact ⟨_, WkE.keep (by simp only [go_sem, List.replicate_succ, Nat.reducePow, Nat.reduceLeDiff, ↓reduceIte, reduceCtorEq, Nat.reduceLT, Nat.reduceEqDiff, Nat.reduceAdd, Nat.reduceSub, Nat.reduceMul, Int.reduceToNat]), rfl⟩
  refine CwpE.cut (st := ⟨[(2, vi at_), (3, vi point), (4, vints sizes), (11, vwords X), (12, vi w)], []⟩) ?_ ?_
  · simp only [go_sem, List.replicate_succ, Nat.reducePow, Nat.reduceLeDiff, ↓reduceIte, reduceCtorEq, Nat.reduceLT, Nat.reduceEqDiff, Nat.reduceAdd, Nat.reduceSub, Nat.reduceMul, Int.reduceToNat]
    refine callT s1 rfl ?_
    simp only [go_sem, List.replicate_succ, Nat.reducePow, Nat.reduceLeDiff, ↓reduceIte, reduceCtorEq, Nat.reduceLT, Nat.reduceEqDiff, Nat.reduceAdd, Nat.reduceSub, Nat.reduceMul, Int.reduceToNat, hw, w1]
    exact ⟨_, WkE.keep (by simp only [go_sem, List.replicate_succ, Nat.reducePow, Nat.reduceLeDiff, ↓reduceIte, reduceCtorEq, Nat.reduceLT, Nat.reduceEqDiff, Nat.reduceAdd, Nat.reduceSub, Nat.reduceMul, Int.reduceToNat]), rfl⟩
  clear hw w1 s1 a1
  have hA := Fill_s X w hX3 ⟨by omega, by omega⟩
  have hv := validB_of (w := w) (by omega) hX2 (by omega)
  have hVW := (validB_VW hv).1
  rcases hfm : fillM X w with ⟨e, A, K⟩
  rw [hfm] at hA
  refine CwpE.cut (st := ⟨[(2, vi at_), (3, vi point), (4, vints sizes), (11, vwords X), (12, vi w), (13, .ref 0 1 0 0), (14, vi e)], [.arr 1 2 30 [vcert (A, K)]]⟩) ?_ ?_
  · simp only [go_sem, List.replicate_succ, Nat.reducePow, Nat.reduceLeDiff, ↓reduceIte, reduceCtorEq, Nat.reduceLT, Nat.reduceEqDiff, Nat.reduceAdd, Nat.reduceSub, Nat.reduceMul, Int.reduceToNat]
    refine callT (words_s X (by omega)) rfl ?_
    simp only [go_sem, List.replicate_succ, Nat.reducePow, Nat.reduceLeDiff, ↓reduceIte, reduceCtorEq, Nat.reduceLT, Nat.reduceEqDiff, Nat.reduceAdd, Nat.reduceSub, Nat.reduceMul, Int.reduceToNat]
    refine callT hA rfl ?_
    simp only [go_sem, List.replicate_succ, Nat.reducePow, Nat.reduceLeDiff, ↓reduceIte, reduceCtorEq, Nat.reduceLT, Nat.reduceEqDiff, Nat.reduceAdd, Nat.reduceSub, Nat.reduceMul, Int.reduceToNat]
    exact ⟨_, WkE.keep (by simp only [go_sem, List.replicate_succ, Nat.reducePow, Nat.reduceLeDiff, ↓reduceIte, reduceCtorEq, Nat.reduceLT, Nat.reduceEqDiff, Nat.reduceAdd, Nat.reduceSub, Nat.reduceMul, Int.reduceToNat]), rfl⟩
  refine CwpE.seqJ (fun s => s = ⟨[(4, vints sizes), (12, vi w)], []⟩) ?_ ?_
  · by_cases h0 : 0 < X.length
    rotate_left
    · have g0 : ¬ (0 : Int) < (X.length : Int) := by omega
      refine CwpE.vc ?_
      simp only [go_sem, List.replicate_succ, Nat.reducePow, Nat.reduceLeDiff, ↓reduceIte, reduceCtorEq, Nat.reduceLT, Nat.reduceEqDiff, Nat.reduceAdd, Nat.reduceSub, Nat.reduceMul, Int.reduceToNat, g0]
      exact ⟨_, WkE.round (by simp only [go_sem, List.replicate_succ, Nat.reducePow, Nat.reduceLeDiff, ↓reduceIte, reduceCtorEq, Nat.reduceLT, Nat.reduceEqDiff, Nat.reduceAdd, Nat.reduceSub, Nat.reduceMul, Int.reduceToNat]) (by simp [AV.inn, AV.inn1]) (by simp) (by simp), rfl⟩
    have g0 : (0 : Int) < (X.length : Int) := by omega
    have g0' : ¬ X.length = 0 := by omega
    have hb : X.length * 24 ≤ 140737488355328 := by omega
    refine CwpE.cut (st := ⟨[(2, vi at_), (3, vi point), (4, vints sizes), (11, vwords X), (12, vi w), (13, .ref 0 1 0 0), (14, vi e), (40, vb true)], [.arr 1 2 30 [vcert (A, K)]]⟩) ?_ ?_
    · simp only [go_sem, List.replicate_succ, Nat.reducePow, Nat.reduceLeDiff, ↓reduceIte, reduceCtorEq, Nat.reduceLT, Nat.reduceEqDiff, Nat.reduceAdd, Nat.reduceSub, Nat.reduceMul, Int.reduceToNat, g0]
      exact ⟨_, WkE.keep (by simp only [go_sem, List.replicate_succ, Nat.reducePow, Nat.reduceLeDiff, ↓reduceIte, reduceCtorEq, Nat.reduceLT, Nat.reduceEqDiff, Nat.reduceAdd, Nat.reduceSub, Nat.reduceMul, Int.reduceToNat]), rfl⟩
    refine CwpE.cond_t (by simp only [go_sem, List.replicate_succ, Nat.reducePow, Nat.reduceLeDiff, ↓reduceIte, reduceCtorEq, Nat.reduceLT, Nat.reduceEqDiff, Nat.reduceAdd, Nat.reduceSub, Nat.reduceMul, Int.reduceToNat]) ?_
    refine CwpE.cut (st := ⟨[(2, vi at_), (3, vi point), (4, vints sizes), (11, vwords X), (12, vi w), (13, .ref 0 1 0 0), (14, vi e), (15, ownV 1 X.length)], [.arr 1 2 30 [vcert (A, K)], .arr X.length 1 47 (X.map vword)]⟩) ?_ ?_
    · simp only [go_sem, List.replicate_succ, Nat.reducePow, Nat.reduceLeDiff, ↓reduceIte, reduceCtorEq, Nat.reduceLT, Nat.reduceEqDiff, Nat.reduceAdd, Nat.reduceSub, Nat.reduceMul, Int.reduceToNat, g0', hb]
      exact ⟨_, WkE.keep (by simp only [go_sem, List.replicate_succ, Nat.reducePow, Nat.reduceLeDiff, ↓reduceIte, reduceCtorEq, Nat.reduceLT, Nat.reduceEqDiff, Nat.reduceAdd, Nat.reduceSub, Nat.reduceMul, Int.reduceToNat]), rfl⟩
    have a2 := aroundL_bd at_ X.length (by omega)
    have s2 := Around_s at_ X.length h2 ⟨by omega, by omega⟩
    obtain ⟨i, hi⟩ : ∃ i : Nat, aroundL at_ X.length = i := ⟨(aroundL at_ X.length).toNat, by omega⟩
    rw [hi] at a2 s2
    clear hi
    refine CwpE.cut (st := ⟨[(3, vi point), (4, vints sizes), (11, vwords X), (12, vi w), (13, .ref 0 1 0 0), (14, vi e), (15, ownV 1 X.length), (16, vi i)], [.arr 1 2 30 [vcert (A, K)], .arr X.length 1 47 (X.map vword)]⟩) ?_ ?_
    · simp only [go_sem, List.replicate_succ, Nat.reducePow, Nat.reduceLeDiff, ↓reduceIte, reduceCtorEq, Nat.reduceLT, Nat.reduceEqDiff, Nat.reduceAdd, Nat.reduceSub, Nat.reduceMul, Int.reduceToNat]
      refine callT s2 rfl ?_
      simp only [go_sem, List.replicate_succ, Nat.reducePow, Nat.reduceLeDiff, ↓reduceIte, reduceCtorEq, Nat.reduceLT, Nat.reduceEqDiff, Nat.reduceAdd, Nat.reduceSub, Nat.reduceMul, Int.reduceToNat]
      exact ⟨_, WkE.keep (by simp only [go_sem, List.replicate_succ, Nat.reducePow, Nat.reduceLeDiff, ↓reduceIte, reduceCtorEq, Nat.reduceLT, Nat.reduceEqDiff, Nat.reduceAdd, Nat.reduceSub, Nat.reduceMul, Int.reduceToNat]), rfl⟩
    have hiX : i < X.length := by omega
    have g1 : (0 : Int) ≤ (i : Int) := by omega
    have g2 : (i : Int) < (X.length : Int) := by omega
    obtain ⟨v1, v2, v3⟩ := hVW.2 i hiX
    have hM := Merged_s X[i] point (by omega) (fun j hj => (v3 j hj).1) h3
    refine CwpE.cut (st := ⟨[(4, vints sizes), (11, vwords X), (12, vi w), (13, .ref 0 1 0 0), (14, vi e), (15, vwords (X.set i (mergedL X[i] point)))], [.arr 1 2 30 [vcert (A, K)], .dead]⟩) ?_ ?_
    · simp only [go_sem, List.replicate_succ, Nat.reducePow, Nat.reduceLeDiff, ↓reduceIte, reduceCtorEq, Nat.reduceLT, Nat.reduceEqDiff, Nat.reduceAdd, Nat.reduceSub, Nat.reduceMul, Int.reduceToNat, g1, g2, List.getElem?_map, List.getElem?_eq_getElem hiX]
      refine callT hM rfl ?_
      simp only [go_sem, List.replicate_succ, Nat.reducePow, Nat.reduceLeDiff, ↓reduceIte, reduceCtorEq, Nat.reduceLT, Nat.reduceEqDiff, Nat.reduceAdd, Nat.reduceSub, Nat.reduceMul, Int.reduceToNat, g1, g2, List.getElem?_map, List.getElem?_eq_getElem hiX]
      refine ⟨_, (WkE.freeze 15 1 X.length 0 X.length 1 47 ((X.map vword).set i (vword (mergedL X[i] point))) (by omega) rfl rfl (by simp) ?_).trans (WkE.keep ?_), rfl⟩
      · rw [← List.map_set, List.all_map]; exact List.all_eq_true.2 fun x _ => rfl
      · simp only [go_sem, List.replicate_succ, Nat.reducePow, Nat.reduceLeDiff, ↓reduceIte, reduceCtorEq, Nat.reduceLT, Nat.reduceEqDiff, Nat.reduceAdd, Nat.reduceSub, Nat.reduceMul, Int.reduceToNat]
        rw [List.take_of_length_le (by rw [List.length_set, List.length_map]; exact Nat.le_refl _), ← List.map_set]
    have hY := Fill_s (X.set i (mergedL X[i] point)) w (fun x hx => by
      rcases List.mem_or_eq_of_mem_set hx with h | rfl
      · exact hX3 x h
      · exact mergedL_I64 point (hX3 _ (List.getElem_mem hiX))) ⟨by omega, by omega⟩
    have law := points_law (point := point) hv hiX
    have hYl : (X.set i (mergedL X[i] point)).length ≤ 1000000 := by rw [List.length_set]; omega
    generalize X.set i (mergedL X[i] point) = Y at *
    rcases hfy : fillM Y w with ⟨f, B, L⟩
    rw [hfy] at hY
    refine CwpE.cut (st := ⟨[(4, vints sizes), (11, vwords X), (12, vi w), (13, .ref 0 1 0 0), (14, vi e), (17, .ref 2 1 0 0), (18, vi f)], [.arr 1 2 30 [vcert (A, K)], .dead, .arr 1 2 30 [vcert (B, L)]]⟩) ?_ ?_
    · simp only [go_sem, List.replicate_succ, Nat.reducePow, Nat.reduceLeDiff, ↓reduceIte, reduceCtorEq, Nat.reduceLT, Nat.reduceEqDiff, Nat.reduceAdd, Nat.reduceSub, Nat.reduceMul, Int.reduceToNat]
      refine callT (words_s Y hYl) rfl ?_
      simp only [go_sem, List.replicate_succ, Nat.reducePow, Nat.reduceLeDiff, ↓reduceIte, reduceCtorEq, Nat.reduceLT, Nat.reduceEqDiff, Nat.reduceAdd, Nat.reduceSub, Nat.reduceMul, Int.reduceToNat]
      refine callT hY rfl ?_
      simp only [go_sem, List.replicate_succ, Nat.reducePow, Nat.reduceLeDiff, ↓reduceIte, reduceCtorEq, Nat.reduceLT, Nat.reduceEqDiff, Nat.reduceAdd, Nat.reduceSub, Nat.reduceMul, Int.reduceToNat]
      exact ⟨_, WkE.keep (by simp only [go_sem, List.replicate_succ, Nat.reducePow, Nat.reduceLeDiff, ↓reduceIte, reduceCtorEq, Nat.reduceLT, Nat.reduceEqDiff, Nat.reduceAdd, Nat.reduceSub, Nat.reduceMul, Int.reduceToNat]), rfl⟩
    refine CwpE.vc ?_
    by_cases hf : f = 0
    rotate_left
    · simp only [go_sem, List.replicate_succ, Nat.reducePow, Nat.reduceLeDiff, ↓reduceIte, reduceCtorEq, Nat.reduceLT, Nat.reduceEqDiff, Nat.reduceAdd, Nat.reduceSub, Nat.reduceMul, Int.reduceToNat, hf]
      exact ⟨_, WkE.round (by simp only [go_sem, List.replicate_succ, Nat.reducePow, Nat.reduceLeDiff, ↓reduceIte, reduceCtorEq, Nat.reduceLT, Nat.reduceEqDiff, Nat.reduceAdd, Nat.reduceSub, Nat.reduceMul, Int.reduceToNat]) (by simp [AV.inn, AV.inn1]) (by simp) (by simp), rfl⟩
    rcases law with hne | ⟨A', B', c, d, k, kr, L', lr, e1, e2, hcd, hkr, hlr⟩
    · rw [hfy] at hne; exact absurd hf hne
    rw [hfm] at e1
    rw [hfy] at e2
    obtain ⟨rfl, rfl, rfl⟩ : e = 0 ∧ A = A' ∧ K = (c :: k) :: kr := by simpa using e1
    obtain ⟨rfl, rfl, rfl⟩ : f = 0 ∧ B = B' ∧ L = (d :: L') :: lr := by simpa using e2
    have q1 : (0 : Int) ≤ 0 := by omega
    have q2 : ¬ ((k.length + 1 : Nat) : Int) < 1 := by omega
    have q3 : ¬ ((L'.length + 1 : Nat) : Int) < 1 := by omega
    have q4 : (0 : Int) < ((k.length + 1 : Nat) : Int) := by omega
    have q5 : (0 : Int) < ((L'.length + 1 : Nat) : Int) := by omega
    have q6 : ¬ d < c := by omega
    simp only [go_sem, List.replicate_succ, Nat.reducePow, Nat.reduceLeDiff, ↓reduceIte, reduceCtorEq, Nat.reduceLT, Nat.reduceEqDiff, Nat.reduceAdd, Nat.reduceSub, Nat.reduceMul, Int.reduceToNat, hkr, hlr, g0, q1, q2, q3, q4, q5, q6]
    exact ⟨_, WkE.round (by simp only [go_sem, List.replicate_succ, Nat.reducePow, Nat.reduceLeDiff, ↓reduceIte, reduceCtorEq, Nat.reduceLT, Nat.reduceEqDiff, Nat.reduceAdd, Nat.reduceSub, Nat.reduceMul, Int.reduceToNat]) (by simp [AV.inn, AV.inn1]) (by simp) (by simp), rfl⟩
  rintro s rfl
  clear hA hfm hv hVW hX1 hX2 hX3 hW
  refine CwpE.cut (st := ⟨[(4, vints sizes), (12, vi w), (19, .val (.slice none 0 0))], []⟩) ?_ ?_
  · simp only [go_sem, List.replicate_succ, Nat.reducePow, Nat.reduceLeDiff, ↓reduceIte, reduceCtorEq, Nat.reduceLT, Nat.reduceEqDiff, Nat.reduceAdd, Nat.reduceSub, Nat.reduceMul, Int.reduceToNat]
    exact ⟨_, WkE.keep (by simp only [go_sem, List.replicate_succ, Nat.reducePow, Nat.reduceLeDiff, ↓reduceIte, reduceCtorEq, Nat.reduceLT, Nat.reduceEqDiff, Nat.reduceAdd, Nat.reduceSub, Nat.reduceMul, Int.reduceToNat]), rfl⟩
  refine CwpE.cut (st := ⟨[(4, vints sizes), (12, vi w), (19, .val (.slice none 0 0)), (20, vi 0)], []⟩) ?_ ?_
  · simp only [go_sem, List.replicate_succ, Nat.reducePow, Nat.reduceLeDiff, ↓reduceIte, reduceCtorEq, Nat.reduceLT, Nat.reduceEqDiff, Nat.reduceAdd, Nat.reduceSub, Nat.reduceMul, Int.reduceToNat]
    exact ⟨_, WkE.keep (by simp only [go_sem, List.replicate_succ, Nat.reducePow, Nat.reduceLeDiff, ↓reduceIte, reduceCtorEq, Nat.reduceLT, Nat.reduceEqDiff, Nat.reduceAdd, Nat.reduceSub, Nat.reduceMul, Int.reduceToNat]), rfl⟩
  refine CwpE.cut (st := ⟨[(4, vints sizes), (12, vi w), (19, .val (.slice none 0 0)), (20, vi 0), (21, vi (-1))], []⟩) ?_ ?_
  · simp only [go_sem, List.replicate_succ, Nat.reducePow, Nat.reduceLeDiff, ↓reduceIte, reduceCtorEq, Nat.reduceLT, Nat.reduceEqDiff, Nat.reduceAdd, Nat.reduceSub, Nat.reduceMul, Int.reduceToNat]
    exact ⟨_, WkE.keep (by simp only [go_sem, List.replicate_succ, Nat.reducePow, Nat.reduceLeDiff, ↓reduceIte, reduceCtorEq, Nat.reduceLT, Nat.reduceEqDiff, Nat.reduceAdd, Nat.reduceSub, Nat.reduceMul, Int.reduceToNat]), rfl⟩
  obtain ⟨M, hM1, hM2, hM3⟩ : ∃ M, M ≤ sizes.length ∧ M ≤ 20 ∧ (M = sizes.length ∨ M = 20) := ⟨min sizes.length 20, by omega, by omega, by omega⟩
  obtain ⟨G, hG⟩ : ∃ G : Nat → List Int, G = fun i => (sizes.take i).map fun n => aroundL n (w + 1) := ⟨_, rfl⟩
  have hGl : ∀ i, i ≤ M → (G i).length = i := fun i hi => by rw [hG]; simp; omega
  have hGb : ∀ i, ∀ n ∈ G i, 0 ≤ n ∧ n ≤ w := fun i n hn => by
    rw [hG] at hn
    obtain ⟨m, _, rfl⟩ := List.mem_map.1 hn
    have := aroundL_bd m (w + 1) (by omega)
    omega
  have hGs : ∀ i (h : i < sizes.length), G (i + 1) = G i ++ [aroundL sizes[i] (w + 1)] := fun i h => by
    rw [hG]
    show List.map _ (sizes.take (i + 1)) = _
    rw [List.take_succ_eq_append_getElem h, List.map_append]; rfl
  refine CwpE.cut (st := ⟨[(12, vi w), (19, vints (G M)), (20, vi (linesG w (G M)))], []⟩) ?_ ?_
  · simp only [go_sem, List.replicate_succ, Nat.reducePow, Nat.reduceLeDiff, ↓reduceIte, reduceCtorEq, Nat.reduceLT, Nat.reduceEqDiff, Nat.reduceAdd, Nat.reduceSub, Nat.reduceMul, Int.reduceToNat]
    refine loopX 0 (fun m s => ∃ i : Nat, m = M - i ∧ i ≤ M ∧ s = ⟨[(4, vints sizes), (12, vi w), (19, ownV 0 i), (20, vi ((G i).foldl (stepG w) (0, -1)).1), (21, vi ((G i).foldl (stepG w) (0, -1)).2), (22, vi i)], [.arr i 1 3 ((G i).map vi)]⟩)
      (fun s => s = ⟨[(12, vi w), (19, vints (G M)), (20, vi (linesG w (G M)))], []⟩) M
      ⟨[(4, vints sizes), (12, vi w), (19, ownV 0 0), (20, vi 0), (21, vi (-1)), (22, vi (0 : Nat))], [.arr 0 1 3 []]⟩ ((WkE.nil 19 1 3 (by omega) rfl).trans (WkE.keep (by simp only [go_sem, List.replicate_succ, Nat.reducePow, Nat.reduceLeDiff, ↓reduceIte, reduceCtorEq, Nat.reduceLT, Nat.reduceEqDiff, Nat.reduceAdd, Nat.reduceSub, Nat.reduceMul, Int.reduceToNat]; rfl))) ⟨0, by rw [hG]; simp⟩ ?_ ?_
    rotate_left
    · rintro s rfl
      simp only [go_sem, List.replicate_succ, Nat.reducePow, Nat.reduceLeDiff, ↓reduceIte, reduceCtorEq, Nat.reduceLT, Nat.reduceEqDiff, Nat.reduceAdd, Nat.reduceSub, Nat.reduceMul, Int.reduceToNat]
      exact ⟨_, WkE.keep (by simp only [go_sem, List.replicate_succ, Nat.reducePow, Nat.reduceLeDiff, ↓reduceIte, reduceCtorEq, Nat.reduceLT, Nat.reduceEqDiff, Nat.reduceAdd, Nat.reduceSub, Nat.reduceMul, Int.reduceToNat]), rfl⟩
    rintro m s ⟨i, rfl, hi, rfl⟩
    by_cases hlt : i < M
    rotate_left
    · obtain rfl : i = M := by omega
      have hfin : WkE 175 ⟨[(4, vints sizes), (12, vi w), (19, ownV 0 i), (20, vi ((G i).foldl (stepG w) (0, -1)).1), (21, vi ((G i).foldl (stepG w) (0, -1)).2), (22, vi i)], [.arr i 1 3 ((G i).map vi)]⟩ ⟨[(12, vi w), (19, vints (G i)), (20, vi (linesG w (G i)))], []⟩ := by
        rw [linesG_fold]
        refine (WkE.freeze 19 0 i 0 i 1 3 ((G i).map vi) (by omega) rfl rfl (by simp [hGl i (by omega)]) (by simp [List.all_map, AV.isT, AV.isT1])).trans (WkE.round ?_ (by simp [AV.inn, AV.inn1]) (by simp) (by simp))
        simp only [go_sem, List.replicate_succ, Nat.reducePow, Nat.reduceLeDiff, ↓reduceIte, reduceCtorEq, Nat.reduceLT, Nat.reduceEqDiff, Nat.reduceAdd, Nat.reduceSub, Nat.reduceMul, Int.reduceToNat]
        exact congrArg (AV.list 1) (List.take_of_length_le (by simp [hGl i (by omega)]))
      by_cases hs : i < sizes.length
      · have e : i = 20 := by omega
        have g1 : (i : Int) < (sizes.length : Int) := by omega
        have g2 : ¬ (i : Int) < 20 := by omega
        simp only [go_sem, List.replicate_succ, Nat.reducePow, Nat.reduceLeDiff, ↓reduceIte, reduceCtorEq, Nat.reduceLT, Nat.reduceEqDiff, Nat.reduceAdd, Nat.reduceSub, Nat.reduceMul, Int.reduceToNat, g1, g2]
        exact ⟨_, WkE.trans (WkE.keep (by simp only [go_sem, List.replicate_succ, Nat.reducePow, Nat.reduceLeDiff, ↓reduceIte, reduceCtorEq, Nat.reduceLT, Nat.reduceEqDiff, Nat.reduceAdd, Nat.reduceSub, Nat.reduceMul, Int.reduceToNat])) hfin, rfl⟩
      · have g1 : ¬ (i : Int) < (sizes.length : Int) := by omega
        simp only [go_sem, List.replicate_succ, Nat.reducePow, Nat.reduceLeDiff, ↓reduceIte, reduceCtorEq, Nat.reduceLT, Nat.reduceEqDiff, Nat.reduceAdd, Nat.reduceSub, Nat.reduceMul, Int.reduceToNat, g1]
        exact ⟨_, WkE.trans (WkE.keep (by simp only [go_sem, List.replicate_succ, Nat.reducePow, Nat.reduceLeDiff, ↓reduceIte, reduceCtorEq, Nat.reduceLT, Nat.reduceEqDiff, Nat.reduceAdd, Nat.reduceSub, Nat.reduceMul, Int.reduceToNat])) hfin, rfl⟩
    have hs : i < sizes.length := by omega
    have g1 : (i : Int) < (sizes.length : Int) := by omega
    have g2 : (i : Int) < 20 := by omega
    have g3 : (0 : Int) ≤ (i : Int) := by omega
    have w2 : IntKind.i64.wrap (w + 1) = w + 1 := wrap_id (by omega) (by omega)
    have s3 := Around_s sizes[i] (w + 1) (h4 _ (List.getElem_mem hs)) ⟨by omega, by omega⟩
    have a3 := aroundL_bd sizes[i] (w + 1) (by omega)
    have hGi := hGs i hs
    have hbd := foldG_bd w (by omega) (G i) 0 (-1) (hGb i) (by omega) (by omega) (by omega)
    rw [hGl i (by omega)] at hbd
    generalize hn : aroundL sizes[i] (w + 1) = n at *
    have hf2 : (G (i + 1)).foldl (stepG w) (0, -1) = stepG w ((G i).foldl (stepG w) (0, -1)) n := by rw [hGi, List.foldl_append]; rfl
    rcases hst : (G i).foldl (stepG w) (0, -1) with ⟨a, b⟩
    rw [hst] at hf2 hbd
    have hb8 : (i + 1) * 8 ≤ 140737488355328 := by omega
    have hnl := hGl i (by omega)
    have htk : List.take i ((G i).map vi) = (G i).map vi := List.take_of_length_le (by simp [hnl])
    have w3 : IntKind.i64.wrap (b - 1) = b - 1 := wrap_id (by omega) (by omega)
    have w4 : IntKind.i64.wrap (b - 1 - n) = b - 1 - n := wrap_id (by omega) (by omega)
    have w5 : IntKind.i64.wrap (w - n) = w - n := wrap_id (by omega) (by omega)
    have w6 : IntKind.i64.wrap (a + 1) = a + 1 := wrap_id (by omega) (by omega)
    have w7 : IntKind.i64.wrap ((i : Int) + 1) = ((i + 1 : Nat) : Int) := by rw [wrap_id (by omega) (by omega)]; omega
    have fin : ∀ a' b', stepG w (a, b) n = (a', b') → ∃ m s', m < M - i ∧ WkE 175 ⟨[(4, vints sizes), (12, vi w), (19, ownV 0 (i + 1)), (20, vi a'), (21, vi b'), (22, vi (i + 1 : Nat))], [.arr (i + 1) 1 3 ((G i).map vi ++ [vi n])]⟩ s' ∧ ∃ i : Nat, m = M - i ∧ i ≤ M ∧ s' = ⟨[(4, vints sizes), (12, vi w), (19, ownV 0 i), (20, vi ((G i).foldl (stepG w) (0, -1)).1), (21, vi ((G i).foldl (stepG w) (0, -1)).2), (22, vi i)], [.arr i 1 3 ((G i).map vi)]⟩ := by
      intro a' b' hab
      refine ⟨M - (i + 1), _, by omega, .refl _ _, i + 1, rfl, by omega, ?_⟩
      rw [hf2, hab, hGi, List.map_append]; rfl
    simp only [go_sem, List.replicate_succ, Nat.reducePow, Nat.reduceLeDiff, ↓reduceIte, reduceCtorEq, Nat.reduceLT, Nat.reduceEqDiff, Nat.reduceAdd, Nat.reduceSub, Nat.reduceMul, Int.reduceToNat, g1, g2, g3, w2, List.getElem?_map, List.getElem?_eq_getElem hs]
    refine callT s3 rfl ?_
    by_cases hb1 : b - 1 - n < 0
    · have hstep : stepG w (a, b) n = (a + 1, w - n) := by rw [stepG, if_pos (.inl hb1)]
      simp only [go_sem, List.replicate_succ, Nat.reducePow, Nat.reduceLeDiff, ↓reduceIte, reduceCtorEq, Nat.reduceLT, Nat.reduceEqDiff, Nat.reduceAdd, Nat.reduceSub, Nat.reduceMul, Int.reduceToNat, hb8, hnl, htk, w3, w4, w5, w6, w7, hb1]
      obtain ⟨m, s, k1, k2, k3⟩ := fin _ _ hstep
      exact ⟨m, s, k1, WkE.trans (WkE.keep (by simp only [go_sem, List.replicate_succ, Nat.reducePow, Nat.reduceLeDiff, ↓reduceIte, reduceCtorEq, Nat.reduceLT, Nat.reduceEqDiff, Nat.reduceAdd, Nat.reduceSub, Nat.reduceMul, Int.reduceToNat])) k2, k3⟩
    · by_cases ha : a = 0
      · subst ha
        have hstep : stepG w (0, b) n = (0 + 1, w - n) := by rw [stepG, if_pos (.inr rfl)]
        simp only [go_sem, List.replicate_succ, Nat.reducePow, Nat.reduceLeDiff, ↓reduceIte, reduceCtorEq, Nat.reduceLT, Nat.reduceEqDiff, Nat.reduceAdd, Nat.reduceSub, Nat.reduceMul, Int.reduceToNat, hb8, hnl, htk, w3, w4, w5, w6, w7, hb1]
        obtain ⟨m, s, k1, k2, k3⟩ := fin _ _ hstep
        exact ⟨m, s, k1, WkE.trans (WkE.keep (by simp only [go_sem, List.replicate_succ, Nat.reducePow, Nat.reduceLeDiff, ↓reduceIte, reduceCtorEq, Nat.reduceLT, Nat.reduceEqDiff, Nat.reduceAdd, Nat.reduceSub, Nat.reduceMul, Int.reduceToNat])) k2, k3⟩
      · have hstep : stepG w (a, b) n = (a, b - 1 - n) := by rw [stepG, if_neg (by simp only [not_or]; exact ⟨hb1, ha⟩)]
        simp only [go_sem, List.replicate_succ, Nat.reducePow, Nat.reduceLeDiff, ↓reduceIte, reduceCtorEq, Nat.reduceLT, Nat.reduceEqDiff, Nat.reduceAdd, Nat.reduceSub, Nat.reduceMul, Int.reduceToNat, hb8, hnl, htk, w3, w4, w5, w6, w7, hb1, ha]
        obtain ⟨m, s, k1, k2, k3⟩ := fin _ _ hstep
        exact ⟨m, s, k1, WkE.trans (WkE.keep (by simp only [go_sem, List.replicate_succ, Nat.reducePow, Nat.reduceLeDiff, ↓reduceIte, reduceCtorEq, Nat.reduceLT, Nat.reduceEqDiff, Nat.reduceAdd, Nat.reduceSub, Nat.reduceMul, Int.reduceToNat])) k2, k3⟩
  have hGM := hGl M (Nat.le_refl _)
  obtain ⟨A2, K2, e3, e4⟩ := one_law (L := G M) (w := w) (by omega) (hGb M) (by omega)
  have hC := Fill_s (oneL (G M)) w (fun x hx r hr n hn => by
    obtain ⟨m, hm, rfl⟩ := List.mem_map.1 hx
    rw [List.mem_singleton.1 hr] at hn
    rw [List.mem_singleton.1 hn]
    have := hGb M m hm
    exact ⟨by omega, by omega⟩) ⟨by omega, by omega⟩
  rw [e3] at hC
  have hq : ((A2.length : Int) = (linesG w (G M) : Int)) = True := eq_true (by omega)
  refine CwpE.cut (st := ⟨[(20, vi (linesG w (G M))), (24, .ref 0 1 0 0), (25, vi 0)], [.arr 1 2 30 [vcert (A2, K2)]]⟩) ?_ ?_
  · simp only [go_sem, List.replicate_succ, Nat.reducePow, Nat.reduceLeDiff, ↓reduceIte, reduceCtorEq, Nat.reduceLT, Nat.reduceEqDiff, Nat.reduceAdd, Nat.reduceSub, Nat.reduceMul, Int.reduceToNat]
    refine callT (simple_s (G M) (by omega)) rfl ?_
    simp only [go_sem, List.replicate_succ, Nat.reducePow, Nat.reduceLeDiff, ↓reduceIte, reduceCtorEq, Nat.reduceLT, Nat.reduceEqDiff, Nat.reduceAdd, Nat.reduceSub, Nat.reduceMul, Int.reduceToNat]
    refine callT hC rfl ?_
    simp only [go_sem, List.replicate_succ, Nat.reducePow, Nat.reduceLeDiff, ↓reduceIte, reduceCtorEq, Nat.reduceLT, Nat.reduceEqDiff, Nat.reduceAdd, Nat.reduceSub, Nat.reduceMul, Int.reduceToNat]
    exact ⟨_, WkE.keep (by simp only [go_sem, List.replicate_succ, Nat.reducePow, Nat.reduceLeDiff, ↓reduceIte, reduceCtorEq, Nat.reduceLT, Nat.reduceEqDiff, Nat.reduceAdd, Nat.reduceSub, Nat.reduceMul, Int.reduceToNat]), rfl⟩
  refine CwpE.vc ?_
  simp only [go_sem, List.replicate_succ, Nat.reducePow, Nat.reduceLeDiff, ↓reduceIte, reduceCtorEq, Nat.reduceLT, Nat.reduceEqDiff, Nat.reduceAdd, Nat.reduceSub, Nat.reduceMul, Int.reduceToNat, hq]
  refine callT lives_s rfl ?_
  simp only [go_sem, List.replicate_succ, Nat.reducePow, Nat.reduceLeDiff, ↓reduceIte, reduceCtorEq, Nat.reduceLT, Nat.reduceEqDiff, Nat.reduceAdd, Nat.reduceSub, Nat.reduceMul, Int.reduceToNat]
  exact .tree _ rfl
end Go.Proofs.Ytehelanfgepcmaa
