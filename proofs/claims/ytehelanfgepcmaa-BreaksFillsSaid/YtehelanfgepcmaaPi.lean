/- The law BreaksFills, by contract. -/
import Derived.Test.YtehelanfgepcmaaPe
import Derived.Test.YtehelanfgepcmaaPh
import Derived.Test.YtehelanfgepcmaaDx
set_option linter.unusedSimpArgs false
set_option linter.unusedVariables false
set_option linter.unusedSectionVars false
namespace Go.Proofs.Ytehelanfgepcmaa
open Go.RowKit Dak
theorem widthsL_ok (n : Int) : (widthsL n).length = 2 ∧ ∀ x ∈ widthsL n, I64 x := by
  have a1 := aroundL_bd n 20 (by omega)
  have a2 := aroundL_bd n 5 (by omega)
  refine ⟨rfl, fun x hx => ?_⟩
  unfold widthsL at hx
  rcases List.mem_cons.1 hx with rfl | hx
  · unfold I64; omega
  · rw [List.mem_singleton.1 hx]
    rcases (by omega : aroundL n 5 = 0 ∨ aroundL n 5 = 1 ∨ aroundL n 5 = 2 ∨ aroundL n 5 = 3 ∨ aroundL n 5 = 4) with g | g | g | g | g <;> rw [g] <;> exact ⟨by decide, by decide⟩
theorem Spoilt_w {X : List (List (List Int))} (hX : X.length ≤ 1000) (hg : ∀ x ∈ X, GenW x) (at_ how by_ : Int) (h1 : I64 at_) (h2 : I64 how) (h3 : I64 by_) :
    Ctr Try.prog 11 [vwords X, vi at_, vi how, vi by_] (vwords (spoiltL X at_ how by_)) := by
  by_cases h : X = []
  · subst h; exact Spoilt_nil at_ how by_
  · refine Spoilt_s X at_ how by_ (List.length_pos_iff.2 h) hX (fun x hx => ?_) h1 h2 h3
    obtain ⟨a, b, c, d, e⟩ := hg x hx
    exact ⟨a, by omega, fun r hr => by have := c r hr; omega, e⟩
theorem many_M : fillM (List.replicate 513 [[1]]) 10 = (1, [], []) := by
  unfold fillM
  rw [if_neg]
  intro h
  have := (validB_VW h).1.1
  rw [List.length_replicate] at this
  omega
theorem many_I : I64w (List.replicate 513 [[1]]) := by
  intro x hx r hr n hn
  rw [(List.mem_replicate.1 hx).2] at hr
  rw [List.mem_singleton.1 hr] at hn
  rw [List.mem_singleton.1 hn]; exact ⟨by decide, by decide⟩

set_option maxRecDepth 100000 in
set_option maxHeartbeats 20000000 in
theorem BreaksFills_s (l : List Int) (width at_ how by_ : Int) (hl : ∀ x ∈ l, I64 x) (h1 : I64 width) (h2 : I64 at_) (h3 : I64 how) (h4 : I64 by_) :
    Ctr Try.prog 3 [vints l, vi width, vi at_, vi how, vi by_] (vb true) := by
  refine specC f3 (by simp) fun F0 w0 => ?_
  obtain ⟨hX1, hX2⟩ := wordsL_ok l 12 (by omega)
  have hX3 := wordsL_I64 l 12 (by omega)
  have hW := Words_s l 12 hl (by omega) (by omega)
  generalize wordsL l 12 = X at *
  have hY1 := spoiltL_len X at_ how by_ (by omega)
  have hY2 := spoiltL_I64 at_ how by_ hX3 h4
  have hS := Spoilt_w (by omega) hX2 at_ how by_ h2 h3 h4
  generalize spoiltL X at_ how by_ = Y at *
  obtain ⟨hZ1, hZ2⟩ := widthsL_ok width
  have hZ := widths_s width h1
  generalize widthsL width = Z at *
  unfold c3
  refine CwpE.step (fun s => s = ⟨[(0, vints l), (1, vi width), (2, vi at_), (3, vi how), (4, vi by_)], []⟩) ?_ ?_
  · simp only [go_sem, List.replicate_succ, Nat.reducePow, Nat.reduceLeDiff, ↓reduceIte, reduceCtorEq, Nat.reduceLT, Nat.reduceEqDiff, Nat.reduceAdd, Nat.reduceSub, Nat.reduceMul, Int.reduceToNat]
    exact ⟨_, WkE.keep (by simp only [go_sem, List.replicate_succ, Nat.reducePow, Nat.reduceLeDiff, ↓reduceIte, reduceCtorEq, Nat.reduceLT, Nat.reduceEqDiff, Nat.reduceAdd, Nat.reduceSub, Nat.reduceMul, Int.reduceToNat]), rfl⟩
  rintro s rfl
  refine CwpE.step (fun s => s = ⟨[(1, vi width), (2, vi at_), (3, vi how), (4, vi by_), (11, vwords X)], []⟩) ?_ ?_
  · simp only [go_sem, List.replicate_succ, Nat.reducePow, Nat.reduceLeDiff, ↓reduceIte, reduceCtorEq, Nat.reduceLT, Nat.reduceEqDiff, Nat.reduceAdd, Nat.reduceSub, Nat.reduceMul, Int.reduceToNat]
    refine callT hW rfl ?_
    simp only [go_sem, List.replicate_succ, Nat.reducePow, Nat.reduceLeDiff, ↓reduceIte, reduceCtorEq, Nat.reduceLT, Nat.reduceEqDiff, Nat.reduceAdd, Nat.reduceSub, Nat.reduceMul, Int.reduceToNat]
    exact ⟨_, WkE.keep (by simp only [go_sem, List.replicate_succ, Nat.reducePow, Nat.reduceLeDiff, ↓reduceIte, reduceCtorEq, Nat.reduceLT, Nat.reduceEqDiff, Nat.reduceAdd, Nat.reduceSub, Nat.reduceMul, Int.reduceToNat]), rfl⟩
  rintro s rfl
  refine CwpE.step (fun s => s = ⟨[(1, vi width), (11, vwords X), (12, vwords Y)], []⟩) ?_ ?_
  · simp only [go_sem, List.replicate_succ, Nat.reducePow, Nat.reduceLeDiff, ↓reduceIte, reduceCtorEq, Nat.reduceLT, Nat.reduceEqDiff, Nat.reduceAdd, Nat.reduceSub, Nat.reduceMul, Int.reduceToNat]
    refine callT hS rfl ?_
    simp only [go_sem, List.replicate_succ, Nat.reducePow, Nat.reduceLeDiff, ↓reduceIte, reduceCtorEq, Nat.reduceLT, Nat.reduceEqDiff, Nat.reduceAdd, Nat.reduceSub, Nat.reduceMul, Int.reduceToNat]
    exact ⟨_, WkE.keep (by simp only [go_sem, List.replicate_succ, Nat.reducePow, Nat.reduceLeDiff, ↓reduceIte, reduceCtorEq, Nat.reduceLT, Nat.reduceEqDiff, Nat.reduceAdd, Nat.reduceSub, Nat.reduceMul, Int.reduceToNat]), rfl⟩
  rintro s rfl
  refine CwpE.step (fun s => s = ⟨[(11, vwords X), (12, vwords Y), (13, vints Z)], []⟩) ?_ ?_
  · simp only [go_sem, List.replicate_succ, Nat.reducePow, Nat.reduceLeDiff, ↓reduceIte, reduceCtorEq, Nat.reduceLT, Nat.reduceEqDiff, Nat.reduceAdd, Nat.reduceSub, Nat.reduceMul, Int.reduceToNat]
    refine callT hZ rfl ?_
    simp only [go_sem, List.replicate_succ, Nat.reducePow, Nat.reduceLeDiff, ↓reduceIte, reduceCtorEq, Nat.reduceLT, Nat.reduceEqDiff, Nat.reduceAdd, Nat.reduceSub, Nat.reduceMul, Int.reduceToNat]
    exact ⟨_, WkE.keep (by simp only [go_sem, List.replicate_succ, Nat.reducePow, Nat.reduceLeDiff, ↓reduceIte, reduceCtorEq, Nat.reduceLT, Nat.reduceEqDiff, Nat.reduceAdd, Nat.reduceSub, Nat.reduceMul, Int.reduceToNat]), rfl⟩
  rintro s rfl
  refine CwpE.step (fun s => s = ⟨[], []⟩) ?_ ?_
  · simp only [go_sem, List.replicate_succ, Nat.reducePow, Nat.reduceLeDiff, ↓reduceIte, reduceCtorEq, Nat.reduceLT, Nat.reduceEqDiff, Nat.reduceAdd, Nat.reduceSub, Nat.reduceMul, Int.reduceToNat]
    refine loopXC 0 (fun m s => ∃ i : Nat, m = 2 - i ∧ i ≤ 2 ∧ s = ⟨[(11, vwords X), (12, vwords Y), (13, vints Z), (14, vi i)], []⟩) (fun s => s = ⟨[], []⟩) 2
      ⟨[(11, vwords X), (12, vwords Y), (13, vints Z), (14, vi (0 : Nat))], []⟩ (WkE.keep (by simp only [go_sem, List.replicate_succ, Nat.reducePow, Nat.reduceLeDiff, ↓reduceIte, reduceCtorEq, Nat.reduceLT, Nat.reduceEqDiff, Nat.reduceAdd, Nat.reduceSub, Nat.reduceMul, Int.reduceToNat]; rfl)) ⟨0, by simp⟩ ?_ ?_
    rotate_left
    · rintro s rfl
      simp only [go_sem, List.replicate_succ, Nat.reducePow, Nat.reduceLeDiff, ↓reduceIte, reduceCtorEq, Nat.reduceLT, Nat.reduceEqDiff, Nat.reduceAdd, Nat.reduceSub, Nat.reduceMul, Int.reduceToNat]
      exact ⟨_, WkE.keep (by simp only [go_sem, List.replicate_succ, Nat.reducePow, Nat.reduceLeDiff, ↓reduceIte, reduceCtorEq, Nat.reduceLT, Nat.reduceEqDiff, Nat.reduceAdd, Nat.reduceSub, Nat.reduceMul, Int.reduceToNat]), rfl⟩
    rintro m s ⟨i, rfl, hi, rfl⟩
    by_cases hlt : i < 2
    rotate_left
    · have e : ¬ (i : Int) < 2 := by omega
      refine CwpE.vc ?_
      simp only [go_sem, List.replicate_succ, Nat.reducePow, Nat.reduceLeDiff, ↓reduceIte, reduceCtorEq, Nat.reduceLT, Nat.reduceEqDiff, Nat.reduceAdd, Nat.reduceSub, Nat.reduceMul, Int.reduceToNat, e]
      exact ⟨_, WkE.keep (by simp only [go_sem, List.replicate_succ, Nat.reducePow, Nat.reduceLeDiff, ↓reduceIte, reduceCtorEq, Nat.reduceLT, Nat.reduceEqDiff, Nat.reduceAdd, Nat.reduceSub, Nat.reduceMul, Int.reduceToNat]), rfl⟩
    have g1 : (i : Int) < 2 := by omega
    have g2 : (0 : Int) ≤ (i : Int) := by omega
    have g3 : (i : Int) < (Z.length : Int) := by omega
    have g4 : i < Z.length := by omega
    have g5 := hZ2 _ (List.getElem_mem g4)
    generalize hz : Z[i] = z at g5
    have g6 : IntKind.i64.wrap ((i : Int) + 1) = ((i + 1 : Nat) : Int) := by rw [wrap_id (by omega) (by omega)]; rfl
    have hA := Fill_s X z hX3 g5
    have hB := refFill_s X z hX3 g5
    have hC := Fill_s Y z hY2 g5
    have hD := refFill_s Y z hY2 g5
    obtain ⟨l1, l2, l3⟩ := fillM_len X z
    obtain ⟨k1, k2, k3⟩ := fillM_len Y z
    rcases hfm : fillM X z with ⟨e, A, B⟩
    rcases hfn : fillM Y z with ⟨f, C, D⟩
    rw [hfm] at hA hB l1 l2 l3
    rw [hfn] at hC hD k1 k2 k3
    have q1 := SameEnds_s A A l1
    have q2 := SameEnds_s C C k1
    have q3 := Same_s B B l2 l3
    have q4 := Same_s D D k2 k3
    refine CwpE.cut (st := ⟨[(11, vwords X), (12, vwords Y), (13, vints Z), (14, vi i)], []⟩) ?_ ?_
    · simp only [go_sem, List.replicate_succ, Nat.reducePow, Nat.reduceLeDiff, ↓reduceIte, reduceCtorEq, Nat.reduceLT, Nat.reduceEqDiff, Nat.reduceAdd, Nat.reduceSub, Nat.reduceMul, Int.reduceToNat, g1]
      exact ⟨_, WkE.keep (by simp only [go_sem, List.replicate_succ, Nat.reducePow, Nat.reduceLeDiff, ↓reduceIte, reduceCtorEq, Nat.reduceLT, Nat.reduceEqDiff, Nat.reduceAdd, Nat.reduceSub, Nat.reduceMul, Int.reduceToNat]), rfl⟩
    refine CwpE.seqJ (fun s => s = ⟨[(11, vwords X), (12, vwords Y), (13, vints Z), (14, vi i)], []⟩) (CwpE.block ?_) ?_
    rotate_left
    · rintro s rfl
      refine CwpE.vc ?_
      simp only [go_sem, List.replicate_succ, Nat.reducePow, Nat.reduceLeDiff, ↓reduceIte, reduceCtorEq, Nat.reduceLT, Nat.reduceEqDiff, Nat.reduceAdd, Nat.reduceSub, Nat.reduceMul, Int.reduceToNat, g6]
      exact ⟨2 - (i + 1), ⟨[(11, vwords X), (12, vwords Y), (13, vints Z), (14, vi (i + 1 : Nat))], []⟩, by omega, WkE.keep (by simp only [go_sem, List.replicate_succ, Nat.reducePow, Nat.reduceLeDiff, ↓reduceIte, reduceCtorEq, Nat.reduceLT, Nat.reduceEqDiff, Nat.reduceAdd, Nat.reduceSub, Nat.reduceMul, Int.reduceToNat]), i + 1, rfl, by omega, rfl⟩
    refine CwpE.cut (st := ⟨[(11, vwords X), (12, vwords Y), (13, vints Z), (14, vi i), (15, .ref 0 1 0 0), (16, vi e)], [.arr 1 2 30 [vcert (A, B)]]⟩) ?_ ?_
    · simp only [go_sem, List.replicate_succ, Nat.reducePow, Nat.reduceLeDiff, ↓reduceIte, reduceCtorEq, Nat.reduceLT, Nat.reduceEqDiff, Nat.reduceAdd, Nat.reduceSub, Nat.reduceMul, Int.reduceToNat, g2, g3, List.getElem?_map, List.getElem?_eq_getElem g4, hz]
      refine callT (words_s X (by omega)) rfl ?_
      simp only [go_sem, List.replicate_succ, Nat.reducePow, Nat.reduceLeDiff, ↓reduceIte, reduceCtorEq, Nat.reduceLT, Nat.reduceEqDiff, Nat.reduceAdd, Nat.reduceSub, Nat.reduceMul, Int.reduceToNat, g2, g3, List.getElem?_map, List.getElem?_eq_getElem g4, hz]
      refine callT hA rfl ?_
      simp only [go_sem, List.replicate_succ, Nat.reducePow, Nat.reduceLeDiff, ↓reduceIte, reduceCtorEq, Nat.reduceLT, Nat.reduceEqDiff, Nat.reduceAdd, Nat.reduceSub, Nat.reduceMul, Int.reduceToNat, g2, g3, List.getElem?_map, List.getElem?_eq_getElem g4, hz]
      exact ⟨_, WkE.keep (by simp only [go_sem, List.replicate_succ, Nat.reducePow, Nat.reduceLeDiff, ↓reduceIte, reduceCtorEq, Nat.reduceLT, Nat.reduceEqDiff, Nat.reduceAdd, Nat.reduceSub, Nat.reduceMul, Int.reduceToNat]), rfl⟩
    refine CwpE.cut (st := ⟨[(11, vwords X), (12, vwords Y), (13, vints Z), (14, vi i), (15, .ref 0 1 0 0), (16, vi e), (17, .ref 1 1 0 0), (18, vi e)], [.arr 1 2 30 [vcert (A, B)], .arr 1 2 36 [vcert (A, B)]]⟩) ?_ ?_
    · simp only [go_sem, List.replicate_succ, Nat.reducePow, Nat.reduceLeDiff, ↓reduceIte, reduceCtorEq, Nat.reduceLT, Nat.reduceEqDiff, Nat.reduceAdd, Nat.reduceSub, Nat.reduceMul, Int.reduceToNat, g2, g3, List.getElem?_map, List.getElem?_eq_getElem g4, hz]
      refine callT hB rfl ?_
      simp only [go_sem, List.replicate_succ, Nat.reducePow, Nat.reduceLeDiff, ↓reduceIte, reduceCtorEq, Nat.reduceLT, Nat.reduceEqDiff, Nat.reduceAdd, Nat.reduceSub, Nat.reduceMul, Int.reduceToNat, g2, g3, List.getElem?_map, List.getElem?_eq_getElem g4, hz]
      exact ⟨_, WkE.keep (by simp only [go_sem, List.replicate_succ, Nat.reducePow, Nat.reduceLeDiff, ↓reduceIte, reduceCtorEq, Nat.reduceLT, Nat.reduceEqDiff, Nat.reduceAdd, Nat.reduceSub, Nat.reduceMul, Int.reduceToNat]), rfl⟩
    refine CwpE.cut (st := ⟨[(11, vwords X), (12, vwords Y), (13, vints Z), (14, vi i), (15, .ref 0 1 0 0), (16, vi e), (17, .ref 1 1 0 0), (18, vi e), (19, .ref 2 1 0 0), (20, vi f)], [.arr 1 2 30 [vcert (A, B)], .arr 1 2 36 [vcert (A, B)], .arr 1 2 30 [vcert (C, D)]]⟩) ?_ ?_
    · simp only [go_sem, List.replicate_succ, Nat.reducePow, Nat.reduceLeDiff, ↓reduceIte, reduceCtorEq, Nat.reduceLT, Nat.reduceEqDiff, Nat.reduceAdd, Nat.reduceSub, Nat.reduceMul, Int.reduceToNat, g2, g3, List.getElem?_map, List.getElem?_eq_getElem g4, hz]
      refine callT (words_s Y (by omega)) rfl ?_
      simp only [go_sem, List.replicate_succ, Nat.reducePow, Nat.reduceLeDiff, ↓reduceIte, reduceCtorEq, Nat.reduceLT, Nat.reduceEqDiff, Nat.reduceAdd, Nat.reduceSub, Nat.reduceMul, Int.reduceToNat, g2, g3, List.getElem?_map, List.getElem?_eq_getElem g4, hz]
      refine callT hC rfl ?_
      simp only [go_sem, List.replicate_succ, Nat.reducePow, Nat.reduceLeDiff, ↓reduceIte, reduceCtorEq, Nat.reduceLT, Nat.reduceEqDiff, Nat.reduceAdd, Nat.reduceSub, Nat.reduceMul, Int.reduceToNat, g2, g3, List.getElem?_map, List.getElem?_eq_getElem g4, hz]
      exact ⟨_, WkE.keep (by simp only [go_sem, List.replicate_succ, Nat.reducePow, Nat.reduceLeDiff, ↓reduceIte, reduceCtorEq, Nat.reduceLT, Nat.reduceEqDiff, Nat.reduceAdd, Nat.reduceSub, Nat.reduceMul, Int.reduceToNat]), rfl⟩
    refine CwpE.cut (st := ⟨[(11, vwords X), (12, vwords Y), (13, vints Z), (14, vi i), (15, .ref 0 1 0 0), (16, vi e), (17, .ref 1 1 0 0), (18, vi e), (19, .ref 2 1 0 0), (20, vi f), (21, .ref 3 1 0 0), (22, vi f)], [.arr 1 2 30 [vcert (A, B)], .arr 1 2 36 [vcert (A, B)], .arr 1 2 30 [vcert (C, D)], .arr 1 2 36 [vcert (C, D)]]⟩) ?_ ?_
    · simp only [go_sem, List.replicate_succ, Nat.reducePow, Nat.reduceLeDiff, ↓reduceIte, reduceCtorEq, Nat.reduceLT, Nat.reduceEqDiff, Nat.reduceAdd, Nat.reduceSub, Nat.reduceMul, Int.reduceToNat, g2, g3, List.getElem?_map, List.getElem?_eq_getElem g4, hz]
      refine callT hD rfl ?_
      simp only [go_sem, List.replicate_succ, Nat.reducePow, Nat.reduceLeDiff, ↓reduceIte, reduceCtorEq, Nat.reduceLT, Nat.reduceEqDiff, Nat.reduceAdd, Nat.reduceSub, Nat.reduceMul, Int.reduceToNat, g2, g3, List.getElem?_map, List.getElem?_eq_getElem g4, hz]
      exact ⟨_, WkE.keep (by simp only [go_sem, List.replicate_succ, Nat.reducePow, Nat.reduceLeDiff, ↓reduceIte, reduceCtorEq, Nat.reduceLT, Nat.reduceEqDiff, Nat.reduceAdd, Nat.reduceSub, Nat.reduceMul, Int.reduceToNat]), rfl⟩
    refine CwpE.vc ?_
    simp only [go_sem, List.replicate_succ, Nat.reducePow, Nat.reduceLeDiff, ↓reduceIte, reduceCtorEq, Nat.reduceLT, Nat.reduceEqDiff, Nat.reduceAdd, Nat.reduceSub, Nat.reduceMul, Int.reduceToNat]
    refine callT q1 rfl ?_
    simp only [go_sem, List.replicate_succ, Nat.reducePow, Nat.reduceLeDiff, ↓reduceIte, reduceCtorEq, Nat.reduceLT, Nat.reduceEqDiff, Nat.reduceAdd, Nat.reduceSub, Nat.reduceMul, Int.reduceToNat]
    refine callT q2 rfl ?_
    simp only [go_sem, List.replicate_succ, Nat.reducePow, Nat.reduceLeDiff, ↓reduceIte, reduceCtorEq, Nat.reduceLT, Nat.reduceEqDiff, Nat.reduceAdd, Nat.reduceSub, Nat.reduceMul, Int.reduceToNat]
    refine callT q3 rfl ?_
    simp only [go_sem, List.replicate_succ, Nat.reducePow, Nat.reduceLeDiff, ↓reduceIte, reduceCtorEq, Nat.reduceLT, Nat.reduceEqDiff, Nat.reduceAdd, Nat.reduceSub, Nat.reduceMul, Int.reduceToNat]
    refine callT q4 rfl ?_
    simp only [go_sem, List.replicate_succ, Nat.reducePow, Nat.reduceLeDiff, ↓reduceIte, reduceCtorEq, Nat.reduceLT, Nat.reduceEqDiff, Nat.reduceAdd, Nat.reduceSub, Nat.reduceMul, Int.reduceToNat]
    exact ⟨⟨[(11, vwords X), (12, vwords Y), (13, vints Z), (14, vi i)], []⟩, WkE.round (by simp only [go_sem, List.replicate_succ, Nat.reducePow, Nat.reduceLeDiff, ↓reduceIte, reduceCtorEq, Nat.reduceLT, Nat.reduceEqDiff, Nat.reduceAdd, Nat.reduceSub, Nat.reduceMul, Int.reduceToNat]) (by simp [AV.inn, AV.inn1]) (by simp) (by simp), rfl⟩
  rintro s rfl
  have hM := Fill_s (List.replicate 513 [[1]]) 10 many_I ⟨by omega, by omega⟩
  rw [many_M] at hM
  have b0 : (0 : Int) ≤ 513 := by omega
  have b1 : (513 : Int) ≤ 9223372036854775807 := by omega
  have b2 : ((24 : Nat) : Int) * 513 ≤ 281474976710656 := by omega
  have b3 : (513 : Int) ≤ 513 := by omega
  refine CwpE.step (fun s => s = ⟨[(23, ownV 0 513)], [.arr 513 1 42 (List.replicate 513 (.agg [.val (.slice none 0 0)]))]⟩) ?_ ?_
  · simp only [go_sem, Nat.reducePow, Nat.reduceLeDiff, ↓reduceIte, reduceCtorEq, Nat.reduceLT, Nat.reduceEqDiff, Nat.reduceAdd, Nat.reduceSub, Nat.reduceMul, Int.reduceToNat, b0, b1, b2, b3]
    exact ⟨_, WkE.keep (by simp only [go_sem, Nat.reducePow, Nat.reduceLeDiff, ↓reduceIte, reduceCtorEq, Nat.reduceLT, Nat.reduceEqDiff, Nat.reduceAdd, Nat.reduceSub, Nat.reduceMul, Int.reduceToNat]), rfl⟩
  rintro s rfl
  refine CwpE.step (fun s => s = ⟨[(23, .list 1 (List.replicate 513 (vword [[1]])))], [.dead]⟩) ?_ ?_
  · simp only [go_sem, Nat.reducePow, Nat.reduceLeDiff, ↓reduceIte, reduceCtorEq, Nat.reduceLT, Nat.reduceEqDiff, Nat.reduceAdd, Nat.reduceSub, Nat.reduceMul, Int.reduceToNat]
    refine loopX 2 (fun m s => ∃ i : Nat, m = 513 - i ∧ i ≤ 513 ∧ s = ⟨[(23, ownV 0 513), (24, vi i)], [.arr 513 1 42 (List.replicate i (vword [[1]]) ++ List.replicate (513 - i) (AV.agg [.val (.slice none 0 0)]))]⟩) (fun s => s = ⟨[(23, ownV 0 513)], [.arr 513 1 42 (List.replicate 513 (vword [[1]]))]⟩) 513
      ⟨[(23, ownV 0 513), (24, vi (0 : Nat))], [.arr 513 1 42 (List.replicate 513 (.agg [.val (.slice none 0 0)]))]⟩ (WkE.keep (by simp only [go_sem, Nat.reducePow, Nat.reduceLeDiff, ↓reduceIte, reduceCtorEq, Nat.reduceLT, Nat.reduceEqDiff, Nat.reduceAdd, Nat.reduceSub, Nat.reduceMul, Int.reduceToNat]; rfl)) ⟨0, by simp⟩ ?_ ?_
    rotate_left
    · rintro s rfl
      simp only [go_sem, Nat.reducePow, Nat.reduceLeDiff, ↓reduceIte, reduceCtorEq, Nat.reduceLT, Nat.reduceEqDiff, Nat.reduceAdd, Nat.reduceSub, Nat.reduceMul, Int.reduceToNat]
      refine ⟨_, (WkE.freeze 23 0 513 0 513 1 42 (List.replicate 513 (vword [[1]])) (by omega) rfl rfl (by simp) (by simp [AV.isT, AV.isT1, vword, vrows, vints, vi])).trans (WkE.keep (by simp only [go_sem, Nat.reducePow, Nat.reduceLeDiff, ↓reduceIte, reduceCtorEq, Nat.reduceLT, Nat.reduceEqDiff, Nat.reduceAdd, Nat.reduceSub, Nat.reduceMul, Int.reduceToNat]; exact congrArg (AV.list 1) (List.take_of_length_le (Nat.le_of_eq List.length_replicate)))), rfl⟩
    rintro m s ⟨i, rfl, hi, rfl⟩
    by_cases hlt : i < 513
    rotate_left
    · have e : i = 513 := by omega
      subst e
      have e : ¬ ((513 : Nat) : Int) < 513 := by omega
      simp only [go_sem, Nat.reducePow, Nat.reduceLeDiff, ↓reduceIte, reduceCtorEq, Nat.reduceLT, Nat.reduceEqDiff, Nat.reduceAdd, Nat.reduceSub, Nat.reduceMul, Int.reduceToNat, e]
      exact ⟨_, WkE.keep (by simp only [go_sem, Nat.reducePow, Nat.reduceLeDiff, ↓reduceIte, reduceCtorEq, Nat.reduceLT, Nat.reduceEqDiff, Nat.reduceAdd, Nat.reduceSub, Nat.reduceMul, Int.reduceToNat]), rfl⟩
    have g1 : (i : Int) < 513 := by omega
    have g2 : (0 : Int) ≤ (i : Int) := by omega
    have g6 : IntKind.i64.wrap ((i : Int) + 1) = ((i + 1 : Nat) : Int) := by rw [wrap_id (by omega) (by omega)]; rfl
    have c513 : ((513 : Nat) : Int) = 513 := rfl
    have hl : (List.replicate i (vword [[1]]) ++ List.replicate (513 - i) (AV.agg [.val (.slice none 0 0)])).length = 513 := by simp; omega
    have hg : (List.replicate i (vword [[1]]) ++ List.replicate (513 - i) (AV.agg [.val (.slice none 0 0)]))[i]? = some (.agg [.val (.slice none 0 0)]) := by
      rw [List.getElem?_append_right (by simp), List.length_replicate, Nat.sub_self, List.getElem?_replicate, if_pos (by omega)]
    have hs : (List.replicate i (vword [[1]]) ++ List.replicate (513 - i) (AV.agg [.val (.slice none 0 0)])).set i (vword [[1]]) = List.replicate (i + 1) (vword [[1]]) ++ List.replicate (513 - (i + 1)) (AV.agg [.val (.slice none 0 0)]) := by
      rw [List.set_append_right _ _ (by simp), List.length_replicate, Nat.sub_self, show 513 - i = (513 - (i + 1)) + 1 by omega, List.replicate_succ, List.set_cons_zero, List.replicate_succ', List.append_assoc]; rfl
    generalize hL : (List.replicate i (vword [[1]]) ++ List.replicate (513 - i) (AV.agg [.val (.slice none 0 0)])) = L at *
    simp only [go_sem, Nat.reducePow, Nat.reduceLeDiff, ↓reduceIte, reduceCtorEq, Nat.reduceLT, Nat.reduceEqDiff, Nat.reduceAdd, Nat.reduceSub, Nat.reduceMul, Int.reduceToNat, g1, g2, g6, c513, hl, hg]
    exact ⟨513 - (i + 1), ⟨[(23, ownV 0 513), (24, vi (i + 1 : Nat))], [.arr 513 1 42 (List.replicate (i + 1) (vword [[1]]) ++ List.replicate (513 - (i + 1)) (.agg [.val (.slice none 0 0)]))]⟩, by omega, by rw [← hs]; exact WkE.keep (by simp only [go_sem, Nat.reducePow, Nat.reduceLeDiff, ↓reduceIte, reduceCtorEq, Nat.reduceLT, Nat.reduceEqDiff, Nat.reduceAdd, Nat.reduceSub, Nat.reduceMul, Int.reduceToNat]), i + 1, rfl, by omega, rfl⟩
  rintro s rfl
  refine CwpE.vc ?_
  simp only [go_sem, Nat.reducePow, Nat.reduceLeDiff, ↓reduceIte, reduceCtorEq, Nat.reduceLT, Nat.reduceEqDiff, Nat.reduceAdd, Nat.reduceSub, Nat.reduceMul, Int.reduceToNat]
  refine callT (show Ctr Try.prog 13 [.list 1 (List.replicate 513 (vword [[1]])), vi 10] _ by rw [vwords, List.map_replicate] at hM; exact hM) (by simp [AV.isT, AV.isT1, vword, vrows, vints, vi]) ?_
  simp only [go_sem, Nat.reducePow, Nat.reduceLeDiff, ↓reduceIte, reduceCtorEq, Nat.reduceLT, Nat.reduceEqDiff, Nat.reduceAdd, Nat.reduceSub, Nat.reduceMul, Int.reduceToNat]
  refine callT lives_s rfl ?_
  simp only [go_sem, Nat.reducePow, Nat.reduceLeDiff, ↓reduceIte, reduceCtorEq, Nat.reduceLT, Nat.reduceEqDiff, Nat.reduceAdd, Nat.reduceSub, Nat.reduceMul, Int.reduceToNat]
  exact .tree _ rfl
end Go.Proofs.Ytehelanfgepcmaa
