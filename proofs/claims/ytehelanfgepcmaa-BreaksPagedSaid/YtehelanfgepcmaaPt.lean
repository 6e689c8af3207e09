/- Both Paged, by contract. -/
import Derived.Test.YtehelanfgepcmaaPs
set_option linter.unusedSimpArgs false
set_option linter.unusedVariables false
set_option linter.unusedSectionVars false
namespace Go.Proofs.Ytehelanfgepcmaa
open Go.RowKit Dak
set_option maxRecDepth 100000 in
set_option maxHeartbeats 4000000 in
theorem refPaged_s (K : List Bool) (lines : Int) (l : List Int) (hL : I64 lines) (hl : ∀ x ∈ l, I64 x) (hK : K.length ≤ 1000000) (hl2 : l.length ≤ 1000000) : Ctr Try.prog 28 [vbools K, vi lines, vints l] (vi (pagedR K lines l)) := by
  refine specC f28 (by simp) fun F0 w0 => ?_
  have hP := refPages_s K lines hL
  rcases hm : pagesM K lines with ⟨e, best⟩
  rw [hm] at hP
  unfold c28
  refine CwpE.cut (st := ⟨[(0, vbools K), (1, vi lines), (2, vints l)], []⟩) ?_ ?_
  · simp only [go_sem, List.replicate_succ, Nat.reducePow, Nat.reduceLeDiff, ↓reduceIte, reduceCtorEq, Nat.reduceLT, Nat.reduceEqDiff, Nat.reduceAdd, Nat.reduceSub, Nat.reduceMul, Int.reduceToNat]
    exact ⟨_, WkE.keep (by simp only [go_sem, List.replicate_succ, Nat.reducePow, Nat.reduceLeDiff, ↓reduceIte, reduceCtorEq, Nat.reduceLT, Nat.reduceEqDiff, Nat.reduceAdd, Nat.reduceSub, Nat.reduceMul, Int.reduceToNat]), rfl⟩
  refine CwpE.cut (st := ⟨[(0, vbools K), (1, vi lines), (2, vints l), (7, vints (nI best)), (8, vi e)], []⟩) ?_ ?_
  · simp only [go_sem, List.replicate_succ, Nat.reducePow, Nat.reduceLeDiff, ↓reduceIte, reduceCtorEq, Nat.reduceLT, Nat.reduceEqDiff, Nat.reduceAdd, Nat.reduceSub, Nat.reduceMul, Int.reduceToNat]
    refine callT hP rfl ?_
    simp only [go_sem, List.replicate_succ, Nat.reducePow, Nat.reduceLeDiff, ↓reduceIte, reduceCtorEq, Nat.reduceLT, Nat.reduceEqDiff, Nat.reduceAdd, Nat.reduceSub, Nat.reduceMul, Int.reduceToNat]
    exact ⟨_, WkE.keep (by simp only [go_sem, List.replicate_succ, Nat.reducePow, Nat.reduceLeDiff, ↓reduceIte, reduceCtorEq, Nat.reduceLT, Nat.reduceEqDiff, Nat.reduceAdd, Nat.reduceSub, Nat.reduceMul, Int.reduceToNat]), rfl⟩
  by_cases he : e = 0
  rotate_left
  · have : pagedR K lines l = e := by rw [pagedR, hm, if_pos he]
    rw [this]
    refine CwpE.vc ?_
    simp only [go_sem, List.replicate_succ, Nat.reducePow, Nat.reduceLeDiff, ↓reduceIte, reduceCtorEq, Nat.reduceLT, Nat.reduceEqDiff, Nat.reduceAdd, Nat.reduceSub, Nat.reduceMul, Int.reduceToNat, he]
    exact .tree _ rfl
  subst he
  refine CwpE.cut (st := ⟨[(0, vbools K), (1, vi lines), (2, vints l), (7, vints (nI best))], []⟩) ?_ ?_
  · simp only [go_sem, List.replicate_succ, Nat.reducePow, Nat.reduceLeDiff, ↓reduceIte, reduceCtorEq, Nat.reduceLT, Nat.reduceEqDiff, Nat.reduceAdd, Nat.reduceSub, Nat.reduceMul, Int.reduceToNat]
    exact ⟨_, WkE.keep (by simp only [go_sem, List.replicate_succ, Nat.reducePow, Nat.reduceLeDiff, ↓reduceIte, reduceCtorEq, Nat.reduceLT, Nat.reduceEqDiff, Nat.reduceAdd, Nat.reduceSub, Nat.reduceMul, Int.reduceToNat]), rfl⟩
  have hnl : (nI best).length = best.length := by simp [nI]
  by_cases hne : l.length = best.length
  rotate_left
  · have : pagedR K lines l = 19 := by rw [pagedR, hm, if_neg (by simp), if_pos hne]
    rw [this]
    have hne' : ¬ (l.length : Int) = (best.length : Int) := by omega
    refine CwpE.vc ?_
    simp only [go_sem, List.replicate_succ, Nat.reducePow, Nat.reduceLeDiff, ↓reduceIte, reduceCtorEq, Nat.reduceLT, Nat.reduceEqDiff, Nat.reduceAdd, Nat.reduceSub, Nat.reduceMul, Int.reduceToNat, hnl, hne']
    exact .tree _ rfl
  have hne' : ((l.length : Int) = (best.length : Int)) = True := eq_true (by omega)
  have hR : pagedR K lines l = if 0 < l.length ∧ l.getD 0 0 ≠ 0 then 19 else if (List.range l.length).all (refAt K lines l) then 0 else 19 := by rw [pagedR, hm, if_neg (by simp), if_neg (by simpa using hne)]
  by_cases h0 : 0 < l.length ∧ l.getD 0 0 ≠ 0
  · rw [if_pos h0] at hR
    rw [hR]
    obtain ⟨h1, h2⟩ := h0
    have g1 : (0 : Int) < (l.length : Int) := by omega
    have g0 : (0 : Int) ≤ 0 := by omega
    have hg : l.getD 0 0 = l[0] := by simp [h1]
    rw [hg] at h2
    refine CwpE.vc ?_
    simp only [go_sem, List.replicate_succ, Nat.reducePow, Nat.reduceLeDiff, ↓reduceIte, reduceCtorEq, Nat.reduceLT, Nat.reduceEqDiff, Nat.reduceAdd, Nat.reduceSub, Nat.reduceMul, Int.reduceToNat, hnl, hne', g0, g1, List.getElem?_map, List.getElem?_eq_getElem h1, h2]
    exact .tree _ rfl
  rw [if_neg h0] at hR
  have hbad : ∀ i, i < l.length → refAt K lines l i = false → pagedR K lines l = 19 := fun i hi hf => by
    rw [hR, if_neg]
    intro h
    have := List.all_eq_true.1 h i (List.mem_range.2 hi)
    rw [hf] at this; cases this
  have hall : (∀ i, i < l.length → refAt K lines l i = true) → pagedR K lines l = 0 := fun h => by
    rw [hR, if_pos (List.all_eq_true.2 fun i hi => h i (List.mem_range.1 hi))]
  clear hR
  generalize pagedR K lines l = r at *
  refine CwpE.cut (st := ⟨[(0, vbools K), (1, vi lines), (2, vints l)], []⟩) ?_ ?_
  · by_cases h1 : 0 < l.length
    · have g1 : (0 : Int) < (l.length : Int) := by omega
      have g0 : (0 : Int) ≤ 0 := by omega
      have hg : l.getD 0 0 = l[0] := by simp [h1]
      have h2 : (l[0] = 0) = True := eq_true (by
        by_cases h : l[0] = 0
        · exact h
        · exact absurd ⟨h1, by rw [hg]; exact h⟩ h0)
      simp only [go_sem, List.replicate_succ, Nat.reducePow, Nat.reduceLeDiff, ↓reduceIte, reduceCtorEq, Nat.reduceLT, Nat.reduceEqDiff, Nat.reduceAdd, Nat.reduceSub, Nat.reduceMul, Int.reduceToNat, hnl, hne', g0, g1, List.getElem?_map, List.getElem?_eq_getElem h1, h2]
      exact ⟨_, WkE.keep (by simp only [go_sem, List.replicate_succ, Nat.reducePow, Nat.reduceLeDiff, ↓reduceIte, reduceCtorEq, Nat.reduceLT, Nat.reduceEqDiff, Nat.reduceAdd, Nat.reduceSub, Nat.reduceMul, Int.reduceToNat]), rfl⟩
    · have g1 : ¬ (0 : Int) < (l.length : Int) := by omega
      simp only [go_sem, List.replicate_succ, Nat.reducePow, Nat.reduceLeDiff, ↓reduceIte, reduceCtorEq, Nat.reduceLT, Nat.reduceEqDiff, Nat.reduceAdd, Nat.reduceSub, Nat.reduceMul, Int.reduceToNat, hnl, hne', g1]
      exact ⟨_, WkE.keep (by simp only [go_sem, List.replicate_succ, Nat.reducePow, Nat.reduceLeDiff, ↓reduceIte, reduceCtorEq, Nat.reduceLT, Nat.reduceEqDiff, Nat.reduceAdd, Nat.reduceSub, Nat.reduceMul, Int.reduceToNat]), rfl⟩
  refine CwpE.step (fun s => (∀ i, i < l.length → refAt K lines l i = true) ∧ s = ⟨[], []⟩) ?_ ?_
  rotate_left
  · rintro s ⟨h, rfl⟩
    rw [hall h]
    refine CwpE.vc ?_
    simp only [go_sem, List.replicate_succ, Nat.reducePow, Nat.reduceLeDiff, ↓reduceIte, reduceCtorEq, Nat.reduceLT, Nat.reduceEqDiff, Nat.reduceAdd, Nat.reduceSub, Nat.reduceMul, Int.reduceToNat]
    exact .tree _ rfl
  simp only [go_sem, List.replicate_succ, Nat.reducePow, Nat.reduceLeDiff, ↓reduceIte, reduceCtorEq, Nat.reduceLT, Nat.reduceEqDiff, Nat.reduceAdd, Nat.reduceSub, Nat.reduceMul, Int.reduceToNat]
  refine loopXC 0 (fun m s => ∃ i : Nat, m = l.length - i ∧ i ≤ l.length ∧ (∀ j, j < i → refAt K lines l j = true) ∧ s = ⟨[(0, vbools K), (1, vi lines), (2, vints l), (9, vi i)], []⟩)
    (fun s => (∀ i, i < l.length → refAt K lines l i = true) ∧ s = ⟨[], []⟩) l.length
    ⟨[(0, vbools K), (1, vi lines), (2, vints l), (9, vi (0 : Nat))], []⟩ (WkE.keep (by simp only [go_sem, List.replicate_succ, Nat.reducePow, Nat.reduceLeDiff, ↓reduceIte, reduceCtorEq, Nat.reduceLT, Nat.reduceEqDiff, Nat.reduceAdd, Nat.reduceSub, Nat.reduceMul, Int.reduceToNat]; rfl)) ⟨0, by omega, by omega, fun j hj => by omega, rfl⟩ ?_ ?_
  rotate_left
  · rintro s ⟨h, rfl⟩
    simp only [go_sem, List.replicate_succ, Nat.reducePow, Nat.reduceLeDiff, ↓reduceIte, reduceCtorEq, Nat.reduceLT, Nat.reduceEqDiff, Nat.reduceAdd, Nat.reduceSub, Nat.reduceMul, Int.reduceToNat]
    exact ⟨_, .refl _ _, h, rfl⟩
  rintro m s ⟨i, rfl, hi, hd, rfl⟩
  by_cases hlt : i < l.length
  rotate_left
  · have g : ¬ (i : Int) < (l.length : Int) := by omega
    obtain rfl : i = l.length := by omega
    refine CwpE.vc ?_
    simp only [go_sem, List.replicate_succ, Nat.reducePow, Nat.reduceLeDiff, ↓reduceIte, reduceCtorEq, Nat.reduceLT, Nat.reduceEqDiff, Nat.reduceAdd, Nat.reduceSub, Nat.reduceMul, Int.reduceToNat, g]
    exact ⟨⟨[], []⟩, WkE.keep (by simp only [go_sem, List.replicate_succ, Nat.reducePow, Nat.reduceLeDiff, ↓reduceIte, reduceCtorEq, Nat.reduceLT, Nat.reduceEqDiff, Nat.reduceAdd, Nat.reduceSub, Nat.reduceMul, Int.reduceToNat]), hd, rfl⟩
  have g : (i : Int) < (l.length : Int) := by omega
  have g0 : (0 : Int) ≤ (i : Int) := by omega
  have w1 : IntKind.i64.wrap ((i : Int) + 1) = ((i + 1 : Nat) : Int) := by rw [wrap_id (by omega) (by omega)]; omega
  have hx : l.getD i 0 = l[i] := by simp [hlt]
  have hto : I64 (toOf K l i) := by
    unfold toOf
    split
    · rename_i h
      rw [show l.getD (i + 1) 0 = l[i + 1] by simp [h]]
      exact hl _ (List.getElem_mem h)
    · exact ⟨by omega, by omega⟩
  refine CwpE.cut (st := ⟨[(0, vbools K), (1, vi lines), (2, vints l), (9, vi i)], []⟩) ?_ ?_
  · simp only [go_sem, List.replicate_succ, Nat.reducePow, Nat.reduceLeDiff, ↓reduceIte, reduceCtorEq, Nat.reduceLT, Nat.reduceEqDiff, Nat.reduceAdd, Nat.reduceSub, Nat.reduceMul, Int.reduceToNat, g]
    exact ⟨_, WkE.keep (by simp only [go_sem, List.replicate_succ, Nat.reducePow, Nat.reduceLeDiff, ↓reduceIte, reduceCtorEq, Nat.reduceLT, Nat.reduceEqDiff, Nat.reduceAdd, Nat.reduceSub, Nat.reduceMul, Int.reduceToNat]), rfl⟩
  refine CwpE.seqJ (fun s => refAt K lines l i = true ∧ s = ⟨[(0, vbools K), (1, vi lines), (2, vints l), (9, vi i)], []⟩) (CwpE.block ?_) ?_
  rotate_left
  · rintro s ⟨h, rfl⟩
    refine CwpE.vc ?_
    simp only [go_sem, List.replicate_succ, Nat.reducePow, Nat.reduceLeDiff, ↓reduceIte, reduceCtorEq, Nat.reduceLT, Nat.reduceEqDiff, Nat.reduceAdd, Nat.reduceSub, Nat.reduceMul, Int.reduceToNat, w1]
    exact ⟨l.length - (i + 1), _, by omega, WkE.keep (env' := [(0, vbools K), (1, vi lines), (2, vints l), (9, vi (i + 1 : Nat))]) (by simp only [go_sem, List.replicate_succ, Nat.reducePow, Nat.reduceLeDiff, ↓reduceIte, reduceCtorEq, Nat.reduceLT, Nat.reduceEqDiff, Nat.reduceAdd, Nat.reduceSub, Nat.reduceMul, Int.reduceToNat]), i + 1, rfl, by omega, fun j hj => by
      by_cases e : j = i
      · subst e; exact h
      · exact hd j (by omega), rfl⟩
  refine CwpE.cut (st := ⟨[(0, vbools K), (1, vi lines), (2, vints l), (9, vi i), (10, vi K.length)], []⟩) ?_ ?_
  · simp only [go_sem, List.replicate_succ, Nat.reducePow, Nat.reduceLeDiff, ↓reduceIte, reduceCtorEq, Nat.reduceLT, Nat.reduceEqDiff, Nat.reduceAdd, Nat.reduceSub, Nat.reduceMul, Int.reduceToNat]
    exact ⟨_, WkE.keep (by simp only [go_sem, List.replicate_succ, Nat.reducePow, Nat.reduceLeDiff, ↓reduceIte, reduceCtorEq, Nat.reduceLT, Nat.reduceEqDiff, Nat.reduceAdd, Nat.reduceSub, Nat.reduceMul, Int.reduceToNat]), rfl⟩
  refine CwpE.cut (st := ⟨[(0, vbools K), (1, vi lines), (2, vints l), (9, vi i), (10, vi (toOf K l i))], []⟩) ?_ ?_
  · by_cases h1 : i + 1 < l.length
    · have q1 : ((i + 1 : Nat) : Int) < (l.length : Int) := by omega
      have q0 : (0 : Int) ≤ ((i + 1 : Nat) : Int) := by omega
      have ht : toOf K l i = l[i + 1] := by rw [toOf, if_pos h1]; simp [h1]
      rw [ht]
      simp only [go_sem, List.replicate_succ, Nat.reducePow, Nat.reduceLeDiff, ↓reduceIte, reduceCtorEq, Nat.reduceLT, Nat.reduceEqDiff, Nat.reduceAdd, Nat.reduceSub, Nat.reduceMul, Int.reduceToNat, w1, q0, q1, List.getElem?_map, List.getElem?_eq_getElem h1]
      exact ⟨_, WkE.keep (by simp only [go_sem, List.replicate_succ, Nat.reducePow, Nat.reduceLeDiff, ↓reduceIte, reduceCtorEq, Nat.reduceLT, Nat.reduceEqDiff, Nat.reduceAdd, Nat.reduceSub, Nat.reduceMul, Int.reduceToNat]), rfl⟩
    · have q1 : ¬ ((i + 1 : Nat) : Int) < (l.length : Int) := by omega
      have ht : toOf K l i = K.length := by rw [toOf, if_neg h1]
      rw [ht]
      simp only [go_sem, List.replicate_succ, Nat.reducePow, Nat.reduceLeDiff, ↓reduceIte, reduceCtorEq, Nat.reduceLT, Nat.reduceEqDiff, Nat.reduceAdd, Nat.reduceSub, Nat.reduceMul, Int.reduceToNat, w1, q1]
      exact ⟨_, WkE.keep (by simp only [go_sem, List.replicate_succ, Nat.reducePow, Nat.reduceLeDiff, ↓reduceIte, reduceCtorEq, Nat.reduceLT, Nat.reduceEqDiff, Nat.reduceAdd, Nat.reduceSub, Nat.reduceMul, Int.reduceToNat]), rfl⟩
  have hRA : refAt K lines l i = (decide (0 ≤ l[i]) && (decide (l[i] < K.length) && fitsL K lines l[i] (toOf K l i))) := by rw [refAt, hx]
  refine CwpE.vc ?_
  by_cases n1 : l[i] < 0
  · rw [hbad i hlt (by rw [hRA]; simp; omega)]
    simp only [go_sem, List.replicate_succ, Nat.reducePow, Nat.reduceLeDiff, ↓reduceIte, reduceCtorEq, Nat.reduceLT, Nat.reduceEqDiff, Nat.reduceAdd, Nat.reduceSub, Nat.reduceMul, Int.reduceToNat, g0, g, List.getElem?_map, List.getElem?_eq_getElem hlt, n1]
    exact .tree _ rfl
  by_cases n2 : (K.length : Int) ≤ l[i]
  · rw [hbad i hlt (by rw [hRA]; simp; omega)]
    simp only [go_sem, List.replicate_succ, Nat.reducePow, Nat.reduceLeDiff, ↓reduceIte, reduceCtorEq, Nat.reduceLT, Nat.reduceEqDiff, Nat.reduceAdd, Nat.reduceSub, Nat.reduceMul, Int.reduceToNat, g0, g, List.getElem?_map, List.getElem?_eq_getElem hlt, n1, n2]
    exact .tree _ rfl
  have hF := Fits_s K lines l[i] (toOf K l i) (by omega) hK hto
  simp only [go_sem, List.replicate_succ, Nat.reducePow, Nat.reduceLeDiff, ↓reduceIte, reduceCtorEq, Nat.reduceLT, Nat.reduceEqDiff, Nat.reduceAdd, Nat.reduceSub, Nat.reduceMul, Int.reduceToNat, g0, g, List.getElem?_map, List.getElem?_eq_getElem hlt, n1, n2]
  refine callT hF rfl ?_
  cases hf : fitsL K lines l[i] (toOf K l i) with
  | true =>
    simp only [go_sem, List.replicate_succ, Nat.reducePow, Nat.reduceLeDiff, ↓reduceIte, reduceCtorEq, Nat.reduceLT, Nat.reduceEqDiff, Nat.reduceAdd, Nat.reduceSub, Nat.reduceMul, Int.reduceToNat]
    exact ⟨⟨[(0, vbools K), (1, vi lines), (2, vints l), (9, vi i)], []⟩, WkE.keep (by simp only [go_sem, List.replicate_succ, Nat.reducePow, Nat.reduceLeDiff, ↓reduceIte, reduceCtorEq, Nat.reduceLT, Nat.reduceEqDiff, Nat.reduceAdd, Nat.reduceSub, Nat.reduceMul, Int.reduceToNat]), by rw [hRA, hf]; simp; omega, rfl⟩
  | false =>
    rw [hbad i hlt (by rw [hRA, hf]; simp)]
    simp only [go_sem, List.replicate_succ, Nat.reducePow, Nat.reduceLeDiff, ↓reduceIte, reduceCtorEq, Nat.reduceLT, Nat.reduceEqDiff, Nat.reduceAdd, Nat.reduceSub, Nat.reduceMul, Int.reduceToNat]
    exact .tree _ rfl
set_option maxRecDepth 100000 in
set_option maxHeartbeats 4000000 in
theorem Paged_s (K : List Bool) (lines : Int) (l : List Int) (hL : I64 lines) (hl : ∀ x ∈ l, I64 x) (hK : K.length ≤ 1000000) (hl2 : l.length ≤ 1000000) : Ctr Try.prog 27 [vbools K, vi lines, vints l] (vi (pagedB K lines l)) := by
  refine specC f27 (by simp) fun F0 w0 => ?_
  have hP := Pages_s K lines hL
  rcases hm : pagesM K lines with ⟨e, best⟩
  rw [hm] at hP
  unfold c27
  refine CwpE.cut (st := ⟨[(0, vbools K), (1, vi lines), (2, vints l)], []⟩) ?_ ?_
  · simp only [go_sem, List.replicate_succ, Nat.reducePow, Nat.reduceLeDiff, ↓reduceIte, reduceCtorEq, Nat.reduceLT, Nat.reduceEqDiff, Nat.reduceAdd, Nat.reduceSub, Nat.reduceMul, Int.reduceToNat]
    exact ⟨_, WkE.keep (by simp only [go_sem, List.replicate_succ, Nat.reducePow, Nat.reduceLeDiff, ↓reduceIte, reduceCtorEq, Nat.reduceLT, Nat.reduceEqDiff, Nat.reduceAdd, Nat.reduceSub, Nat.reduceMul, Int.reduceToNat]), rfl⟩
  refine CwpE.cut (st := ⟨[(0, vbools K), (1, vi lines), (2, vints l), (7, vints (nI best)), (8, vi e)], []⟩) ?_ ?_
  · simp only [go_sem, List.replicate_succ, Nat.reducePow, Nat.reduceLeDiff, ↓reduceIte, reduceCtorEq, Nat.reduceLT, Nat.reduceEqDiff, Nat.reduceAdd, Nat.reduceSub, Nat.reduceMul, Int.reduceToNat]
    refine callT hP rfl ?_
    simp only [go_sem, List.replicate_succ, Nat.reducePow, Nat.reduceLeDiff, ↓reduceIte, reduceCtorEq, Nat.reduceLT, Nat.reduceEqDiff, Nat.reduceAdd, Nat.reduceSub, Nat.reduceMul, Int.reduceToNat]
    exact ⟨_, WkE.keep (by simp only [go_sem, List.replicate_succ, Nat.reducePow, Nat.reduceLeDiff, ↓reduceIte, reduceCtorEq, Nat.reduceLT, Nat.reduceEqDiff, Nat.reduceAdd, Nat.reduceSub, Nat.reduceMul, Int.reduceToNat]), rfl⟩
  by_cases he : e = 0
  rotate_left
  · have : pagedB K lines l = e := by rw [pagedB, hm, if_pos he]
    rw [this]
    refine CwpE.vc ?_
    simp only [go_sem, List.replicate_succ, Nat.reducePow, Nat.reduceLeDiff, ↓reduceIte, reduceCtorEq, Nat.reduceLT, Nat.reduceEqDiff, Nat.reduceAdd, Nat.reduceSub, Nat.reduceMul, Int.reduceToNat, he]
    exact .tree _ rfl
  subst he
  refine CwpE.cut (st := ⟨[(0, vbools K), (1, vi lines), (2, vints l), (7, vints (nI best))], []⟩) ?_ ?_
  · simp only [go_sem, List.replicate_succ, Nat.reducePow, Nat.reduceLeDiff, ↓reduceIte, reduceCtorEq, Nat.reduceLT, Nat.reduceEqDiff, Nat.reduceAdd, Nat.reduceSub, Nat.reduceMul, Int.reduceToNat]
    exact ⟨_, WkE.keep (by simp only [go_sem, List.replicate_succ, Nat.reducePow, Nat.reduceLeDiff, ↓reduceIte, reduceCtorEq, Nat.reduceLT, Nat.reduceEqDiff, Nat.reduceAdd, Nat.reduceSub, Nat.reduceMul, Int.reduceToNat]), rfl⟩
  have hnl : (nI best).length = best.length := by simp [nI]
  by_cases hne : l.length = best.length
  rotate_left
  · have : pagedB K lines l = 19 := by rw [pagedB, hm, if_neg (by simp), if_pos hne]
    rw [this]
    have hne' : ¬ (l.length : Int) = (best.length : Int) := by omega
    refine CwpE.vc ?_
    simp only [go_sem, List.replicate_succ, Nat.reducePow, Nat.reduceLeDiff, ↓reduceIte, reduceCtorEq, Nat.reduceLT, Nat.reduceEqDiff, Nat.reduceAdd, Nat.reduceSub, Nat.reduceMul, Int.reduceToNat, hnl, hne']
    exact .tree _ rfl
  have hne' : ((l.length : Int) = (best.length : Int)) = True := eq_true (by omega)
  have hR : pagedB K lines l = if (List.range l.length).all (brAt K lines l) then 0 else 19 := by rw [pagedB, hm, if_neg (by simp), if_neg (by simpa using hne)]
  have hbad : ∀ i, i < l.length → brAt K lines l i = false → pagedB K lines l = 19 := fun i hi hf => by
    rw [hR, if_neg]
    intro h
    have := List.all_eq_true.1 h i (List.mem_range.2 hi)
    rw [hf] at this; cases this
  have hall : (∀ i, i < l.length → brAt K lines l i = true) → pagedB K lines l = 0 := fun h => by
    rw [hR, if_pos (List.all_eq_true.2 fun i hi => h i (List.mem_range.1 hi))]
  clear hR
  generalize pagedB K lines l = r at *
  refine CwpE.cut (st := ⟨[(0, vbools K), (1, vi lines), (2, vints l)], []⟩) ?_ ?_
  · simp only [go_sem, List.replicate_succ, Nat.reducePow, Nat.reduceLeDiff, ↓reduceIte, reduceCtorEq, Nat.reduceLT, Nat.reduceEqDiff, Nat.reduceAdd, Nat.reduceSub, Nat.reduceMul, Int.reduceToNat, hnl, hne']
    exact ⟨_, WkE.keep (by simp only [go_sem, List.replicate_succ, Nat.reducePow, Nat.reduceLeDiff, ↓reduceIte, reduceCtorEq, Nat.reduceLT, Nat.reduceEqDiff, Nat.reduceAdd, Nat.reduceSub, Nat.reduceMul, Int.reduceToNat]), rfl⟩
  refine CwpE.step (fun s => (∀ i, i < l.length → brAt K lines l i = true) ∧ s = ⟨[], []⟩) ?_ ?_
  rotate_left
  · rintro s ⟨h, rfl⟩
    rw [hall h]
    refine CwpE.vc ?_
    simp only [go_sem, List.replicate_succ, Nat.reducePow, Nat.reduceLeDiff, ↓reduceIte, reduceCtorEq, Nat.reduceLT, Nat.reduceEqDiff, Nat.reduceAdd, Nat.reduceSub, Nat.reduceMul, Int.reduceToNat]
    exact .tree _ rfl
  simp only [go_sem, List.replicate_succ, Nat.reducePow, Nat.reduceLeDiff, ↓reduceIte, reduceCtorEq, Nat.reduceLT, Nat.reduceEqDiff, Nat.reduceAdd, Nat.reduceSub, Nat.reduceMul, Int.reduceToNat]
  refine loopXC 0 (fun m s => ∃ i : Nat, m = l.length - i ∧ i ≤ l.length ∧ (∀ j, j < i → brAt K lines l j = true) ∧ s = ⟨[(0, vbools K), (1, vi lines), (2, vints l), (26, vints l), (27, vi l.length), (28, vi i)], []⟩)
    (fun s => (∀ i, i < l.length → brAt K lines l i = true) ∧ s = ⟨[], []⟩) l.length
    ⟨[(0, vbools K), (1, vi lines), (2, vints l), (26, vints l), (27, vi l.length), (28, vi (0 : Nat))], []⟩ (WkE.keep (by simp only [go_sem, List.replicate_succ, Nat.reducePow, Nat.reduceLeDiff, ↓reduceIte, reduceCtorEq, Nat.reduceLT, Nat.reduceEqDiff, Nat.reduceAdd, Nat.reduceSub, Nat.reduceMul, Int.reduceToNat]; rfl)) ⟨0, by omega, by omega, fun j hj => by omega, rfl⟩ ?_ ?_
  rotate_left
  · rintro s ⟨h, rfl⟩
    simp only [go_sem, List.replicate_succ, Nat.reducePow, Nat.reduceLeDiff, ↓reduceIte, reduceCtorEq, Nat.reduceLT, Nat.reduceEqDiff, Nat.reduceAdd, Nat.reduceSub, Nat.reduceMul, Int.reduceToNat]
    exact ⟨_, .refl _ _, h, rfl⟩
  rintro m s ⟨i, rfl, hi, hd, rfl⟩
  by_cases hlt : i < l.length
  rotate_left
  · have g : ¬ (i : Int) < (l.length : Int) := by omega
    obtain rfl : i = l.length := by omega
    refine CwpE.vc ?_
    simp only [go_sem, List.replicate_succ, Nat.reducePow, Nat.reduceLeDiff, ↓reduceIte, reduceCtorEq, Nat.reduceLT, Nat.reduceEqDiff, Nat.reduceAdd, Nat.reduceSub, Nat.reduceMul, Int.reduceToNat, g]
    exact ⟨⟨[], []⟩, WkE.keep (by simp only [go_sem, List.replicate_succ, Nat.reducePow, Nat.reduceLeDiff, ↓reduceIte, reduceCtorEq, Nat.reduceLT, Nat.reduceEqDiff, Nat.reduceAdd, Nat.reduceSub, Nat.reduceMul, Int.reduceToNat]), hd, rfl⟩
  have g : (i : Int) < (l.length : Int) := by omega
  have g0 : (0 : Int) ≤ (i : Int) := by omega
  have w1 : IntKind.i64.wrap ((i : Int) + 1) = ((i + 1 : Nat) : Int) := by rw [wrap_id (by omega) (by omega)]; omega
  have hx : l.getD i 0 = l[i] := by simp [hlt]
  have hto : I64 (toOf K l i) := by
    unfold toOf
    split
    · rename_i h
      rw [show l.getD (i + 1) 0 = l[i + 1] by simp [h]]
      exact hl _ (List.getElem_mem h)
    · exact ⟨by omega, by omega⟩
  refine CwpE.cut (st := ⟨[(0, vbools K), (1, vi lines), (2, vints l), (26, vints l), (27, vi l.length), (28, vi i), (29, vb true)], []⟩) ?_ ?_
  · simp only [go_sem, List.replicate_succ, Nat.reducePow, Nat.reduceLeDiff, ↓reduceIte, reduceCtorEq, Nat.reduceLT, Nat.reduceEqDiff, Nat.reduceAdd, Nat.reduceSub, Nat.reduceMul, Int.reduceToNat, g]
    exact ⟨_, WkE.keep (by simp only [go_sem, List.replicate_succ, Nat.reducePow, Nat.reduceLeDiff, ↓reduceIte, reduceCtorEq, Nat.reduceLT, Nat.reduceEqDiff, Nat.reduceAdd, Nat.reduceSub, Nat.reduceMul, Int.reduceToNat]), rfl⟩
  refine CwpE.cut (st := ⟨[(0, vbools K), (1, vi lines), (2, vints l), (26, vints l), (27, vi l.length), (28, vi i)], []⟩) ?_ ?_
  · simp only [go_sem, List.replicate_succ, Nat.reducePow, Nat.reduceLeDiff, ↓reduceIte, reduceCtorEq, Nat.reduceLT, Nat.reduceEqDiff, Nat.reduceAdd, Nat.reduceSub, Nat.reduceMul, Int.reduceToNat]
    exact ⟨_, WkE.keep (by simp only [go_sem, List.replicate_succ, Nat.reducePow, Nat.reduceLeDiff, ↓reduceIte, reduceCtorEq, Nat.reduceLT, Nat.reduceEqDiff, Nat.reduceAdd, Nat.reduceSub, Nat.reduceMul, Int.reduceToNat]), rfl⟩
  refine CwpE.seqJ (fun s => brAt K lines l i = true ∧ s = ⟨[(0, vbools K), (1, vi lines), (2, vints l), (26, vints l), (27, vi l.length), (28, vi i)], []⟩) (CwpE.block ?_) ?_
  rotate_left
  · rintro s ⟨h, rfl⟩
    refine CwpE.vc ?_
    simp only [go_sem, List.replicate_succ, Nat.reducePow, Nat.reduceLeDiff, ↓reduceIte, reduceCtorEq, Nat.reduceLT, Nat.reduceEqDiff, Nat.reduceAdd, Nat.reduceSub, Nat.reduceMul, Int.reduceToNat, w1]
    exact ⟨l.length - (i + 1), _, by omega, WkE.keep (env' := [(0, vbools K), (1, vi lines), (2, vints l), (26, vints l), (27, vi l.length), (28, vi (i + 1 : Nat))]) (by simp only [go_sem, List.replicate_succ, Nat.reducePow, Nat.reduceLeDiff, ↓reduceIte, reduceCtorEq, Nat.reduceLT, Nat.reduceEqDiff, Nat.reduceAdd, Nat.reduceSub, Nat.reduceMul, Int.reduceToNat]), i + 1, rfl, by omega, fun j hj => by
      by_cases e : j = i
      · subst e; exact h
      · exact hd j (by omega), rfl⟩
  refine CwpE.cut (st := ⟨[(0, vbools K), (1, vi lines), (2, vints l), (26, vints l), (27, vi l.length), (28, vi i), (9, vi i), (10, vi l[i])], []⟩) ?_ ?_
  · simp only [go_sem, List.replicate_succ, Nat.reducePow, Nat.reduceLeDiff, ↓reduceIte, reduceCtorEq, Nat.reduceLT, Nat.reduceEqDiff, Nat.reduceAdd, Nat.reduceSub, Nat.reduceMul, Int.reduceToNat, g0, g, List.getElem?_map, List.getElem?_eq_getElem hlt]
    exact ⟨_, WkE.keep (by simp only [go_sem, List.replicate_succ, Nat.reducePow, Nat.reduceLeDiff, ↓reduceIte, reduceCtorEq, Nat.reduceLT, Nat.reduceEqDiff, Nat.reduceAdd, Nat.reduceSub, Nat.reduceMul, Int.reduceToNat]), rfl⟩
  refine CwpE.cut (st := ⟨[(0, vbools K), (1, vi lines), (2, vints l), (26, vints l), (27, vi l.length), (28, vi i), (9, vi i), (10, vi l[i]), (11, vi K.length)], []⟩) ?_ ?_
  · simp only [go_sem, List.replicate_succ, Nat.reducePow, Nat.reduceLeDiff, ↓reduceIte, reduceCtorEq, Nat.reduceLT, Nat.reduceEqDiff, Nat.reduceAdd, Nat.reduceSub, Nat.reduceMul, Int.reduceToNat]
    exact ⟨_, WkE.keep (by simp only [go_sem, List.replicate_succ, Nat.reducePow, Nat.reduceLeDiff, ↓reduceIte, reduceCtorEq, Nat.reduceLT, Nat.reduceEqDiff, Nat.reduceAdd, Nat.reduceSub, Nat.reduceMul, Int.reduceToNat]), rfl⟩
  refine CwpE.cut (st := ⟨[(0, vbools K), (1, vi lines), (2, vints l), (26, vints l), (27, vi l.length), (28, vi i), (9, vi i), (10, vi l[i]), (11, vi (toOf K l i))], []⟩) ?_ ?_
  · by_cases h1 : i + 1 < l.length
    · have q1 : ((i + 1 : Nat) : Int) < (l.length : Int) := by omega
      have q0 : (0 : Int) ≤ ((i + 1 : Nat) : Int) := by omega
      have ht : toOf K l i = l[i + 1] := by rw [toOf, if_pos h1]; simp [h1]
      rw [ht]
      simp only [go_sem, List.replicate_succ, Nat.reducePow, Nat.reduceLeDiff, ↓reduceIte, reduceCtorEq, Nat.reduceLT, Nat.reduceEqDiff, Nat.reduceAdd, Nat.reduceSub, Nat.reduceMul, Int.reduceToNat, w1, q0, q1, List.getElem?_map, List.getElem?_eq_getElem h1]
      exact ⟨_, WkE.keep (by simp only [go_sem, List.replicate_succ, Nat.reducePow, Nat.reduceLeDiff, ↓reduceIte, reduceCtorEq, Nat.reduceLT, Nat.reduceEqDiff, Nat.reduceAdd, Nat.reduceSub, Nat.reduceMul, Int.reduceToNat]), rfl⟩
    · have q1 : ¬ ((i + 1 : Nat) : Int) < (l.length : Int) := by omega
      have ht : toOf K l i = K.length := by rw [toOf, if_neg h1]
      rw [ht]
      simp only [go_sem, List.replicate_succ, Nat.reducePow, Nat.reduceLeDiff, ↓reduceIte, reduceCtorEq, Nat.reduceLT, Nat.reduceEqDiff, Nat.reduceAdd, Nat.reduceSub, Nat.reduceMul, Int.reduceToNat, w1, q1]
      exact ⟨_, WkE.keep (by simp only [go_sem, List.replicate_succ, Nat.reducePow, Nat.reduceLeDiff, ↓reduceIte, reduceCtorEq, Nat.reduceLT, Nat.reduceEqDiff, Nat.reduceAdd, Nat.reduceSub, Nat.reduceMul, Int.reduceToNat]), rfl⟩
  have hRA : brAt K lines l i = ((decide (i ≠ 0) || decide (l[i] = 0)) && (decide (0 ≤ l[i]) && (decide (l[i] < K.length) && ((decide (i = 0) || !(K.getD l[i].toNat false)) && (decide (l[i] < toOf K l i) && decide (toOf K l i - l[i] ≤ lines)))))) := by rw [brAt, hx]
  generalize toOf K l i = to at *
  obtain ⟨ht1, ht2⟩ := hto
  have fin : brAt K lines l i = true → ∃ s', WkE 84 ⟨[(0, vbools K), (1, vi lines), (2, vints l), (26, vints l), (27, vi l.length), (28, vi i), (9, vi i), (10, vi l[i]), (11, vi to)], []⟩ s' ∧ brAt K lines l i = true ∧ s' = ⟨[(0, vbools K), (1, vi lines), (2, vints l), (26, vints l), (27, vi l.length), (28, vi i)], []⟩ := fun h => ⟨_, WkE.keep (by simp only [go_sem, List.replicate_succ, Nat.reducePow, Nat.reduceLeDiff, ↓reduceIte, reduceCtorEq, Nat.reduceLT, Nat.reduceEqDiff, Nat.reduceAdd, Nat.reduceSub, Nat.reduceMul, Int.reduceToNat]), h, rfl⟩
  refine CwpE.vc ?_
  by_cases n1 : l[i] < 0
  · rw [hbad i hlt (by rw [hRA]; simp; omega)]
    by_cases c0 : i = 0
    · have c0' : ((i : Int) = 0) = True := eq_true (by omega)
      have c1' : ¬ l[i] = 0 := by omega
      simp only [go_sem, List.replicate_succ, Nat.reducePow, Nat.reduceLeDiff, ↓reduceIte, reduceCtorEq, Nat.reduceLT, Nat.reduceEqDiff, Nat.reduceAdd, Nat.reduceSub, Nat.reduceMul, Int.reduceToNat, c0', c1']
      exact .tree _ rfl
    · have c0' : ¬ (i : Int) = 0 := by omega
      simp only [go_sem, List.replicate_succ, Nat.reducePow, Nat.reduceLeDiff, ↓reduceIte, reduceCtorEq, Nat.reduceLT, Nat.reduceEqDiff, Nat.reduceAdd, Nat.reduceSub, Nat.reduceMul, Int.reduceToNat, c0', n1]
      exact .tree _ rfl
  by_cases n2 : (K.length : Int) ≤ l[i]
  · rw [hbad i hlt (by rw [hRA]; simp; omega)]
    by_cases c0 : i = 0
    · have c0' : ((i : Int) = 0) = True := eq_true (by omega)
      by_cases c1 : l[i] = 0
      · have c1' := eq_true c1
        have n1' : ¬ (0 : Int) < 0 := by omega
        have n2' : (K.length : Int) ≤ 0 := by omega
        simp only [go_sem, List.replicate_succ, Nat.reducePow, Nat.reduceLeDiff, ↓reduceIte, reduceCtorEq, Nat.reduceLT, Nat.reduceEqDiff, Nat.reduceAdd, Nat.reduceSub, Nat.reduceMul, Int.reduceToNat, c0', c1', n1, n2]
        exact .tree _ rfl
      · simp only [go_sem, List.replicate_succ, Nat.reducePow, Nat.reduceLeDiff, ↓reduceIte, reduceCtorEq, Nat.reduceLT, Nat.reduceEqDiff, Nat.reduceAdd, Nat.reduceSub, Nat.reduceMul, Int.reduceToNat, c0', c1]
        exact .tree _ rfl
    · have c0' : ¬ (i : Int) = 0 := by omega
      simp only [go_sem, List.replicate_succ, Nat.reducePow, Nat.reduceLeDiff, ↓reduceIte, reduceCtorEq, Nat.reduceLT, Nat.reduceEqDiff, Nat.reduceAdd, Nat.reduceSub, Nat.reduceMul, Int.reduceToNat, c0', n1, n2]
      exact .tree _ rfl
  obtain ⟨x, hxn⟩ : ∃ x : Nat, l[i] = x := ⟨l[i].toNat, by omega⟩
  have hxK : x < K.length := by omega
  rw [hxn] at hRA n1 n2 fin ⊢
  have g2 : (0 : Int) ≤ (x : Int) := by omega
  have g3 : (x : Int) < (K.length : Int) := by omega
  have hkx : K.getD (x : Int).toNat false = K[x] := by simp [hxK]
  rw [hkx] at hRA
  have tail : ∀ (h1 : (decide (i ≠ 0) || decide ((x : Int) = 0)) = true) (h2 : (decide (i = 0) || !K[x]) = true), brAt K lines l i = (decide ((x : Int) < to) && decide (to - x ≤ lines)) := fun h1 h2 => by rw [hRA, h1, h2]; simp [n1, g3]
  have w2 : (x : Int) < to → IntKind.i64.wrap (to - (x : Int)) = to - x := fun h => wrap_id (by omega) (by omega)
  by_cases c0 : i = 0
  · have c0' : ((i : Int) = 0) = True := eq_true (by omega)
    have c0'' : ¬ (0 : Int) < (i : Int) := by omega
    by_cases c1 : (x : Int) = 0
    rotate_left
    · rw [hbad i hlt (by rw [hRA]; simp [c0]; omega)]
      simp only [go_sem, List.replicate_succ, Nat.reducePow, Nat.reduceLeDiff, ↓reduceIte, reduceCtorEq, Nat.reduceLT, Nat.reduceEqDiff, Nat.reduceAdd, Nat.reduceSub, Nat.reduceMul, Int.reduceToNat, c0', c1]
      exact .tree _ rfl
    have c1' := eq_true c1
    have ht := tail (by simp [c1]) (by simp [c0])
    by_cases n4 : to ≤ (x : Int)
    · rw [hbad i hlt (by rw [ht]; simp; omega)]
      simp only [go_sem, List.replicate_succ, Nat.reducePow, Nat.reduceLeDiff, ↓reduceIte, reduceCtorEq, Nat.reduceLT, Nat.reduceEqDiff, Nat.reduceAdd, Nat.reduceSub, Nat.reduceMul, Int.reduceToNat, c0', c0'', c1', n1, n2, n4]
      exact .tree _ rfl
    have w2' := w2 (by omega)
    by_cases n5 : lines < to - (x : Int)
    · rw [hbad i hlt (by rw [ht]; simp; omega)]
      simp only [go_sem, List.replicate_succ, Nat.reducePow, Nat.reduceLeDiff, ↓reduceIte, reduceCtorEq, Nat.reduceLT, Nat.reduceEqDiff, Nat.reduceAdd, Nat.reduceSub, Nat.reduceMul, Int.reduceToNat, c0', c0'', c1', n1, n2, n4, n5, w2']
      exact .tree _ rfl
    · simp only [go_sem, List.replicate_succ, Nat.reducePow, Nat.reduceLeDiff, ↓reduceIte, reduceCtorEq, Nat.reduceLT, Nat.reduceEqDiff, Nat.reduceAdd, Nat.reduceSub, Nat.reduceMul, Int.reduceToNat, c0', c0'', c1', n1, n2, n4, n5, w2']
      obtain ⟨s', k1, k2⟩ := fin (by rw [ht]; simp; omega)
      exact ⟨s', WkE.trans (WkE.keep (by simp only [go_sem, List.replicate_succ, Nat.reducePow, Nat.reduceLeDiff, ↓reduceIte, reduceCtorEq, Nat.reduceLT, Nat.reduceEqDiff, Nat.reduceAdd, Nat.reduceSub, Nat.reduceMul, Int.reduceToNat])) k1, k2⟩
  · have c0' : ¬ (i : Int) = 0 := by omega
    have c0'' : (0 : Int) < (i : Int) := by omega
    cases hk : K[x] with
    | true =>
      rw [hbad i hlt (by rw [hRA, hk]; simp [c0])]
      simp only [go_sem, List.replicate_succ, Nat.reducePow, Nat.reduceLeDiff, ↓reduceIte, reduceCtorEq, Nat.reduceLT, Nat.reduceEqDiff, Nat.reduceAdd, Nat.reduceSub, Nat.reduceMul, Int.reduceToNat, c0', c0'', n1, n2, g2, g3, List.getElem?_map, List.getElem?_eq_getElem hxK, hk]
      exact .tree _ rfl
    | false =>
      have ht := tail (by simp [c0]) (by simp [hk])
      by_cases n4 : to ≤ (x : Int)
      · rw [hbad i hlt (by rw [ht]; simp; omega)]
        simp only [go_sem, List.replicate_succ, Nat.reducePow, Nat.reduceLeDiff, ↓reduceIte, reduceCtorEq, Nat.reduceLT, Nat.reduceEqDiff, Nat.reduceAdd, Nat.reduceSub, Nat.reduceMul, Int.reduceToNat, c0', c0'', n1, n2, n4, g2, g3, List.getElem?_map, List.getElem?_eq_getElem hxK, hk]
        exact .tree _ rfl
      have w2' := w2 (by omega)
      by_cases n5 : lines < to - (x : Int)
      · rw [hbad i hlt (by rw [ht]; simp; omega)]
        simp only [go_sem, List.replicate_succ, Nat.reducePow, Nat.reduceLeDiff, ↓reduceIte, reduceCtorEq, Nat.reduceLT, Nat.reduceEqDiff, Nat.reduceAdd, Nat.reduceSub, Nat.reduceMul, Int.reduceToNat, c0', c0'', n1, n2, n4, n5, w2', g2, g3, List.getElem?_map, List.getElem?_eq_getElem hxK, hk]
        exact .tree _ rfl
      · simp only [go_sem, List.replicate_succ, Nat.reducePow, Nat.reduceLeDiff, ↓reduceIte, reduceCtorEq, Nat.reduceLT, Nat.reduceEqDiff, Nat.reduceAdd, Nat.reduceSub, Nat.reduceMul, Int.reduceToNat, c0', c0'', n1, n2, n4, n5, w2', g2, g3, List.getElem?_map, List.getElem?_eq_getElem hxK, hk]
        obtain ⟨s', k1, k2⟩ := fin (by rw [ht]; simp; omega)
        exact ⟨s', WkE.trans (WkE.keep (by simp only [go_sem, List.replicate_succ, Nat.reducePow, Nat.reduceLeDiff, ↓reduceIte, reduceCtorEq, Nat.reduceLT, Nat.reduceEqDiff, Nat.reduceAdd, Nat.reduceSub, Nat.reduceMul, Int.reduceToNat])) k1, k2⟩
end Go.Proofs.Ytehelanfgepcmaa
