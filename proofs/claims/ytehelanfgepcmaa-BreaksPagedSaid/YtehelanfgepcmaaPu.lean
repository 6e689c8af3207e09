/- Lines made of numbers, and the first numbers of a list, by contract. -/
import Derived.Test.YtehelanfgepcmaaPt
set_option linter.unusedSimpArgs false
set_option linter.unusedVariables false
set_option linter.unusedSectionVars false
namespace Go.Proofs.Ytehelanfgepcmaa
open Go.RowKit Dak
/-- dactylref11.Keep -/
def keepL (l : List Int) (most : Int) : List Bool := (List.range (atL l 0 (most + 1)).toNat).map fun i : Nat => decide (atL l (1 + i) 3 = 0)
set_option maxRecDepth 100000 in
set_option maxHeartbeats 4000000 in
theorem Keep_s (l : List Int) (most : Int) (hl : ∀ x ∈ l, I64 x) (h1 : 0 ≤ most) (h2 : most ≤ 100) : Ctr Try.prog 22 [vints l, vi most] (vbools (keepL l most)) := by
  refine specC f22 (by simp) fun F0 w0 => ?_
  have hA : ∀ i m : Int, 1 ≤ m → m ≤ 1000 → Ctr Try.prog 34 [vints l, vi i, vi m] (vi (atL l i m)) := fun i m h1 h2 => At_s l i m hl ⟨by omega, by omega⟩
  have hn := atL_bd l 0 (most + 1) (by omega)
  have ew : IntKind.i64.wrap (most + 1) = most + 1 := wrap_id (by omega) (by omega)
  obtain ⟨N, hN⟩ : ∃ N : Nat, atL l 0 (most + 1) = N := ⟨(atL l 0 (most + 1)).toNat, by omega⟩
  have hA0 := hA 0 (most + 1) (by omega) (by omega)
  rw [hN] at hn hA0
  obtain ⟨G, hG⟩ : ∃ G : Nat → List Bool, G = fun i => (List.range i).map fun i : Nat => decide (atL l (1 + i) 3 = 0) := ⟨_, rfl⟩
  have hK : keepL l most = G N := by rw [keepL, hN, hG]; rfl
  have hGl : ∀ i, (G i).length = i := fun i => by rw [hG]; simp
  have hGs : ∀ i, G (i + 1) = G i ++ [decide (atL l (1 + i) 3 = 0)] := fun i => by rw [hG]; simp [List.range_succ]
  rw [hK]
  clear hK hN
  unfold c22
  refine CwpE.cut (st := ⟨[(0, vints l), (1, vi most)], []⟩) ?_ ?_
  · simp only [go_sem, List.replicate_succ, Nat.reducePow, Nat.reduceLeDiff, ↓reduceIte, reduceCtorEq, Nat.reduceLT, Nat.reduceEqDiff, Nat.reduceAdd, Nat.reduceSub, Nat.reduceMul, Int.reduceToNat]
    exact ⟨_, WkE.keep (by simp only [go_sem, List.replicate_succ, Nat.reducePow, Nat.reduceLeDiff, ↓reduceIte, reduceCtorEq, Nat.reduceLT, Nat.reduceEqDiff, Nat.reduceAdd, Nat.reduceSub, Nat.reduceMul, Int.reduceToNat]), rfl⟩
  refine CwpE.cut (st := ⟨[(0, vints l), (1, vi most), (5, .val (.slice none 0 0))], []⟩) ?_ ?_
  · simp only [go_sem, List.replicate_succ, Nat.reducePow, Nat.reduceLeDiff, ↓reduceIte, reduceCtorEq, Nat.reduceLT, Nat.reduceEqDiff, Nat.reduceAdd, Nat.reduceSub, Nat.reduceMul, Int.reduceToNat]
    exact ⟨_, WkE.keep (by simp only [go_sem, List.replicate_succ, Nat.reducePow, Nat.reduceLeDiff, ↓reduceIte, reduceCtorEq, Nat.reduceLT, Nat.reduceEqDiff, Nat.reduceAdd, Nat.reduceSub, Nat.reduceMul, Int.reduceToNat]), rfl⟩
  refine CwpE.cut (st := ⟨[(5, vbools (G N))], []⟩) ?_ ?_
  · simp only [go_sem, List.replicate_succ, Nat.reducePow, Nat.reduceLeDiff, ↓reduceIte, reduceCtorEq, Nat.reduceLT, Nat.reduceEqDiff, Nat.reduceAdd, Nat.reduceSub, Nat.reduceMul, Int.reduceToNat]
    refine loopXC 0 (fun m s => ∃ i : Nat, m = N - i ∧ i ≤ N ∧ s = ⟨[(0, vints l), (1, vi most), (5, ownV 0 i), (6, vi i)], [.arr i 1 4 ((G i).map vb)]⟩)
      (fun s => s = ⟨[(5, vbools (G N))], []⟩) N
      ⟨[(0, vints l), (1, vi most), (5, ownV 0 0), (6, vi (0 : Nat))], [.arr 0 1 4 []]⟩ ((WkE.nil 5 1 4 (by omega) rfl).trans (WkE.keep (by simp only [go_sem, List.replicate_succ, Nat.reducePow, Nat.reduceLeDiff, ↓reduceIte, reduceCtorEq, Nat.reduceLT, Nat.reduceEqDiff, Nat.reduceAdd, Nat.reduceSub, Nat.reduceMul, Int.reduceToNat]; rfl))) ⟨0, by omega, by omega, by rw [hG]; rfl⟩ ?_ ?_
    rotate_left
    · rintro s rfl
      simp only [go_sem, List.replicate_succ, Nat.reducePow, Nat.reduceLeDiff, ↓reduceIte, reduceCtorEq, Nat.reduceLT, Nat.reduceEqDiff, Nat.reduceAdd, Nat.reduceSub, Nat.reduceMul, Int.reduceToNat]
      exact ⟨_, .refl _ _, rfl⟩
    rintro m s ⟨i, rfl, hi, rfl⟩
    refine CwpE.vc ?_
    by_cases hlt : i < N
    rotate_left
    · obtain rfl : i = N := by omega
      simp only [go_sem, List.replicate_succ, Nat.reducePow, Nat.reduceLeDiff, ↓reduceIte, reduceCtorEq, Nat.reduceLT, Nat.reduceEqDiff, Nat.reduceAdd, Nat.reduceSub, Nat.reduceMul, Int.reduceToNat, ew]
      refine callT hA0 rfl ?_
      simp only [go_sem, List.replicate_succ, Nat.reducePow, Nat.reduceLeDiff, ↓reduceIte, reduceCtorEq, Nat.reduceLT, Nat.reduceEqDiff, Nat.reduceAdd, Nat.reduceSub, Nat.reduceMul, Int.reduceToNat, Int.lt_irrefl]
      refine ⟨_, (WkE.freeze 5 0 i 0 i 1 4 ((G i).map vb) (by omega) rfl rfl (by simp [hGl]) (by simp [List.all_map, AV.isT, AV.isT1])).trans (WkE.round ?_ (by simp [AV.inn, AV.inn1]) (by simp) (by simp)), rfl⟩
      simp only [go_sem, List.replicate_succ, Nat.reducePow, Nat.reduceLeDiff, ↓reduceIte, reduceCtorEq, Nat.reduceLT, Nat.reduceEqDiff, Nat.reduceAdd, Nat.reduceSub, Nat.reduceMul, Int.reduceToNat]
      exact congrArg (AV.list 1) (List.take_of_length_le (by simp [hGl]))
    have g : (i : Int) < (N : Int) := by omega
    have w1 : IntKind.i64.wrap (1 + (i : Int)) = 1 + (i : Int) := wrap_id (by omega) (by omega)
    have w2 : IntKind.i64.wrap ((i : Int) + 1) = ((i + 1 : Nat) : Int) := by rw [wrap_id (by omega) (by omega)]; omega
    have hb : (i + 1) * 1 ≤ 140737488355328 := by omega
    have htk : List.take i ((G i).map vb) = (G i).map vb := List.take_of_length_le (by simp [hGl])
    have hgl := hGl i
    simp only [go_sem, List.replicate_succ, Nat.reducePow, Nat.reduceLeDiff, ↓reduceIte, reduceCtorEq, Nat.reduceLT, Nat.reduceEqDiff, Nat.reduceAdd, Nat.reduceSub, Nat.reduceMul, Int.reduceToNat, ew]
    refine callT hA0 rfl ?_
    simp only [go_sem, List.replicate_succ, Nat.reducePow, Nat.reduceLeDiff, ↓reduceIte, reduceCtorEq, Nat.reduceLT, Nat.reduceEqDiff, Nat.reduceAdd, Nat.reduceSub, Nat.reduceMul, Int.reduceToNat, g, w1]
    refine callT (hA (1 + i) 3 (by omega) (by omega)) rfl ?_
    simp only [go_sem, List.replicate_succ, Nat.reducePow, Nat.reduceLeDiff, ↓reduceIte, reduceCtorEq, Nat.reduceLT, Nat.reduceEqDiff, Nat.reduceAdd, Nat.reduceSub, Nat.reduceMul, Int.reduceToNat, w2, hb, htk, hgl]
    refine ⟨N - (i + 1), ⟨[(0, vints l), (1, vi most), (5, ownV 0 (i + 1)), (6, vi (i + 1 : Nat))], [.arr (i + 1) 1 4 ((G (i + 1)).map vb)]⟩, by omega, ?_, i + 1, rfl, by omega, rfl⟩
    rw [hGs, List.map_append]
    exact WkE.keep (by simp only [go_sem, List.replicate_succ, Nat.reducePow, Nat.reduceLeDiff, ↓reduceIte, reduceCtorEq, Nat.reduceLT, Nat.reduceEqDiff, Nat.reduceAdd, Nat.reduceSub, Nat.reduceMul, Int.reduceToNat])
  refine CwpE.vc ?_
  simp only [go_sem, List.replicate_succ, Nat.reducePow, Nat.reduceLeDiff, ↓reduceIte, reduceCtorEq, Nat.reduceLT, Nat.reduceEqDiff, Nat.reduceAdd, Nat.reduceSub, Nat.reduceMul, Int.reduceToNat]
  exact .tree _ rfl
set_option maxRecDepth 100000 in
theorem Take_s (l : List Int) (m : Nat) (hm : m ≤ 1000000) : Ctr Try.prog 26 [vints l, vi m] (vints (l.take m)) := by
  refine specC f26 (by simp) fun F0 w0 => ?_
  obtain ⟨k, hk⟩ : ∃ k, min m l.length = k := ⟨_, rfl⟩
  have e : l.take m = l.take k := by rw [← hk, List.take_eq_take_min]
  have w1 : (if (m : Int) < (l.length : Int) then (m : Int) else (l.length : Int)) = (k : Int) := by split <;> omega
  have w1' : (if (l.length : Int) < (m : Int) then (l.length : Int) else (m : Int)) = (k : Int) := by split <;> omega
  have g1 : (0 : Int) ≤ (k : Int) := by omega
  have g2 : (k : Int) ≤ (l.length : Int) := by omega
  have hmin : min k l.length = k := by omega
  have hb : k * 8 ≤ 140737488355328 := by omega
  rw [e]
  refine CwpE.vc ?_
  simp only [c26, go_sem, List.replicate_succ, Nat.reducePow, Nat.reduceLeDiff, ↓reduceIte, reduceCtorEq, Nat.reduceLT, Nat.reduceEqDiff, Nat.reduceAdd, Nat.reduceSub, Nat.reduceMul, Int.reduceToNat, w1, w1', g1, g2, List.length_take, hmin, hb]
  refine .own 0 k 0 k 1 3 _ _ rfl (by simp; omega) (by simp; omega) fun i hi => ?_
  simp only [Nat.zero_add, List.getElem_take, List.getElem_map]
  exact .tree _ rfl
theorem pagesGo_bd (K : List Bool) (lines : Nat) : ∀ f a l, pagesGo K lines f a = some l → l.length ≤ f ∧ ∀ x ∈ l, x < K.length
  | 0, a, l, h => by simp [pagesGo] at h; subst h; simp
  | f + 1, a, l, h => by
    rw [pagesGo] at h
    split at h
    · rename_i ha
      split at h
      · cases h
      · cases hg : pagesGo K lines f (farL K lines a) with
        | none => rw [hg] at h; cases h
        | some l' =>
          rw [hg] at h
          simp only [Option.map_some, Option.some.injEq] at h
          subst h
          obtain ⟨h1, h2⟩ := pagesGo_bd K lines f _ l' hg
          refine ⟨by simpa using h1, fun x hx => ?_⟩
          rcases List.mem_cons.1 hx with rfl | hx
          · exact ha
          · exact h2 x hx
    · simp at h; subst h; simp
theorem pagesM_bd (K : List Bool) (lines : Int) : (pagesM K lines).2.length ≤ K.length ∧ ∀ x ∈ (pagesM K lines).2, x < K.length := by
  unfold pagesM
  split
  · simp
  · cases h : pagesGo K lines.toNat K.length 0 with
    | none => simp
    | some l => exact pagesGo_bd K lines.toNat K.length 0 l h
theorem keepL_len (l : List Int) (most : Int) (h : 0 ≤ most) : ((keepL l most).length : Int) ≤ most := by
  have := atL_bd l 0 (most + 1) (by omega)
  simp [keepL]; omega
end Go.Proofs.Ytehelanfgepcmaa
