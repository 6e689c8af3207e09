/- breaks.Pages, by contract. -/
import Derived.Test.YtehelanfgepcmaaPp
import Derived.Test.YtehelanfgepcmaaDy
set_option linter.unusedSimpArgs false
set_option linter.unusedVariables false
set_option linter.unusedSectionVars false
namespace Go.Proofs.Ytehelanfgepcmaa
open Go.RowKit Dak
def nI (l : List Nat) : List Int := l.map fun n : Nat => (n : Int)
theorem pagesGo_fuel (K : List Bool) (lines : Nat) : ∀ f f' a, K.length - a ≤ f → K.length - a ≤ f' → pagesGo K lines f a = pagesGo K lines f' a
  | 0, 0, _, _, _ => rfl
  | 0, f' + 1, a, h, _ => by rw [pagesGo, pagesGo, if_neg (by omega)]
  | f + 1, 0, a, _, h => by rw [pagesGo, pagesGo, if_neg (by omega)]
  | f + 1, f' + 1, a, h, h' => by
    rw [pagesGo, pagesGo]
    by_cases ha : a < K.length
    · have hb := (backL_ok K a (min (a + lines) K.length) (by omega) (by omega)).1
      rw [if_pos ha, if_pos ha]
      split
      · rfl
      · rename_i hne
        unfold farL at hne ⊢
        rw [pagesGo_fuel K lines f f' _ (by omega) (by omega)]
    · rw [if_neg ha, if_neg ha]
abbrev pagesAt (K : List Bool) (lines a : Nat) : Option (List Nat) := pagesGo K lines (K.length - a) a
theorem pagesAt_end {K : List Bool} {lines a : Nat} (h : ¬ a < K.length) : pagesAt K lines a = some [] := by
  unfold pagesAt
  cases K.length - a with
  | zero => rfl
  | succ n => rw [pagesGo, if_neg h]
theorem pagesAt_step {K : List Bool} {lines a : Nat} (h : a < K.length) : pagesAt K lines a = if farL K lines a = a then none else (pagesAt K lines (farL K lines a)).map (a :: ·) := by
  have hb := (backL_ok K a (min (a + lines) K.length) (by omega) (by omega)).1
  unfold pagesAt
  rw [show K.length - a = (K.length - a - 1) + 1 by omega, pagesGo, if_pos h]
  split
  · rfl
  · rename_i hne
    rw [pagesGo_fuel K lines (K.length - a - 1) (K.length - farL K lines a) _ (by unfold farL at hne ⊢; omega) (Nat.le_refl _)]
theorem pagesM_ok {K : List Bool} {lines : Int} {L : Nat} (hl : lines = (L : Int)) (h1 : 1 ≤ L) (h2 : L ≤ 1000) (h3 : K.length ≤ 4096) : pagesM K lines = match pagesAt K L 0 with | some l => (0, l) | none => (14, []) := by
  rw [pagesM, if_neg (by omega), hl, Int.toNat_natCast]; rfl
abbrev pagesV (m : Int × List Nat) : AV := .tup [vints (nI m.2), vi m.1]
set_option maxRecDepth 100000 in
set_option maxHeartbeats 4000000 in
theorem Pages_s (K : List Bool) (lines : Int) (hL : I64 lines) : Ctr Try.prog 23 [vbools K, vi lines] (pagesV (pagesM K lines)) := by
  refine specC f23 (by simp) fun F0 w0 => ?_
  by_cases c1 : lines < 1
  · have : pagesM K lines = (1, []) := by rw [pagesM, if_pos (.inl c1)]
    rw [this]
    refine CwpE.vc ?_
    simp only [c23, go_sem, List.replicate_succ, Nat.reducePow, Nat.reduceLeDiff, ↓reduceIte, reduceCtorEq, Nat.reduceLT, Nat.reduceEqDiff, Nat.reduceAdd, Nat.reduceSub, Nat.reduceMul, Int.reduceToNat, c1]
    exact .tup _ _ rfl fun i h1 h2 => match i, h1 with | 0, _ => .nil _ | 1, _ => .tree _ rfl
  by_cases c2 : 1000 < lines
  · have : pagesM K lines = (1, []) := by rw [pagesM, if_pos (.inr (.inl c2))]
    rw [this]
    refine CwpE.vc ?_
    simp only [c23, go_sem, List.replicate_succ, Nat.reducePow, Nat.reduceLeDiff, ↓reduceIte, reduceCtorEq, Nat.reduceLT, Nat.reduceEqDiff, Nat.reduceAdd, Nat.reduceSub, Nat.reduceMul, Int.reduceToNat, c1, c2]
    exact .tup _ _ rfl fun i h1 h2 => match i, h1 with | 0, _ => .nil _ | 1, _ => .tree _ rfl
  by_cases c3 : 4096 < K.length
  · have c3' : (4096 : Int) < (K.length : Int) := by omega
    have : pagesM K lines = (1, []) := by rw [pagesM, if_pos (.inr (.inr c3))]
    rw [this]
    refine CwpE.vc ?_
    simp only [c23, go_sem, List.replicate_succ, Nat.reducePow, Nat.reduceLeDiff, ↓reduceIte, reduceCtorEq, Nat.reduceLT, Nat.reduceEqDiff, Nat.reduceAdd, Nat.reduceSub, Nat.reduceMul, Int.reduceToNat, c1, c2, c3']
    exact .tup _ _ rfl fun i h1 h2 => match i, h1 with | 0, _ => .nil _ | 1, _ => .tree _ rfl
  have c3' : ¬ (4096 : Int) < (K.length : Int) := by omega
  obtain ⟨L, rfl⟩ : ∃ L : Nat, lines = L := ⟨lines.toNat, by omega⟩
  have hM := pagesM_ok (K := K) (L := L) rfl (by omega) (by omega) (by omega)
  rw [hM]
  unfold c23
  refine CwpE.cut (st := ⟨[(0, vbools K), (1, vi L)], []⟩) ?_ ?_
  · simp only [go_sem, List.replicate_succ, Nat.reducePow, Nat.reduceLeDiff, ↓reduceIte, reduceCtorEq, Nat.reduceLT, Nat.reduceEqDiff, Nat.reduceAdd, Nat.reduceSub, Nat.reduceMul, Int.reduceToNat]
    exact ⟨_, WkE.keep (by simp only [go_sem, List.replicate_succ, Nat.reducePow, Nat.reduceLeDiff, ↓reduceIte, reduceCtorEq, Nat.reduceLT, Nat.reduceEqDiff, Nat.reduceAdd, Nat.reduceSub, Nat.reduceMul, Int.reduceToNat]), rfl⟩
  refine CwpE.cut (st := ⟨[(0, vbools K), (1, vi L)], []⟩) ?_ ?_
  · simp only [go_sem, List.replicate_succ, Nat.reducePow, Nat.reduceLeDiff, ↓reduceIte, reduceCtorEq, Nat.reduceLT, Nat.reduceEqDiff, Nat.reduceAdd, Nat.reduceSub, Nat.reduceMul, Int.reduceToNat, c1, c2, c3']
    exact ⟨_, WkE.keep (by simp only [go_sem, List.replicate_succ, Nat.reducePow, Nat.reduceLeDiff, ↓reduceIte, reduceCtorEq, Nat.reduceLT, Nat.reduceEqDiff, Nat.reduceAdd, Nat.reduceSub, Nat.reduceMul, Int.reduceToNat]), rfl⟩
  refine CwpE.cut (st := ⟨[(0, vbools K), (1, vi L), (6, .val (.slice none 0 0))], []⟩) ?_ ?_
  · simp only [go_sem, List.replicate_succ, Nat.reducePow, Nat.reduceLeDiff, ↓reduceIte, reduceCtorEq, Nat.reduceLT, Nat.reduceEqDiff, Nat.reduceAdd, Nat.reduceSub, Nat.reduceMul, Int.reduceToNat]
    exact ⟨_, WkE.keep (by simp only [go_sem, List.replicate_succ, Nat.reducePow, Nat.reduceLeDiff, ↓reduceIte, reduceCtorEq, Nat.reduceLT, Nat.reduceEqDiff, Nat.reduceAdd, Nat.reduceSub, Nat.reduceMul, Int.reduceToNat]), rfl⟩
  refine CwpE.step (fun s => ∃ l, pagesAt K L 0 = some l ∧ s = ⟨[(6, vints (nI l))], []⟩) ?_ ?_
  rotate_left
  · rintro s ⟨l, hl, rfl⟩
    rw [hl]
    refine CwpE.vc ?_
    simp only [go_sem, List.replicate_succ, Nat.reducePow, Nat.reduceLeDiff, ↓reduceIte, reduceCtorEq, Nat.reduceLT, Nat.reduceEqDiff, Nat.reduceAdd, Nat.reduceSub, Nat.reduceMul, Int.reduceToNat]
    exact .tup _ _ rfl fun i h1 h2 => match i, h1 with | 0, _ => .tree _ rfl | 1, _ => .tree _ rfl
  simp only [go_sem, List.replicate_succ, Nat.reducePow, Nat.reduceLeDiff, ↓reduceIte, reduceCtorEq, Nat.reduceLT, Nat.reduceEqDiff, Nat.reduceAdd, Nat.reduceSub, Nat.reduceMul, Int.reduceToNat]
  refine loopXC 0 (fun m s => ∃ (a : Nat) (done : List Nat), m = K.length - a ∧ a ≤ K.length ∧ done.length ≤ a ∧ pagesAt K L 0 = (pagesAt K L a).map (done ++ ·) ∧ s = ⟨[(0, vbools K), (1, vi L), (6, ownV 0 done.length), (7, vi a)], [.arr done.length 1 3 ((nI done).map vi)]⟩)
    (fun s => ∃ l, pagesAt K L 0 = some l ∧ s = ⟨[(6, vints (nI l))], []⟩) K.length
    ⟨[(0, vbools K), (1, vi L), (6, ownV 0 0), (7, vi (0 : Nat))], [.arr 0 1 3 []]⟩ ((WkE.nil 6 1 3 (by omega) rfl).trans (WkE.keep (by simp only [go_sem, List.replicate_succ, Nat.reducePow, Nat.reduceLeDiff, ↓reduceIte, reduceCtorEq, Nat.reduceLT, Nat.reduceEqDiff, Nat.reduceAdd, Nat.reduceSub, Nat.reduceMul, Int.reduceToNat]; rfl))) ⟨0, [], by omega, by omega, by simp, by simp, rfl⟩ ?_ ?_
  rotate_left
  · rintro s ⟨l, hl, rfl⟩
    simp only [go_sem, List.replicate_succ, Nat.reducePow, Nat.reduceLeDiff, ↓reduceIte, reduceCtorEq, Nat.reduceLT, Nat.reduceEqDiff, Nat.reduceAdd, Nat.reduceSub, Nat.reduceMul, Int.reduceToNat]
    exact ⟨_, .refl _ _, l, hl, rfl⟩
  rintro m s ⟨a, done, rfl, ha, hd, hp, rfl⟩
  by_cases hlt : a < K.length
  rotate_left
  · have g : ¬ (a : Int) < (K.length : Int) := by omega
    rw [pagesAt_end hlt] at hp
    refine CwpE.vc ?_
    simp only [go_sem, List.replicate_succ, Nat.reducePow, Nat.reduceLeDiff, ↓reduceIte, reduceCtorEq, Nat.reduceLT, Nat.reduceEqDiff, Nat.reduceAdd, Nat.reduceSub, Nat.reduceMul, Int.reduceToNat, g]
    refine ⟨⟨[(6, vints (nI done))], []⟩, ?_, done, by simpa using hp, rfl⟩
    refine (WkE.freeze 6 0 done.length 0 done.length 1 3 ((nI done).map vi) (by omega) rfl rfl (by simp [nI]) (by simp [List.all_map, AV.isT, AV.isT1])).trans (WkE.round ?_ (by simp [AV.inn, AV.inn1]) (by simp) (by simp))
    simp only [go_sem, List.replicate_succ, Nat.reducePow, Nat.reduceLeDiff, ↓reduceIte, reduceCtorEq, Nat.reduceLT, Nat.reduceEqDiff, Nat.reduceAdd, Nat.reduceSub, Nat.reduceMul, Int.reduceToNat]
    exact congrArg (AV.list 1) (List.take_of_length_le (by simp [nI]))
  have g : (a : Int) < (K.length : Int) := by omega
  have w1 : IntKind.i64.wrap ((a : Int) + (L : Int)) = ((a + L : Nat) : Int) := by rw [wrap_id (by omega) (by omega)]; omega
  have w2 : (if (K.length : Int) < ((a + L : Nat) : Int) then (K.length : Int) else ((a + L : Nat) : Int)) = ((min (a + L) K.length : Nat) : Int) := by split <;> omega
  have w2' : (if ((a + L : Nat) : Int) < (K.length : Int) then ((a + L : Nat) : Int) else (K.length : Int)) = ((min (a + L) K.length : Nat) : Int) := by split <;> omega
  have hb8 : (done.length + 1) * 8 ≤ 140737488355328 := by omega
  obtain ⟨b1, b2, b3, b4⟩ := backL_ok K a (min (a + L) K.length) (by omega) (by omega)
  rw [pagesAt_step hlt] at hp
  unfold farL at hp
  refine CwpE.cut (st := ⟨[(0, vbools K), (1, vi L), (6, ownV 0 done.length), (7, vi a)], [.arr done.length 1 3 ((nI done).map vi)]⟩) ?_ ?_
  · simp only [go_sem, List.replicate_succ, Nat.reducePow, Nat.reduceLeDiff, ↓reduceIte, reduceCtorEq, Nat.reduceLT, Nat.reduceEqDiff, Nat.reduceAdd, Nat.reduceSub, Nat.reduceMul, Int.reduceToNat, g]
    exact ⟨_, WkE.keep (by simp only [go_sem, List.replicate_succ, Nat.reducePow, Nat.reduceLeDiff, ↓reduceIte, reduceCtorEq, Nat.reduceLT, Nat.reduceEqDiff, Nat.reduceAdd, Nat.reduceSub, Nat.reduceMul, Int.reduceToNat]), rfl⟩
  refine CwpE.block ?_
  refine CwpE.cut (st := ⟨[(0, vbools K), (1, vi L), (6, ownV 0 (done.length + 1)), (7, vi a)], [.arr (done.length + 1) 1 3 ((nI done).map vi ++ [vi a])]⟩) ?_ ?_
  · have hn : (nI done).length = done.length := by simp [nI]
    have ht : List.take done.length ((nI done).map vi) = (nI done).map vi := List.take_of_length_le (by simp [nI])
    simp only [go_sem, List.replicate_succ, Nat.reducePow, Nat.reduceLeDiff, ↓reduceIte, reduceCtorEq, Nat.reduceLT, Nat.reduceEqDiff, Nat.reduceAdd, Nat.reduceSub, Nat.reduceMul, Int.reduceToNat, hb8, hn, ht]
    exact ⟨_, WkE.keep (by simp only [go_sem, List.replicate_succ, Nat.reducePow, Nat.reduceLeDiff, ↓reduceIte, reduceCtorEq, Nat.reduceLT, Nat.reduceEqDiff, Nat.reduceAdd, Nat.reduceSub, Nat.reduceMul, Int.reduceToNat]), rfl⟩
  refine CwpE.cut (st := ⟨[(0, vbools K), (1, vi L), (6, ownV 0 (done.length + 1)), (7, vi a), (8, vi (min (a + L) K.length : Nat))], [.arr (done.length + 1) 1 3 ((nI done).map vi ++ [vi a])]⟩) ?_ ?_
  · simp only [go_sem, List.replicate_succ, Nat.reducePow, Nat.reduceLeDiff, ↓reduceIte, reduceCtorEq, Nat.reduceLT, Nat.reduceEqDiff, Nat.reduceAdd, Nat.reduceSub, Nat.reduceMul, Int.reduceToNat, w1, w2, w2']
    exact ⟨_, WkE.keep (by simp only [go_sem, List.replicate_succ, Nat.reducePow, Nat.reduceLeDiff, ↓reduceIte, reduceCtorEq, Nat.reduceLT, Nat.reduceEqDiff, Nat.reduceAdd, Nat.reduceSub, Nat.reduceMul, Int.reduceToNat]), rfl⟩
  refine CwpE.cut (st := ⟨[(0, vbools K), (1, vi L), (6, ownV 0 (done.length + 1)), (7, vi a), (8, vi (backL K a (min (a + L) K.length) : Nat))], [.arr (done.length + 1) 1 3 ((nI done).map vi ++ [vi a])]⟩) ?_ ?_
  · simp only [go_sem, List.replicate_succ, Nat.reducePow, Nat.reduceLeDiff, ↓reduceIte, reduceCtorEq, Nat.reduceLT, Nat.reduceEqDiff, Nat.reduceAdd, Nat.reduceSub, Nat.reduceMul, Int.reduceToNat]
    refine loopX 2 (fun m s => ∃ k : Nat, m = k ∧ a ≤ k ∧ k ≤ K.length ∧ backL K a k = backL K a (min (a + L) K.length) ∧ s = ⟨[(0, vbools K), (1, vi L), (6, ownV 0 (done.length + 1)), (7, vi a), (8, vi k)], [.arr (done.length + 1) 1 3 ((nI done).map vi ++ [vi a])]⟩)
      (fun s => s = ⟨[(0, vbools K), (1, vi L), (6, ownV 0 (done.length + 1)), (7, vi a), (8, vi (backL K a (min (a + L) K.length) : Nat))], [.arr (done.length + 1) 1 3 ((nI done).map vi ++ [vi a])]⟩) (min (a + L) K.length)
      _ (.refl _ _) ⟨_, rfl, by omega, by omega, rfl, rfl⟩ ?_ ?_
    rotate_left
    · rintro s rfl
      simp only [go_sem, List.replicate_succ, Nat.reducePow, Nat.reduceLeDiff, ↓reduceIte, reduceCtorEq, Nat.reduceLT, Nat.reduceEqDiff, Nat.reduceAdd, Nat.reduceSub, Nat.reduceMul, Int.reduceToNat]
      exact ⟨_, .refl _ _, rfl⟩
    rintro m s ⟨k, rfl, k1, k2, k3, rfl⟩
    by_cases h1 : m < K.length
    · have g1 : (m : Int) < (K.length : Int) := by omega
      have g0 : (0 : Int) ≤ (m : Int) := by omega
      by_cases h2 : a < m
      · have g2 : (a : Int) < (m : Int) := by omega
        cases hk : K[m] with
        | true =>
          have w3 : IntKind.i64.wrap ((m : Int) - 1) = ((m - 1 : Nat) : Int) := by rw [wrap_id (by omega) (by omega)]; omega
          simp only [go_sem, List.replicate_succ, Nat.reducePow, Nat.reduceLeDiff, ↓reduceIte, reduceCtorEq, Nat.reduceLT, Nat.reduceEqDiff, Nat.reduceAdd, Nat.reduceSub, Nat.reduceMul, Int.reduceToNat, g0, g1, g2, w3, List.getElem?_map, List.getElem?_eq_getElem h1, hk]
          refine ⟨m - 1, _, by omega, WkE.keep (env' := [(0, vbools K), (1, vi L), (6, ownV 0 (done.length + 1)), (7, vi a), (8, vi (m - 1 : Nat))]) (by simp only [go_sem, List.replicate_succ, Nat.reducePow, Nat.reduceLeDiff, ↓reduceIte, reduceCtorEq, Nat.reduceLT, Nat.reduceEqDiff, Nat.reduceAdd, Nat.reduceSub, Nat.reduceMul, Int.reduceToNat]), by omega, by omega, ?_, rfl⟩
          rw [← k3]
          conv => rhs; rw [show m = (m - 1) + 1 by omega, backL]
          rw [if_pos ⟨by omega, by omega, by rw [show m - 1 + 1 = m by omega]; simp [h1, hk]⟩]
        | false =>
          have hm : backL K a m = m := by
            conv => lhs; rw [show m = (m - 1) + 1 by omega, backL]
            rw [if_neg (by rw [show m - 1 + 1 = m by omega]; simp [h1, hk])]; omega
          rw [hm] at k3
          simp only [go_sem, List.replicate_succ, Nat.reducePow, Nat.reduceLeDiff, ↓reduceIte, reduceCtorEq, Nat.reduceLT, Nat.reduceEqDiff, Nat.reduceAdd, Nat.reduceSub, Nat.reduceMul, Int.reduceToNat, g0, g1, g2, List.getElem?_map, List.getElem?_eq_getElem h1, hk]
          rw [← k3]
          exact ⟨_, WkE.keep (by simp only [go_sem, List.replicate_succ, Nat.reducePow, Nat.reduceLeDiff, ↓reduceIte, reduceCtorEq, Nat.reduceLT, Nat.reduceEqDiff, Nat.reduceAdd, Nat.reduceSub, Nat.reduceMul, Int.reduceToNat]), rfl⟩
      · have g2 : ¬ (a : Int) < (m : Int) := by omega
        have hm : backL K a m = m := by have := backL_ok K a m k1 k2; omega
        rw [hm] at k3
        simp only [go_sem, List.replicate_succ, Nat.reducePow, Nat.reduceLeDiff, ↓reduceIte, reduceCtorEq, Nat.reduceLT, Nat.reduceEqDiff, Nat.reduceAdd, Nat.reduceSub, Nat.reduceMul, Int.reduceToNat, g1, g2]
        rw [← k3]
        exact ⟨_, WkE.keep (by simp only [go_sem, List.replicate_succ, Nat.reducePow, Nat.reduceLeDiff, ↓reduceIte, reduceCtorEq, Nat.reduceLT, Nat.reduceEqDiff, Nat.reduceAdd, Nat.reduceSub, Nat.reduceMul, Int.reduceToNat]), rfl⟩
    · have g1 : ¬ (m : Int) < (K.length : Int) := by omega
      have hm : backL K a m = m := by
        cases m with
        | zero => rfl
        | succ m => rw [backL, if_neg (by omega)]
      rw [hm] at k3
      simp only [go_sem, List.replicate_succ, Nat.reducePow, Nat.reduceLeDiff, ↓reduceIte, reduceCtorEq, Nat.reduceLT, Nat.reduceEqDiff, Nat.reduceAdd, Nat.reduceSub, Nat.reduceMul, Int.reduceToNat, g1]
      rw [← k3]
      exact ⟨_, WkE.keep (by simp only [go_sem, List.replicate_succ, Nat.reducePow, Nat.reduceLeDiff, ↓reduceIte, reduceCtorEq, Nat.reduceLT, Nat.reduceEqDiff, Nat.reduceAdd, Nat.reduceSub, Nat.reduceMul, Int.reduceToNat]), rfl⟩
  generalize backL K a (min (a + L) K.length) = gx at *
  refine CwpE.vc ?_
  by_cases e : gx = a
  · subst e
    rw [if_pos rfl] at hp
    rw [hp]
    simp only [go_sem, List.replicate_succ, Nat.reducePow, Nat.reduceLeDiff, ↓reduceIte, reduceCtorEq, Nat.reduceLT, Nat.reduceEqDiff, Nat.reduceAdd, Nat.reduceSub, Nat.reduceMul, Int.reduceToNat]
    exact .tup _ _ rfl fun i h1 h2 => match i, h1 with | 0, _ => .nil _ | 1, _ => .tree _ rfl
  · have g3 : ¬ (gx : Int) = (a : Int) := by omega
    rw [if_neg e] at hp
    simp only [go_sem, List.replicate_succ, Nat.reducePow, Nat.reduceLeDiff, ↓reduceIte, reduceCtorEq, Nat.reduceLT, Nat.reduceEqDiff, Nat.reduceAdd, Nat.reduceSub, Nat.reduceMul, Int.reduceToNat, g3]
    refine ⟨K.length - gx, ⟨[(0, vbools K), (1, vi L), (6, ownV 0 (done ++ [a]).length), (7, vi gx)], [.arr (done ++ [a]).length 1 3 ((nI (done ++ [a])).map vi)]⟩, by omega, ?_, gx, done ++ [a], rfl, by omega, by simp; omega, ?_, rfl⟩
    · simp only [nI, List.map_append, List.length_append]
      exact WkE.keep (by simp only [go_sem, List.replicate_succ, Nat.reducePow, Nat.reduceLeDiff, ↓reduceIte, reduceCtorEq, Nat.reduceLT, Nat.reduceEqDiff, Nat.reduceAdd, Nat.reduceSub, Nat.reduceMul, Int.reduceToNat])
    · rw [hp]
      cases pagesAt K L gx with
      | none => rfl
      | some l => simp
end Go.Proofs.Ytehelanfgepcmaa
