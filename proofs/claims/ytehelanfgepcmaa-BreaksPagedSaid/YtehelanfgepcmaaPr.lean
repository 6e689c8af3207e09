/- dactylref11.Pages, by contract. -/
import Derived.Test.YtehelanfgepcmaaPq
set_option linter.unusedSimpArgs false
set_option linter.unusedVariables false
set_option linter.unusedSectionVars false
namespace Go.Proofs.Ytehelanfgepcmaa
open Go.RowKit Dak
theorem IsLeast.bd {K : List Bool} {lines : Nat} {t : Nat → Int} (hT : IsLeast K lines t) : ∀ d i, i + d = K.length → -1 ≤ t i ∧ t i ≤ d := by
  intro d
  induction d using Nat.strongRecOn with
  | ind d ih =>
    intro i hi
    by_cases hn : i = K.length
    · subst hn; have := hT.last; omega
    have hb := hT.best i (by omega)
    rcases best_ex (K := K) (t := t) (i := i) (min lines (K.length - i)) with h | ⟨k, k1, k2, k3, k4, k5⟩
    · omega
    · have := ih (K.length - k) (by omega) k (by omega)
      omega
/-- A row of n + 1 numbers. -/
def lst (n : Nat) (f : Nat → Int) : List AV := (List.range (n + 1)).map fun p => vi (f p)
theorem lst_len (n : Nat) (f : Nat → Int) : (lst n f).length = n + 1 := by simp [lst]
theorem lst_get {n p : Nat} (h : p ≤ n) (f : Nat → Int) : (lst n f)[p]? = some (vi (f p)) := by simp [lst, List.getElem?_range (show p < n + 1 by omega)]
theorem lst_set {n i : Nat} (f : Nat → Int) (v : Int) : (lst n f).set i (vi v) = lst n (fun p => if p = i then v else f p) := by
  refine List.ext_getElem (by simp [lst]) fun j h1 h2 => ?_
  rw [List.getElem_set]
  simp only [lst, List.getElem_map, List.getElem_range]
  split
  · rename_i h; subst h; simp
  · rename_i h; rw [if_neg (Ne.symm h)]
theorem lst_congr {n : Nat} {f g : Nat → Int} (h : ∀ p, p ≤ n → f p = g p) : lst n f = lst n g := by
  refine List.map_congr_left fun p hp => ?_
  rw [h p (by simp at hp; omega)]
theorem lst_zero (n : Nat) : List.replicate (n + 1) (vi 0) = lst n fun _ => 0 := by
  refine List.ext_getElem (by simp [lst]) fun j h1 h2 => ?_
  simp [lst]
theorem lst_isT (n : Nat) (f : Nat → Int) : ((lst n f).all AV.isT) = true := by simp [lst, List.all_map, AV.isT, AV.isT1]
set_option maxRecDepth 100000 in
set_option maxHeartbeats 8000000 in
theorem refPages_s (K : List Bool) (lines : Int) (hL : I64 lines) : Ctr Try.prog 24 [vbools K, vi lines] (pagesV (pagesM K lines)) := by
  refine specC f24 (by simp) fun F0 w0 => ?_
  by_cases c1 : lines < 1
  · have : pagesM K lines = (1, []) := by rw [pagesM, if_pos (.inl c1)]
    rw [this]
    refine CwpE.vc ?_
    simp only [c24, go_sem, List.replicate_succ, Nat.reducePow, Nat.reduceLeDiff, ↓reduceIte, reduceCtorEq, Nat.reduceLT, Nat.reduceEqDiff, Nat.reduceAdd, Nat.reduceSub, Nat.reduceMul, Int.reduceToNat, c1]
    exact .tup _ _ rfl fun i h1 h2 => match i, h1 with | 0, _ => .nil _ | 1, _ => .tree _ rfl
  by_cases c2 : 1000 < lines
  · have : pagesM K lines = (1, []) := by rw [pagesM, if_pos (.inr (.inl c2))]
    rw [this]
    refine CwpE.vc ?_
    simp only [c24, go_sem, List.replicate_succ, Nat.reducePow, Nat.reduceLeDiff, ↓reduceIte, reduceCtorEq, Nat.reduceLT, Nat.reduceEqDiff, Nat.reduceAdd, Nat.reduceSub, Nat.reduceMul, Int.reduceToNat, c1, c2]
    exact .tup _ _ rfl fun i h1 h2 => match i, h1 with | 0, _ => .nil _ | 1, _ => .tree _ rfl
  by_cases c3 : 4096 < K.length
  · have c3' : (4096 : Int) < (K.length : Int) := by omega
    have : pagesM K lines = (1, []) := by rw [pagesM, if_pos (.inr (.inr c3))]
    rw [this]
    refine CwpE.vc ?_
    simp only [c24, go_sem, List.replicate_succ, Nat.reducePow, Nat.reduceLeDiff, ↓reduceIte, reduceCtorEq, Nat.reduceLT, Nat.reduceEqDiff, Nat.reduceAdd, Nat.reduceSub, Nat.reduceMul, Int.reduceToNat, c1, c2, c3']
    exact .tup _ _ rfl fun i h1 h2 => match i, h1 with | 0, _ => .nil _ | 1, _ => .tree _ rfl
  have c3' : ¬ (4096 : Int) < (K.length : Int) := by omega
  obtain ⟨L, rfl⟩ : ∃ L : Nat, lines = L := ⟨lines.toNat, by omega⟩
  have hM := pagesM_ok (K := K) (L := L) rfl (by omega) (by omega) (by omega)
  rw [hM]
  obtain ⟨t, hT⟩ : ∃ t, IsLeast K L t := ⟨_, leastT_ok K L⟩
  have hbd : ∀ i, i ≤ K.length → -1 ≤ t i ∧ t i ≤ 4096 := fun i hi => by have := hT.bd (K.length - i) i (by omega); omega
  obtain ⟨n, hn⟩ : ∃ n, K.length = n := ⟨_, rfl⟩
  have hbeg : ∀ k, k ≤ n → ∀ h : k < n, beg K k = !K[k] := fun k _ h => by
    have h' : ¬ k = n := by omega
    simp [beg, hn, h', h]
  have hbegn : beg K n = true := by simp [beg, hn]
  unfold c24
  refine CwpE.cut (st := ⟨[(0, vbools K), (1, vi L)], []⟩) ?_ ?_
  · as_aux_lemma =>
      simp only [go_sem, List.replicate_succ, Nat.reducePow, Nat.reduceLeDiff, ↓reduceIte, reduceCtorEq, Nat.reduceLT, Nat.reduceEqDiff, Nat.reduceAdd, Nat.reduceSub, Nat.reduceMul, Int.reduceToNat]
      exact ⟨_, WkE.keep (by simp only [go_sem, List.replicate_succ, Nat.reducePow, Nat.reduceLeDiff, ↓reduceIte, reduceCtorEq, Nat.reduceLT, Nat.reduceEqDiff, Nat.reduceAdd, Nat.reduceSub, Nat.reduceMul, Int.reduceToNat]), rfl⟩
  refine CwpE.cut (st := ⟨[(0, vbools K), (1, vi L)], []⟩) ?_ ?_
  · as_aux_lemma =>
      simp only [go_sem, List.replicate_succ, Nat.reducePow, Nat.reduceLeDiff, ↓reduceIte, reduceCtorEq, Nat.reduceLT, Nat.reduceEqDiff, Nat.reduceAdd, Nat.reduceSub, Nat.reduceMul, Int.reduceToNat, c1, c2, c3']
      exact ⟨_, WkE.keep (by simp only [go_sem, List.replicate_succ, Nat.reducePow, Nat.reduceLeDiff, ↓reduceIte, reduceCtorEq, Nat.reduceLT, Nat.reduceEqDiff, Nat.reduceAdd, Nat.reduceSub, Nat.reduceMul, Int.reduceToNat]), rfl⟩
  refine CwpE.cut (st := ⟨[(0, vbools K), (1, vi L), (6, vi n)], []⟩) ?_ ?_
  · as_aux_lemma =>
      simp only [go_sem, List.replicate_succ, Nat.reducePow, Nat.reduceLeDiff, ↓reduceIte, reduceCtorEq, Nat.reduceLT, Nat.reduceEqDiff, Nat.reduceAdd, Nat.reduceSub, Nat.reduceMul, Int.reduceToNat, hn]
      exact ⟨_, WkE.keep (by simp only [go_sem, List.replicate_succ, Nat.reducePow, Nat.reduceLeDiff, ↓reduceIte, reduceCtorEq, Nat.reduceLT, Nat.reduceEqDiff, Nat.reduceAdd, Nat.reduceSub, Nat.reduceMul, Int.reduceToNat]), rfl⟩
  have w1 : IntKind.i64.wrap ((n : Int) + 1) = ((n + 1 : Nat) : Int) := by rw [wrap_id (by omega) (by omega)]; omega
  have w2 : IntKind.i64.wrap ((n : Int) - 1) = (n : Int) - 1 := wrap_id (by omega) (by omega)
  refine CwpE.cut (st := ⟨[(0, vbools K), (1, vi L), (6, vi n), (7, ownV 0 (n + 1))], [.arr (n + 1) 1 3 (lst n fun _ => 0)]⟩) ?_ ?_
  · have q1 : (0 : Int) ≤ ((n + 1 : Nat) : Int) := by omega
    have q2 : ((8 : Nat) : Int) * ((n + 1 : Nat) : Int) ≤ 281474976710656 := by omega
    have q3 : ((n + 1 : Nat) : Int) ≤ 9223372036854775807 := by omega
    have q4 : ((n + 1 : Nat) : Int) ≤ ((n + 1 : Nat) : Int) := Int.le_refl _
    as_aux_lemma =>
      simp only [go_sem, Nat.reducePow, Nat.reduceLeDiff, ↓reduceIte, reduceCtorEq, Nat.reduceLT, Nat.reduceEqDiff, Nat.reduceAdd, Nat.reduceSub, Nat.reduceMul, Int.reduceToNat, w1, q1, q2, q3, q4, lst_zero]
      exact ⟨_, WkE.keep (by simp only [go_sem, List.replicate_succ, Nat.reducePow, Nat.reduceLeDiff, ↓reduceIte, reduceCtorEq, Nat.reduceLT, Nat.reduceEqDiff, Nat.reduceAdd, Nat.reduceSub, Nat.reduceMul, Int.reduceToNat]), rfl⟩
  -- the table
  refine CwpE.cut (st := ⟨[(0, vbools K), (1, vi L), (6, vi n), (7, ownV 0 (n + 1))], [.arr (n + 1) 1 3 (lst n t)]⟩) ?_ ?_
  · simp only [go_sem, List.replicate_succ, Nat.reducePow, Nat.reduceLeDiff, ↓reduceIte, reduceCtorEq, Nat.reduceLT, Nat.reduceEqDiff, Nat.reduceAdd, Nat.reduceSub, Nat.reduceMul, Int.reduceToNat, w2]
    refine loopXC 0 (fun m s => ∃ j : Nat, m = j ∧ j ≤ n ∧ s = ⟨[(0, vbools K), (1, vi L), (6, vi n), (7, ownV 0 (n + 1)), (8, vi ((j : Int) - 1))], [.arr (n + 1) 1 3 (lst n fun p => if j ≤ p then t p else 0)]⟩)
      (fun s => s = ⟨[(0, vbools K), (1, vi L), (6, vi n), (7, ownV 0 (n + 1))], [.arr (n + 1) 1 3 (lst n t)]⟩) n
      ⟨[(0, vbools K), (1, vi L), (6, vi n), (7, ownV 0 (n + 1)), (8, vi ((n : Int) - 1))], [.arr (n + 1) 1 3 (lst n fun _ => 0)]⟩ (WkE.keep (by simp only [go_sem, List.replicate_succ, Nat.reducePow, Nat.reduceLeDiff, ↓reduceIte, reduceCtorEq, Nat.reduceLT, Nat.reduceEqDiff, Nat.reduceAdd, Nat.reduceSub, Nat.reduceMul, Int.reduceToNat])) ⟨n, rfl, Nat.le_refl _, ?_⟩ ?_ ?_
    · have : (lst n fun _ => (0 : Int)) = lst n fun p => if n ≤ p then t p else 0 := lst_congr fun p hp => by
        split
        · obtain rfl : p = n := by omega
          have := hT.last; rw [hn] at this; exact this.symm
        · rfl
      rw [this]
    rotate_left
    · rintro s rfl
      simp only [go_sem, List.replicate_succ, Nat.reducePow, Nat.reduceLeDiff, ↓reduceIte, reduceCtorEq, Nat.reduceLT, Nat.reduceEqDiff, Nat.reduceAdd, Nat.reduceSub, Nat.reduceMul, Int.reduceToNat]
      exact ⟨_, .refl _ _, rfl⟩
    rintro m s ⟨j, rfl, hj, rfl⟩
    cases m with
    | zero =>
      have g : ¬ (0 : Int) ≤ ((0 : Nat) : Int) - 1 := by omega
      refine CwpE.vc ?_
      simp only [go_sem, List.replicate_succ, Nat.reducePow, Nat.reduceLeDiff, ↓reduceIte, reduceCtorEq, Nat.reduceLT, Nat.reduceEqDiff, Nat.reduceAdd, Nat.reduceSub, Nat.reduceMul, Int.reduceToNat, g]
      have : (lst n fun p => if 0 ≤ p then t p else 0) = lst n t := lst_congr fun p _ => by simp
      rw [← this]
      exact ⟨_, WkE.keep (by simp only [go_sem, List.replicate_succ, Nat.reducePow, Nat.reduceLeDiff, ↓reduceIte, reduceCtorEq, Nat.reduceLT, Nat.reduceEqDiff, Nat.reduceAdd, Nat.reduceSub, Nat.reduceMul, Int.reduceToNat]), rfl⟩
    | succ i =>
      have ei : ((i + 1 : Nat) : Int) - 1 = (i : Int) := by omega
      rw [ei]
      have g0 : (0 : Int) ≤ (i : Int) := by omega
      have g1 : (i : Int) < ((n + 1 : Nat) : Int) := by omega
      have w3 : IntKind.i64.wrap ((i : Int) + 1) = ((i + 1 : Nat) : Int) := by rw [wrap_id (by omega) (by omega)]; omega
      have w4 : IntKind.i64.wrap ((i : Int) - 1) = (i : Int) - 1 := wrap_id (by omega) (by omega)
      have w5 : IntKind.i64.wrap ((i : Int) + (L : Int)) = ((i + L : Nat) : Int) := by rw [wrap_id (by omega) (by omega)]; omega
      refine CwpE.cut (st := ⟨[(0, vbools K), (1, vi L), (6, vi n), (7, ownV 0 (n + 1)), (8, vi i)], [.arr (n + 1) 1 3 (lst n fun p => if i + 1 ≤ p then t p else 0)]⟩) ?_ ?_
      · as_aux_lemma =>
          simp only [go_sem, List.replicate_succ, Nat.reducePow, Nat.reduceLeDiff, ↓reduceIte, reduceCtorEq, Nat.reduceLT, Nat.reduceEqDiff, Nat.reduceAdd, Nat.reduceSub, Nat.reduceMul, Int.reduceToNat, g0]
          exact ⟨_, WkE.keep (by simp only [go_sem, List.replicate_succ, Nat.reducePow, Nat.reduceLeDiff, ↓reduceIte, reduceCtorEq, Nat.reduceLT, Nat.reduceEqDiff, Nat.reduceAdd, Nat.reduceSub, Nat.reduceMul, Int.reduceToNat]), rfl⟩
      refine CwpE.seqJ (fun s => s = ⟨[(0, vbools K), (1, vi L), (6, vi n), (7, ownV 0 (n + 1)), (8, vi i)], [.arr (n + 1) 1 3 (lst n fun p => if i ≤ p then t p else 0)]⟩) (CwpE.block ?_) ?_
      rotate_left
      · rintro s rfl
        refine CwpE.vc ?_
        simp only [go_sem, List.replicate_succ, Nat.reducePow, Nat.reduceLeDiff, ↓reduceIte, reduceCtorEq, Nat.reduceLT, Nat.reduceEqDiff, Nat.reduceAdd, Nat.reduceSub, Nat.reduceMul, Int.reduceToNat, w4]
        exact ⟨i, _, by omega, WkE.keep (env' := [(0, vbools K), (1, vi L), (6, vi n), (7, ownV 0 (n + 1)), (8, vi ((i : Int) - 1))]) (by simp only [go_sem, List.replicate_succ, Nat.reducePow, Nat.reduceLeDiff, ↓reduceIte, reduceCtorEq, Nat.reduceLT, Nat.reduceEqDiff, Nat.reduceAdd, Nat.reduceSub, Nat.reduceMul, Int.reduceToNat]), by omega, rfl⟩
      obtain ⟨F, hF⟩ : ∃ F : Nat → Nat → Int, F = fun m p => if p = i then bestGo K t i m else if i + 1 ≤ p then t p else 0 := ⟨_, rfl⟩
      have hset : ∀ m v, (lst n (F m)).set i (vi v) = lst n (fun p => if p = i then v else if i + 1 ≤ p then t p else 0) := fun m v => by
        rw [lst_set]
        refine lst_congr fun p _ => ?_
        rw [hF]
        dsimp only
        split <;> rfl
      refine CwpE.cut (st := ⟨[(0, vbools K), (1, vi L), (6, vi n), (7, ownV 0 (n + 1)), (8, vi i)], [.arr (n + 1) 1 3 (lst n (F 0))]⟩) ?_ ?_
      · have h0 : (lst n fun p => if i + 1 ≤ p then t p else 0).set i (vi (-1)) = lst n (F 0) := by rw [lst_set, hF]; rfl
        as_aux_lemma =>
          simp only [go_sem, List.replicate_succ, Nat.reducePow, Nat.reduceLeDiff, ↓reduceIte, reduceCtorEq, Nat.reduceLT, Nat.reduceEqDiff, Nat.reduceAdd, Nat.reduceSub, Nat.reduceMul, Int.reduceToNat, g0, g1, lst_len, lst_get (show i ≤ n by omega), h0]
          exact ⟨_, WkE.keep (by simp only [go_sem, List.replicate_succ, Nat.reducePow, Nat.reduceLeDiff, ↓reduceIte, reduceCtorEq, Nat.reduceLT, Nat.reduceEqDiff, Nat.reduceAdd, Nat.reduceSub, Nat.reduceMul, Int.reduceToNat]), rfl⟩
      refine CwpE.cut (st := ⟨[(0, vbools K), (1, vi L), (6, vi n), (7, ownV 0 (n + 1)), (8, vi i), (9, vi (i + 1 : Nat))], [.arr (n + 1) 1 3 (lst n (F 0))]⟩) ?_ ?_
      · as_aux_lemma =>
          simp only [go_sem, List.replicate_succ, Nat.reducePow, Nat.reduceLeDiff, ↓reduceIte, reduceCtorEq, Nat.reduceLT, Nat.reduceEqDiff, Nat.reduceAdd, Nat.reduceSub, Nat.reduceMul, Int.reduceToNat, w3]
          exact ⟨_, WkE.keep (by simp only [go_sem, List.replicate_succ, Nat.reducePow, Nat.reduceLeDiff, ↓reduceIte, reduceCtorEq, Nat.reduceLT, Nat.reduceEqDiff, Nat.reduceAdd, Nat.reduceSub, Nat.reduceMul, Int.reduceToNat]), rfl⟩
      refine CwpE.block ?_
      refine loopXC 2 (fun m' s => ∃ m : Nat, m' = n - i - m ∧ m ≤ min L (n - i) ∧ s = ⟨[(0, vbools K), (1, vi L), (6, vi n), (7, ownV 0 (n + 1)), (8, vi i), (9, vi (i + 1 + m : Nat))], [.arr (n + 1) 1 3 (lst n (F m))]⟩)
        (fun s => s = ⟨[(0, vbools K), (1, vi L), (6, vi n), (7, ownV 0 (n + 1)), (8, vi i)], [.arr (n + 1) 1 3 (lst n fun p => if i ≤ p then t p else 0)]⟩) (n - i) _ (.refl _ _) ⟨0, by omega, by omega, rfl⟩ ?_ ?_
      rotate_left
      · rintro s rfl
        simp only [go_sem, List.replicate_succ, Nat.reducePow, Nat.reduceLeDiff, ↓reduceIte, reduceCtorEq, Nat.reduceLT, Nat.reduceEqDiff, Nat.reduceAdd, Nat.reduceSub, Nat.reduceMul, Int.reduceToNat]
        exact ⟨_, .refl _ _, rfl⟩
      rintro m' s ⟨m, rfl, hm, rfl⟩
      have hfin : m = min L (n - i) → lst n (F m) = lst n fun p => if i ≤ p then t p else 0 := fun e => lst_congr fun p _ => by
        have := hT.best i (by omega)
        rw [hn, ← e] at this
        rw [hF]
        dsimp only
        by_cases h1 : p = i
        · rw [if_pos h1, if_pos (by omega), h1, this]
        · rw [if_neg h1]
          by_cases h2 : i + 1 ≤ p
          · rw [if_pos h2, if_pos (by omega)]
          · rw [if_neg h2, if_neg (by omega)]
      by_cases h1 : i + 1 + m ≤ n
      rotate_left
      · have q1 : ¬ ((i + 1 + m : Nat) : Int) ≤ (n : Int) := by omega
        refine CwpE.vc ?_
        simp only [go_sem, List.replicate_succ, Nat.reducePow, Nat.reduceLeDiff, ↓reduceIte, reduceCtorEq, Nat.reduceLT, Nat.reduceEqDiff, Nat.reduceAdd, Nat.reduceSub, Nat.reduceMul, Int.reduceToNat, q1]
        rw [← hfin (by omega)]
        exact ⟨_, WkE.keep (by simp only [go_sem, List.replicate_succ, Nat.reducePow, Nat.reduceLeDiff, ↓reduceIte, reduceCtorEq, Nat.reduceLT, Nat.reduceEqDiff, Nat.reduceAdd, Nat.reduceSub, Nat.reduceMul, Int.reduceToNat]), rfl⟩
      have q1 : ((i + 1 + m : Nat) : Int) ≤ (n : Int) := by omega
      by_cases h2 : m < L
      rotate_left
      · have q2 : ¬ ((i + 1 + m : Nat) : Int) ≤ ((i + L : Nat) : Int) := by omega
        refine CwpE.vc ?_
        simp only [go_sem, List.replicate_succ, Nat.reducePow, Nat.reduceLeDiff, ↓reduceIte, reduceCtorEq, Nat.reduceLT, Nat.reduceEqDiff, Nat.reduceAdd, Nat.reduceSub, Nat.reduceMul, Int.reduceToNat, q1, q2, w5]
        rw [← hfin (by omega)]
        exact ⟨_, WkE.keep (by simp only [go_sem, List.replicate_succ, Nat.reducePow, Nat.reduceLeDiff, ↓reduceIte, reduceCtorEq, Nat.reduceLT, Nat.reduceEqDiff, Nat.reduceAdd, Nat.reduceSub, Nat.reduceMul, Int.reduceToNat]), rfl⟩
      have q2 : ((i + 1 + m : Nat) : Int) ≤ ((i + L : Nat) : Int) := by omega
      refine CwpE.cut (st := ⟨[(0, vbools K), (1, vi L), (6, vi n), (7, ownV 0 (n + 1)), (8, vi i), (9, vi (i + 1 + m : Nat))], [.arr (n + 1) 1 3 (lst n (F m))]⟩) ?_ ?_
      · as_aux_lemma =>
          simp only [go_sem, List.replicate_succ, Nat.reducePow, Nat.reduceLeDiff, ↓reduceIte, reduceCtorEq, Nat.reduceLT, Nat.reduceEqDiff, Nat.reduceAdd, Nat.reduceSub, Nat.reduceMul, Int.reduceToNat, q1, q2, w5]
          exact ⟨_, WkE.keep (by simp only [go_sem, List.replicate_succ, Nat.reducePow, Nat.reduceLeDiff, ↓reduceIte, reduceCtorEq, Nat.reduceLT, Nat.reduceEqDiff, Nat.reduceAdd, Nat.reduceSub, Nat.reduceMul, Int.reduceToNat]), rfl⟩
      have w6 : IntKind.i64.wrap (((i + 1 + m : Nat) : Int) + 1) = ((i + 1 + (m + 1) : Nat) : Int) := by rw [wrap_id (by omega) (by omega)]; omega
      refine CwpE.seqJ (fun s => s = ⟨[(0, vbools K), (1, vi L), (6, vi n), (7, ownV 0 (n + 1)), (8, vi i), (9, vi (i + 1 + m : Nat))], [.arr (n + 1) 1 3 (lst n (F (m + 1)))]⟩) (CwpE.block ?_) ?_
      rotate_left
      · rintro s rfl
        refine CwpE.vc ?_
        simp only [go_sem, List.replicate_succ, Nat.reducePow, Nat.reduceLeDiff, ↓reduceIte, reduceCtorEq, Nat.reduceLT, Nat.reduceEqDiff, Nat.reduceAdd, Nat.reduceSub, Nat.reduceMul, Int.reduceToNat, w6]
        exact ⟨n - i - (m + 1), _, by omega, WkE.keep (env' := [(0, vbools K), (1, vi L), (6, vi n), (7, ownV 0 (n + 1)), (8, vi i), (9, vi (i + 1 + (m + 1) : Nat))]) (by simp only [go_sem, List.replicate_succ, Nat.reducePow, Nat.reduceLeDiff, ↓reduceIte, reduceCtorEq, Nat.reduceLT, Nat.reduceEqDiff, Nat.reduceAdd, Nat.reduceSub, Nat.reduceMul, Int.reduceToNat]), m + 1, rfl, by omega, rfl⟩
      refine CwpE.cut (st := ⟨[(0, vbools K), (1, vi L), (6, vi n), (7, ownV 0 (n + 1)), (8, vi i), (9, vi (i + 1 + m : Nat)), (10, vb (beg K (i + 1 + m)))], [.arr (n + 1) 1 3 (lst n (F m))]⟩) ?_ ?_
      · by_cases h3 : i + 1 + m = n
        · have q3 : (((i + 1 + m : Nat) : Int) = (n : Int)) = True := eq_true (by omega)
          have q4 : beg K (i + 1 + m) = true := by rw [h3]; exact hbegn
          as_aux_lemma =>
            simp only [go_sem, List.replicate_succ, Nat.reducePow, Nat.reduceLeDiff, ↓reduceIte, reduceCtorEq, Nat.reduceLT, Nat.reduceEqDiff, Nat.reduceAdd, Nat.reduceSub, Nat.reduceMul, Int.reduceToNat, q3, q4]
            exact ⟨_, WkE.keep (by simp only [go_sem, List.replicate_succ, Nat.reducePow, Nat.reduceLeDiff, ↓reduceIte, reduceCtorEq, Nat.reduceLT, Nat.reduceEqDiff, Nat.reduceAdd, Nat.reduceSub, Nat.reduceMul, Int.reduceToNat]), rfl⟩
        · have q3 : ¬ ((i + 1 + m : Nat) : Int) = (n : Int) := by omega
          have h4 : i + 1 + m < K.length := by omega
          have q4 := hbeg (i + 1 + m) (by omega) (by omega)
          have q5 : (if ((i + 1 + m : Nat) : Int) < (n : Int) - 1 then ((i + 1 + m : Nat) : Int) else (n : Int) - 1) = ((i + 1 + m : Nat) : Int) := by split <;> omega
          have q5' : (if (n : Int) - 1 < ((i + 1 + m : Nat) : Int) then (n : Int) - 1 else ((i + 1 + m : Nat) : Int)) = ((i + 1 + m : Nat) : Int) := by split <;> omega
          have q6 : (0 : Int) ≤ ((i + 1 + m : Nat) : Int) := by omega
          have q7 : ((i + 1 + m : Nat) : Int) < (K.length : Int) := by omega
          as_aux_lemma =>
            simp only [go_sem, List.replicate_succ, Nat.reducePow, Nat.reduceLeDiff, ↓reduceIte, reduceCtorEq, Nat.reduceLT, Nat.reduceEqDiff, Nat.reduceAdd, Nat.reduceSub, Nat.reduceMul, Int.reduceToNat, q3, q4, q5, q5', q6, q7, w2, List.getElem?_map, List.getElem?_eq_getElem h4]
            exact ⟨_, WkE.keep (by simp only [go_sem, List.replicate_succ, Nat.reducePow, Nat.reduceLeDiff, ↓reduceIte, reduceCtorEq, Nat.reduceLT, Nat.reduceEqDiff, Nat.reduceAdd, Nat.reduceSub, Nat.reduceMul, Int.reduceToNat]), rfl⟩
      have g2 : (0 : Int) ≤ ((i + 1 + m : Nat) : Int) := by omega
      have g3 : ((i + 1 + m : Nat) : Int) < ((n + 1 : Nat) : Int) := by omega
      have Fk : F m (i + 1 + m) = t (i + 1 + m) := by rw [hF]; dsimp only; rw [if_neg (by omega), if_pos (by omega)]
      have Fi : F m i = bestGo K t i m := by rw [hF]; dsimp only; rw [if_pos rfl]
      have hb1 := hbd (i + 1 + m) (by omega)
      have w7 : IntKind.i64.wrap (t (i + 1 + m) + 1) = t (i + 1 + m) + 1 := wrap_id (by omega) (by omega)
      have hs : bestGo K t i (m + 1) = if beg K (i + 1 + m) = true ∧ 0 ≤ t (i + 1 + m) ∧ (bestGo K t i m < 0 ∨ t (i + 1 + m) + 1 < bestGo K t i m) then t (i + 1 + m) + 1 else bestGo K t i m := by
        rw [bestGo, show i + m + 1 = i + 1 + m by omega]
      have no : (bestGo K t i (m + 1) = bestGo K t i m) → lst n (F m) = lst n (F (m + 1)) := fun e => lst_congr fun p _ => by rw [hF]; dsimp only; rw [e]
      have yes : (bestGo K t i (m + 1) = t (i + 1 + m) + 1) → (lst n (F m)).set i (vi (t (i + 1 + m) + 1)) = lst n (F (m + 1)) := fun e => by rw [hset, hF]; dsimp only; rw [e]
      refine CwpE.vc ?_
      cases hbk : beg K (i + 1 + m) with
      | false =>
        rw [if_neg (by rw [hbk]; simp)] at hs
        as_aux_lemma =>
          simp only [go_sem, List.replicate_succ, Nat.reducePow, Nat.reduceLeDiff, ↓reduceIte, reduceCtorEq, Nat.reduceLT, Nat.reduceEqDiff, Nat.reduceAdd, Nat.reduceSub, Nat.reduceMul, Int.reduceToNat]
          rw [no hs]
          exact ⟨_, WkE.keep (by simp only [go_sem, List.replicate_succ, Nat.reducePow, Nat.reduceLeDiff, ↓reduceIte, reduceCtorEq, Nat.reduceLT, Nat.reduceEqDiff, Nat.reduceAdd, Nat.reduceSub, Nat.reduceMul, Int.reduceToNat]), rfl⟩
      | true =>
        by_cases h5 : 0 ≤ t (i + 1 + m)
        · by_cases h6 : bestGo K t i m < 0
          · rw [if_pos ⟨hbk, h5, .inl h6⟩] at hs
            as_aux_lemma =>
              simp only [go_sem, List.replicate_succ, Nat.reducePow, Nat.reduceLeDiff, ↓reduceIte, reduceCtorEq, Nat.reduceLT, Nat.reduceEqDiff, Nat.reduceAdd, Nat.reduceSub, Nat.reduceMul, Int.reduceToNat, g0, g1, g2, g3, lst_len, lst_get (show i ≤ n by omega), lst_get (show i + 1 + m ≤ n by omega), Fk, Fi, h5, h6, w7]
              rw [yes hs]
              exact ⟨_, WkE.keep (by simp only [go_sem, List.replicate_succ, Nat.reducePow, Nat.reduceLeDiff, ↓reduceIte, reduceCtorEq, Nat.reduceLT, Nat.reduceEqDiff, Nat.reduceAdd, Nat.reduceSub, Nat.reduceMul, Int.reduceToNat]), rfl⟩
          · by_cases h7 : t (i + 1 + m) + 1 < bestGo K t i m
            · rw [if_pos ⟨hbk, h5, .inr h7⟩] at hs
              as_aux_lemma =>
                simp only [go_sem, List.replicate_succ, Nat.reducePow, Nat.reduceLeDiff, ↓reduceIte, reduceCtorEq, Nat.reduceLT, Nat.reduceEqDiff, Nat.reduceAdd, Nat.reduceSub, Nat.reduceMul, Int.reduceToNat, g0, g1, g2, g3, lst_len, lst_get (show i ≤ n by omega), lst_get (show i + 1 + m ≤ n by omega), Fk, Fi, h5, h6, h7, w7]
                rw [yes hs]
                exact ⟨_, WkE.keep (by simp only [go_sem, List.replicate_succ, Nat.reducePow, Nat.reduceLeDiff, ↓reduceIte, reduceCtorEq, Nat.reduceLT, Nat.reduceEqDiff, Nat.reduceAdd, Nat.reduceSub, Nat.reduceMul, Int.reduceToNat]), rfl⟩
            · rw [if_neg (fun h => h.2.2.elim h6 h7)] at hs
              as_aux_lemma =>
                simp only [go_sem, List.replicate_succ, Nat.reducePow, Nat.reduceLeDiff, ↓reduceIte, reduceCtorEq, Nat.reduceLT, Nat.reduceEqDiff, Nat.reduceAdd, Nat.reduceSub, Nat.reduceMul, Int.reduceToNat, g0, g1, g2, g3, lst_len, lst_get (show i ≤ n by omega), lst_get (show i + 1 + m ≤ n by omega), Fk, Fi, h5, h6, h7, w7]
                rw [no hs]
                exact ⟨_, WkE.keep (by simp only [go_sem, List.replicate_succ, Nat.reducePow, Nat.reduceLeDiff, ↓reduceIte, reduceCtorEq, Nat.reduceLT, Nat.reduceEqDiff, Nat.reduceAdd, Nat.reduceSub, Nat.reduceMul, Int.reduceToNat]), rfl⟩
        · rw [if_neg (fun h => h5 h.2.1)] at hs
          as_aux_lemma =>
            simp only [go_sem, List.replicate_succ, Nat.reducePow, Nat.reduceLeDiff, ↓reduceIte, reduceCtorEq, Nat.reduceLT, Nat.reduceEqDiff, Nat.reduceAdd, Nat.reduceSub, Nat.reduceMul, Int.reduceToNat, g0, g1, g2, g3, lst_len, lst_get (show i ≤ n by omega), lst_get (show i + 1 + m ≤ n by omega), Fk, Fi, h5]
            rw [no hs]
            exact ⟨_, WkE.keep (by simp only [go_sem, List.replicate_succ, Nat.reducePow, Nat.reduceLeDiff, ↓reduceIte, reduceCtorEq, Nat.reduceLT, Nat.reduceEqDiff, Nat.reduceAdd, Nat.reduceSub, Nat.reduceMul, Int.reduceToNat]), rfl⟩
  -- the pages
  have z0 : (0 : Int) ≤ 0 := by omega
  have z1 : (0 : Int) < ((n + 1 : Nat) : Int) := by omega
  by_cases c4 : t 0 < 0
  · have : pagesAt K L 0 = none := by
      cases h : pagesAt K L 0 with
      | none => rfl
      | some l => have := (hT.some _ _ l h (by omega) (by omega)).1; omega
    rw [this]
    refine CwpE.vc ?_
    simp only [go_sem, List.replicate_succ, Nat.reducePow, Nat.reduceLeDiff, ↓reduceIte, reduceCtorEq, Nat.reduceLT, Nat.reduceEqDiff, Nat.reduceAdd, Nat.reduceSub, Nat.reduceMul, Int.reduceToNat, z0, z1, lst_len, lst_get (show 0 ≤ n by omega), c4]
    exact .tup _ _ rfl fun i h1 h2 => match i, h1 with | 0, _ => .nil _ | 1, _ => .tree _ rfl
  refine CwpE.cut (st := ⟨[(0, vbools K), (1, vi L), (6, vi n), (7, ownV 0 (n + 1))], [.arr (n + 1) 1 3 (lst n t)]⟩) ?_ ?_
  · as_aux_lemma =>
      simp only [go_sem, List.replicate_succ, Nat.reducePow, Nat.reduceLeDiff, ↓reduceIte, reduceCtorEq, Nat.reduceLT, Nat.reduceEqDiff, Nat.reduceAdd, Nat.reduceSub, Nat.reduceMul, Int.reduceToNat, z0, z1, lst_len, lst_get (show 0 ≤ n by omega), c4]
      exact ⟨_, WkE.keep (by simp only [go_sem, List.replicate_succ, Nat.reducePow, Nat.reduceLeDiff, ↓reduceIte, reduceCtorEq, Nat.reduceLT, Nat.reduceEqDiff, Nat.reduceAdd, Nat.reduceSub, Nat.reduceMul, Int.reduceToNat]), rfl⟩
  refine CwpE.cut (st := ⟨[(0, vbools K), (1, vi L), (6, vi n), (7, ownV 0 (n + 1)), (11, .val (.slice none 0 0))], [.arr (n + 1) 1 3 (lst n t)]⟩) ?_ ?_
  · as_aux_lemma =>
      simp only [go_sem, List.replicate_succ, Nat.reducePow, Nat.reduceLeDiff, ↓reduceIte, reduceCtorEq, Nat.reduceLT, Nat.reduceEqDiff, Nat.reduceAdd, Nat.reduceSub, Nat.reduceMul, Int.reduceToNat]
      exact ⟨_, WkE.keep (by simp only [go_sem, List.replicate_succ, Nat.reducePow, Nat.reduceLeDiff, ↓reduceIte, reduceCtorEq, Nat.reduceLT, Nat.reduceEqDiff, Nat.reduceAdd, Nat.reduceSub, Nat.reduceMul, Int.reduceToNat]), rfl⟩
  refine CwpE.cut (st := ⟨[(0, vbools K), (1, vi L), (6, vi n), (7, ownV 0 (n + 1)), (11, .val (.slice none 0 0)), (12, vi 0)], [.arr (n + 1) 1 3 (lst n t)]⟩) ?_ ?_
  · as_aux_lemma =>
      simp only [go_sem, List.replicate_succ, Nat.reducePow, Nat.reduceLeDiff, ↓reduceIte, reduceCtorEq, Nat.reduceLT, Nat.reduceEqDiff, Nat.reduceAdd, Nat.reduceSub, Nat.reduceMul, Int.reduceToNat]
      exact ⟨_, WkE.keep (by simp only [go_sem, List.replicate_succ, Nat.reducePow, Nat.reduceLeDiff, ↓reduceIte, reduceCtorEq, Nat.reduceLT, Nat.reduceEqDiff, Nat.reduceAdd, Nat.reduceSub, Nat.reduceMul, Int.reduceToNat]), rfl⟩
  refine CwpE.step (fun s => ∃ l, pagesAt K L 0 = some l ∧ s = ⟨[(11, vints (nI l))], []⟩) ?_ ?_
  rotate_left
  · rintro s ⟨l, hl, rfl⟩
    rw [hl]
    refine CwpE.vc ?_
    simp only [go_sem, List.replicate_succ, Nat.reducePow, Nat.reduceLeDiff, ↓reduceIte, reduceCtorEq, Nat.reduceLT, Nat.reduceEqDiff, Nat.reduceAdd, Nat.reduceSub, Nat.reduceMul, Int.reduceToNat]
    exact .tup _ _ rfl fun i h1 h2 => match i, h1 with | 0, _ => .tree _ rfl | 1, _ => .tree _ rfl
  simp only [go_sem, List.replicate_succ, Nat.reducePow, Nat.reduceLeDiff, ↓reduceIte, reduceCtorEq, Nat.reduceLT, Nat.reduceEqDiff, Nat.reduceAdd, Nat.reduceSub, Nat.reduceMul, Int.reduceToNat]
  refine loopXC 4 (fun m s => ∃ (a : Nat) (done : List Nat), m = n - a ∧ a ≤ n ∧ done.length ≤ a ∧ 0 ≤ t a ∧ pagesAt K L 0 = (pagesAt K L a).map (done ++ ·) ∧ s = ⟨[(0, vbools K), (1, vi L), (6, vi n), (7, ownV 0 (n + 1)), (11, ownV 1 done.length), (12, vi a)], [.arr (n + 1) 1 3 (lst n t), .arr done.length 1 3 ((nI done).map vi)]⟩)
    (fun s => ∃ l, pagesAt K L 0 = some l ∧ s = ⟨[(11, vints (nI l))], []⟩) n
    ⟨[(0, vbools K), (1, vi L), (6, vi n), (7, ownV 0 (n + 1)), (11, ownV 1 0), (12, vi (0 : Nat))], [.arr (n + 1) 1 3 (lst n t), .arr 0 1 3 []]⟩ ((WkE.nil 11 1 3 (by omega) rfl).trans (WkE.keep (by simp only [go_sem, List.replicate_succ, Nat.reducePow, Nat.reduceLeDiff, ↓reduceIte, reduceCtorEq, Nat.reduceLT, Nat.reduceEqDiff, Nat.reduceAdd, Nat.reduceSub, Nat.reduceMul, Int.reduceToNat]; rfl))) ⟨0, [], by omega, by omega, by simp, by omega, by simp, rfl⟩ ?_ ?_
  rotate_left
  · rintro s ⟨l, hl, rfl⟩
    simp only [go_sem, List.replicate_succ, Nat.reducePow, Nat.reduceLeDiff, ↓reduceIte, reduceCtorEq, Nat.reduceLT, Nat.reduceEqDiff, Nat.reduceAdd, Nat.reduceSub, Nat.reduceMul, Int.reduceToNat]
    exact ⟨_, .refl _ _, l, hl, rfl⟩
  rintro m s ⟨a, done, rfl, ha, hd, ht0, hp, rfl⟩
  by_cases hlt : a < n
  rotate_left
  · have g : ¬ (a : Int) < (n : Int) := by omega
    rw [pagesAt_end (a := a) (by omega)] at hp
    refine CwpE.vc ?_
    simp only [go_sem, List.replicate_succ, Nat.reducePow, Nat.reduceLeDiff, ↓reduceIte, reduceCtorEq, Nat.reduceLT, Nat.reduceEqDiff, Nat.reduceAdd, Nat.reduceSub, Nat.reduceMul, Int.reduceToNat, g]
    refine ⟨⟨[(11, vints (nI done))], []⟩, ?_, done, by simpa using hp, rfl⟩
    refine (WkE.freeze 11 1 done.length 0 done.length 1 3 ((nI done).map vi) (by omega) rfl rfl (by simp [nI]) (by simp [List.all_map, AV.isT, AV.isT1])).trans (WkE.round ?_ (by simp [AV.inn, AV.inn1]) (by simp) (by simp))
    simp only [go_sem, List.replicate_succ, Nat.reducePow, Nat.reduceLeDiff, ↓reduceIte, reduceCtorEq, Nat.reduceLT, Nat.reduceEqDiff, Nat.reduceAdd, Nat.reduceSub, Nat.reduceMul, Int.reduceToNat]
    exact congrArg (AV.list 1) (List.take_of_length_le (by simp [nI]))
  have g : (a : Int) < (n : Int) := by omega
  have hnx := hT.next (by omega) ht0
  obtain ⟨f1, f2, f3, f4, f5, f6⟩ := hT.far (by omega : a < K.length) ht0
  rw [pagesAt_step (a := a) (by omega), if_neg (by omega)] at hp
  rw [hn] at hnx
  have hmono := ((hT.le (K.length - a) a (by omega)).2 ht0 (farL K L a) (by omega) f2).1
  generalize farL K L a = gx at *
  have hb8 : (done.length + 1) * 8 ≤ 140737488355328 := by omega
  have w3 : IntKind.i64.wrap ((a : Int) + 1) = ((a + 1 : Nat) : Int) := by rw [wrap_id (by omega) (by omega)]; omega
  have w5 : IntKind.i64.wrap ((a : Int) + (L : Int)) = ((a + L : Nat) : Int) := by rw [wrap_id (by omega) (by omega)]; omega
  have hba := hbd a (by omega)
  have w8 : IntKind.i64.wrap (t a - 1) = t a - 1 := wrap_id (by omega) (by omega)
  refine CwpE.cut (st := ⟨[(0, vbools K), (1, vi L), (6, vi n), (7, ownV 0 (n + 1)), (11, ownV 1 done.length), (12, vi a)], [.arr (n + 1) 1 3 (lst n t), .arr done.length 1 3 ((nI done).map vi)]⟩) ?_ ?_
  · as_aux_lemma =>
      simp only [go_sem, List.replicate_succ, Nat.reducePow, Nat.reduceLeDiff, ↓reduceIte, reduceCtorEq, Nat.reduceLT, Nat.reduceEqDiff, Nat.reduceAdd, Nat.reduceSub, Nat.reduceMul, Int.reduceToNat, g]
      exact ⟨_, WkE.keep (by simp only [go_sem, List.replicate_succ, Nat.reducePow, Nat.reduceLeDiff, ↓reduceIte, reduceCtorEq, Nat.reduceLT, Nat.reduceEqDiff, Nat.reduceAdd, Nat.reduceSub, Nat.reduceMul, Int.reduceToNat]), rfl⟩
  refine CwpE.block ?_
  have hnl : (nI done).length = done.length := by simp [nI]
  have htk : List.take done.length ((nI done).map vi) = (nI done).map vi := List.take_of_length_le (by simp [nI])
  refine CwpE.cut (st := ⟨[(0, vbools K), (1, vi L), (6, vi n), (7, ownV 0 (n + 1)), (11, ownV 1 (done.length + 1)), (12, vi a)], [.arr (n + 1) 1 3 (lst n t), .arr (done.length + 1) 1 3 ((nI done).map vi ++ [vi a])]⟩) ?_ ?_
  · as_aux_lemma =>
      simp only [go_sem, List.replicate_succ, Nat.reducePow, Nat.reduceLeDiff, ↓reduceIte, reduceCtorEq, Nat.reduceLT, Nat.reduceEqDiff, Nat.reduceAdd, Nat.reduceSub, Nat.reduceMul, Int.reduceToNat, hb8, hnl, htk]
      exact ⟨_, WkE.keep (by simp only [go_sem, List.replicate_succ, Nat.reducePow, Nat.reduceLeDiff, ↓reduceIte, reduceCtorEq, Nat.reduceLT, Nat.reduceEqDiff, Nat.reduceAdd, Nat.reduceSub, Nat.reduceMul, Int.reduceToNat]), rfl⟩
  refine CwpE.cut (st := ⟨[(0, vbools K), (1, vi L), (6, vi n), (7, ownV 0 (n + 1)), (11, ownV 1 (done.length + 1)), (12, vi a), (13, vi a)], [.arr (n + 1) 1 3 (lst n t), .arr (done.length + 1) 1 3 ((nI done).map vi ++ [vi a])]⟩) ?_ ?_
  · as_aux_lemma =>
      simp only [go_sem, List.replicate_succ, Nat.reducePow, Nat.reduceLeDiff, ↓reduceIte, reduceCtorEq, Nat.reduceLT, Nat.reduceEqDiff, Nat.reduceAdd, Nat.reduceSub, Nat.reduceMul, Int.reduceToNat]
      exact ⟨_, WkE.keep (by simp only [go_sem, List.replicate_succ, Nat.reducePow, Nat.reduceLeDiff, ↓reduceIte, reduceCtorEq, Nat.reduceLT, Nat.reduceEqDiff, Nat.reduceAdd, Nat.reduceSub, Nat.reduceMul, Int.reduceToNat]), rfl⟩
  refine CwpE.cut (st := ⟨[(0, vbools K), (1, vi L), (6, vi n), (7, ownV 0 (n + 1)), (11, ownV 1 (done.length + 1)), (13, vi gx)], [.arr (n + 1) 1 3 (lst n t), .arr (done.length + 1) 1 3 ((nI done).map vi ++ [vi a])]⟩) ?_ ?_
  · simp only [go_sem, List.replicate_succ, Nat.reducePow, Nat.reduceLeDiff, ↓reduceIte, reduceCtorEq, Nat.reduceLT, Nat.reduceEqDiff, Nat.reduceAdd, Nat.reduceSub, Nat.reduceMul, Int.reduceToNat, w3]
    refine loopXC 6 (fun m' s => ∃ m : Nat, m' = n - a - m ∧ m ≤ min L (n - a) ∧ s = ⟨[(0, vbools K), (1, vi L), (6, vi n), (7, ownV 0 (n + 1)), (11, ownV 1 (done.length + 1)), (12, vi a), (13, vi (nextUp K t a m : Nat)), (14, vi (a + 1 + m : Nat))], [.arr (n + 1) 1 3 (lst n t), .arr (done.length + 1) 1 3 ((nI done).map vi ++ [vi a])]⟩)
      (fun s => s = ⟨[(0, vbools K), (1, vi L), (6, vi n), (7, ownV 0 (n + 1)), (11, ownV 1 (done.length + 1)), (13, vi gx)], [.arr (n + 1) 1 3 (lst n t), .arr (done.length + 1) 1 3 ((nI done).map vi ++ [vi a])]⟩) (n - a)
      ⟨[(0, vbools K), (1, vi L), (6, vi n), (7, ownV 0 (n + 1)), (11, ownV 1 (done.length + 1)), (12, vi a), (13, vi (nextUp K t a 0 : Nat)), (14, vi (a + 1 + 0 : Nat))], [.arr (n + 1) 1 3 (lst n t), .arr (done.length + 1) 1 3 ((nI done).map vi ++ [vi a])]⟩ (WkE.keep (by simp only [go_sem, List.replicate_succ, Nat.reducePow, Nat.reduceLeDiff, ↓reduceIte, reduceCtorEq, Nat.reduceLT, Nat.reduceEqDiff, Nat.reduceAdd, Nat.reduceSub, Nat.reduceMul, Int.reduceToNat, nextUp])) ⟨0, by omega, by omega, rfl⟩ ?_ ?_
    rotate_left
    · rintro s rfl
      simp only [go_sem, List.replicate_succ, Nat.reducePow, Nat.reduceLeDiff, ↓reduceIte, reduceCtorEq, Nat.reduceLT, Nat.reduceEqDiff, Nat.reduceAdd, Nat.reduceSub, Nat.reduceMul, Int.reduceToNat]
      exact ⟨_, .refl _ _, rfl⟩
    rintro m' s ⟨m, rfl, hm, rfl⟩
    by_cases h1 : a + 1 + m ≤ n
    rotate_left
    · have q1 : ¬ ((a + 1 + m : Nat) : Int) ≤ (n : Int) := by omega
      obtain rfl : m = min L (n - a) := by omega
      rw [hnx]
      refine CwpE.vc ?_
      as_aux_lemma =>
        simp only [go_sem, List.replicate_succ, Nat.reducePow, Nat.reduceLeDiff, ↓reduceIte, reduceCtorEq, Nat.reduceLT, Nat.reduceEqDiff, Nat.reduceAdd, Nat.reduceSub, Nat.reduceMul, Int.reduceToNat, q1]
        exact ⟨_, WkE.keep (by simp only [go_sem, List.replicate_succ, Nat.reducePow, Nat.reduceLeDiff, ↓reduceIte, reduceCtorEq, Nat.reduceLT, Nat.reduceEqDiff, Nat.reduceAdd, Nat.reduceSub, Nat.reduceMul, Int.reduceToNat]), rfl⟩
    have q1 : ((a + 1 + m : Nat) : Int) ≤ (n : Int) := by omega
    by_cases h2 : m < L
    rotate_left
    · have q2 : ¬ ((a + 1 + m : Nat) : Int) ≤ ((a + L : Nat) : Int) := by omega
      obtain e : m = min L (n - a) := by omega
      have hnx' : nextUp K t a m = gx := by rw [e]; exact hnx
      rw [hnx']
      refine CwpE.vc ?_
      as_aux_lemma =>
        simp only [go_sem, List.replicate_succ, Nat.reducePow, Nat.reduceLeDiff, ↓reduceIte, reduceCtorEq, Nat.reduceLT, Nat.reduceEqDiff, Nat.reduceAdd, Nat.reduceSub, Nat.reduceMul, Int.reduceToNat, q1, q2, w5]
        exact ⟨_, WkE.keep (by simp only [go_sem, List.replicate_succ, Nat.reducePow, Nat.reduceLeDiff, ↓reduceIte, reduceCtorEq, Nat.reduceLT, Nat.reduceEqDiff, Nat.reduceAdd, Nat.reduceSub, Nat.reduceMul, Int.reduceToNat]), rfl⟩
    have q2 : ((a + 1 + m : Nat) : Int) ≤ ((a + L : Nat) : Int) := by omega
    refine CwpE.cut (st := ⟨[(0, vbools K), (1, vi L), (6, vi n), (7, ownV 0 (n + 1)), (11, ownV 1 (done.length + 1)), (12, vi a), (13, vi (nextUp K t a m : Nat)), (14, vi (a + 1 + m : Nat))], [.arr (n + 1) 1 3 (lst n t), .arr (done.length + 1) 1 3 ((nI done).map vi ++ [vi a])]⟩) ?_ ?_
    · as_aux_lemma =>
        simp only [go_sem, List.replicate_succ, Nat.reducePow, Nat.reduceLeDiff, ↓reduceIte, reduceCtorEq, Nat.reduceLT, Nat.reduceEqDiff, Nat.reduceAdd, Nat.reduceSub, Nat.reduceMul, Int.reduceToNat, q1, q2, w5]
        exact ⟨_, WkE.keep (by simp only [go_sem, List.replicate_succ, Nat.reducePow, Nat.reduceLeDiff, ↓reduceIte, reduceCtorEq, Nat.reduceLT, Nat.reduceEqDiff, Nat.reduceAdd, Nat.reduceSub, Nat.reduceMul, Int.reduceToNat]), rfl⟩
    have w6 : IntKind.i64.wrap (((a + 1 + m : Nat) : Int) + 1) = ((a + 1 + (m + 1) : Nat) : Int) := by rw [wrap_id (by omega) (by omega)]; omega
    refine CwpE.seqJ (fun s => s = ⟨[(0, vbools K), (1, vi L), (6, vi n), (7, ownV 0 (n + 1)), (11, ownV 1 (done.length + 1)), (12, vi a), (13, vi (nextUp K t a (m + 1) : Nat)), (14, vi (a + 1 + m : Nat))], [.arr (n + 1) 1 3 (lst n t), .arr (done.length + 1) 1 3 ((nI done).map vi ++ [vi a])]⟩) (CwpE.block ?_) ?_
    rotate_left
    · rintro s rfl
      refine CwpE.vc ?_
      simp only [go_sem, List.replicate_succ, Nat.reducePow, Nat.reduceLeDiff, ↓reduceIte, reduceCtorEq, Nat.reduceLT, Nat.reduceEqDiff, Nat.reduceAdd, Nat.reduceSub, Nat.reduceMul, Int.reduceToNat, w6]
      exact ⟨n - a - (m + 1), _, by omega, WkE.keep (env' := [(0, vbools K), (1, vi L), (6, vi n), (7, ownV 0 (n + 1)), (11, ownV 1 (done.length + 1)), (12, vi a), (13, vi (nextUp K t a (m + 1) : Nat)), (14, vi (a + 1 + (m + 1) : Nat))]) (by simp only [go_sem, List.replicate_succ, Nat.reducePow, Nat.reduceLeDiff, ↓reduceIte, reduceCtorEq, Nat.reduceLT, Nat.reduceEqDiff, Nat.reduceAdd, Nat.reduceSub, Nat.reduceMul, Int.reduceToNat]), m + 1, rfl, by omega, rfl⟩
    refine CwpE.cut (st := ⟨[(0, vbools K), (1, vi L), (6, vi n), (7, ownV 0 (n + 1)), (11, ownV 1 (done.length + 1)), (12, vi a), (13, vi (nextUp K t a m : Nat)), (14, vi (a + 1 + m : Nat)), (15, vb (beg K (a + 1 + m)))], [.arr (n + 1) 1 3 (lst n t), .arr (done.length + 1) 1 3 ((nI done).map vi ++ [vi a])]⟩) ?_ ?_
    · by_cases h3 : a + 1 + m = n
      · have q3 : (((a + 1 + m : Nat) : Int) = (n : Int)) = True := eq_true (by omega)
        have q4 : beg K (a + 1 + m) = true := by rw [h3]; exact hbegn
        as_aux_lemma =>
          simp only [go_sem, List.replicate_succ, Nat.reducePow, Nat.reduceLeDiff, ↓reduceIte, reduceCtorEq, Nat.reduceLT, Nat.reduceEqDiff, Nat.reduceAdd, Nat.reduceSub, Nat.reduceMul, Int.reduceToNat, q3, q4]
          exact ⟨_, WkE.keep (by simp only [go_sem, List.replicate_succ, Nat.reducePow, Nat.reduceLeDiff, ↓reduceIte, reduceCtorEq, Nat.reduceLT, Nat.reduceEqDiff, Nat.reduceAdd, Nat.reduceSub, Nat.reduceMul, Int.reduceToNat]), rfl⟩
      · have q3 : ¬ ((a + 1 + m : Nat) : Int) = (n : Int) := by omega
        have h4 : a + 1 + m < K.length := by omega
        have q4 := hbeg (a + 1 + m) (by omega) (by omega)
        have q5 : (if ((a + 1 + m : Nat) : Int) < (n : Int) - 1 then ((a + 1 + m : Nat) : Int) else (n : Int) - 1) = ((a + 1 + m : Nat) : Int) := by split <;> omega
        have q5' : (if (n : Int) - 1 < ((a + 1 + m : Nat) : Int) then (n : Int) - 1 else ((a + 1 + m : Nat) : Int)) = ((a + 1 + m : Nat) : Int) := by split <;> omega
        have q6 : (0 : Int) ≤ ((a + 1 + m : Nat) : Int) := by omega
        have q7 : ((a + 1 + m : Nat) : Int) < (K.length : Int) := by omega
        as_aux_lemma =>
          simp only [go_sem, List.replicate_succ, Nat.reducePow, Nat.reduceLeDiff, ↓reduceIte, reduceCtorEq, Nat.reduceLT, Nat.reduceEqDiff, Nat.reduceAdd, Nat.reduceSub, Nat.reduceMul, Int.reduceToNat, q3, q4, q5, q5', q6, q7, w2, List.getElem?_map, List.getElem?_eq_getElem h4]
          exact ⟨_, WkE.keep (by simp only [go_sem, List.replicate_succ, Nat.reducePow, Nat.reduceLeDiff, ↓reduceIte, reduceCtorEq, Nat.reduceLT, Nat.reduceEqDiff, Nat.reduceAdd, Nat.reduceSub, Nat.reduceMul, Int.reduceToNat]), rfl⟩
    have g0 : (0 : Int) ≤ (a : Int) := by omega
    have g1 : (a : Int) < ((n + 1 : Nat) : Int) := by omega
    have g2 : (0 : Int) ≤ ((a + 1 + m : Nat) : Int) := by omega
    have g3 : ((a + 1 + m : Nat) : Int) < ((n + 1 : Nat) : Int) := by omega
    have hs : nextUp K t a (m + 1) = if beg K (a + 1 + m) = true ∧ t (a + 1 + m) = t a - 1 then a + 1 + m else nextUp K t a m := by
      rw [nextUp, show a + m + 1 = a + 1 + m by omega]
    refine CwpE.vc ?_
    cases hbk : beg K (a + 1 + m) with
    | false =>
      rw [if_neg (by rw [hbk]; simp)] at hs
      rw [hs]
      as_aux_lemma =>
        simp only [go_sem, List.replicate_succ, Nat.reducePow, Nat.reduceLeDiff, ↓reduceIte, reduceCtorEq, Nat.reduceLT, Nat.reduceEqDiff, Nat.reduceAdd, Nat.reduceSub, Nat.reduceMul, Int.reduceToNat]
        exact ⟨_, WkE.keep (by simp only [go_sem, List.replicate_succ, Nat.reducePow, Nat.reduceLeDiff, ↓reduceIte, reduceCtorEq, Nat.reduceLT, Nat.reduceEqDiff, Nat.reduceAdd, Nat.reduceSub, Nat.reduceMul, Int.reduceToNat]), rfl⟩
    | true =>
      by_cases h5 : t (a + 1 + m) = t a - 1
      · rw [if_pos ⟨hbk, h5⟩] at hs
        rw [hs]
        as_aux_lemma =>
          simp only [go_sem, List.replicate_succ, Nat.reducePow, Nat.reduceLeDiff, ↓reduceIte, reduceCtorEq, Nat.reduceLT, Nat.reduceEqDiff, Nat.reduceAdd, Nat.reduceSub, Nat.reduceMul, Int.reduceToNat, g0, g1, g2, g3, lst_len, lst_get (show a ≤ n by omega), lst_get (show a + 1 + m ≤ n by omega), h5, w8]
          exact ⟨_, WkE.keep (by simp only [go_sem, List.replicate_succ, Nat.reducePow, Nat.reduceLeDiff, ↓reduceIte, reduceCtorEq, Nat.reduceLT, Nat.reduceEqDiff, Nat.reduceAdd, Nat.reduceSub, Nat.reduceMul, Int.reduceToNat]), rfl⟩
      · rw [if_neg (fun h => h5 h.2)] at hs
        rw [hs]
        as_aux_lemma =>
          simp only [go_sem, List.replicate_succ, Nat.reducePow, Nat.reduceLeDiff, ↓reduceIte, reduceCtorEq, Nat.reduceLT, Nat.reduceEqDiff, Nat.reduceAdd, Nat.reduceSub, Nat.reduceMul, Int.reduceToNat, g0, g1, g2, g3, lst_len, lst_get (show a ≤ n by omega), lst_get (show a + 1 + m ≤ n by omega), h5, w8]
          exact ⟨_, WkE.keep (by simp only [go_sem, List.replicate_succ, Nat.reducePow, Nat.reduceLeDiff, ↓reduceIte, reduceCtorEq, Nat.reduceLT, Nat.reduceEqDiff, Nat.reduceAdd, Nat.reduceSub, Nat.reduceMul, Int.reduceToNat]), rfl⟩
  refine CwpE.vc ?_
  simp only [go_sem, List.replicate_succ, Nat.reducePow, Nat.reduceLeDiff, ↓reduceIte, reduceCtorEq, Nat.reduceLT, Nat.reduceEqDiff, Nat.reduceAdd, Nat.reduceSub, Nat.reduceMul, Int.reduceToNat]
  refine ⟨n - gx, ⟨[(0, vbools K), (1, vi L), (6, vi n), (7, ownV 0 (n + 1)), (11, ownV 1 (done ++ [a]).length), (12, vi gx)], [.arr (n + 1) 1 3 (lst n t), .arr (done ++ [a]).length 1 3 ((nI (done ++ [a])).map vi)]⟩, by omega, ?_, gx, done ++ [a], rfl, by omega, by simp; omega, hmono, ?_, rfl⟩
  · simp only [nI, List.map_append, List.length_append]
    exact WkE.keep (by simp only [go_sem, List.replicate_succ, Nat.reducePow, Nat.reduceLeDiff, ↓reduceIte, reduceCtorEq, Nat.reduceLT, Nat.reduceEqDiff, Nat.reduceAdd, Nat.reduceSub, Nat.reduceMul, Int.reduceToNat])
  · rw [hp]
    cases pagesAt K L gx with
    | none => rfl
    | some l => simp
end Go.Proofs.Ytehelanfgepcmaa
