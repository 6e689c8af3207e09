/- dactylref32.Table, by contract. -/
import Derived.Test.YtphcaelkpgdbcaaPd
set_option linter.unusedSimpArgs false
set_option linter.unusedVariables false
set_option linter.unusedSectionVars false
namespace Go.Proofs.Ytphcaelkpgdbcaa
open Go.RowKit Dak
/-- A row of n + 1 values. -/
def lstV (n : Nat) (f : Nat → AV) : List AV := (List.range (n + 1)).map f
theorem lstV_len (n : Nat) (f : Nat → AV) : (lstV n f).length = n + 1 := by simp [lstV]
theorem lstV_get {n p : Nat} (h : p ≤ n) (f : Nat → AV) : (lstV n f)[p]? = some (f p) := by simp [lstV, List.getElem?_range (show p < n + 1 by omega)]
theorem lstV_set {n i : Nat} (f : Nat → AV) (v : AV) : (lstV n f).set i v = lstV n (fun p => if p = i then v else f p) := by
  refine List.ext_getElem (by simp [lstV]) fun j h1 h2 => ?_
  rw [List.getElem_set]
  simp only [lstV, List.getElem_map, List.getElem_range]
  split
  · rename_i h; subst h; simp
  · rename_i h; rw [if_neg (Ne.symm h)]
theorem lstV_congr {n : Nat} {f g : Nat → AV} (h : ∀ p, p ≤ n → f p = g p) : lstV n f = lstV n g := by
  refine List.map_congr_left fun p hp => h p (by simp at hp; omega)
theorem lstV_rep (n : Nat) (v : AV) : List.replicate (n + 1) v = lstV n fun _ => v := by
  refine List.ext_getElem (by simp [lstV]) fun j h1 h2 => ?_
  simp [lstV]
theorem lstV_ints {n : Nat} {l : List Int} (h : l.length = n + 1) : l.map vi = lstV n fun p => vi (l.getD p 0) := by
  refine List.ext_getElem (by simp [lstV, h]) fun j h1 h2 => ?_
  have : j < l.length := by simpa using h1
  simp [lstV, this]
abbrev nilV : AV := .val (.slice none 0 0)
set_option maxRecDepth 100000 in
set_option maxHeartbeats 8000000 in
theorem refTable_s (p o : List Int) (m : Nat) (h : OkQ p o m) : Ctr Try.prog 29 [vints p, vints o, vi m] (vrows (tabA p o m)) := by
  refine specC f29 (by simp) fun F0 w0 => ?_
  obtain ⟨hlen, hmost, hp, ho, hm0, hm1⟩ := h
  have hbd := rowQ_bd (⟨hlen, hmost, hp, ho, hm0, hm1⟩ : OkQ p o m) m
  obtain ⟨n, hn⟩ : ∃ n, p.length = n := ⟨_, rfl⟩
  have hon : o.length = n := by omega
  rw [tabA_rows hlen m, hn]
  have hVl : ((List.range (n + 1)).map (rowQ p o m)).length = n + 1 := by simp
  have hVg : ∀ q (h : q < ((List.range (n + 1)).map (rowQ p o m)).length), ((List.range (n + 1)).map (rowQ p o m))[q] = rowQ p o m q := fun q h => by simp
  generalize (List.range (n + 1)).map (rowQ p o m) = V at *
  obtain ⟨C, hC⟩ : ∃ C : Nat → Nat → AV, C = fun j q => if j ≤ q then vints (rowQ p o m q) else nilV := ⟨_, rfl⟩
  have w1 : IntKind.i64.wrap ((n : Int) + 1) = ((n + 1 : Nat) : Int) := by rw [wrap_id (by omega) (by omega)]; omega
  have w2 : IntKind.i64.wrap ((m : Int) + 1) = ((m + 1 : Nat) : Int) := by rw [wrap_id (by omega) (by omega)]; omega
  have w3 : IntKind.i64.wrap ((n : Int) - 1) = (n : Int) - 1 := wrap_id (by omega) (by omega)
  -- a row that is put into its place and then left alone
  have put : ∀ (env env' : List (Nat × AV)) (j : Nat) (R : List Int) (xs : List AV), j ≤ n → R.length = m + 1 → xs.length = n + 1 → Agree env env' → (env'.all fun p => p.2.inn 1) = true → (xs.set j (vints R)).all (fun x => x.inn 1) = true →
      WkE 76 ⟨env, [.arr (n + 1) 1 22 (xs.set j (.own 1 (m + 1) 0 (m + 1))), .arr (m + 1) 1 3 (R.map vi)]⟩ ⟨env', [.arr (n + 1) 1 22 (xs.set j (vints R))]⟩ := by
    intro env env' j R xs hj hR hxs hA hin hin2
    refine (WkE.freezeCell 0 (n + 1) 1 j 0 1 (m + 1) 0 (m + 1) 1 22 3 (xs.set j (.own 1 (m + 1) 0 (m + 1))) (R.map vi) (.own 1 (m + 1) 0 (m + 1)) rfl (by rw [List.getElem?_set_self (by omega)]) rfl rfl (by omega) (by simp [hR]) (by simp [List.all_map, AV.isT, AV.isT1])).trans ?_
    have e : (xs.set j (.own 1 (m + 1) 0 (m + 1))).set j (recell (.own 1 (m + 1) 0 (m + 1)) ((AV.own 1 (m + 1) 0 (m + 1)).cells.set 0 (.list 1 (((R.map vi).drop 0).take (m + 1))))) = xs.set j (vints R) := by
      rw [List.set_set, List.drop_zero, List.take_of_length_le (by simp [hR])]; rfl
    rw [e]
    exact WkE.round hA hin (by simpa [AObj.innO] using hin2) rfl
  unfold c29
  refine CwpE.cut (st := ⟨[(0, vints p), (1, vints o), (2, vi m)], []⟩) ?_ ?_
  · simp only [go_sem, List.replicate_succ, Nat.reducePow, Nat.reduceLeDiff, ↓reduceIte, reduceCtorEq, Nat.reduceLT, Nat.reduceEqDiff, Nat.reduceAdd, Nat.reduceSub, Nat.reduceMul, Int.reduceToNat]
    exact ⟨_, WkE.keep (by simp only [go_sem, List.replicate_succ, Nat.reducePow, Nat.reduceLeDiff, ↓reduceIte, reduceCtorEq, Nat.reduceLT, Nat.reduceEqDiff, Nat.reduceAdd, Nat.reduceSub, Nat.reduceMul, Int.reduceToNat]), rfl⟩
  refine CwpE.cut (st := ⟨[(0, vints p), (1, vints o), (2, vi m), (7, vi n)], []⟩) ?_ ?_
  · simp only [go_sem, List.replicate_succ, Nat.reducePow, Nat.reduceLeDiff, ↓reduceIte, reduceCtorEq, Nat.reduceLT, Nat.reduceEqDiff, Nat.reduceAdd, Nat.reduceSub, Nat.reduceMul, Int.reduceToNat, hn]
    exact ⟨_, WkE.keep (by simp only [go_sem, List.replicate_succ, Nat.reducePow, Nat.reduceLeDiff, ↓reduceIte, reduceCtorEq, Nat.reduceLT, Nat.reduceEqDiff, Nat.reduceAdd, Nat.reduceSub, Nat.reduceMul, Int.reduceToNat]), rfl⟩
  refine CwpE.cut (st := ⟨[(0, vints p), (1, vints o), (2, vi m), (7, vi n), (8, .own 0 (n + 1) 0 (n + 1))], [.arr (n + 1) 1 22 (lstV n fun _ => nilV)]⟩) ?_ ?_
  · have q1 : (0 : Int) ≤ ((n + 1 : Nat) : Int) := by omega
    have q2 : ((24 : Nat) : Int) * ((n + 1 : Nat) : Int) ≤ 281474976710656 := by omega
    have q3 : ((n + 1 : Nat) : Int) ≤ 9223372036854775807 := by omega
    have q4 : ((n + 1 : Nat) : Int) ≤ ((n + 1 : Nat) : Int) := Int.le_refl _
    simp only [go_sem, Nat.reducePow, Nat.reduceLeDiff, ↓reduceIte, reduceCtorEq, Nat.reduceLT, Nat.reduceEqDiff, Nat.reduceAdd, Nat.reduceSub, Nat.reduceMul, Int.reduceToNat, w1, q1, q2, q3, q4, lstV_rep]
    exact ⟨_, WkE.keep (by simp only [go_sem, List.replicate_succ, Nat.reducePow, Nat.reduceLeDiff, ↓reduceIte, reduceCtorEq, Nat.reduceLT, Nat.reduceEqDiff, Nat.reduceAdd, Nat.reduceSub, Nat.reduceMul, Int.reduceToNat]), rfl⟩
  have n0 : (0 : Int) ≤ (n : Int) := by omega
  have n1 : (n : Int) < ((n + 1 : Nat) : Int) := by omega
  refine CwpE.cut (st := ⟨[(0, vints p), (1, vints o), (2, vi m), (7, vi n), (8, .own 0 (n + 1) 0 (n + 1))], [.arr (n + 1) 1 22 (lstV n (C n))]⟩) ?_ ?_
  · have q1 : (0 : Int) ≤ ((m + 1 : Nat) : Int) := by omega
    have q2 : ((8 : Nat) : Int) * ((m + 1 : Nat) : Int) ≤ 281474976710656 := by omega
    have q3 : ((m + 1 : Nat) : Int) ≤ 9223372036854775807 := by omega
    have q4 : ((m + 1 : Nat) : Int) ≤ ((m + 1 : Nat) : Int) := Int.le_refl _
    simp only [go_sem, Nat.reducePow, Nat.reduceLeDiff, ↓reduceIte, reduceCtorEq, Nat.reduceLT, Nat.reduceEqDiff, Nat.reduceAdd, Nat.reduceSub, Nat.reduceMul, Int.reduceToNat, w2, q1, q2, q3, q4, n0, n1, lstV_len, lstV_get (Nat.le_refl n)]
    have e : (lstV n fun _ => nilV).set n (vints (List.replicate (m + 1) 0)) = lstV n (C n) := by
      rw [lstV_set]
      refine lstV_congr fun q hq => ?_
      rw [hC]
      dsimp only
      by_cases h1 : q = n
      · rw [if_pos h1, if_pos (by omega), h1, ← hn, rowQ_last]
      · rw [if_neg h1, if_neg (by omega)]
    rw [← e]
    have := fun env hA => put env [(0, vints p), (1, vints o), (2, vi m), (7, vi n), (8, .own 0 (n + 1) 0 (n + 1))] n (List.replicate (m + 1) 0) (lstV n fun _ => nilV) (Nat.le_refl _) (by simp) (lstV_len _ _) hA (by simp [AV.inn, AV.inn1]) (by rw [e, hC]; simp only [lstV, List.all_map]; refine List.all_eq_true.2 fun q _ => ?_; simp only [Function.comp]; split <;> simp [AV.inn, AV.inn1])
    simp only [List.map_replicate] at this
    exact ⟨_, this _ (by simp only [go_sem, List.replicate_succ, Nat.reducePow, Nat.reduceLeDiff, ↓reduceIte, reduceCtorEq, Nat.reduceLT, Nat.reduceEqDiff, Nat.reduceAdd, Nat.reduceSub, Nat.reduceMul, Int.reduceToNat]), rfl⟩
  refine CwpE.cut (st := ⟨[(8, .own 0 (n + 1) 0 (n + 1))], [.arr (n + 1) 1 22 (lstV n (C 0))]⟩) ?_ ?_
  rotate_left
  · refine CwpE.vc ?_
    simp only [go_sem, List.replicate_succ, Nat.reducePow, Nat.reduceLeDiff, ↓reduceIte, reduceCtorEq, Nat.reduceLT, Nat.reduceEqDiff, Nat.reduceAdd, Nat.reduceSub, Nat.reduceMul, Int.reduceToNat]
    refine .own 0 (n + 1) 0 (n + 1) 1 22 _ _ rfl (by rw [lstV_len]; omega) (by rw [List.length_map, hVl]) fun q hq => ?_
    simp only [Nat.zero_add, lstV, List.getElem_map, List.getElem_range, hC, Nat.zero_le, if_true, hVg]
    exact .tree _ rfl
  simp only [go_sem, List.replicate_succ, Nat.reducePow, Nat.reduceLeDiff, ↓reduceIte, reduceCtorEq, Nat.reduceLT, Nat.reduceEqDiff, Nat.reduceAdd, Nat.reduceSub, Nat.reduceMul, Int.reduceToNat, w3]
  refine loopXC 0 (fun m' s => ∃ j : Nat, m' = j ∧ j ≤ n ∧ s = ⟨[(0, vints p), (1, vints o), (2, vi m), (7, vi n), (8, .own 0 (n + 1) 0 (n + 1)), (9, vi ((j : Int) - 1))], [.arr (n + 1) 1 22 (lstV n (C j))]⟩)
    (fun s => s = ⟨[(8, .own 0 (n + 1) 0 (n + 1))], [.arr (n + 1) 1 22 (lstV n (C 0))]⟩) n
    ⟨[(0, vints p), (1, vints o), (2, vi m), (7, vi n), (8, .own 0 (n + 1) 0 (n + 1)), (9, vi ((n : Int) - 1))], [.arr (n + 1) 1 22 (lstV n (C n))]⟩ (WkE.keep (by simp only [go_sem, List.replicate_succ, Nat.reducePow, Nat.reduceLeDiff, ↓reduceIte, reduceCtorEq, Nat.reduceLT, Nat.reduceEqDiff, Nat.reduceAdd, Nat.reduceSub, Nat.reduceMul, Int.reduceToNat])) ⟨n, rfl, Nat.le_refl _, rfl⟩ ?_ ?_
  rotate_left
  · rintro s rfl
    simp only [go_sem, List.replicate_succ, Nat.reducePow, Nat.reduceLeDiff, ↓reduceIte, reduceCtorEq, Nat.reduceLT, Nat.reduceEqDiff, Nat.reduceAdd, Nat.reduceSub, Nat.reduceMul, Int.reduceToNat]
    exact ⟨_, .refl _ _, rfl⟩
  rintro m' s ⟨j, rfl, hj, rfl⟩
  cases m' with
  | zero =>
    have g : ¬ (0 : Int) ≤ ((0 : Nat) : Int) - 1 := by omega
    refine CwpE.vc ?_
    simp only [go_sem, List.replicate_succ, Nat.reducePow, Nat.reduceLeDiff, ↓reduceIte, reduceCtorEq, Nat.reduceLT, Nat.reduceEqDiff, Nat.reduceAdd, Nat.reduceSub, Nat.reduceMul, Int.reduceToNat, g]
    exact ⟨_, WkE.keep (by simp only [go_sem, List.replicate_succ, Nat.reducePow, Nat.reduceLeDiff, ↓reduceIte, reduceCtorEq, Nat.reduceLT, Nat.reduceEqDiff, Nat.reduceAdd, Nat.reduceSub, Nat.reduceMul, Int.reduceToNat]), rfl⟩
  | succ i =>
    have ei : ((i + 1 : Nat) : Int) - 1 = (i : Int) := by omega
    rw [ei]
    have hip : i < p.length := by omega
    have hio : i < o.length := by omega
    have g0 : (0 : Int) ≤ (i : Int) := by omega
    have g1 : (i : Int) < ((n + 1 : Nat) : Int) := by omega
    have g2 : (i : Int) < (p.length : Int) := by omega
    have g3 : (i : Int) < (o.length : Int) := by omega
    have g4 : (0 : Int) ≤ ((i + 1 : Nat) : Int) := by omega
    have g5 : ((i + 1 : Nat) : Int) < ((n + 1 : Nat) : Int) := by omega
    have w4 : IntKind.i64.wrap ((i : Int) + 1) = ((i + 1 : Nat) : Int) := by rw [wrap_id (by omega) (by omega)]; omega
    have w5 : IntKind.i64.wrap ((i : Int) - 1) = (i : Int) - 1 := wrap_id (by omega) (by omega)
    obtain ⟨hRl, hRb⟩ := hbd (n - (i + 1)) (i + 1) (by omega)
    have hRi := rowQ_step (p := p) (o := o) m hip hio
    have hCi : C (i + 1) (i + 1) = vints (rowQ p o m (i + 1)) := by rw [hC]; dsimp only; rw [if_pos (Nat.le_refl _)]
    obtain ⟨a, ha⟩ : ∃ a : Nat, p[i] = a := ⟨p[i].toNat, by have := hp _ (List.getElem_mem hip); omega⟩
    have hab := hp _ (List.getElem_mem hip)
    have hob := ho _ (List.getElem_mem hio)
    rw [ha] at hRi hab
    generalize hb : o[i] = b at *
    have hle : ((n - (i + 1) : Nat) : Int) ≤ 48 := by omega
    generalize hR : rowQ p o m (i + 1) = R at *
    have get : ∀ c, 0 ≤ R.getD c 0 ∧ R.getD c 0 ≤ 48000000 := fun c => by
      rw [List.getD_eq_getElem?_getD]
      cases e : R[c]? with
      | none => simp
      | some y => have := hRb y (List.mem_of_getElem? e); simp; omega
    obtain ⟨D, hD⟩ : ∃ D : Nat → Nat → Int, D = fun c q => if a ≤ q ∧ q < c then max (R.getD q 0) (b + R.getD (q - a) 0) else R.getD q 0 := ⟨_, rfl⟩
    refine CwpE.cut (st := ⟨[(0, vints p), (1, vints o), (2, vi m), (7, vi n), (8, .own 0 (n + 1) 0 (n + 1)), (9, vi i)], [.arr (n + 1) 1 22 (lstV n (C (i + 1)))]⟩) ?_ ?_
    · simp only [go_sem, List.replicate_succ, Nat.reducePow, Nat.reduceLeDiff, ↓reduceIte, reduceCtorEq, Nat.reduceLT, Nat.reduceEqDiff, Nat.reduceAdd, Nat.reduceSub, Nat.reduceMul, Int.reduceToNat, g0]
      exact ⟨_, WkE.keep (by simp only [go_sem, List.replicate_succ, Nat.reducePow, Nat.reduceLeDiff, ↓reduceIte, reduceCtorEq, Nat.reduceLT, Nat.reduceEqDiff, Nat.reduceAdd, Nat.reduceSub, Nat.reduceMul, Int.reduceToNat]), rfl⟩
    refine CwpE.seqJ (fun s => s = ⟨[(0, vints p), (1, vints o), (2, vi m), (7, vi n), (8, .own 0 (n + 1) 0 (n + 1)), (9, vi i)], [.arr (n + 1) 1 22 (lstV n (C i))]⟩) (CwpE.block ?_) ?_
    rotate_left
    · rintro s rfl
      refine CwpE.vc ?_
      simp only [go_sem, List.replicate_succ, Nat.reducePow, Nat.reduceLeDiff, ↓reduceIte, reduceCtorEq, Nat.reduceLT, Nat.reduceEqDiff, Nat.reduceAdd, Nat.reduceSub, Nat.reduceMul, Int.reduceToNat, w5]
      exact ⟨i, _, by omega, WkE.keep (env' := [(0, vints p), (1, vints o), (2, vi m), (7, vi n), (8, .own 0 (n + 1) 0 (n + 1)), (9, vi ((i : Int) - 1))]) (by simp only [go_sem, List.replicate_succ, Nat.reducePow, Nat.reduceLeDiff, ↓reduceIte, reduceCtorEq, Nat.reduceLT, Nat.reduceEqDiff, Nat.reduceAdd, Nat.reduceSub, Nat.reduceMul, Int.reduceToNat]), by omega, rfl⟩
    refine CwpE.cut (st := ⟨[(0, vints p), (1, vints o), (2, vi m), (7, vi n), (8, .own 0 (n + 1) 0 (n + 1)), (9, vi i), (10, .own 1 (m + 1) 0 (m + 1))], [.arr (n + 1) 1 22 (lstV n (C (i + 1))), .arr (m + 1) 1 3 (lstV m fun q => vi (D 0 q))]⟩) ?_ ?_
    · have q1 : (m + 1) * 8 ≤ 140737488355328 := by omega
      have q2 : ¬ m + 1 = 0 := by omega
      have e : R.map vi = lstV m fun q => vi (D 0 q) := by
        rw [lstV_ints hRl]
        refine lstV_congr fun q hq => ?_
        rw [hD]; dsimp only; rw [if_neg (by omega)]
      simp only [go_sem, List.replicate_succ, Nat.reducePow, Nat.reduceLeDiff, ↓reduceIte, reduceCtorEq, Nat.reduceLT, Nat.reduceEqDiff, Nat.reduceAdd, Nat.reduceSub, Nat.reduceMul, Int.reduceToNat, w4, g4, g5, lstV_len, lstV_get (show i + 1 ≤ n by omega), hCi, hRl, q1, q2, e]
      exact ⟨_, WkE.keep (by simp only [go_sem, List.replicate_succ, Nat.reducePow, Nat.reduceLeDiff, ↓reduceIte, reduceCtorEq, Nat.reduceLT, Nat.reduceEqDiff, Nat.reduceAdd, Nat.reduceSub, Nat.reduceMul, Int.reduceToNat]), rfl⟩
    refine CwpE.cut (st := ⟨[(0, vints p), (1, vints o), (2, vi m), (7, vi n), (8, .own 0 (n + 1) 0 (n + 1)), (9, vi i), (10, .own 1 (m + 1) 0 (m + 1))], [.arr (n + 1) 1 22 (lstV n (C (i + 1))), .arr (m + 1) 1 3 (lstV m fun q => vi (D (m + 1) q))]⟩) ?_ ?_
    · simp only [go_sem, List.replicate_succ, Nat.reducePow, Nat.reduceLeDiff, ↓reduceIte, reduceCtorEq, Nat.reduceLT, Nat.reduceEqDiff, Nat.reduceAdd, Nat.reduceSub, Nat.reduceMul, Int.reduceToNat, g0, g2, List.getElem?_map, List.getElem?_eq_getElem hip, ha]
      refine loopXC 2 (fun m' s => ∃ e : Nat, m' = m + 1 - e ∧ (e = 0 ∨ a + e ≤ m + 1) ∧ s = ⟨[(0, vints p), (1, vints o), (2, vi m), (7, vi n), (8, .own 0 (n + 1) 0 (n + 1)), (9, vi i), (10, .own 1 (m + 1) 0 (m + 1)), (11, vi (a + e : Nat))], [.arr (n + 1) 1 22 (lstV n (C (i + 1))), .arr (m + 1) 1 3 (lstV m fun q => vi (D (a + e) q))]⟩)
        (fun s => s = ⟨[(0, vints p), (1, vints o), (2, vi m), (7, vi n), (8, .own 0 (n + 1) 0 (n + 1)), (9, vi i), (10, .own 1 (m + 1) 0 (m + 1))], [.arr (n + 1) 1 22 (lstV n (C (i + 1))), .arr (m + 1) 1 3 (lstV m fun q => vi (D (m + 1) q))]⟩) (m + 1)
        ⟨[(0, vints p), (1, vints o), (2, vi m), (7, vi n), (8, .own 0 (n + 1) 0 (n + 1)), (9, vi i), (10, .own 1 (m + 1) 0 (m + 1)), (11, vi a)], [.arr (n + 1) 1 22 (lstV n (C (i + 1))), .arr (m + 1) 1 3 (lstV m fun q => vi (D 0 q))]⟩ (WkE.keep (by simp only [go_sem, List.replicate_succ, Nat.reducePow, Nat.reduceLeDiff, ↓reduceIte, reduceCtorEq, Nat.reduceLT, Nat.reduceEqDiff, Nat.reduceAdd, Nat.reduceSub, Nat.reduceMul, Int.reduceToNat])) ⟨0, by omega, .inl rfl, ?_⟩ ?_ ?_
      · have : (lstV m fun q => vi (D 0 q)) = lstV m fun q => vi (D (a + 0) q) := lstV_congr fun q _ => by
          rw [hD]; dsimp only; rw [if_neg (by omega), if_neg (by omega)]
        rw [this]; rfl
      rotate_left
      · rintro s rfl
        simp only [go_sem, List.replicate_succ, Nat.reducePow, Nat.reduceLeDiff, ↓reduceIte, reduceCtorEq, Nat.reduceLT, Nat.reduceEqDiff, Nat.reduceAdd, Nat.reduceSub, Nat.reduceMul, Int.reduceToNat]
        exact ⟨_, .refl _ _, rfl⟩
      rintro m' s ⟨e, rfl, he, rfl⟩
      refine CwpE.vc ?_
      by_cases hle2 : a + e ≤ m
      rotate_left
      · have q1 : ¬ ((a + e : Nat) : Int) ≤ (m : Int) := by omega
        have : (lstV m fun q => vi (D (a + e) q)) = lstV m fun q => vi (D (m + 1) q) := lstV_congr fun q hq => by
          rw [hD]; dsimp only
          by_cases h1 : a ≤ q
          · rw [if_pos ⟨h1, by omega⟩, if_pos ⟨h1, by omega⟩]
          · rw [if_neg (by omega), if_neg (by omega)]
        rw [this]
        simp only [go_sem, List.replicate_succ, Nat.reducePow, Nat.reduceLeDiff, ↓reduceIte, reduceCtorEq, Nat.reduceLT, Nat.reduceEqDiff, Nat.reduceAdd, Nat.reduceSub, Nat.reduceMul, Int.reduceToNat, q1]
        exact ⟨_, WkE.keep (by simp only [go_sem, List.replicate_succ, Nat.reducePow, Nat.reduceLeDiff, ↓reduceIte, reduceCtorEq, Nat.reduceLT, Nat.reduceEqDiff, Nat.reduceAdd, Nat.reduceSub, Nat.reduceMul, Int.reduceToNat]), rfl⟩
      have q1 : ((a + e : Nat) : Int) ≤ (m : Int) := by omega
      have q2 : (0 : Int) ≤ ((a + e : Nat) : Int) := by omega
      have q3 : ((a + e : Nat) : Int) < ((m + 1 : Nat) : Int) := by omega
      have q4 : (0 : Int) ≤ (e : Int) := by omega
      have q5 : (e : Int) < ((m + 1 : Nat) : Int) := by omega
      have w6 : IntKind.i64.wrap (((a + e : Nat) : Int) - (a : Int)) = (e : Int) := by rw [wrap_id (by omega) (by omega)]; omega
      have w7 : IntKind.i64.wrap (((a + e : Nat) : Int) + 1) = ((a + (e + 1) : Nat) : Int) := by rw [wrap_id (by omega) (by omega)]; omega
      have hel : e < R.length := by omega
      have hRe : R.getD e 0 = R[e] := by simp [hel]
      have b1 := get e
      rw [hRe] at b1
      have w8 : IntKind.i64.wrap (b + R[e]) = b + R[e] := wrap_id (by omega) (by omega)
      have hDc : D (a + e) (a + e) = R.getD (a + e) 0 := by rw [hD]; dsimp only; rw [if_neg (by omega)]
      have mx : (if R.getD (a + e) 0 < b + R[e] then b + R[e] else R.getD (a + e) 0) = max (R.getD (a + e) 0) (b + R[e]) := by rw [Int.max_def]; split <;> split <;> omega
      have mx' : (if b + R[e] < R.getD (a + e) 0 then R.getD (a + e) 0 else b + R[e]) = max (R.getD (a + e) 0) (b + R[e]) := by rw [Int.max_def]; split <;> split <;> omega
      have hset : (lstV m fun q => vi (D (a + e) q)).set (a + e) (vi (max (R.getD (a + e) 0) (b + R[e]))) = lstV m fun q => vi (D (a + (e + 1)) q) := by
        rw [lstV_set]
        refine lstV_congr fun q hq => ?_
        rw [hD]; dsimp only
        by_cases h1 : q = a + e
        · subst h1
          rw [if_pos rfl, if_pos ⟨by omega, by omega⟩, show a + e - a = e by omega, hRe]
        · rw [if_neg h1]
          by_cases h2 : a ≤ q ∧ q < a + e
          · rw [if_pos h2, if_pos ⟨h2.1, by omega⟩]
          · rw [if_neg h2, if_neg (by omega)]
      simp only [go_sem, List.replicate_succ, Nat.reducePow, Nat.reduceLeDiff, ↓reduceIte, reduceCtorEq, Nat.reduceLT, Nat.reduceEqDiff, Nat.reduceAdd, Nat.reduceSub, Nat.reduceMul, Int.reduceToNat, q1, q2, q3, q4, q5, g0, g1, g2, g3, g4, g5, w4, w6, w7, w8, lstV_len, lstV_get hle2, lstV_get (show i + 1 ≤ n by omega), hCi, hRl, hDc, ha, hb, mx, mx', List.getElem?_map, List.getElem?_eq_getElem hip, List.getElem?_eq_getElem hio, List.getElem?_eq_getElem hel]
      rw [hset]
      exact ⟨m + 1 - (e + 1), ⟨[(0, vints p), (1, vints o), (2, vi m), (7, vi n), (8, .own 0 (n + 1) 0 (n + 1)), (9, vi i), (10, .own 1 (m + 1) 0 (m + 1)), (11, vi (a + (e + 1) : Nat))], [.arr (n + 1) 1 22 (lstV n (C (i + 1))), .arr (m + 1) 1 3 (lstV m fun q => vi (D (a + (e + 1)) q))]⟩, by omega, WkE.keep (by simp only [go_sem, List.replicate_succ, Nat.reducePow, Nat.reduceLeDiff, ↓reduceIte, reduceCtorEq, Nat.reduceLT, Nat.reduceEqDiff, Nat.reduceAdd, Nat.reduceSub, Nat.reduceMul, Int.reduceToNat]), e + 1, rfl, .inr (by omega), rfl⟩
    refine CwpE.vc ?_
    have eR : (lstV m fun q => vi (D (m + 1) q)) = (rowQ p o m i).map vi := by
      obtain ⟨l1, _⟩ := hbd (n - i) i (by omega)
      rw [lstV_ints l1, hRi]
      refine lstV_congr fun q hq => ?_
      have hqr : q < R.length := by omega
      rw [hD]; dsimp only
      congr 2
      simp only [nextR, List.getD_eq_getElem?_getD, List.getElem?_map, List.getElem?_range hqr, Option.map_some, Option.getD_some, Int.toNat_natCast]
      by_cases h1 : a ≤ q
      · rw [if_pos ⟨h1, by omega⟩, if_pos (by omega)]
      · rw [if_neg (by omega), if_neg (by omega)]
    have eC : (lstV n (C (i + 1))).set i (vints (rowQ p o m i)) = lstV n (C i) := by
      rw [lstV_set]
      refine lstV_congr fun q hq => ?_
      rw [hC]; dsimp only
      by_cases h1 : q = i
      · rw [if_pos h1, if_pos (by omega), h1]
      · rw [if_neg h1]
        by_cases h2 : i + 1 ≤ q
        · rw [if_pos h2, if_pos (by omega)]
        · rw [if_neg h2, if_neg (by omega)]
    have hCi0 : C (i + 1) i = nilV := by rw [hC]; dsimp only; rw [if_neg (by omega)]
    simp only [go_sem, List.replicate_succ, Nat.reducePow, Nat.reduceLeDiff, ↓reduceIte, reduceCtorEq, Nat.reduceLT, Nat.reduceEqDiff, Nat.reduceAdd, Nat.reduceSub, Nat.reduceMul, Int.reduceToNat, g0, g1, lstV_len, lstV_get (show i ≤ n by omega), hCi0, eR]
    rw [← eC]
    exact ⟨_, put _ [(0, vints p), (1, vints o), (2, vi m), (7, vi n), (8, .own 0 (n + 1) 0 (n + 1)), (9, vi i)] i (rowQ p o m i) (lstV n (C (i + 1))) (by omega) (hbd (n - i) i (by omega)).1 (lstV_len _ _) (by simp only [go_sem, List.replicate_succ, Nat.reducePow, Nat.reduceLeDiff, ↓reduceIte, reduceCtorEq, Nat.reduceLT, Nat.reduceEqDiff, Nat.reduceAdd, Nat.reduceSub, Nat.reduceMul, Int.reduceToNat]) (by simp [AV.inn, AV.inn1]) (by rw [eC, hC]; simp only [lstV, List.all_map]; refine List.all_eq_true.2 fun q _ => ?_; simp only [Function.comp]; split <;> simp [AV.inn, AV.inn1]), rfl⟩
end Go.Proofs.Ytphcaelkpgdbcaa
