/- The law AllowFactors, by contract. -/
import Derived.Test.YtphcaelkpgdbcaaPt
set_option linter.unusedSimpArgs false
set_option linter.unusedVariables false
set_option linter.unusedSectionVars false
namespace Go.Proofs.Ytphcaelkpgdbcaa
open Go.RowKit Dak
theorem rowN_best (p o : List Int) {m k : Nat} (h : k ≤ m) : (rowN p o m k : Int) = best p o k := by
  unfold rowN
  rw [rowQ_best p o m 0 k h, List.drop_zero, List.drop_zero]
  exact Int.toNat_of_nonneg (best_nonneg p o k)
theorem factor_ge {R : Nat → Nat} (h0 : R 0 = 0) {m k a b g : Nat} (hB : bestN R (m + 1) = (a, b)) (hg : Nat.gcd a b = g) (hk : k ≤ m) : R k * (b / g) ≤ (a / g) * k := by
  obtain ⟨h1, h2⟩ := bestN_ge h0 (m + 1)
  rw [hB] at h1 h2
  have h3 := h2 k (by omega)
  dsimp only at h1 h3
  have ga : g ∣ a := by rw [← hg]; exact Nat.gcd_dvd_left _ _
  have gb : g ∣ b := by rw [← hg]; exact Nat.gcd_dvd_right _ _
  obtain ⟨x, rfl⟩ := ga
  obtain ⟨y, rfl⟩ := gb
  have gp : 0 < g := by
    rcases Nat.eq_zero_or_pos g with h | h
    · subst h; simp at h1
    · exact h
  rw [Nat.mul_div_cancel_left _ gp, Nat.mul_div_cancel_left _ gp]
  refine Nat.le_of_mul_le_mul_left (?_ : g * (R k * y) ≤ g * (x * k)) gp
  calc g * (R k * y) = R k * (g * y) := by rw [Nat.mul_left_comm]
    _ ≤ g * x * k := h3
    _ = g * (x * k) := by rw [Nat.mul_assoc]
theorem factor_eq {R : Nat → Nat} (h0 : R 0 = 0) {m a b g : Nat} (hB : bestN R (m + 1) = (a, b)) (hg : Nat.gcd a b = g) (ha : a / g ≠ 0) : ∃ k, k ≤ m ∧ 0 < k ∧ R k * (b / g) = (a / g) * k := by
  obtain ⟨h1, _⟩ := bestN_ge h0 (m + 1)
  have h2 := bestN_eq h0 (m + 1)
  rw [hB] at h1 h2
  dsimp only at h1 h2
  have ga : g ∣ a := by rw [← hg]; exact Nat.gcd_dvd_left _ _
  have gb : g ∣ b := by rw [← hg]; exact Nat.gcd_dvd_right _ _
  have ha' : a ≠ 0 := by rintro rfl; simp at ha
  obtain ⟨h3, h4⟩ := h2 ha'
  refine ⟨b, by omega, by omega, ?_⟩
  rw [← h3]
  obtain ⟨x, rfl⟩ := ga
  obtain ⟨y, rfl⟩ := gb
  have gp : 0 < g := by
    rcases Nat.eq_zero_or_pos g with h | h
    · subst h; simp at h1
    · exact h
  rw [Nat.mul_div_cancel_left _ gp, Nat.mul_div_cancel_left _ gp]
  rw [Nat.mul_comm g x, Nat.mul_assoc]
theorem factor_small {R : Nat → Nat} (h0 : R 0 = 0) {m u a b g : Nat} (hR : ∀ k, k ≤ m → R k ≤ u * k) (hB : bestN R (m + 1) = (a, b)) (hg : Nat.gcd a b = g) : a / g ≤ u * (b / g) := by
  by_cases ha : a / g = 0
  · rw [ha]; exact Nat.zero_le _
  obtain ⟨h1, _⟩ := bestN_ge h0 (m + 1)
  have h2 := bestN_eq h0 (m + 1)
  rw [hB] at h1 h2
  dsimp only at h1 h2
  have ga : g ∣ a := by rw [← hg]; exact Nat.gcd_dvd_left _ _
  have gb : g ∣ b := by rw [← hg]; exact Nat.gcd_dvd_right _ _
  have ha' : a ≠ 0 := by rintro rfl; simp at ha
  obtain ⟨h3, h4⟩ := h2 ha'
  have h5 := hR b (by omega)
  rw [← h3] at h5
  obtain ⟨x, rfl⟩ := ga
  obtain ⟨y, rfl⟩ := gb
  have gp : 0 < g := by
    rcases Nat.eq_zero_or_pos g with h | h
    · subst h; simp at h1
    · exact h
  rw [Nat.mul_div_cancel_left _ gp, Nat.mul_div_cancel_left _ gp]
  refine Nat.le_of_mul_le_mul_left (?_ : g * x ≤ g * (u * y)) gp
  rw [Nat.mul_left_comm]; exact h5
theorem factorL_ok {p o : List Int} {m : Nat} (h : OkQ p o m) : factorL p o (m : Int) = if rowN p o m 0 = 0 then
      ((bestN (rowN p o m) (m + 1)).1 / Nat.gcd (bestN (rowN p o m) (m + 1)).1 (bestN (rowN p o m) (m + 1)).2,
       (bestN (rowN p o m) (m + 1)).2 / Nat.gcd (bestN (rowN p o m) (m + 1)).1 (bestN (rowN p o m) (m + 1)).2, 0)
      else (0, 0, 6) := by unfold factorL; rw [if_pos (validL_ok.2 h), Int.toNat_natCast]
/-- Whether the fraction is reached at one of the first limits. -/
def hitB (R : Nat → Nat) (x y : Nat) : Nat → Bool
  | 0 => decide (x = 0)
  | k + 1 => hitB R x y k || (decide (0 < k) && decide (R k * y = x * k))
theorem hitB_of {R : Nat → Nat} {x y : Nat} : ∀ n, (x = 0 ∨ ∃ k, k < n ∧ 0 < k ∧ R k * y = x * k) → hitB R x y n = true
  | 0, h => by
    rcases h with h | ⟨k, h, _⟩
    · simp [hitB, h]
    · omega
  | n + 1, h => by
    rw [hitB]
    rcases h with h | ⟨k, h1, h2, h3⟩
    · rw [hitB_of n (.inl h)]; rfl
    · rcases (by omega : k = n ∨ k < n) with rfl | hk
      · simp [h2, h3]
      · rw [hitB_of n (.inr ⟨k, hk, h2, h3⟩)]; rfl
set_option maxRecDepth 100000 in
set_option maxHeartbeats 8000000 in
theorem AllowFactors_s (l m : List Int) (n most at_ by_ k : Int) (hl : ∀ x ∈ l, I64 x) (hm : ∀ x ∈ m, I64 x) (h1 : I64 n) (h2 : I64 most) (h3 : I64 at_) (h4 : I64 by_) (h5 : I64 k) :
    Ctr Try.prog 7 [vints l, vints m, vi n, vi most, vi at_, vi by_, vi k] (vb true) := by
  refine specC f7 (by simp) fun F0 w0 => ?_
  have sQ := questions_s l m n hl hm h1
  have ca := aroundL_bd most 40 (by omega)
  have sA := Around_s most 40 h2 ⟨by omega, by omega⟩
  obtain ⟨c, hc⟩ : ∃ c : Nat, aroundL most 40 = c := ⟨(aroundL most 40).toNat, by omega⟩
  rw [hc] at sA ca
  have a2 := aroundL_bd most 4 (by omega)
  have sB := Around_s most 4 h2 ⟨by omega, by omega⟩
  obtain ⟨kk, hk⟩ : ∃ kk : Nat, aroundL most 4 = kk := ⟨(aroundL most 4).toNat, by omega⟩
  rw [hk] at sB a2
  obtain ⟨c2, hc2⟩ : ∃ c2, ([-1, 2048, 2049, 0] : List Int).getD kk 0 = c2 := ⟨_, rfl⟩
  have ua := aroundL_bd k 9 (by omega)
  have sU := Around_s k 9 h5 ⟨by omega, by omega⟩
  obtain ⟨u, hu⟩ : ∃ u : Nat, aroundL k 9 = u := ⟨(aroundL k 9).toNat, by omega⟩
  rw [hu] at sU ua
  have okc := okQ_gen l m n c (by omega)
  have p12 := (stepsL_bd l (manyL n) 12 (by omega)).2
  generalize stepsL l (manyL n) 12 = p at sQ okc p12
  generalize stepsL m (manyL n) 40 = o at sQ okc
  have hlen := okc.len
  have hmost := okc.most
  have oddl : ∀ (x : List Int) (a b : Int), x.length ≤ 1000 → (oddL x a b).length ≤ 1000000 := fun x a b hx => by unfold oddL; split <;> simp <;> omega
  have t1 := odd_s p at_ by_ (by omega) h3 h4
  have t2 := odd_s o at_ by_ (by omega) h3 h4
  have t1l := oddl p at_ by_ (by omega)
  have t2l := oddl o at_ by_ (by omega)
  generalize oddL p at_ by_ = p1 at t1 t1l
  generalize oddL o at_ by_ = o1 at t2 t2l
  unfold c7
  refine CwpE.cut (st := ⟨[(0, vints l), (1, vints m), (2, vi n), (3, vi most), (4, vi at_), (5, vi by_), (6, vi k)], []⟩) ?_ ?_
  · simp only [go_sem, List.replicate_succ, Nat.reducePow, Nat.reduceLeDiff, ↓reduceIte, reduceCtorEq, Nat.reduceLT, Nat.reduceEqDiff, Nat.reduceAdd, Nat.reduceSub, Nat.reduceMul, Int.reduceToNat]
    exact ⟨_, WkE.keep (by simp only [go_sem, List.replicate_succ, Nat.reducePow, Nat.reduceLeDiff, ↓reduceIte, reduceCtorEq, Nat.reduceLT, Nat.reduceEqDiff, Nat.reduceAdd, Nat.reduceSub, Nat.reduceMul, Int.reduceToNat]), rfl⟩
  refine CwpE.cut (st := ⟨[(3, vi most), (4, vi at_), (5, vi by_), (6, vi k), (15, vints p), (16, vints o)], []⟩) ?_ ?_
  · simp only [go_sem, List.replicate_succ, Nat.reducePow, Nat.reduceLeDiff, ↓reduceIte, reduceCtorEq, Nat.reduceLT, Nat.reduceEqDiff, Nat.reduceAdd, Nat.reduceSub, Nat.reduceMul, Int.reduceToNat]
    refine callT sQ rfl ?_
    simp only [go_sem, List.replicate_succ, Nat.reducePow, Nat.reduceLeDiff, ↓reduceIte, reduceCtorEq, Nat.reduceLT, Nat.reduceEqDiff, Nat.reduceAdd, Nat.reduceSub, Nat.reduceMul, Int.reduceToNat]
    exact ⟨_, WkE.keep (by simp only [go_sem, List.replicate_succ, Nat.reducePow, Nat.reduceLeDiff, ↓reduceIte, reduceCtorEq, Nat.reduceLT, Nat.reduceEqDiff, Nat.reduceAdd, Nat.reduceSub, Nat.reduceMul, Int.reduceToNat]), rfl⟩
  refine CwpE.cut (st := ⟨[(4, vi at_), (5, vi by_), (6, vi k), (15, vints p), (16, vints o), (17, vints [(c : Int), c2])], []⟩) ?_ ?_
  · simp only [go_sem, List.replicate_succ, Nat.reducePow, Nat.reduceLeDiff, ↓reduceIte, reduceCtorEq, Nat.reduceLT, Nat.reduceEqDiff, Nat.reduceAdd, Nat.reduceSub, Nat.reduceMul, Int.reduceToNat]
    refine callT sA rfl ?_
    simp only [go_sem, List.replicate_succ, Nat.reducePow, Nat.reduceLeDiff, ↓reduceIte, reduceCtorEq, Nat.reduceLT, Nat.reduceEqDiff, Nat.reduceAdd, Nat.reduceSub, Nat.reduceMul, Int.reduceToNat]
    refine callT sB rfl ?_
    rcases (by omega : kk = 0 ∨ kk = 1 ∨ kk = 2 ∨ kk = 3) with rfl | rfl | rfl | rfl
    all_goals
      simp only [List.getD_cons_zero, List.getD_cons_succ] at hc2
      subst hc2
      simp only [go_sem, List.replicate_succ, Nat.reducePow, Nat.reduceLeDiff, ↓reduceIte, reduceCtorEq, Nat.reduceLT, Nat.reduceEqDiff, Nat.reduceAdd, Nat.reduceSub, Nat.reduceMul, Int.reduceToNat, show (0 : Int) ≤ ((0 : Nat) : Int) by omega, show (0 : Int) ≤ ((1 : Nat) : Int) by omega, show (0 : Int) ≤ ((2 : Nat) : Int) by omega, show (0 : Int) ≤ ((3 : Nat) : Int) by omega, Int.toNat_natCast]
      exact ⟨_, WkE.keep (by simp only [go_sem, List.replicate_succ, Nat.reducePow, Nat.reduceLeDiff, ↓reduceIte, reduceCtorEq, Nat.reduceLT, Nat.reduceEqDiff, Nat.reduceAdd, Nat.reduceSub, Nat.reduceMul, Int.reduceToNat]; rfl), rfl⟩
  obtain ⟨LL, hLL⟩ : ∃ LL : List (List (List Int)), LL = [[p, o], [p1, o], [p, o1]] := ⟨_, rfl⟩
  have hLg : ∀ i, i < 3 → ∃ P O, LL[i]? = some [P, O] ∧ P.length ≤ 1000000 ∧ O.length ≤ 1000000 := by
    intro i hi
    rw [hLL]
    rcases (by omega : i = 0 ∨ i = 1 ∨ i = 2) with rfl | rfl | rfl
    · exact ⟨p, o, rfl, by omega, by omega⟩
    · exact ⟨p1, o, rfl, by omega, by omega⟩
    · exact ⟨p, o1, rfl, by omega, by omega⟩
  have hLl : LL.length = 3 := by rw [hLL]; rfl
  refine CwpE.cut (st := ⟨[(6, vi k), (15, vints p), (16, vints o), (17, vints [(c : Int), c2]), (18, .list 1 (LL.map vrows))], []⟩) ?_ ?_
  · simp only [go_sem, List.replicate_succ, Nat.reducePow, Nat.reduceLeDiff, ↓reduceIte, reduceCtorEq, Nat.reduceLT, Nat.reduceEqDiff, Nat.reduceAdd, Nat.reduceSub, Nat.reduceMul, Int.reduceToNat]
    refine callT t1 rfl ?_
    simp only [go_sem, List.replicate_succ, Nat.reducePow, Nat.reduceLeDiff, ↓reduceIte, reduceCtorEq, Nat.reduceLT, Nat.reduceEqDiff, Nat.reduceAdd, Nat.reduceSub, Nat.reduceMul, Int.reduceToNat]
    refine callT t2 rfl ?_
    simp only [go_sem, List.replicate_succ, Nat.reducePow, Nat.reduceLeDiff, ↓reduceIte, reduceCtorEq, Nat.reduceLT, Nat.reduceEqDiff, Nat.reduceAdd, Nat.reduceSub, Nat.reduceMul, Int.reduceToNat]
    exact ⟨_, WkE.keep (by simp only [go_sem, List.replicate_succ, Nat.reducePow, Nat.reduceLeDiff, ↓reduceIte, reduceCtorEq, Nat.reduceLT, Nat.reduceEqDiff, Nat.reduceAdd, Nat.reduceSub, Nat.reduceMul, Int.reduceToNat]; rw [hLL]; rfl), rfl⟩
  have hlim : ∀ j, j < 2 → ∃ x, ([(c : Int), c2] : List Int)[j]? = some x := fun j hj => ⟨_, List.getElem?_eq_getElem (by simpa using hj)⟩
  refine CwpE.cut (st := ⟨[(6, vi k), (15, vints p), (16, vints o), (17, vints [(c : Int), c2])], []⟩) ?_ ?_
  · simp only [go_sem, List.replicate_succ, Nat.reducePow, Nat.reduceLeDiff, ↓reduceIte, reduceCtorEq, Nat.reduceLT, Nat.reduceEqDiff, Nat.reduceAdd, Nat.reduceSub, Nat.reduceMul, Int.reduceToNat]
    refine loopXC 0 (fun m' s => ∃ i : Nat, m' = 3 - i ∧ i ≤ 3 ∧ s = ⟨[(6, vi k), (15, vints p), (16, vints o), (17, vints [(c : Int), c2]), (18, .list 1 (LL.map vrows)), (19, vi i)], []⟩)
      (fun s => s = ⟨[(6, vi k), (15, vints p), (16, vints o), (17, vints [(c : Int), c2])], []⟩) 3
      ⟨[(6, vi k), (15, vints p), (16, vints o), (17, vints [(c : Int), c2]), (18, .list 1 (LL.map vrows)), (19, vi (0 : Nat))], []⟩ (WkE.keep (by simp only [go_sem, List.replicate_succ, Nat.reducePow, Nat.reduceLeDiff, ↓reduceIte, reduceCtorEq, Nat.reduceLT, Nat.reduceEqDiff, Nat.reduceAdd, Nat.reduceSub, Nat.reduceMul, Int.reduceToNat]; rfl)) ⟨0, by omega, by omega, rfl⟩ ?_ ?_
    rotate_left
    · rintro s rfl
      simp only [go_sem, List.replicate_succ, Nat.reducePow, Nat.reduceLeDiff, ↓reduceIte, reduceCtorEq, Nat.reduceLT, Nat.reduceEqDiff, Nat.reduceAdd, Nat.reduceSub, Nat.reduceMul, Int.reduceToNat]
      exact ⟨_, .refl _ _, rfl⟩
    rintro m' s ⟨i, rfl, hi, rfl⟩
    by_cases hlt : i < 3
    rotate_left
    · obtain rfl : i = 3 := by omega
      refine CwpE.vc ?_
      simp only [go_sem, List.replicate_succ, Nat.reducePow, Nat.reduceLeDiff, ↓reduceIte, reduceCtorEq, Nat.reduceLT, Nat.reduceEqDiff, Nat.reduceAdd, Nat.reduceSub, Nat.reduceMul, Int.reduceToNat, hLl, Int.lt_irrefl]
      exact ⟨_, WkE.keep (by simp only [go_sem, List.replicate_succ, Nat.reducePow, Nat.reduceLeDiff, ↓reduceIte, reduceCtorEq, Nat.reduceLT, Nat.reduceEqDiff, Nat.reduceAdd, Nat.reduceSub, Nat.reduceMul, Int.reduceToNat]), rfl⟩
    obtain ⟨P, O, hPO, hPl, hOl⟩ := hLg i hlt
    have i0 : (0 : Int) ≤ (i : Int) := by omega
    have i1 : (i : Int) < ((3 : Nat) : Int) := by omega
    have wi : IntKind.i64.wrap ((i : Int) + 1) = ((i + 1 : Nat) : Int) := by rw [wrap_id (by omega) (by omega)]; omega
    refine CwpE.cut (st := ⟨[(6, vi k), (15, vints p), (16, vints o), (17, vints [(c : Int), c2]), (18, .list 1 (LL.map vrows)), (19, vi i)], []⟩) ?_ ?_
    · simp only [go_sem, List.replicate_succ, Nat.reducePow, Nat.reduceLeDiff, ↓reduceIte, reduceCtorEq, Nat.reduceLT, Nat.reduceEqDiff, Nat.reduceAdd, Nat.reduceSub, Nat.reduceMul, Int.reduceToNat, hLl, i1]
      exact ⟨_, WkE.keep (by simp only [go_sem, List.replicate_succ, Nat.reducePow, Nat.reduceLeDiff, ↓reduceIte, reduceCtorEq, Nat.reduceLT, Nat.reduceEqDiff, Nat.reduceAdd, Nat.reduceSub, Nat.reduceMul, Int.reduceToNat]), rfl⟩
    refine CwpE.seqJ (fun s => s = ⟨[(6, vi k), (15, vints p), (16, vints o), (17, vints [(c : Int), c2]), (18, .list 1 (LL.map vrows)), (19, vi i)], []⟩) (CwpE.block ?_) ?_
    rotate_left
    · rintro s rfl
      refine CwpE.vc ?_
      simp only [go_sem, List.replicate_succ, Nat.reducePow, Nat.reduceLeDiff, ↓reduceIte, reduceCtorEq, Nat.reduceLT, Nat.reduceEqDiff, Nat.reduceAdd, Nat.reduceSub, Nat.reduceMul, Int.reduceToNat, wi]
      exact ⟨3 - (i + 1), ⟨[(6, vi k), (15, vints p), (16, vints o), (17, vints [(c : Int), c2]), (18, .list 1 (LL.map vrows)), (19, vi (i + 1 : Nat))], []⟩, by omega, WkE.keep (by simp only [go_sem, List.replicate_succ, Nat.reducePow, Nat.reduceLeDiff, ↓reduceIte, reduceCtorEq, Nat.reduceLT, Nat.reduceEqDiff, Nat.reduceAdd, Nat.reduceSub, Nat.reduceMul, Int.reduceToNat]), i + 1, rfl, by omega, rfl⟩
    refine CwpE.cut (st := ⟨[(6, vi k), (15, vints p), (16, vints o), (17, vints [(c : Int), c2]), (18, .list 1 (LL.map vrows)), (19, vi i), (20, vi (0 : Nat))], []⟩) ?_ ?_
    · simp only [go_sem, List.replicate_succ, Nat.reducePow, Nat.reduceLeDiff, ↓reduceIte, reduceCtorEq, Nat.reduceLT, Nat.reduceEqDiff, Nat.reduceAdd, Nat.reduceSub, Nat.reduceMul, Int.reduceToNat]
      exact ⟨_, WkE.keep (by simp only [go_sem, List.replicate_succ, Nat.reducePow, Nat.reduceLeDiff, ↓reduceIte, reduceCtorEq, Nat.reduceLT, Nat.reduceEqDiff, Nat.reduceAdd, Nat.reduceSub, Nat.reduceMul, Int.reduceToNat]; rfl), rfl⟩
    refine CwpE.block ?_
    refine loopXC 2 (fun m' s => ∃ j : Nat, m' = 2 - j ∧ j ≤ 2 ∧ s = ⟨[(6, vi k), (15, vints p), (16, vints o), (17, vints [(c : Int), c2]), (18, .list 1 (LL.map vrows)), (19, vi i), (20, vi j)], []⟩)
      (fun s => s = ⟨[(6, vi k), (15, vints p), (16, vints o), (17, vints [(c : Int), c2]), (18, .list 1 (LL.map vrows)), (19, vi i)], []⟩) 2
      ⟨[(6, vi k), (15, vints p), (16, vints o), (17, vints [(c : Int), c2]), (18, .list 1 (LL.map vrows)), (19, vi i), (20, vi (0 : Nat))], []⟩ (WkE.refl _ _) ⟨0, by omega, by omega, rfl⟩ ?_ ?_
    rotate_left
    · rintro s rfl
      simp only [go_sem, List.replicate_succ, Nat.reducePow, Nat.reduceLeDiff, ↓reduceIte, reduceCtorEq, Nat.reduceLT, Nat.reduceEqDiff, Nat.reduceAdd, Nat.reduceSub, Nat.reduceMul, Int.reduceToNat]
      exact ⟨_, .refl _ _, rfl⟩
    rintro m' s ⟨j, rfl, hj, rfl⟩
    refine CwpE.vc ?_
    by_cases hjt : j < 2
    rotate_left
    · have g : ¬ (j : Int) < 2 := by omega
      simp only [go_sem, List.replicate_succ, Nat.reducePow, Nat.reduceLeDiff, ↓reduceIte, reduceCtorEq, Nat.reduceLT, Nat.reduceEqDiff, Nat.reduceAdd, Nat.reduceSub, Nat.reduceMul, Int.reduceToNat, g]
      exact ⟨_, WkE.keep (by simp only [go_sem, List.replicate_succ, Nat.reducePow, Nat.reduceLeDiff, ↓reduceIte, reduceCtorEq, Nat.reduceLT, Nat.reduceEqDiff, Nat.reduceAdd, Nat.reduceSub, Nat.reduceMul, Int.reduceToNat]), rfl⟩
    obtain ⟨x, hx⟩ := hlim j hjt
    have k0 : (0 : Int) ≤ (j : Int) := by omega
    have k1 : (j : Int) < 2 := by omega
    have wk : IntKind.i64.wrap ((j : Int) + 1) = ((j + 1 : Nat) : Int) := by rw [wrap_id (by omega) (by omega)]; omega
    have l1 := Factor_s P O x hPl hOl
    have l2 := refFactor_s P O x hPl hOl
    generalize factorL P O x = y at l1 l2
    obtain ⟨y1, y2, y3⟩ := y
    have e1 : ((y1 : Int) = (y1 : Int)) = True := eq_true rfl
    have e2 : ((y2 : Int) = (y2 : Int)) = True := eq_true rfl
    have e3 : (y3 = y3) = True := eq_true rfl
    have hcm : ([vi c, vi c2] : List AV)[j]? = some (vi x) := by
      have : ([vi c, vi c2] : List AV) = ([(c : Int), c2] : List Int).map vi := rfl
      rw [this, List.getElem?_map, hx]; rfl
    simp only [go_sem, List.replicate_succ, Nat.reducePow, Nat.reduceLeDiff, ↓reduceIte, reduceCtorEq, Nat.reduceLT, Nat.reduceEqDiff, Nat.reduceAdd, Nat.reduceSub, Nat.reduceMul, Int.reduceToNat, k0, k1, i0, Int.le_refl, show (0 : Int) ≤ 1 by omega, List.getElem?_map, hPO, hcm]
    refine callT l1 rfl ?_
    simp only [go_sem, List.replicate_succ, Nat.reducePow, Nat.reduceLeDiff, ↓reduceIte, reduceCtorEq, Nat.reduceLT, Nat.reduceEqDiff, Nat.reduceAdd, Nat.reduceSub, Nat.reduceMul, Int.reduceToNat, k0, k1, i0, Int.le_refl, show (0 : Int) ≤ 1 by omega, List.getElem?_map, hPO, hcm]
    refine callT l2 rfl ?_
    simp only [go_sem, List.replicate_succ, Nat.reducePow, Nat.reduceLeDiff, ↓reduceIte, reduceCtorEq, Nat.reduceLT, Nat.reduceEqDiff, Nat.reduceAdd, Nat.reduceSub, Nat.reduceMul, Int.reduceToNat, e1, e2, e3, wk]
    exact ⟨2 - (j + 1), ⟨[(6, vi k), (15, vints p), (16, vints o), (17, vints [(c : Int), c2]), (18, .list 1 (LL.map vrows)), (19, vi i), (20, vi (j + 1 : Nat))], []⟩, by omega, WkE.keep (by simp only [go_sem, List.replicate_succ, Nat.reducePow, Nat.reduceLeDiff, ↓reduceIte, reduceCtorEq, Nat.reduceLT, Nat.reduceEqDiff, Nat.reduceAdd, Nat.reduceSub, Nat.reduceMul, Int.reduceToNat]), j + 1, rfl, by omega, rfl⟩
  have lF := Factor_s p o c (by omega) (by omega)
  rw [factorL_ok okc] at lF
  have hcm : ([vi c, vi c2] : List AV)[0]? = some (vi c) := rfl
  obtain ⟨R, hR⟩ : ∃ R, rowN p o c = R := ⟨_, rfl⟩
  rw [hR] at lF
  have hRb : ∀ j, j ≤ c → (R j : Int) = best p o j := fun j hj => by rw [← hR]; exact rowN_best p o hj
  have hRM : ∀ j, j ≤ c → R j ≤ 48000000 := fun j hj => by have := hRb j hj; have := best_bd okc j; omega
  refine CwpE.seqJ (fun s => ∃ (x y : Nat) (e : Int), s = ⟨[(6, vi k), (15, vints p), (16, vints o), (17, vints [(c : Int), c2]), (27, vi x), (28, vi y), (29, vi e)], []⟩ ∧
      (e = 0 → x ≤ 48000000 ∧ 1 ≤ y ∧ y ≤ 3000 ∧ (∀ j, j ≤ c → R j * y ≤ x * j) ∧ hitB R x y (c + 1) = true)) ?_ ?_
  · refine CwpE.vc ?_
    simp only [go_sem, List.replicate_succ, Nat.reducePow, Nat.reduceLeDiff, ↓reduceIte, reduceCtorEq, Nat.reduceLT, Nat.reduceEqDiff, Nat.reduceAdd, Nat.reduceSub, Nat.reduceMul, Int.reduceToNat, Int.le_refl]
    refine callT lF rfl ?_
    by_cases hz : R 0 = 0
    · rw [if_pos hz]
      obtain ⟨b1, b2, b3, b4⟩ := bestN_bd hz (fun j (hj : j ≤ c) => hRM j hj) (c + 1) (Nat.le_refl _)
      have f1 := fun j (hj : j ≤ c) => factor_ge hz (m := c) (k := j) (Prod.eta (bestN R (c + 1))).symm rfl hj
      have f2 := factor_eq hz (m := c) (Prod.eta (bestN R (c + 1))).symm rfl
      have g1 : 1 ≤ Nat.gcd (bestN R (c + 1)).1 (bestN R (c + 1)).2 := Nat.pos_of_ne_zero (Nat.gcd_ne_zero_right (by omega))
      have g2 : Nat.gcd (bestN R (c + 1)).1 (bestN R (c + 1)).2 ≤ (bestN R (c + 1)).2 := Nat.gcd_le_right _ (by omega)
      have d1 : (bestN R (c + 1)).1 / Nat.gcd (bestN R (c + 1)).1 (bestN R (c + 1)).2 ≤ (bestN R (c + 1)).1 := Nat.div_le_self _ _
      have d2 : (bestN R (c + 1)).2 / Nat.gcd (bestN R (c + 1)).1 (bestN R (c + 1)).2 ≤ (bestN R (c + 1)).2 := Nat.div_le_self _ _
      have d3 : 1 ≤ (bestN R (c + 1)).2 / Nat.gcd (bestN R (c + 1)).1 (bestN R (c + 1)).2 := Nat.div_pos g2 g1
      generalize (bestN R (c + 1)).1 / Nat.gcd (bestN R (c + 1)).1 (bestN R (c + 1)).2 = x at *
      generalize (bestN R (c + 1)).2 / Nat.gcd (bestN R (c + 1)).1 (bestN R (c + 1)).2 = y at *
      simp only [go_sem, List.replicate_succ, Nat.reducePow, Nat.reduceLeDiff, ↓reduceIte, reduceCtorEq, Nat.reduceLT, Nat.reduceEqDiff, Nat.reduceAdd, Nat.reduceSub, Nat.reduceMul, Int.reduceToNat]
      refine ⟨⟨[(6, vi k), (15, vints p), (16, vints o), (17, vints [(c : Int), c2]), (27, vi x), (28, vi y), (29, vi 0)], []⟩, WkE.keep (by simp only [go_sem, List.replicate_succ, Nat.reducePow, Nat.reduceLeDiff, ↓reduceIte, reduceCtorEq, Nat.reduceLT, Nat.reduceEqDiff, Nat.reduceAdd, Nat.reduceSub, Nat.reduceMul, Int.reduceToNat]), x, y, 0, rfl, fun _ => ⟨by omega, d3, by omega, f1, hitB_of _ ?_⟩⟩
      by_cases hx : x = 0
      · exact .inl hx
      · obtain ⟨j, j1, j2, j3⟩ := f2 hx
        exact .inr ⟨j, by omega, j2, j3⟩
    · rw [if_neg hz]
      simp only [go_sem, List.replicate_succ, Nat.reducePow, Nat.reduceLeDiff, ↓reduceIte, reduceCtorEq, Nat.reduceLT, Nat.reduceEqDiff, Nat.reduceAdd, Nat.reduceSub, Nat.reduceMul, Int.reduceToNat]
      exact ⟨⟨[(6, vi k), (15, vints p), (16, vints o), (17, vints [(c : Int), c2]), (27, vi (0 : Nat)), (28, vi (0 : Nat)), (29, vi 6)], []⟩, WkE.keep (by simp only [go_sem, List.replicate_succ, Nat.reducePow, Nat.reduceLeDiff, ↓reduceIte, reduceCtorEq, Nat.reduceLT, Nat.reduceEqDiff, Nat.reduceAdd, Nat.reduceSub, Nat.reduceMul, Int.reduceToNat]), 0, 0, 6, rfl, fun h => absurd h (by omega)⟩
  rintro s ⟨x, y, e, rfl, hxy⟩
  refine CwpE.seqJ (fun s => s = ⟨[(6, vi k), (15, vints p), (16, vints o), (17, vints [(c : Int), c2])], []⟩) ?_ ?_
  · by_cases he : e = 0
    rotate_left
    · have he' := eq_false he
      refine CwpE.vc ?_
      simp only [go_sem, List.replicate_succ, Nat.reducePow, Nat.reduceLeDiff, ↓reduceIte, reduceCtorEq, Nat.reduceLT, Nat.reduceEqDiff, Nat.reduceAdd, Nat.reduceSub, Nat.reduceMul, Int.reduceToNat, he']
      exact ⟨_, WkE.keep (by simp only [go_sem, List.replicate_succ, Nat.reducePow, Nat.reduceLeDiff, ↓reduceIte, reduceCtorEq, Nat.reduceLT, Nat.reduceEqDiff, Nat.reduceAdd, Nat.reduceSub, Nat.reduceMul, Int.reduceToNat]), rfl⟩
    obtain ⟨x1, y1, y2, hge, hhit⟩ := hxy he
    subst he
    have cL := Least_s p o c (by omega) (by omega)
    rw [leastL_ok okc] at cL
    have hTg := tabA_get hlen c (q := 0) (by omega)
    have hAl : (tabA p o c).length = p.length + 1 := by rw [tabA_rows hlen]; simp
    obtain ⟨hl0, hb0⟩ := rowQ_bd okc c p.length 0 (by omega)
    have hRg : ∀ j, j ≤ c → (rowQ p o c 0)[j]? = some (R j : Int) := fun j hj => by
      have h6 := getD_get (show j < (rowQ p o c 0).length by omega)
      have h7 : 0 ≤ (rowQ p o c 0).getD j 0 := (hb0 _ (List.mem_of_getElem? h6)).1
      rw [h6, ← hR]; unfold rowN
      rw [Int.toNat_of_nonneg h7]
    generalize timeL p o c = t at cL
    generalize setA p o c 0 c = X at cL
    generalize tabA p o c = A at cL hTg hAl
    generalize rowQ p o c 0 = row at hTg hl0 hRg
    refine CwpE.cut (st := ⟨[(6, vi k), (15, vints p), (16, vints o), (17, vints [(c : Int), c2]), (27, vi x), (28, vi y), (144, vb true)], []⟩) ?_ ?_
    · simp only [go_sem, List.replicate_succ, Nat.reducePow, Nat.reduceLeDiff, ↓reduceIte, reduceCtorEq, Nat.reduceLT, Nat.reduceEqDiff, Nat.reduceAdd, Nat.reduceSub, Nat.reduceMul, Int.reduceToNat]
      exact ⟨_, WkE.keep (by simp only [go_sem, List.replicate_succ, Nat.reducePow, Nat.reduceLeDiff, ↓reduceIte, reduceCtorEq, Nat.reduceLT, Nat.reduceEqDiff, Nat.reduceAdd, Nat.reduceSub, Nat.reduceMul, Int.reduceToNat]), rfl⟩
    refine CwpE.cond_t rfl ?_
    refine CwpE.cut (st := ⟨[(6, vi k), (15, vints p), (16, vints o), (17, vints [(c : Int), c2]), (27, vi x), (28, vi y), (30, vb (hitB R x y 0))], []⟩) ?_ ?_
    · have e0 : decide ((x : Int) = 0) = hitB R x y 0 := by simp [hitB]
      simp only [go_sem, List.replicate_succ, Nat.reducePow, Nat.reduceLeDiff, ↓reduceIte, reduceCtorEq, Nat.reduceLT, Nat.reduceEqDiff, Nat.reduceAdd, Nat.reduceSub, Nat.reduceMul, Int.reduceToNat, e0]
      exact ⟨_, WkE.keep (by simp only [go_sem, List.replicate_succ, Nat.reducePow, Nat.reduceLeDiff, ↓reduceIte, reduceCtorEq, Nat.reduceLT, Nat.reduceEqDiff, Nat.reduceAdd, Nat.reduceSub, Nat.reduceMul, Int.reduceToNat]), rfl⟩
    refine CwpE.cut (st := ⟨[(6, vi k), (15, vints p), (16, vints o), (17, vints [(c : Int), c2]), (27, vi x), (28, vi y), (30, vb (hitB R x y 0)), (31, .ref 0 1 0 0), (32, vi 0)], [.arr 1 3 30 [certV t X A]]⟩) ?_ ?_
    · simp only [go_sem, List.replicate_succ, Nat.reducePow, Nat.reduceLeDiff, ↓reduceIte, reduceCtorEq, Nat.reduceLT, Nat.reduceEqDiff, Nat.reduceAdd, Nat.reduceSub, Nat.reduceMul, Int.reduceToNat, Int.le_refl]
      refine callT cL rfl ?_
      simp only [go_sem, List.replicate_succ, Nat.reducePow, Nat.reduceLeDiff, ↓reduceIte, reduceCtorEq, Nat.reduceLT, Nat.reduceEqDiff, Nat.reduceAdd, Nat.reduceSub, Nat.reduceMul, Int.reduceToNat, List.drop_succ_cons]
      exact ⟨_, WkE.keep (by simp only [go_sem, List.replicate_succ, Nat.reducePow, Nat.reduceLeDiff, ↓reduceIte, reduceCtorEq, Nat.reduceLT, Nat.reduceEqDiff, Nat.reduceAdd, Nat.reduceSub, Nat.reduceMul, Int.reduceToNat]), rfl⟩
    refine CwpE.cut (st := ⟨[(6, vi k), (15, vints p), (16, vints o), (17, vints [(c : Int), c2]), (27, vi x), (28, vi y), (30, vb (hitB R x y 0)), (31, .ref 0 1 0 0)], [.arr 1 3 30 [certV t X A]]⟩) ?_ ?_
    · have g1 : ¬ (y : Int) < 1 := by omega
      have g2 : (((p.length + 1 : Nat) : Int) = 0) = False := eq_false (by omega)
      simp only [go_sem, List.replicate_succ, Nat.reducePow, Nat.reduceLeDiff, ↓reduceIte, reduceCtorEq, Nat.reduceLT, Nat.reduceEqDiff, Nat.reduceAdd, Nat.reduceSub, Nat.reduceMul, Int.reduceToNat, g1, List.drop_succ_cons, hAl, g2]
      exact ⟨_, WkE.keep (by simp only [go_sem, List.replicate_succ, Nat.reducePow, Nat.reduceLeDiff, ↓reduceIte, reduceCtorEq, Nat.reduceLT, Nat.reduceEqDiff, Nat.reduceAdd, Nat.reduceSub, Nat.reduceMul, Int.reduceToNat]), rfl⟩
    refine CwpE.cut (st := ⟨[(6, vi k), (15, vints p), (16, vints o), (17, vints [(c : Int), c2]), (30, vb true)], []⟩) ?_ ?_
    rotate_left
    · refine CwpE.vc ?_
      simp only [go_sem, List.replicate_succ, Nat.reducePow, Nat.reduceLeDiff, ↓reduceIte, reduceCtorEq, Nat.reduceLT, Nat.reduceEqDiff, Nat.reduceAdd, Nat.reduceSub, Nat.reduceMul, Int.reduceToNat]
      exact ⟨_, WkE.keep (by simp only [go_sem, List.replicate_succ, Nat.reducePow, Nat.reduceLeDiff, ↓reduceIte, reduceCtorEq, Nat.reduceLT, Nat.reduceEqDiff, Nat.reduceAdd, Nat.reduceSub, Nat.reduceMul, Int.reduceToNat]), rfl⟩
    simp only [go_sem, List.replicate_succ, Nat.reducePow, Nat.reduceLeDiff, ↓reduceIte, reduceCtorEq, Nat.reduceLT, Nat.reduceEqDiff, Nat.reduceAdd, Nat.reduceSub, Nat.reduceMul, Int.reduceToNat]
    refine loopXC 4 (fun m' s => ∃ j : Nat, m' = c + 1 - j ∧ j ≤ c + 1 ∧ s = ⟨[(6, vi k), (15, vints p), (16, vints o), (17, vints [(c : Int), c2]), (27, vi x), (28, vi y), (30, vb (hitB R x y j)), (31, .ref 0 1 0 0), (33, vi j)], [.arr 1 3 30 [certV t X A]]⟩)
      (fun s => s = ⟨[(6, vi k), (15, vints p), (16, vints o), (17, vints [(c : Int), c2]), (30, vb true)], []⟩) (c + 1)
      ⟨[(6, vi k), (15, vints p), (16, vints o), (17, vints [(c : Int), c2]), (27, vi x), (28, vi y), (30, vb (hitB R x y 0)), (31, .ref 0 1 0 0), (33, vi (0 : Nat))], [.arr 1 3 30 [certV t X A]]⟩ (WkE.keep (by simp only [go_sem, List.replicate_succ, Nat.reducePow, Nat.reduceLeDiff, ↓reduceIte, reduceCtorEq, Nat.reduceLT, Nat.reduceEqDiff, Nat.reduceAdd, Nat.reduceSub, Nat.reduceMul, Int.reduceToNat]; rfl)) ⟨0, by omega, by omega, rfl⟩ ?_ ?_
    rotate_left
    · rintro s rfl
      simp only [go_sem, List.replicate_succ, Nat.reducePow, Nat.reduceLeDiff, ↓reduceIte, reduceCtorEq, Nat.reduceLT, Nat.reduceEqDiff, Nat.reduceAdd, Nat.reduceSub, Nat.reduceMul, Int.reduceToNat]
      exact ⟨_, .refl _ _, rfl⟩
    rintro m' s ⟨j, rfl, hj, rfl⟩
    refine CwpE.vc ?_
    by_cases hlt : j < c + 1
    rotate_left
    · obtain rfl : j = c + 1 := by omega
      rw [hhit]
      simp only [go_sem, List.replicate_succ, Nat.reducePow, Nat.reduceLeDiff, ↓reduceIte, reduceCtorEq, Nat.reduceLT, Nat.reduceEqDiff, Nat.reduceAdd, Nat.reduceSub, Nat.reduceMul, Int.reduceToNat, List.drop_succ_cons, Int.le_refl, List.getElem?_map, hTg, hl0, Int.lt_irrefl]
      exact ⟨_, WkE.round (env' := [(6, vi k), (15, vints p), (16, vints o), (17, vints [(c : Int), c2]), (30, vb true)]) (by simp only [go_sem, List.replicate_succ, Nat.reducePow, Nat.reduceLeDiff, ↓reduceIte, reduceCtorEq, Nat.reduceLT, Nat.reduceEqDiff, Nat.reduceAdd, Nat.reduceSub, Nat.reduceMul, Int.reduceToNat]) (by simp [AV.inn, AV.inn1]) rfl rfl, rfl⟩
    have j0 : (0 : Int) ≤ (j : Int) := by omega
    have j1 : (j : Int) < ((c + 1 : Nat) : Int) := by omega
    have wj : IntKind.i64.wrap ((j : Int) + 1) = ((j + 1 : Nat) : Int) := by rw [wrap_id (by omega) (by omega)]; omega
    have hRj := hRg j (by omega)
    have w1 := mul_wrap (hRM j (by omega)) y2
    have w2 := mul_wrap x1 (show j ≤ 3000 by omega)
    have hg : ¬ (x * j < R j * y) := by have := hge j (by omega); omega
    have hs : hitB R x y (j + 1) = (hitB R x y j || (decide (0 < j) && decide (R j * y = x * j))) := rfl
    have fin : ∀ (env : List (Nat × AV)), Agree env [(6, vi k), (15, vints p), (16, vints o), (17, vints [(c : Int), c2]), (27, vi x), (28, vi y), (30, vb (hitB R x y (j + 1))), (31, .ref 0 1 0 0), (33, vi (j + 1 : Nat))] →
        ∃ m_1 s', m_1 < c + 1 - j ∧ WkE 256 ⟨env, [.arr 1 3 30 [certV t X A]]⟩ s' ∧ ∃ j : Nat, m_1 = c + 1 - j ∧ j ≤ c + 1 ∧ s' = ⟨[(6, vi k), (15, vints p), (16, vints o), (17, vints [(c : Int), c2]), (27, vi x), (28, vi y), (30, vb (hitB R x y j)), (31, .ref 0 1 0 0), (33, vi j)], [.arr 1 3 30 [certV t X A]]⟩ :=
      fun env hA => ⟨c + 1 - (j + 1), _, by omega, WkE.keep hA, j + 1, rfl, by omega, rfl⟩
    cases hE : hitB R x y j with
    | true =>
      rw [hE] at hs
      simp only [Bool.true_or] at hs
      simp only [go_sem, List.replicate_succ, Nat.reducePow, Nat.reduceLeDiff, ↓reduceIte, reduceCtorEq, Nat.reduceLT, Nat.reduceEqDiff, Nat.reduceAdd, Nat.reduceSub, Nat.reduceMul, Int.reduceToNat, List.drop_succ_cons, Int.le_refl, List.getElem?_map, hTg, hl0, j0, j1, hRj, w1, w2, mul_lt_cast, hg, wj]
      exact fin _ (by simp only [go_sem, List.replicate_succ, Nat.reducePow, Nat.reduceLeDiff, ↓reduceIte, reduceCtorEq, Nat.reduceLT, Nat.reduceEqDiff, Nat.reduceAdd, Nat.reduceSub, Nat.reduceMul, Int.reduceToNat, hs])
    | false =>
      rw [hE] at hs
      simp only [Bool.false_or] at hs
      by_cases hj0 : 0 < j
      rotate_left
      · have g : ¬ (0 : Int) < (j : Int) := by omega
        have hs' : hitB R x y (j + 1) = false := by rw [hs]; simp [hj0]
        simp only [go_sem, List.replicate_succ, Nat.reducePow, Nat.reduceLeDiff, ↓reduceIte, reduceCtorEq, Nat.reduceLT, Nat.reduceEqDiff, Nat.reduceAdd, Nat.reduceSub, Nat.reduceMul, Int.reduceToNat, List.drop_succ_cons, Int.le_refl, List.getElem?_map, hTg, hl0, j0, j1, hRj, w1, w2, mul_lt_cast, hg, wj, g]
        exact fin _ (by simp only [go_sem, List.replicate_succ, Nat.reducePow, Nat.reduceLeDiff, ↓reduceIte, reduceCtorEq, Nat.reduceLT, Nat.reduceEqDiff, Nat.reduceAdd, Nat.reduceSub, Nat.reduceMul, Int.reduceToNat, hs'])
      · have g : (0 : Int) < (j : Int) := by omega
        have hs' : decide (((R j * y : Nat) : Int) = ((x * j : Nat) : Int)) = hitB R x y (j + 1) := by
          rw [hs]; simp only [hj0, decide_true, Bool.true_and]
          exact decide_eq_decide.2 Int.ofNat_inj
        simp only [go_sem, List.replicate_succ, Nat.reducePow, Nat.reduceLeDiff, ↓reduceIte, reduceCtorEq, Nat.reduceLT, Nat.reduceEqDiff, Nat.reduceAdd, Nat.reduceSub, Nat.reduceMul, Int.reduceToNat, List.drop_succ_cons, Int.le_refl, List.getElem?_map, hTg, hl0, j0, j1, hRj, w1, w2, mul_lt_cast, hg, wj, g, hs']
        exact fin _ (by simp only [go_sem, List.replicate_succ, Nat.reducePow, Nat.reduceLeDiff, ↓reduceIte, reduceCtorEq, Nat.reduceLT, Nat.reduceEqDiff, Nat.reduceAdd, Nat.reduceSub, Nat.reduceMul, Int.reduceToNat])
  rintro s rfl
  obtain ⟨Z, hZ⟩ : ∃ Z, ((p.zip o).map fun q => min q.2 ((u : Int) * q.1)) = Z := ⟨_, rfl⟩
  have hZl : Z.length = p.length := by rw [← hZ]; simp; omega
  have up : ∀ v ∈ p, 0 ≤ (u : Int) * v ∧ (u : Int) * v ≤ 1000 := fun v hv => by
    have := p12 v hv
    refine ⟨Int.mul_nonneg ua.1 this.1, ?_⟩
    have h6 : (u : Int) * v ≤ 8 * v := Int.mul_le_mul_of_nonneg_right (by omega) this.1
    omega
  have okZ : OkQ p Z c := ⟨hZl.symm, hmost, okc.p, fun v hv => by
    rw [← hZ] at hv
    obtain ⟨q, hq, rfl⟩ := List.mem_map.1 hv
    obtain ⟨q1, q2⟩ := q
    have h6 := List.of_mem_zip hq
    have h7 := up _ h6.1
    have h8 := okc.o _ h6.2
    dsimp only
    omega, okc.lim⟩
  have bz := fun j => best_small (u : Int) (by omega) p o j (fun v hv => (okc.p v hv).1)
  rw [hZ] at bz
  have lZ := Factor_s p Z c (by omega) (by omega)
  rw [factorL_ok okZ] at lZ
  obtain ⟨R', hR'⟩ : ∃ R', rowN p Z c = R' := ⟨_, rfl⟩
  rw [hR'] at lZ
  have hRb' : ∀ j, j ≤ c → (R' j : Int) = best p Z j := fun j hj => by rw [← hR']; exact rowN_best p Z hj
  have hRM' : ∀ j, j ≤ c → R' j ≤ 48000000 := fun j hj => by have := hRb' j hj; have := best_bd okZ j; omega
  have hRu : ∀ j, j ≤ c → R' j ≤ u * j := fun j hj => by
    have h6 := hRb' j hj
    have h7 := bz j
    have h8 : ((u * j : Nat) : Int) = (u : Int) * (j : Int) := Int.natCast_mul u j
    omega
  have hz : R' 0 = 0 := by have := hRu 0 (by omega); omega
  rw [if_pos hz] at lZ
  obtain ⟨b1, b2, b3, b4⟩ := bestN_bd hz (fun j (hj : j ≤ c) => hRM' j hj) (c + 1) (Nat.le_refl _)
  have fs := factor_small hz (m := c) (u := u) hRu (Prod.eta (bestN R' (c + 1))).symm rfl
  have d1 : (bestN R' (c + 1)).1 / Nat.gcd (bestN R' (c + 1)).1 (bestN R' (c + 1)).2 ≤ (bestN R' (c + 1)).1 := Nat.div_le_self _ _
  have d2 : (bestN R' (c + 1)).2 / Nat.gcd (bestN R' (c + 1)).1 (bestN R' (c + 1)).2 ≤ (bestN R' (c + 1)).2 := Nat.div_le_self _ _
  generalize (bestN R' (c + 1)).1 / Nat.gcd (bestN R' (c + 1)).1 (bestN R' (c + 1)).2 = x' at *
  generalize (bestN R' (c + 1)).2 / Nat.gcd (bestN R' (c + 1)).1 (bestN R' (c + 1)).2 = y' at *
  refine CwpE.cut (st := ⟨[(15, vints p), (16, vints o), (17, vints [(c : Int), c2]), (34, vi u)], []⟩) ?_ ?_
  · simp only [go_sem, List.replicate_succ, Nat.reducePow, Nat.reduceLeDiff, ↓reduceIte, reduceCtorEq, Nat.reduceLT, Nat.reduceEqDiff, Nat.reduceAdd, Nat.reduceSub, Nat.reduceMul, Int.reduceToNat]
    refine callT sU rfl ?_
    simp only [go_sem, List.replicate_succ, Nat.reducePow, Nat.reduceLeDiff, ↓reduceIte, reduceCtorEq, Nat.reduceLT, Nat.reduceEqDiff, Nat.reduceAdd, Nat.reduceSub, Nat.reduceMul, Int.reduceToNat]
    exact ⟨_, WkE.keep (by simp only [go_sem, List.replicate_succ, Nat.reducePow, Nat.reduceLeDiff, ↓reduceIte, reduceCtorEq, Nat.reduceLT, Nat.reduceEqDiff, Nat.reduceAdd, Nat.reduceSub, Nat.reduceMul, Int.reduceToNat]), rfl⟩
  refine CwpE.cut (st := ⟨[(15, vints p), (16, vints o), (17, vints [(c : Int), c2]), (34, vi u), (35, nilV)], []⟩) ?_ ?_
  · simp only [go_sem, List.replicate_succ, Nat.reducePow, Nat.reduceLeDiff, ↓reduceIte, reduceCtorEq, Nat.reduceLT, Nat.reduceEqDiff, Nat.reduceAdd, Nat.reduceSub, Nat.reduceMul, Int.reduceToNat]
    exact ⟨_, WkE.keep (by simp only [go_sem, List.replicate_succ, Nat.reducePow, Nat.reduceLeDiff, ↓reduceIte, reduceCtorEq, Nat.reduceLT, Nat.reduceEqDiff, Nat.reduceAdd, Nat.reduceSub, Nat.reduceMul, Int.reduceToNat]), rfl⟩
  obtain ⟨Gf, hGf⟩ : ∃ Gf : Nat → List Int, Gf = fun i => Z.take i := ⟨_, rfl⟩
  have hGl : ∀ i, i ≤ p.length → (Gf i).length = i := fun i hi => by rw [hGf]; simp; omega
  have hGs : ∀ i (h : i < p.length) (h2 : i < o.length), Gf (i + 1) = Gf i ++ [min o[i] ((u : Int) * p[i])] := fun i h h2 => by
    rw [hGf]
    show Z.take (i + 1) = Z.take i ++ [min o[i] ((u : Int) * p[i])]
    rw [List.take_succ_eq_append_getElem (by omega)]
    congr 2
    simp only [← hZ, List.getElem_map, List.getElem_zip]
  have hGe : Gf p.length = Z := by rw [hGf]; exact List.take_of_length_le (by omega)
  have hG0 : Gf 0 = [] := by rw [hGf]; rfl
  refine CwpE.cut (st := ⟨[(15, vints p), (17, vints [(c : Int), c2]), (34, vi u), (35, vints Z)], []⟩) ?_ ?_
  · simp only [go_sem, List.replicate_succ, Nat.reducePow, Nat.reduceLeDiff, ↓reduceIte, reduceCtorEq, Nat.reduceLT, Nat.reduceEqDiff, Nat.reduceAdd, Nat.reduceSub, Nat.reduceMul, Int.reduceToNat]
    refine loopXC 6 (fun m' s => ∃ i : Nat, m' = p.length - i ∧ i ≤ p.length ∧
        s = ⟨[(15, vints p), (16, vints o), (17, vints [(c : Int), c2]), (34, vi u), (35, ownV 0 i), (36, vi i)], [.arr i 1 3 ((Gf i).map vi)]⟩)
      (fun s => s = ⟨[(15, vints p), (17, vints [(c : Int), c2]), (34, vi u), (35, vints Z)], []⟩) p.length
      ⟨[(15, vints p), (16, vints o), (17, vints [(c : Int), c2]), (34, vi u), (35, ownV 0 0), (36, vi (0 : Nat))], [.arr 0 1 3 []]⟩ ((WkE.nil 35 1 3 (by omega) rfl).trans (WkE.keep (by simp only [go_sem, List.replicate_succ, Nat.reducePow, Nat.reduceLeDiff, ↓reduceIte, reduceCtorEq, Nat.reduceLT, Nat.reduceEqDiff, Nat.reduceAdd, Nat.reduceSub, Nat.reduceMul, Int.reduceToNat]; rfl))) ⟨0, by omega, by omega, by rw [hG0]; rfl⟩ ?_ ?_
    rotate_left
    · rintro s rfl
      simp only [go_sem, List.replicate_succ, Nat.reducePow, Nat.reduceLeDiff, ↓reduceIte, reduceCtorEq, Nat.reduceLT, Nat.reduceEqDiff, Nat.reduceAdd, Nat.reduceSub, Nat.reduceMul, Int.reduceToNat]
      exact ⟨_, .refl _ _, rfl⟩
    rintro m' s ⟨i, rfl, hi, rfl⟩
    refine CwpE.vc ?_
    by_cases hlt : i < p.length
    rotate_left
    · obtain rfl : i = p.length := by omega
      rw [hGe]
      simp only [go_sem, List.replicate_succ, Nat.reducePow, Nat.reduceLeDiff, ↓reduceIte, reduceCtorEq, Nat.reduceLT, Nat.reduceEqDiff, Nat.reduceAdd, Nat.reduceSub, Nat.reduceMul, Int.reduceToNat, Int.lt_irrefl]
      refine ⟨_, (WkE.keep (env' := [(15, vints p), (17, vints [(c : Int), c2]), (34, vi u), (35, ownV 0 p.length)]) (by simp only [go_sem, List.replicate_succ, Nat.reducePow, Nat.reduceLeDiff, ↓reduceIte, reduceCtorEq, Nat.reduceLT, Nat.reduceEqDiff, Nat.reduceAdd, Nat.reduceSub, Nat.reduceMul, Int.reduceToNat])).trans ((WkE.freeze 35 0 p.length 0 p.length 1 3 (Z.map vi) (by omega) rfl rfl (by simp [hZl]) (by simp [List.all_map, AV.isT, AV.isT1])).trans (WkE.round ?_ (by simp [AV.inn, AV.inn1]) (by simp) (by simp))), rfl⟩
      simp only [go_sem, List.replicate_succ, Nat.reducePow, Nat.reduceLeDiff, ↓reduceIte, reduceCtorEq, Nat.reduceLT, Nat.reduceEqDiff, Nat.reduceAdd, Nat.reduceSub, Nat.reduceMul, Int.reduceToNat]
      exact congrArg (AV.list 1) (List.take_of_length_le (by simp [hZl]))
    have hio : i < o.length := by omega
    have g0 : (0 : Int) ≤ (i : Int) := by omega
    have g1 : (i : Int) < (p.length : Int) := by omega
    have w1 : IntKind.i64.wrap ((i : Int) + 1) = ((i + 1 : Nat) : Int) := by rw [wrap_id (by omega) (by omega)]; omega
    have hv := up _ (List.getElem_mem hlt)
    have w2 : IntKind.i64.wrap ((u : Int) * p[i]) = (u : Int) * p[i] := wrap_id (by omega) (by omega)
    have mn : (if (u : Int) * p[i] < o[i] then (u : Int) * p[i] else o[i]) = min o[i] ((u : Int) * p[i]) := by rw [Int.min_def]; split <;> split <;> omega
    have hb : (i + 1) * 8 ≤ 140737488355328 := by omega
    have hgl := hGl i hi
    have htk : List.take i ((Gf i).map vi) = (Gf i).map vi := List.take_of_length_le (by simp [hgl])
    simp only [go_sem, List.replicate_succ, Nat.reducePow, Nat.reduceLeDiff, ↓reduceIte, reduceCtorEq, Nat.reduceLT, Nat.reduceEqDiff, Nat.reduceAdd, Nat.reduceSub, Nat.reduceMul, Int.reduceToNat, g1, g0, List.getElem?_map, List.getElem?_eq_getElem hlt, List.getElem?_eq_getElem hio, w1, w2, mn, hb, hgl, htk]
    refine ⟨p.length - (i + 1), ⟨[(15, vints p), (16, vints o), (17, vints [(c : Int), c2]), (34, vi u), (35, ownV 0 (i + 1)), (36, vi (i + 1 : Nat))], [.arr (i + 1) 1 3 ((Gf (i + 1)).map vi)]⟩, by omega, ?_, i + 1, rfl, by omega, rfl⟩
    rw [hGs i hlt hio, List.map_append]
    exact WkE.keep (by simp only [go_sem, List.replicate_succ, Nat.reducePow, Nat.reduceLeDiff, ↓reduceIte, reduceCtorEq, Nat.reduceLT, Nat.reduceEqDiff, Nat.reduceAdd, Nat.reduceSub, Nat.reduceMul, Int.reduceToNat])
  refine CwpE.cut (st := ⟨[(27, vi x'), (28, vi y'), (29, vi 0), (34, vi u)], []⟩) ?_ ?_
  · simp only [go_sem, List.replicate_succ, Nat.reducePow, Nat.reduceLeDiff, ↓reduceIte, reduceCtorEq, Nat.reduceLT, Nat.reduceEqDiff, Nat.reduceAdd, Nat.reduceSub, Nat.reduceMul, Int.reduceToNat, Int.le_refl]
    refine callT lZ rfl ?_
    simp only [go_sem, List.replicate_succ, Nat.reducePow, Nat.reduceLeDiff, ↓reduceIte, reduceCtorEq, Nat.reduceLT, Nat.reduceEqDiff, Nat.reduceAdd, Nat.reduceSub, Nat.reduceMul, Int.reduceToNat]
    exact ⟨_, WkE.keep (by simp only [go_sem, List.replicate_succ, Nat.reducePow, Nat.reduceLeDiff, ↓reduceIte, reduceCtorEq, Nat.reduceLT, Nat.reduceEqDiff, Nat.reduceAdd, Nat.reduceSub, Nat.reduceMul, Int.reduceToNat]), rfl⟩
  have wm := mul_wrap (show u ≤ 48000000 by omega) (show y' ≤ 3000 by omega)
  have le : (x' : Int) ≤ ((u * y' : Nat) : Int) := by omega
  refine CwpE.vc ?_
  simp only [go_sem, List.replicate_succ, Nat.reducePow, Nat.reduceLeDiff, ↓reduceIte, reduceCtorEq, Nat.reduceLT, Nat.reduceEqDiff, Nat.reduceAdd, Nat.reduceSub, Nat.reduceMul, Int.reduceToNat, wm, le]
  refine callT lives_s rfl ?_
  simp only [go_sem, List.replicate_succ, Nat.reducePow, Nat.reduceLeDiff, ↓reduceIte, reduceCtorEq, Nat.reduceLT, Nat.reduceEqDiff, Nat.reduceAdd, Nat.reduceSub, Nat.reduceMul, Int.reduceToNat]
  exact .tree _ rfl
end Go.Proofs.Ytphcaelkpgdbcaa
