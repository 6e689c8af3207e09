/- Factor, the program's and the reference's, by contract. -/
import Derived.Test.YtphcaelkpgdbcaaPk
set_option linter.unusedSimpArgs false
set_option linter.unusedVariables false
set_option linter.unusedSectionVars false
namespace Go.Proofs.Ytphcaelkpgdbcaa
open Go.RowKit Dak
theorem tdiv_nat (a b : Nat) : ((a : Int)).tdiv (b : Int) = ((a / b : Nat) : Int) := by
  rw [Int.ofNat_tdiv]
theorem natw (a : Nat) (h : a ≤ 1000000000000) : IntKind.i64.wrap (a : Int) = (a : Int) := wrap_id (by omega) (by omega)
/-- The greatest fraction R k / k among the first ones. -/
def bestN (R : Nat → Nat) : Nat → Nat × Nat
  | 0 => (0, 1)
  | k + 1 => if (bestN R k).1 * k < R k * (bestN R k).2 then (R k, k) else bestN R k
theorem bestN_bd {R : Nat → Nat} {M m : Nat} (h0 : R 0 = 0) (hM : ∀ k, k ≤ m → R k ≤ M) : ∀ k, k ≤ m + 1 → (bestN R k).1 ≤ M ∧ 1 ≤ (bestN R k).2 ∧ (bestN R k).2 ≤ m + 1 ∧ ((bestN R k).1 = 0 → (bestN R k).2 = 1)
  | 0, _ => by simp [bestN]
  | k + 1, hk => by
    have ih := bestN_bd h0 hM k (by omega)
    rw [bestN]
    split
    · rename_i hlt
      have hR : R k ≠ 0 := by intro e; rw [e, Nat.zero_mul] at hlt; omega
      have hk0 : k ≠ 0 := by rintro rfl; exact hR h0
      exact ⟨hM k (by omega), by show 1 ≤ k; omega, by show k ≤ m + 1; omega, fun e => absurd e hR⟩
    · exact ih
def rowN (p o : List Int) (m : Nat) (c : Nat) : Nat := ((rowQ p o m 0).getD c 0).toNat
/-- Numerator, denominator, error. -/
def factorL (p o : List Int) (lim : Int) : Nat × Nat × Int :=
  if validL p o lim = true then
    if rowN p o lim.toNat 0 = 0 then
      ((bestN (rowN p o lim.toNat) (lim.toNat + 1)).1 / Nat.gcd (bestN (rowN p o lim.toNat) (lim.toNat + 1)).1 (bestN (rowN p o lim.toNat) (lim.toNat + 1)).2,
       (bestN (rowN p o lim.toNat) (lim.toNat + 1)).2 / Nat.gcd (bestN (rowN p o lim.toNat) (lim.toNat + 1)).1 (bestN (rowN p o lim.toNat) (lim.toNat + 1)).2, 0)
    else (0, 0, 6)
  else (0, 0, 1)
abbrev factorV (x : Nat × Nat × Int) : AV := .tup [vi x.1, vi x.2.1, vi x.2.2]
theorem mul_wrap {a b : Nat} (ha : a ≤ 48000000) (hb : b ≤ 3000) : IntKind.i64.wrap ((a : Int) * (b : Int)) = ((a * b : Nat) : Int) := by
  have : a * b ≤ 48000000 * 3000 := Nat.mul_le_mul ha hb
  rw [← Int.natCast_mul]
  exact wrap_id (by omega) (by omega)
theorem mul_lt_cast {a b c d : Nat} : (((a * b : Nat) : Int) < ((c * d : Nat) : Int)) = (a * b < c * d) := by
  apply propext; exact Int.ofNat_lt
set_option maxRecDepth 100000 in
set_option maxHeartbeats 4000000 in
theorem Factor_s (p o : List Int) (lim : Int) (hp : p.length ≤ 1000000) (ho : o.length ≤ 1000000) : Ctr Try.prog 22 [vints p, vints o, vi lim] (factorV (factorL p o lim)) := by
  refine specC f22 (by simp) fun F0 w0 => ?_
  unfold c22
  refine CwpE.cut (st := ⟨[(0, vints p), (1, vints o), (2, vi lim)], []⟩) ?_ ?_
  · simp only [go_sem, List.replicate_succ, Nat.reducePow, Nat.reduceLeDiff, ↓reduceIte, reduceCtorEq, Nat.reduceLT, Nat.reduceEqDiff, Nat.reduceAdd, Nat.reduceSub, Nat.reduceMul, Int.reduceToNat]
    exact ⟨_, WkE.keep (by simp only [go_sem, List.replicate_succ, Nat.reducePow, Nat.reduceLeDiff, ↓reduceIte, reduceCtorEq, Nat.reduceLT, Nat.reduceEqDiff, Nat.reduceAdd, Nat.reduceSub, Nat.reduceMul, Int.reduceToNat]), rfl⟩
  cases hv : validL p o lim with
  | false =>
    have e : factorL p o lim = (0, 0, 1) := by unfold factorL; rw [if_neg (by simp [hv])]
    rw [e]
    refine CwpE.vc ?_
    simp only [go_sem, List.replicate_succ, Nat.reducePow, Nat.reduceLeDiff, ↓reduceIte, reduceCtorEq, Nat.reduceLT, Nat.reduceEqDiff, Nat.reduceAdd, Nat.reduceSub, Nat.reduceMul, Int.reduceToNat]
    refine callT (valid_s p o _ (by omega) (by omega)) rfl ?_
    simp only [go_sem, List.replicate_succ, Nat.reducePow, Nat.reduceLeDiff, ↓reduceIte, reduceCtorEq, Nat.reduceLT, Nat.reduceEqDiff, Nat.reduceAdd, Nat.reduceSub, Nat.reduceMul, Int.reduceToNat, hv]
    exact .tree _ rfl
  | true =>
    have hq := validL_ok.1 hv
    obtain ⟨m, hm⟩ : ∃ m : Nat, lim = m := ⟨lim.toNat, by have := hq.lim; omega⟩
    subst hm
    have hlim := hq.lim
    have hTg := tabA_get hq.len m (q := 0) (by omega)
    obtain ⟨hl0, hb0⟩ := rowQ_bd hq m p.length 0 (by omega)
    have hmost := hq.most
    have e0 : factorL p o (m : Int) = if rowN p o m 0 = 0 then
      ((bestN (rowN p o m) (m + 1)).1 / Nat.gcd (bestN (rowN p o m) (m + 1)).1 (bestN (rowN p o m) (m + 1)).2,
       (bestN (rowN p o m) (m + 1)).2 / Nat.gcd (bestN (rowN p o m) (m + 1)).1 (bestN (rowN p o m) (m + 1)).2, 0)
      else (0, 0, 6) := by unfold factorL; rw [if_pos hv, Int.toNat_natCast]
    rw [e0]
    obtain ⟨R, hR⟩ : ∃ R, rowN p o m = R := ⟨_, rfl⟩
    rw [hR]
    have hRM : ∀ c, R c ≤ 48000000 := fun c => by
      rw [← hR]; unfold rowN
      rw [List.getD_eq_getElem?_getD]
      cases e : (rowQ p o m 0)[c]? with
      | none => simp
      | some y => have := hb0 y (List.mem_of_getElem? e); simp; omega
    have hRg : ∀ c, c ≤ m → (rowQ p o m 0)[c]? = some (R c : Int) := fun c hc => by
      have h1 := getD_get (show c < (rowQ p o m 0).length by omega)
      have h2 : 0 ≤ (rowQ p o m 0).getD c 0 := (hb0 _ (List.mem_of_getElem? h1)).1
      rw [h1, ← hR]; unfold rowN
      rw [Int.toNat_of_nonneg h2]
    generalize rowQ p o m 0 = row at hTg hl0 hRg
    generalize hT : tabA p o m = T at hTg
    refine CwpE.cut (st := ⟨[(0, vints p), (1, vints o), (2, vi m)], []⟩) ?_ ?_
    · simp only [go_sem, List.replicate_succ, Nat.reducePow, Nat.reduceLeDiff, ↓reduceIte, reduceCtorEq, Nat.reduceLT, Nat.reduceEqDiff, Nat.reduceAdd, Nat.reduceSub, Nat.reduceMul, Int.reduceToNat]
      refine callT (valid_s p o _ (by omega) (by omega)) rfl ?_
      simp only [go_sem, List.replicate_succ, Nat.reducePow, Nat.reduceLeDiff, ↓reduceIte, reduceCtorEq, Nat.reduceLT, Nat.reduceEqDiff, Nat.reduceAdd, Nat.reduceSub, Nat.reduceMul, Int.reduceToNat, hv]
      exact ⟨_, WkE.keep (by simp only [go_sem, List.replicate_succ, Nat.reducePow, Nat.reduceLeDiff, ↓reduceIte, reduceCtorEq, Nat.reduceLT, Nat.reduceEqDiff, Nat.reduceAdd, Nat.reduceSub, Nat.reduceMul, Int.reduceToNat]), rfl⟩
    refine CwpE.cut (st := ⟨[(9, vints row)], []⟩) ?_ ?_
    · simp only [go_sem, List.replicate_succ, Nat.reducePow, Nat.reduceLeDiff, ↓reduceIte, reduceCtorEq, Nat.reduceLT, Nat.reduceEqDiff, Nat.reduceAdd, Nat.reduceSub, Nat.reduceMul, Int.reduceToNat]
      refine callT (table_s p o m hq) rfl ?_
      rw [hT]
      simp only [go_sem, List.replicate_succ, Nat.reducePow, Nat.reduceLeDiff, ↓reduceIte, reduceCtorEq, Nat.reduceLT, Nat.reduceEqDiff, Nat.reduceAdd, Nat.reduceSub, Nat.reduceMul, Int.reduceToNat, Int.le_refl, List.getElem?_map, hTg]
      exact ⟨_, WkE.keep (by simp only [go_sem, List.replicate_succ, Nat.reducePow, Nat.reduceLeDiff, ↓reduceIte, reduceCtorEq, Nat.reduceLT, Nat.reduceEqDiff, Nat.reduceAdd, Nat.reduceSub, Nat.reduceMul, Int.reduceToNat]), rfl⟩
    have hR0 := hRg 0 (by omega)
    by_cases hz : R 0 = 0
    rotate_left
    · rw [if_neg hz]
      have g : (0 : Int) < (R 0 : Int) := by omega
      refine CwpE.vc ?_
      simp only [go_sem, List.replicate_succ, Nat.reducePow, Nat.reduceLeDiff, ↓reduceIte, reduceCtorEq, Nat.reduceLT, Nat.reduceEqDiff, Nat.reduceAdd, Nat.reduceSub, Nat.reduceMul, Int.reduceToNat, Int.le_refl, List.getElem?_map, hR0, g]
      exact .tree _ rfl
    rw [if_pos hz]
    have bb := bestN_bd hz (fun k (_ : k ≤ m) => hRM k)
    refine CwpE.cut (st := ⟨[(9, vints row)], []⟩) ?_ ?_
    · have g : ((0 : Int) < (R 0 : Int)) = False := eq_false (by omega)
      simp only [go_sem, List.replicate_succ, Nat.reducePow, Nat.reduceLeDiff, ↓reduceIte, reduceCtorEq, Nat.reduceLT, Nat.reduceEqDiff, Nat.reduceAdd, Nat.reduceSub, Nat.reduceMul, Int.reduceToNat, Int.le_refl, List.getElem?_map, hR0, g]
      exact ⟨_, WkE.keep (by simp only [go_sem, List.replicate_succ, Nat.reducePow, Nat.reduceLeDiff, ↓reduceIte, reduceCtorEq, Nat.reduceLT, Nat.reduceEqDiff, Nat.reduceAdd, Nat.reduceSub, Nat.reduceMul, Int.reduceToNat]), rfl⟩
    refine CwpE.cut (st := ⟨[(9, vints row), (10, vi (0 : Nat)), (11, vi (1 : Nat))], []⟩) ?_ ?_
    · simp only [go_sem, List.replicate_succ, Nat.reducePow, Nat.reduceLeDiff, ↓reduceIte, reduceCtorEq, Nat.reduceLT, Nat.reduceEqDiff, Nat.reduceAdd, Nat.reduceSub, Nat.reduceMul, Int.reduceToNat]
      exact ⟨_, WkE.keep (by simp only [go_sem, List.replicate_succ, Nat.reducePow, Nat.reduceLeDiff, ↓reduceIte, reduceCtorEq, Nat.reduceLT, Nat.reduceEqDiff, Nat.reduceAdd, Nat.reduceSub, Nat.reduceMul, Int.reduceToNat]; exact ⟨rfl, rfl⟩), rfl⟩
    refine CwpE.cut (st := ⟨[(10, vi (bestN R (m + 1)).1), (11, vi (bestN R (m + 1)).2)], []⟩) ?_ ?_
    · simp only [go_sem, List.replicate_succ, Nat.reducePow, Nat.reduceLeDiff, ↓reduceIte, reduceCtorEq, Nat.reduceLT, Nat.reduceEqDiff, Nat.reduceAdd, Nat.reduceSub, Nat.reduceMul, Int.reduceToNat, hl0]
      refine loopXC 0 (fun m' s => ∃ c : Nat, m' = m + 1 - c ∧ c ≤ m + 1 ∧ s = ⟨[(10, vi (bestN R c).1), (11, vi (bestN R c).2), (30, vints row), (31, vi (m + 1 : Nat)), (32, vi c)], []⟩)
        (fun s => s = ⟨[(10, vi (bestN R (m + 1)).1), (11, vi (bestN R (m + 1)).2)], []⟩) (m + 1)
        ⟨[(10, vi (0 : Nat)), (11, vi (1 : Nat)), (30, vints row), (31, vi (m + 1 : Nat)), (32, vi (0 : Nat))], []⟩ (WkE.keep (by simp only [go_sem, List.replicate_succ, Nat.reducePow, Nat.reduceLeDiff, ↓reduceIte, reduceCtorEq, Nat.reduceLT, Nat.reduceEqDiff, Nat.reduceAdd, Nat.reduceSub, Nat.reduceMul, Int.reduceToNat]; rfl)) ⟨0, by omega, by omega, rfl⟩ ?_ ?_
      rotate_left
      · rintro s rfl
        simp only [go_sem, List.replicate_succ, Nat.reducePow, Nat.reduceLeDiff, ↓reduceIte, reduceCtorEq, Nat.reduceLT, Nat.reduceEqDiff, Nat.reduceAdd, Nat.reduceSub, Nat.reduceMul, Int.reduceToNat]
        exact ⟨_, .refl _ _, rfl⟩
      rintro m' s ⟨c, rfl, hc, rfl⟩
      refine CwpE.vc ?_
      by_cases hlt : c < m + 1
      rotate_left
      · obtain rfl : c = m + 1 := by omega
        simp only [go_sem, List.replicate_succ, Nat.reducePow, Nat.reduceLeDiff, ↓reduceIte, reduceCtorEq, Nat.reduceLT, Nat.reduceEqDiff, Nat.reduceAdd, Nat.reduceSub, Nat.reduceMul, Int.reduceToNat, Int.lt_irrefl]
        exact ⟨_, WkE.keep (by simp only [go_sem, List.replicate_succ, Nat.reducePow, Nat.reduceLeDiff, ↓reduceIte, reduceCtorEq, Nat.reduceLT, Nat.reduceEqDiff, Nat.reduceAdd, Nat.reduceSub, Nat.reduceMul, Int.reduceToNat]), rfl⟩
      have c0 : (0 : Int) ≤ (c : Int) := by omega
      have c1 : (c : Int) < ((m + 1 : Nat) : Int) := by omega
      have hRc := hRg c (by omega)
      have w5 : IntKind.i64.wrap ((c : Int) + 1) = ((c + 1 : Nat) : Int) := by rw [wrap_id (by omega) (by omega)]; omega
      have hb := bb c (by omega)
      have hs : bestN R (c + 1) = if (bestN R c).1 * c < R c * (bestN R c).2 then (R c, c) else bestN R c := rfl
      have hRcM := hRM c
      generalize bestN R c = B at hb hs ⊢
      have w1 := mul_wrap hRcM (show B.2 ≤ 3000 by omega)
      have w2 := mul_wrap hb.1 (show c ≤ 3000 by omega)
      by_cases hgt : B.1 * c < R c * B.2
      · rw [if_pos hgt] at hs
        simp only [go_sem, List.replicate_succ, Nat.reducePow, Nat.reduceLeDiff, ↓reduceIte, reduceCtorEq, Nat.reduceLT, Nat.reduceEqDiff, Nat.reduceAdd, Nat.reduceSub, Nat.reduceMul, Int.reduceToNat, c0, c1, List.getElem?_map, hRc, w1, w2, mul_lt_cast, hgt, w5]
        exact ⟨m + 1 - (c + 1), ⟨[(10, vi (bestN R (c + 1)).1), (11, vi (bestN R (c + 1)).2), (30, vints row), (31, vi (m + 1 : Nat)), (32, vi (c + 1 : Nat))], []⟩, by omega, by rw [hs]; exact WkE.keep (by simp only [go_sem, List.replicate_succ, Nat.reducePow, Nat.reduceLeDiff, ↓reduceIte, reduceCtorEq, Nat.reduceLT, Nat.reduceEqDiff, Nat.reduceAdd, Nat.reduceSub, Nat.reduceMul, Int.reduceToNat]), c + 1, rfl, by omega, rfl⟩
      · rw [if_neg hgt] at hs
        simp only [go_sem, List.replicate_succ, Nat.reducePow, Nat.reduceLeDiff, ↓reduceIte, reduceCtorEq, Nat.reduceLT, Nat.reduceEqDiff, Nat.reduceAdd, Nat.reduceSub, Nat.reduceMul, Int.reduceToNat, c0, c1, List.getElem?_map, hRc, w1, w2, mul_lt_cast, hgt, w5]
        exact ⟨m + 1 - (c + 1), ⟨[(10, vi (bestN R (c + 1)).1), (11, vi (bestN R (c + 1)).2), (30, vints row), (31, vi (m + 1 : Nat)), (32, vi (c + 1 : Nat))], []⟩, by omega, by rw [hs]; exact WkE.keep (by simp only [go_sem, List.replicate_succ, Nat.reducePow, Nat.reduceLeDiff, ↓reduceIte, reduceCtorEq, Nat.reduceLT, Nat.reduceEqDiff, Nat.reduceAdd, Nat.reduceSub, Nat.reduceMul, Int.reduceToNat]), c + 1, rfl, by omega, rfl⟩
    have hb := bb (m + 1) (Nat.le_refl _)
    generalize bestN R (m + 1) = B at hb ⊢
    obtain ⟨g, hg⟩ : ∃ g, Nat.gcd B.1 B.2 = g := ⟨_, rfl⟩
    have hg0 : g ≠ 0 := by rw [← hg]; exact Nat.gcd_ne_zero_right (by omega)
    have g0 : ((g : Int) = 0) = False := eq_false (by omega)
    have d1 : B.1 / g ≤ B.1 := Nat.div_le_self _ _
    have d2 : B.2 / g ≤ B.2 := Nat.div_le_self _ _
    have w1 : IntKind.i64.wrap ((B.1 / g : Nat) : Int) = ((B.1 / g : Nat) : Int) := natw _ (Nat.le_trans d1 (by omega))
    have w2 : IntKind.i64.wrap ((B.2 / g : Nat) : Int) = ((B.2 / g : Nat) : Int) := natw _ (Nat.le_trans d2 (by omega))
    rw [hg]
    refine CwpE.vc ?_
    simp only [go_sem, List.replicate_succ, Nat.reducePow, Nat.reduceLeDiff, ↓reduceIte, reduceCtorEq, Nat.reduceLT, Nat.reduceEqDiff, Nat.reduceAdd, Nat.reduceSub, Nat.reduceMul, Int.reduceToNat]
    refine callT (gcd_s B.1 B.2 (by omega) (by omega)) rfl ?_
    rw [hg]
    simp only [go_sem, List.replicate_succ, Nat.reducePow, Nat.reduceLeDiff, ↓reduceIte, reduceCtorEq, Nat.reduceLT, Nat.reduceEqDiff, Nat.reduceAdd, Nat.reduceSub, Nat.reduceMul, Int.reduceToNat, g0, tdiv_nat, w1, w2]
    exact .tree _ rfl
end Go.Proofs.Ytphcaelkpgdbcaa
