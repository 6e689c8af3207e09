/- dactylref32.Factor, by contract. -/
import Derived.Test.YtphcaelkpgdbcaaPl
set_option linter.unusedSimpArgs false
set_option linter.unusedVariables false
set_option linter.unusedSectionVars false
namespace Go.Proofs.Ytphcaelkpgdbcaa
open Go.RowKit Dak
theorem dvd_cast {a b : Nat} : (((a % b : Nat) : Int) = 0) = (b ∣ a) := by
  apply propext
  rw [Nat.dvd_iff_mod_eq_zero]
  omega
set_option maxRecDepth 100000 in
set_option maxHeartbeats 4000000 in
theorem refFactor_s (p o : List Int) (lim : Int) (hp : p.length ≤ 1000000) (ho : o.length ≤ 1000000) : Ctr Try.prog 23 [vints p, vints o, vi lim] (factorV (factorL p o lim)) := by
  refine specC f23 (by simp) fun F0 w0 => ?_
  unfold c23
  refine CwpE.cut (st := ⟨[(0, vints p), (1, vints o), (2, vi lim)], []⟩) ?_ ?_
  · simp only [go_sem, List.replicate_succ, Nat.reducePow, Nat.reduceLeDiff, ↓reduceIte, reduceCtorEq, Nat.reduceLT, Nat.reduceEqDiff, Nat.reduceAdd, Nat.reduceSub, Nat.reduceMul, Int.reduceToNat]
    exact ⟨_, WkE.keep (by simp only [go_sem, List.replicate_succ, Nat.reducePow, Nat.reduceLeDiff, ↓reduceIte, reduceCtorEq, Nat.reduceLT, Nat.reduceEqDiff, Nat.reduceAdd, Nat.reduceSub, Nat.reduceMul, Int.reduceToNat]), rfl⟩
  cases hv : validL p o lim with
  | false =>
    have e : factorL p o lim = (0, 0, 1) := by unfold factorL; rw [if_neg (by simp [hv])]
    rw [e]
    refine CwpE.vc ?_
    simp only [go_sem, List.replicate_succ, Nat.reducePow, Nat.reduceLeDiff, ↓reduceIte, reduceCtorEq, Nat.reduceLT, Nat.reduceEqDiff, Nat.reduceAdd, Nat.reduceSub, Nat.reduceMul, Int.reduceToNat]
    refine callT (refValid_s p o _) rfl ?_
    simp only [go_sem, List.replicate_succ, Nat.reducePow, Nat.reduceLeDiff, ↓reduceIte, reduceCtorEq, Nat.reduceLT, Nat.reduceEqDiff, Nat.reduceAdd, Nat.reduceSub, Nat.reduceMul, Int.reduceToNat, hv]
    exact .tree _ rfl
  | true =>
    have hq := validL_ok.1 hv
    obtain ⟨m, hm⟩ : ∃ m : Nat, lim = m := ⟨lim.toNat, by have := hq.lim; omega⟩
    subst hm
    have hlim := hq.lim
    have hTg := tabA_get hq.len m (q := 0) (by omega)
    obtain ⟨hl0, hb0⟩ := rowQ_bd hq m p.length 0 (by omega)
    have hmost := hq.most
    have e0 : factorL p o (m : Int) = if rowN p o m 0 = 0 then
      ((bestN (rowN p o m) (m + 1)).1 / Nat.gcd (bestN (rowN p o m) (m + 1)).1 (bestN (rowN p o m) (m + 1)).2,
       (bestN (rowN p o m) (m + 1)).2 / Nat.gcd (bestN (rowN p o m) (m + 1)).1 (bestN (rowN p o m) (m + 1)).2, 0)
      else (0, 0, 6) := by unfold factorL; rw [if_pos hv, Int.toNat_natCast]
    rw [e0]
    obtain ⟨R, hR⟩ : ∃ R, rowN p o m = R := ⟨_, rfl⟩
    rw [hR]
    have hRM : ∀ c, R c ≤ 48000000 := fun c => by
      rw [← hR]; unfold rowN
      rw [List.getD_eq_getElem?_getD]
      cases e : (rowQ p o m 0)[c]? with
      | none => simp
      | some y => have := hb0 y (List.mem_of_getElem? e); simp; omega
    have hRg : ∀ c, c ≤ m → (rowQ p o m 0)[c]? = some (R c : Int) := fun c hc => by
      have h1 := getD_get (show c < (rowQ p o m 0).length by omega)
      have h2 : 0 ≤ (rowQ p o m 0).getD c 0 := (hb0 _ (List.mem_of_getElem? h1)).1
      rw [h1, ← hR]; unfold rowN
      rw [Int.toNat_of_nonneg h2]
    generalize rowQ p o m 0 = row at hTg hl0 hRg
    generalize hT : tabA p o m = T at hTg
    refine CwpE.cut (st := ⟨[(0, vints p), (1, vints o), (2, vi m)], []⟩) ?_ ?_
    · simp only [go_sem, List.replicate_succ, Nat.reducePow, Nat.reduceLeDiff, ↓reduceIte, reduceCtorEq, Nat.reduceLT, Nat.reduceEqDiff, Nat.reduceAdd, Nat.reduceSub, Nat.reduceMul, Int.reduceToNat]
      refine callT (refValid_s p o _) rfl ?_
      simp only [go_sem, List.replicate_succ, Nat.reducePow, Nat.reduceLeDiff, ↓reduceIte, reduceCtorEq, Nat.reduceLT, Nat.reduceEqDiff, Nat.reduceAdd, Nat.reduceSub, Nat.reduceMul, Int.reduceToNat, hv]
      exact ⟨_, WkE.keep (by simp only [go_sem, List.replicate_succ, Nat.reducePow, Nat.reduceLeDiff, ↓reduceIte, reduceCtorEq, Nat.reduceLT, Nat.reduceEqDiff, Nat.reduceAdd, Nat.reduceSub, Nat.reduceMul, Int.reduceToNat]), rfl⟩
    refine CwpE.cut (st := ⟨[(2, vi m), (9, vints row)], []⟩) ?_ ?_
    · simp only [go_sem, List.replicate_succ, Nat.reducePow, Nat.reduceLeDiff, ↓reduceIte, reduceCtorEq, Nat.reduceLT, Nat.reduceEqDiff, Nat.reduceAdd, Nat.reduceSub, Nat.reduceMul, Int.reduceToNat]
      refine callT (refTable_s p o m hq) rfl ?_
      rw [hT]
      simp only [go_sem, List.replicate_succ, Nat.reducePow, Nat.reduceLeDiff, ↓reduceIte, reduceCtorEq, Nat.reduceLT, Nat.reduceEqDiff, Nat.reduceAdd, Nat.reduceSub, Nat.reduceMul, Int.reduceToNat, Int.le_refl, List.getElem?_map, hTg]
      exact ⟨_, WkE.keep (by simp only [go_sem, List.replicate_succ, Nat.reducePow, Nat.reduceLeDiff, ↓reduceIte, reduceCtorEq, Nat.reduceLT, Nat.reduceEqDiff, Nat.reduceAdd, Nat.reduceSub, Nat.reduceMul, Int.reduceToNat]), rfl⟩
    have hR0 := hRg 0 (by omega)
    by_cases hz : R 0 = 0
    rotate_left
    · rw [if_neg hz]
      have g : ((R 0 : Int) = 0) = False := eq_false (by omega)
      refine CwpE.vc ?_
      simp only [go_sem, List.replicate_succ, Nat.reducePow, Nat.reduceLeDiff, ↓reduceIte, reduceCtorEq, Nat.reduceLT, Nat.reduceEqDiff, Nat.reduceAdd, Nat.reduceSub, Nat.reduceMul, Int.reduceToNat, Int.le_refl, List.getElem?_map, hR0, g]
      exact .tree _ rfl
    rw [if_pos hz]
    have bb := bestN_bd hz (fun k (_ : k ≤ m) => hRM k)
    refine CwpE.cut (st := ⟨[(2, vi m), (9, vints row)], []⟩) ?_ ?_
    · have g : ((R 0 : Int) = 0) = True := eq_true (by omega)
      simp only [go_sem, List.replicate_succ, Nat.reducePow, Nat.reduceLeDiff, ↓reduceIte, reduceCtorEq, Nat.reduceLT, Nat.reduceEqDiff, Nat.reduceAdd, Nat.reduceSub, Nat.reduceMul, Int.reduceToNat, Int.le_refl, List.getElem?_map, hR0, g]
      exact ⟨_, WkE.keep (by simp only [go_sem, List.replicate_succ, Nat.reducePow, Nat.reduceLeDiff, ↓reduceIte, reduceCtorEq, Nat.reduceLT, Nat.reduceEqDiff, Nat.reduceAdd, Nat.reduceSub, Nat.reduceMul, Int.reduceToNat]), rfl⟩
    refine CwpE.cut (st := ⟨[(2, vi m), (9, vints row), (10, vi (0 : Nat))], []⟩) ?_ ?_
    · simp only [go_sem, List.replicate_succ, Nat.reducePow, Nat.reduceLeDiff, ↓reduceIte, reduceCtorEq, Nat.reduceLT, Nat.reduceEqDiff, Nat.reduceAdd, Nat.reduceSub, Nat.reduceMul, Int.reduceToNat]
      exact ⟨_, WkE.keep (by simp only [go_sem, List.replicate_succ, Nat.reducePow, Nat.reduceLeDiff, ↓reduceIte, reduceCtorEq, Nat.reduceLT, Nat.reduceEqDiff, Nat.reduceAdd, Nat.reduceSub, Nat.reduceMul, Int.reduceToNat]; rfl), rfl⟩
    refine CwpE.cut (st := ⟨[(2, vi m), (9, vints row), (10, vi (0 : Nat)), (11, vi (1 : Nat))], []⟩) ?_ ?_
    · simp only [go_sem, List.replicate_succ, Nat.reducePow, Nat.reduceLeDiff, ↓reduceIte, reduceCtorEq, Nat.reduceLT, Nat.reduceEqDiff, Nat.reduceAdd, Nat.reduceSub, Nat.reduceMul, Int.reduceToNat]
      exact ⟨_, WkE.keep (by simp only [go_sem, List.replicate_succ, Nat.reducePow, Nat.reduceLeDiff, ↓reduceIte, reduceCtorEq, Nat.reduceLT, Nat.reduceEqDiff, Nat.reduceAdd, Nat.reduceSub, Nat.reduceMul, Int.reduceToNat]; rfl), rfl⟩
    have b1 : bestN R 1 = (0, 1) := by simp [bestN, hz]
    refine CwpE.cut (st := ⟨[(10, vi (bestN R (m + 1)).1), (11, vi (bestN R (m + 1)).2)], []⟩) ?_ ?_
    · simp only [go_sem, List.replicate_succ, Nat.reducePow, Nat.reduceLeDiff, ↓reduceIte, reduceCtorEq, Nat.reduceLT, Nat.reduceEqDiff, Nat.reduceAdd, Nat.reduceSub, Nat.reduceMul, Int.reduceToNat]
      refine loopXC 0 (fun m' s => ∃ c : Nat, m' = m + 1 - c ∧ 1 ≤ c ∧ c ≤ m + 1 ∧ s = ⟨[(2, vi m), (9, vints row), (10, vi (bestN R c).1), (11, vi (bestN R c).2), (12, vi c)], []⟩)
        (fun s => s = ⟨[(10, vi (bestN R (m + 1)).1), (11, vi (bestN R (m + 1)).2)], []⟩) m
        ⟨[(2, vi m), (9, vints row), (10, vi (0 : Nat)), (11, vi (1 : Nat)), (12, vi (1 : Nat))], []⟩ (WkE.keep (by simp only [go_sem, List.replicate_succ, Nat.reducePow, Nat.reduceLeDiff, ↓reduceIte, reduceCtorEq, Nat.reduceLT, Nat.reduceEqDiff, Nat.reduceAdd, Nat.reduceSub, Nat.reduceMul, Int.reduceToNat]; rfl)) ⟨1, by omega, by omega, by omega, by rw [b1]⟩ ?_ ?_
      rotate_left
      · rintro s rfl
        simp only [go_sem, List.replicate_succ, Nat.reducePow, Nat.reduceLeDiff, ↓reduceIte, reduceCtorEq, Nat.reduceLT, Nat.reduceEqDiff, Nat.reduceAdd, Nat.reduceSub, Nat.reduceMul, Int.reduceToNat]
        exact ⟨_, .refl _ _, rfl⟩
      rintro m' s ⟨c, rfl, hc1, hc, rfl⟩
      refine CwpE.vc ?_
      by_cases hlt : c ≤ m
      rotate_left
      · obtain rfl : c = m + 1 := by omega
        have g : ¬ ((m + 1 : Nat) : Int) ≤ (m : Int) := by omega
        simp only [go_sem, List.replicate_succ, Nat.reducePow, Nat.reduceLeDiff, ↓reduceIte, reduceCtorEq, Nat.reduceLT, Nat.reduceEqDiff, Nat.reduceAdd, Nat.reduceSub, Nat.reduceMul, Int.reduceToNat, g]
        exact ⟨_, WkE.keep (by simp only [go_sem, List.replicate_succ, Nat.reducePow, Nat.reduceLeDiff, ↓reduceIte, reduceCtorEq, Nat.reduceLT, Nat.reduceEqDiff, Nat.reduceAdd, Nat.reduceSub, Nat.reduceMul, Int.reduceToNat]), rfl⟩
      have c0 : (0 : Int) ≤ (c : Int) := by omega
      have c1 : (c : Int) ≤ (m : Int) := by omega
      have hRc := hRg c (by omega)
      have w5 : IntKind.i64.wrap ((c : Int) + 1) = ((c + 1 : Nat) : Int) := by rw [wrap_id (by omega) (by omega)]; omega
      have hb := bb c (by omega)
      have hs : bestN R (c + 1) = if (bestN R c).1 * c < R c * (bestN R c).2 then (R c, c) else bestN R c := rfl
      have hRcM := hRM c
      generalize bestN R c = B at hb hs ⊢
      have w1 := mul_wrap hRcM (show B.2 ≤ 3000 by omega)
      have w2 := mul_wrap hb.1 (show c ≤ 3000 by omega)
      by_cases hgt : B.1 * c < R c * B.2
      · rw [if_pos hgt] at hs
        simp only [go_sem, List.replicate_succ, Nat.reducePow, Nat.reduceLeDiff, ↓reduceIte, reduceCtorEq, Nat.reduceLT, Nat.reduceEqDiff, Nat.reduceAdd, Nat.reduceSub, Nat.reduceMul, Int.reduceToNat, c0, c1, List.getElem?_map, hRc, w1, w2, mul_lt_cast, hgt, w5]
        exact ⟨m + 1 - (c + 1), ⟨[(2, vi m), (9, vints row), (10, vi (bestN R (c + 1)).1), (11, vi (bestN R (c + 1)).2), (12, vi (c + 1 : Nat))], []⟩, by omega, by rw [hs]; exact WkE.keep (by simp only [go_sem, List.replicate_succ, Nat.reducePow, Nat.reduceLeDiff, ↓reduceIte, reduceCtorEq, Nat.reduceLT, Nat.reduceEqDiff, Nat.reduceAdd, Nat.reduceSub, Nat.reduceMul, Int.reduceToNat]), c + 1, rfl, by omega, by omega, rfl⟩
      · rw [if_neg hgt] at hs
        simp only [go_sem, List.replicate_succ, Nat.reducePow, Nat.reduceLeDiff, ↓reduceIte, reduceCtorEq, Nat.reduceLT, Nat.reduceEqDiff, Nat.reduceAdd, Nat.reduceSub, Nat.reduceMul, Int.reduceToNat, c0, c1, List.getElem?_map, hRc, w1, w2, mul_lt_cast, hgt, w5]
        exact ⟨m + 1 - (c + 1), ⟨[(2, vi m), (9, vints row), (10, vi (bestN R (c + 1)).1), (11, vi (bestN R (c + 1)).2), (12, vi (c + 1 : Nat))], []⟩, by omega, by rw [hs]; exact WkE.keep (by simp only [go_sem, List.replicate_succ, Nat.reducePow, Nat.reduceLeDiff, ↓reduceIte, reduceCtorEq, Nat.reduceLT, Nat.reduceEqDiff, Nat.reduceAdd, Nat.reduceSub, Nat.reduceMul, Int.reduceToNat]), c + 1, rfl, by omega, by omega, rfl⟩
    have hb := bb (m + 1) (Nat.le_refl _)
    generalize bestN R (m + 1) = B at hb ⊢
    obtain ⟨a, b⟩ := B
    simp only at hb ⊢
    obtain ⟨hbM, hb1, hb2, hb3⟩ := hb
    obtain ⟨g, hg⟩ : ∃ g, Nat.gcd a b = g := ⟨_, rfl⟩
    rw [hg]
    have ga : g ∣ a := by rw [← hg]; exact Nat.gcd_dvd_left _ _
    have gb : g ∣ b := by rw [← hg]; exact Nat.gcd_dvd_right _ _
    have gle : a ≠ 0 → g ≤ min a b := fun ha => Nat.le_min.2 ⟨Nat.le_of_dvd (by omega) ga, Nat.le_of_dvd (by omega) gb⟩
    have gpos : 1 ≤ g := Nat.pos_of_ne_zero (by rw [← hg]; exact Nat.gcd_ne_zero_right (by omega))
    refine CwpE.seqJ (fun s => g = 1 ∧ s = ⟨[(10, vi a), (11, vi b)], []⟩) ?_ ?_
    rotate_left
    · rintro s ⟨h1, rfl⟩
      subst h1
      rw [Nat.div_one, Nat.div_one]
      refine CwpE.vc ?_
      by_cases h0 : a = 0
      · have hb' := hb3 h0
        subst h0; subst hb'
        have g : (((0 : Nat) : Int) = 0) = True := eq_true rfl
        simp only [go_sem, List.replicate_succ, Nat.reducePow, Nat.reduceLeDiff, ↓reduceIte, reduceCtorEq, Nat.reduceLT, Nat.reduceEqDiff, Nat.reduceAdd, Nat.reduceSub, Nat.reduceMul, Int.reduceToNat, g]
        exact .tree _ rfl
      · have g : ((a : Int) = 0) = False := eq_false (by omega)
        simp only [go_sem, List.replicate_succ, Nat.reducePow, Nat.reduceLeDiff, ↓reduceIte, reduceCtorEq, Nat.reduceLT, Nat.reduceEqDiff, Nat.reduceAdd, Nat.reduceSub, Nat.reduceMul, Int.reduceToNat, g]
        exact .tree _ rfl
    have mn : (if (b : Int) < (a : Int) then (b : Int) else (a : Int)) = ((min a b : Nat) : Int) := by rw [Nat.min_def]; split <;> split <;> omega
    refine CwpE.vc ?_
    simp only [go_sem, List.replicate_succ, Nat.reducePow, Nat.reduceLeDiff, ↓reduceIte, reduceCtorEq, Nat.reduceLT, Nat.reduceEqDiff, Nat.reduceAdd, Nat.reduceSub, Nat.reduceMul, Int.reduceToNat, mn]
    refine loopX 2 (fun m' s => m' ≤ min a b ∧ (∀ e, m' < e → e ≤ min a b → ¬ (e ∣ a ∧ e ∣ b)) ∧ s = ⟨[(10, vi a), (11, vi b), (13, vi m')], []⟩)
      (fun s => g = 1 ∧ s = ⟨[(10, vi a), (11, vi b)], []⟩) (min a b)
      ⟨[(10, vi a), (11, vi b), (13, vi (min a b : Nat))], []⟩ (WkE.keep (by simp only [go_sem, List.replicate_succ, Nat.reducePow, Nat.reduceLeDiff, ↓reduceIte, reduceCtorEq, Nat.reduceLT, Nat.reduceEqDiff, Nat.reduceAdd, Nat.reduceSub, Nat.reduceMul, Int.reduceToNat])) ⟨Nat.le_refl _, fun e h1 h2 => by omega, rfl⟩ ?_ ?_
    rotate_left
    · rintro s ⟨h1, rfl⟩
      simp only [go_sem, List.replicate_succ, Nat.reducePow, Nat.reduceLeDiff, ↓reduceIte, reduceCtorEq, Nat.reduceLT, Nat.reduceEqDiff, Nat.reduceAdd, Nat.reduceSub, Nat.reduceMul, Int.reduceToNat]
      exact ⟨_, .refl _ _, h1, rfl⟩
    rintro d s ⟨hd, hno, rfl⟩
    have hgd : a ≠ 0 → g ≤ d := fun ha => by
      rcases Nat.lt_or_ge d g with h | h
      · exact absurd ⟨ga, gb⟩ (hno g h (gle ha))
      · exact h
    by_cases h1 : 1 < d
    rotate_left
    · have g1 : ¬ (1 : Int) < (d : Int) := by omega
      simp only [go_sem, List.replicate_succ, Nat.reducePow, Nat.reduceLeDiff, ↓reduceIte, reduceCtorEq, Nat.reduceLT, Nat.reduceEqDiff, Nat.reduceAdd, Nat.reduceSub, Nat.reduceMul, Int.reduceToNat, g1]
      refine ⟨_, WkE.keep (by simp only [go_sem, List.replicate_succ, Nat.reducePow, Nat.reduceLeDiff, ↓reduceIte, reduceCtorEq, Nat.reduceLT, Nat.reduceEqDiff, Nat.reduceAdd, Nat.reduceSub, Nat.reduceMul, Int.reduceToNat]), ?_, rfl⟩
      by_cases h0 : a = 0
      · rw [← hg, h0, hb3 h0]; decide
      · have := hgd h0; omega
    have g1 : (1 : Int) < (d : Int) := by omega
    have g0 : ((d : Int) = 0) = False := eq_false (by omega)
    have ha0 : a ≠ 0 := by rintro rfl; simp at hd; omega
    have w3 : IntKind.i64.wrap ((d : Int) - 1) = ((d - 1 : Nat) : Int) := by
      have := Nat.min_le_left a b
      rw [wrap_id (by omega) (by omega)]; omega
    by_cases hda : d ∣ a
    · by_cases hdb : d ∣ b
      · have : d = g := by
          have h2 : d ∣ g := by rw [← hg]; exact Nat.dvd_gcd hda hdb
          have := Nat.le_of_dvd gpos h2
          have := hgd ha0
          omega
        subst this
        have w1 : IntKind.i64.wrap ((a / d : Nat) : Int) = ((a / d : Nat) : Int) := natw _ (Nat.le_trans (Nat.div_le_self _ _) (by omega))
        have w2 : IntKind.i64.wrap ((b / d : Nat) : Int) = ((b / d : Nat) : Int) := natw _ (Nat.le_trans (Nat.div_le_self _ _) (by omega))
        simp only [go_sem, List.replicate_succ, Nat.reducePow, Nat.reduceLeDiff, ↓reduceIte, reduceCtorEq, Nat.reduceLT, Nat.reduceEqDiff, Nat.reduceAdd, Nat.reduceSub, Nat.reduceMul, Int.reduceToNat, g1, g0, tmod_nat, dvd_cast, hda, hdb, tdiv_nat, w1, w2]
        exact .tree _ rfl
      · simp only [go_sem, List.replicate_succ, Nat.reducePow, Nat.reduceLeDiff, ↓reduceIte, reduceCtorEq, Nat.reduceLT, Nat.reduceEqDiff, Nat.reduceAdd, Nat.reduceSub, Nat.reduceMul, Int.reduceToNat, g1, g0, tmod_nat, dvd_cast, hda, hdb, w3]
        refine ⟨d - 1, ⟨[(10, vi a), (11, vi b), (13, vi (d - 1 : Nat))], []⟩, by omega, WkE.keep (by simp only [go_sem, List.replicate_succ, Nat.reducePow, Nat.reduceLeDiff, ↓reduceIte, reduceCtorEq, Nat.reduceLT, Nat.reduceEqDiff, Nat.reduceAdd, Nat.reduceSub, Nat.reduceMul, Int.reduceToNat]), by omega, fun e h2 h3 => ?_, rfl⟩
        rcases (by omega : e = d ∨ d < e) with rfl | h4
        · exact fun h => hdb h.2
        · exact hno e h4 h3
    · simp only [go_sem, List.replicate_succ, Nat.reducePow, Nat.reduceLeDiff, ↓reduceIte, reduceCtorEq, Nat.reduceLT, Nat.reduceEqDiff, Nat.reduceAdd, Nat.reduceSub, Nat.reduceMul, Int.reduceToNat, g1, g0, tmod_nat, dvd_cast, hda, w3]
      refine ⟨d - 1, ⟨[(10, vi a), (11, vi b), (13, vi (d - 1 : Nat))], []⟩, by omega, WkE.keep (by simp only [go_sem, List.replicate_succ, Nat.reducePow, Nat.reduceLeDiff, ↓reduceIte, reduceCtorEq, Nat.reduceLT, Nat.reduceEqDiff, Nat.reduceAdd, Nat.reduceSub, Nat.reduceMul, Int.reduceToNat]), by omega, fun e h2 h3 => ?_, rfl⟩
      rcases (by omega : e = d ∨ d < e) with rfl | h4
      · exact fun h => hda h.1
      · exact hno e h4 h3
end Go.Proofs.Ytphcaelkpgdbcaa
