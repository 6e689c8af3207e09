/- allow.Check, by contract. -/
import Derived.Test.YtphcaelkpgdbcaaPn
set_option linter.unusedSimpArgs false
set_option linter.unusedVariables false
set_option linter.unusedSectionVars false
namespace Go.Proofs.Ytphcaelkpgdbcaa
open Go.RowKit Dak
theorem sumGo_neg {l : List Int} {last acc : Int} {S : List Int} (h : ¬ 0 ≤ sumGo l last acc S) (h0 : 0 ≤ acc) (hl : ∀ x ∈ l, 0 ≤ x) : sumGo l last acc S = -1 := by
  induction S generalizing last acc with
  | nil => exact absurd h0 (by simpa [sumGo] using h)
  | cons x r ih =>
    rw [sumGo] at h ⊢
    split
    · rename_i hc
      rw [if_pos hc] at h
      refine ih h ?_
      have : 0 ≤ l.getD x.toNat 0 := by
        rw [List.getD_eq_getElem?_getD]
        cases e : l[x.toNat]? with
        | none => simp
        | some y => exact hl y (List.mem_of_getElem? e)
      omega
    · rfl
set_option maxRecDepth 100000 in
set_option maxHeartbeats 4000000 in
theorem Check_s (p o : List Int) (lim t : Int) (S : List Int) (T : List (List Int)) (hp : p.length ≤ 1000000) (ho : o.length ≤ 1000000) (hS : S.length ≤ 1000000000) (hT : T.length ≤ 1000000) (hT2 : ∀ x ∈ T, x.length ≤ 1000000) :
    Ctr Try.prog 17 [vints p, vints o, vi lim, certV t S T] (vi (checkL p o lim t S T)) := by
  refine specC f17 (by simp) fun F0 w0 => ?_
  unfold c17
  refine CwpE.cut (st := ⟨[(0, vints p), (1, vints o), (2, vi lim), (7, .ref 0 1 0 0)], [.arr 1 3 30 [certV t S T]]⟩) ?_ ?_
  · simp only [go_sem, List.replicate_succ, Nat.reducePow, Nat.reduceLeDiff, ↓reduceIte, reduceCtorEq, Nat.reduceLT, Nat.reduceEqDiff, Nat.reduceAdd, Nat.reduceSub, Nat.reduceMul, Int.reduceToNat]
    exact ⟨_, WkE.keep (by simp only [go_sem, List.replicate_succ, Nat.reducePow, Nat.reduceLeDiff, ↓reduceIte, reduceCtorEq, Nat.reduceLT, Nat.reduceEqDiff, Nat.reduceAdd, Nat.reduceSub, Nat.reduceMul, Int.reduceToNat]), rfl⟩
  cases hv : validL p o lim with
  | false =>
    have e : checkL p o lim t S T = 1 := by unfold checkL; rw [if_neg (by simp [hv])]
    rw [e]
    refine CwpE.vc ?_
    simp only [go_sem, List.replicate_succ, Nat.reducePow, Nat.reduceLeDiff, ↓reduceIte, reduceCtorEq, Nat.reduceLT, Nat.reduceEqDiff, Nat.reduceAdd, Nat.reduceSub, Nat.reduceMul, Int.reduceToNat]
    refine callT (valid_s p o _ (by omega) (by omega)) rfl ?_
    simp only [go_sem, List.replicate_succ, Nat.reducePow, Nat.reduceLeDiff, ↓reduceIte, reduceCtorEq, Nat.reduceLT, Nat.reduceEqDiff, Nat.reduceAdd, Nat.reduceSub, Nat.reduceMul, Int.reduceToNat, hv]
    exact .tree _ rfl
  | true =>
    have hq := validL_ok.1 hv
    obtain ⟨m, hm⟩ : ∃ m : Nat, lim = m := ⟨lim.toNat, by have := hq.lim; omega⟩
    subst hm
    have hlim := hq.lim
    have hTg := tabA_get hq.len m (q := 0) (by omega)
    obtain ⟨hl0, hb0⟩ := rowQ_bd hq m p.length 0 (by omega)
    have hmost := hq.most
    have hlen := hq.len
    have hpb := hq.p
    have hob := hq.o
    have e0 : checkL p o (m : Int) t S T = if t = timeL p o m ∧ T = tabA p o m ∧ 0 ≤ sumL p S ∧ sumL p S ≤ (m : Int) ∧ sumL o S = t then 0 else 19 := by unfold checkL; rw [if_pos hv, Int.toNat_natCast]
    rw [e0]
    have hRg : (rowQ p o m 0)[m]? = some (timeL p o m) := getD_get (by omega)
    have m0 : (0 : Int) ≤ (m : Int) := by omega
    have s3 := table_s p o m hq
    have s4 := EqualFunc_s T (tabA p o m) hT hT2
    generalize timeL p o m = time at hRg ⊢
    generalize tabA p o m = A at hTg s3 s4 ⊢
    refine CwpE.cut (st := ⟨[(0, vints p), (1, vints o), (2, vi m), (7, .ref 0 1 0 0)], [.arr 1 3 30 [certV t S T]]⟩) ?_ ?_
    · simp only [go_sem, List.replicate_succ, Nat.reducePow, Nat.reduceLeDiff, ↓reduceIte, reduceCtorEq, Nat.reduceLT, Nat.reduceEqDiff, Nat.reduceAdd, Nat.reduceSub, Nat.reduceMul, Int.reduceToNat]
      refine callT (valid_s p o _ (by omega) (by omega)) rfl ?_
      simp only [go_sem, List.replicate_succ, Nat.reducePow, Nat.reduceLeDiff, ↓reduceIte, reduceCtorEq, Nat.reduceLT, Nat.reduceEqDiff, Nat.reduceAdd, Nat.reduceSub, Nat.reduceMul, Int.reduceToNat, hv]
      exact ⟨_, WkE.keep (by simp only [go_sem, List.replicate_succ, Nat.reducePow, Nat.reduceLeDiff, ↓reduceIte, reduceCtorEq, Nat.reduceLT, Nat.reduceEqDiff, Nat.reduceAdd, Nat.reduceSub, Nat.reduceMul, Int.reduceToNat]), rfl⟩
    refine CwpE.cut (st := ⟨[(0, vints p), (1, vints o), (2, vi m), (7, .ref 0 1 0 0), (9, vrows A)], [.arr 1 3 30 [certV t S T]]⟩) ?_ ?_
    · simp only [go_sem, List.replicate_succ, Nat.reducePow, Nat.reduceLeDiff, ↓reduceIte, reduceCtorEq, Nat.reduceLT, Nat.reduceEqDiff, Nat.reduceAdd, Nat.reduceSub, Nat.reduceMul, Int.reduceToNat]
      refine callT s3 rfl ?_
      simp only [go_sem, List.replicate_succ, Nat.reducePow, Nat.reduceLeDiff, ↓reduceIte, reduceCtorEq, Nat.reduceLT, Nat.reduceEqDiff, Nat.reduceAdd, Nat.reduceSub, Nat.reduceMul, Int.reduceToNat]
      exact ⟨_, WkE.keep (by simp only [go_sem, List.replicate_succ, Nat.reducePow, Nat.reduceLeDiff, ↓reduceIte, reduceCtorEq, Nat.reduceLT, Nat.reduceEqDiff, Nat.reduceAdd, Nat.reduceSub, Nat.reduceMul, Int.reduceToNat]), rfl⟩
    by_cases h1 : t = time
    rotate_left
    · rw [if_neg (fun h => h1 h.1)]
      have h1' := eq_false h1
      refine CwpE.vc ?_
      simp only [go_sem, List.replicate_succ, Nat.reducePow, Nat.reduceLeDiff, ↓reduceIte, reduceCtorEq, Nat.reduceLT, Nat.reduceEqDiff, Nat.reduceAdd, Nat.reduceSub, Nat.reduceMul, Int.reduceToNat, List.drop_succ_cons, Int.le_refl, m0, List.getElem?_map, hTg, hRg, h1']
      exact .tree _ rfl
    have h1' := eq_true h1
    by_cases h2 : T = A
    rotate_left
    · rw [if_neg (fun h => h2 h.2.1)]
      have h2' : decide (T = A) = false := decide_eq_false h2
      rw [h2'] at s4
      refine CwpE.vc ?_
      simp only [go_sem, List.replicate_succ, Nat.reducePow, Nat.reduceLeDiff, ↓reduceIte, reduceCtorEq, Nat.reduceLT, Nat.reduceEqDiff, Nat.reduceAdd, Nat.reduceSub, Nat.reduceMul, Int.reduceToNat, List.drop_succ_cons, Int.le_refl, m0, List.getElem?_map, hTg, hRg, h1']
      refine callT s4 rfl ?_
      simp only [go_sem, List.replicate_succ, Nat.reducePow, Nat.reduceLeDiff, ↓reduceIte, reduceCtorEq, Nat.reduceLT, Nat.reduceEqDiff, Nat.reduceAdd, Nat.reduceSub, Nat.reduceMul, Int.reduceToNat]
      exact .tree _ rfl
    have h2' : decide (T = A) = true := decide_eq_true h2
    rw [h2'] at s4
    refine CwpE.cut (st := ⟨[(0, vints p), (1, vints o), (2, vi m), (7, .ref 0 1 0 0)], [.arr 1 3 30 [certV t S T]]⟩) ?_ ?_
    · simp only [go_sem, List.replicate_succ, Nat.reducePow, Nat.reduceLeDiff, ↓reduceIte, reduceCtorEq, Nat.reduceLT, Nat.reduceEqDiff, Nat.reduceAdd, Nat.reduceSub, Nat.reduceMul, Int.reduceToNat, List.drop_succ_cons, Int.le_refl, m0, List.getElem?_map, hTg, hRg, h1']
      refine callT s4 rfl ?_
      simp only [go_sem, List.replicate_succ, Nat.reducePow, Nat.reduceLeDiff, ↓reduceIte, reduceCtorEq, Nat.reduceLT, Nat.reduceEqDiff, Nat.reduceAdd, Nat.reduceSub, Nat.reduceMul, Int.reduceToNat]
      exact ⟨_, WkE.keep (by simp only [go_sem, List.replicate_succ, Nat.reducePow, Nat.reduceLeDiff, ↓reduceIte, reduceCtorEq, Nat.reduceLT, Nat.reduceEqDiff, Nat.reduceAdd, Nat.reduceSub, Nat.reduceMul, Int.reduceToNat]), rfl⟩
    refine CwpE.cut (st := ⟨[(0, vints p), (1, vints o), (2, vi m), (7, .ref 0 1 0 0), (10, vi (-1)), (11, vi 0), (12, vi 0)], [.arr 1 3 30 [certV t S T]]⟩) ?_ ?_
    · simp only [go_sem, List.replicate_succ, Nat.reducePow, Nat.reduceLeDiff, ↓reduceIte, reduceCtorEq, Nat.reduceLT, Nat.reduceEqDiff, Nat.reduceAdd, Nat.reduceSub, Nat.reduceMul, Int.reduceToNat]
      exact ⟨_, WkE.keep (by simp only [go_sem, List.replicate_succ, Nat.reducePow, Nat.reduceLeDiff, ↓reduceIte, reduceCtorEq, Nat.reduceLT, Nat.reduceEqDiff, Nat.reduceAdd, Nat.reduceSub, Nat.reduceMul, Int.reduceToNat]), rfl⟩
    refine CwpE.seqJ (fun s => 0 ≤ sumL p S ∧ s = ⟨[(2, vi m), (7, .ref 0 1 0 0), (11, vi (sumL p S)), (12, vi (sumL o S))], [.arr 1 3 30 [certV t S T]]⟩) ?_ ?_
    rotate_left
    · rintro s ⟨h0, rfl⟩
      refine CwpE.vc ?_
      by_cases h4 : (m : Int) < sumL p S
      · rw [if_neg (fun h => by omega)]
        simp only [go_sem, List.replicate_succ, Nat.reducePow, Nat.reduceLeDiff, ↓reduceIte, reduceCtorEq, Nat.reduceLT, Nat.reduceEqDiff, Nat.reduceAdd, Nat.reduceSub, Nat.reduceMul, Int.reduceToNat, h4]
        exact .tree _ rfl
      by_cases h5 : sumL o S = t
      rotate_left
      · rw [if_neg (fun h => h5 h.2.2.2.2)]
        have h5' := eq_false h5
        simp only [go_sem, List.replicate_succ, Nat.reducePow, Nat.reduceLeDiff, ↓reduceIte, reduceCtorEq, Nat.reduceLT, Nat.reduceEqDiff, Nat.reduceAdd, Nat.reduceSub, Nat.reduceMul, Int.reduceToNat, h4, List.drop_succ_cons, h5']
        exact .tree _ rfl
      · rw [if_pos ⟨h1, h2, h0, by omega, h5⟩]
        have h5' := eq_true h5
        simp only [go_sem, List.replicate_succ, Nat.reducePow, Nat.reduceLeDiff, ↓reduceIte, reduceCtorEq, Nat.reduceLT, Nat.reduceEqDiff, Nat.reduceAdd, Nat.reduceSub, Nat.reduceMul, Int.reduceToNat, h4, List.drop_succ_cons, h5']
        exact .tree _ rfl
    obtain ⟨a, ha⟩ : ∃ a, sumL p S = a := ⟨_, rfl⟩
    obtain ⟨b, hb⟩ : ∃ b, sumL o S = b := ⟨_, rfl⟩
    rw [ha, hb]
    refine CwpE.vc ?_
    simp only [go_sem, List.replicate_succ, Nat.reducePow, Nat.reduceLeDiff, ↓reduceIte, reduceCtorEq, Nat.reduceLT, Nat.reduceEqDiff, Nat.reduceAdd, Nat.reduceSub, Nat.reduceMul, Int.reduceToNat, List.drop_succ_cons]
    refine loopX 0 (fun m' s => ∃ (i : Nat) (last x y : Int), m' = S.length - i ∧ i ≤ S.length ∧ sumGo p last x (S.drop i) = a ∧ sumGo o last y (S.drop i) = b ∧ last < (p.length : Int) ∧ -1 ≤ last ∧ 0 ≤ x ∧ x ≤ (last + 1) * 1000000 ∧ 0 ≤ y ∧ y ≤ (last + 1) * 1000000 ∧
        s = ⟨[(0, vints p), (1, vints o), (2, vi m), (7, .ref 0 1 0 0), (10, vi last), (11, vi x), (12, vi y), (41, vints S), (42, vi S.length), (43, vi i)], [.arr 1 3 30 [certV t S T]]⟩)
      (fun s => 0 ≤ a ∧ s = ⟨[(2, vi m), (7, .ref 0 1 0 0), (11, vi a), (12, vi b)], [.arr 1 3 30 [certV t S T]]⟩) S.length
      ⟨[(0, vints p), (1, vints o), (2, vi m), (7, .ref 0 1 0 0), (10, vi (-1)), (11, vi 0), (12, vi 0), (41, vints S), (42, vi S.length), (43, vi (0 : Nat))], [.arr 1 3 30 [certV t S T]]⟩ (WkE.keep (by simp only [go_sem, List.replicate_succ, Nat.reducePow, Nat.reduceLeDiff, ↓reduceIte, reduceCtorEq, Nat.reduceLT, Nat.reduceEqDiff, Nat.reduceAdd, Nat.reduceSub, Nat.reduceMul, Int.reduceToNat]; rfl)) ⟨0, -1, 0, 0, by omega, by omega, ha, hb, by omega, by omega, by omega, by omega, by omega, by omega, rfl⟩ ?_ ?_
    rotate_left
    · rintro s ⟨h0, rfl⟩
      simp only [go_sem, List.replicate_succ, Nat.reducePow, Nat.reduceLeDiff, ↓reduceIte, reduceCtorEq, Nat.reduceLT, Nat.reduceEqDiff, Nat.reduceAdd, Nat.reduceSub, Nat.reduceMul, Int.reduceToNat]
      exact ⟨_, .refl _ _, h0, rfl⟩
    rintro m' s ⟨i, last, x, y, rfl, hi, hA, hB, hl1, hl2, x0, x1, y0, y1, rfl⟩
    by_cases hlt : i < S.length
    rotate_left
    · obtain rfl : i = S.length := by omega
      rw [List.drop_length] at hA hB
      unfold sumGo at hA hB
      subst hA; subst hB
      simp only [go_sem, List.replicate_succ, Nat.reducePow, Nat.reduceLeDiff, ↓reduceIte, reduceCtorEq, Nat.reduceLT, Nat.reduceEqDiff, Nat.reduceAdd, Nat.reduceSub, Nat.reduceMul, Int.reduceToNat, Int.lt_irrefl]
      exact ⟨_, WkE.keep (by simp only [go_sem, List.replicate_succ, Nat.reducePow, Nat.reduceLeDiff, ↓reduceIte, reduceCtorEq, Nat.reduceLT, Nat.reduceEqDiff, Nat.reduceAdd, Nat.reduceSub, Nat.reduceMul, Int.reduceToNat]), x0, rfl⟩
    have g0 : (0 : Int) ≤ (i : Int) := by omega
    have g1 : (i : Int) < (S.length : Int) := by omega
    have w1 : IntKind.i64.wrap ((i : Int) + 1) = ((i + 1 : Nat) : Int) := by rw [wrap_id (by omega) (by omega)]; omega
    have hSi : S[i]? = some S[i] := List.getElem?_eq_getElem hlt
    rw [List.drop_eq_getElem_cons hlt, sumGo] at hA hB
    generalize S[i] = e at hSi hA hB
    by_cases hle : e ≤ last
    · rw [if_neg (by omega)] at hA
      rw [if_neg (fun h => by omega)]
      simp only [go_sem, List.replicate_succ, Nat.reducePow, Nat.reduceLeDiff, ↓reduceIte, reduceCtorEq, Nat.reduceLT, Nat.reduceEqDiff, Nat.reduceAdd, Nat.reduceSub, Nat.reduceMul, Int.reduceToNat, g0, g1, List.getElem?_map, hSi, hle]
      exact .tree _ rfl
    by_cases hen : (p.length : Int) ≤ e
    · rw [if_neg (by omega)] at hA
      rw [if_neg (fun h => by omega)]
      simp only [go_sem, List.replicate_succ, Nat.reducePow, Nat.reduceLeDiff, ↓reduceIte, reduceCtorEq, Nat.reduceLT, Nat.reduceEqDiff, Nat.reduceAdd, Nat.reduceSub, Nat.reduceMul, Int.reduceToNat, g0, g1, List.getElem?_map, hSi, hle, hen]
      exact .tree _ rfl
    rw [if_pos (by omega)] at hA
    rw [if_pos (by omega)] at hB
    have e0' : 0 ≤ e := by omega
    have px : p[e.toNat]? = some (p.getD e.toNat 0) := getD_get (by omega)
    have ox : o[e.toNat]? = some (o.getD e.toNat 0) := getD_get (by omega)
    have pb := getD_bd hpb (show e.toNat < p.length by omega)
    have ob := getD_bd hob (show e.toNat < o.length by omega)
    generalize p.getD e.toNat 0 = u at px pb hA
    generalize o.getD e.toNat 0 = v at ox ob hB
    have w2 : IntKind.i64.wrap (x + u) = x + u := wrap_id (by omega) (by omega)
    have w3 : IntKind.i64.wrap (y + v) = y + v := wrap_id (by omega) (by omega)
    simp only [go_sem, List.replicate_succ, Nat.reducePow, Nat.reduceLeDiff, ↓reduceIte, reduceCtorEq, Nat.reduceLT, Nat.reduceEqDiff, Nat.reduceAdd, Nat.reduceSub, Nat.reduceMul, Int.reduceToNat, g0, g1, List.getElem?_map, hSi, hle, hen, e0', px, ox, w1, w2, w3]
    exact ⟨S.length - (i + 1), ⟨[(0, vints p), (1, vints o), (2, vi m), (7, .ref 0 1 0 0), (10, vi e), (11, vi (x + u)), (12, vi (y + v)), (41, vints S), (42, vi S.length), (43, vi (i + 1 : Nat))], [.arr 1 3 30 [certV t S T]]⟩, by omega, WkE.keep (by simp only [go_sem, List.replicate_succ, Nat.reducePow, Nat.reduceLeDiff, ↓reduceIte, reduceCtorEq, Nat.reduceLT, Nat.reduceEqDiff, Nat.reduceAdd, Nat.reduceSub, Nat.reduceMul, Int.reduceToNat]), i + 1, e, x + u, y + v, rfl, by omega, hA, hB, by omega, by omega, by omega, by omega, by omega, by omega, rfl⟩
end Go.Proofs.Ytphcaelkpgdbcaa
