/- Certificates with one thing changed, by contract. -/
import Derived.Test.YtphcaelkpgdbcaaPu
set_option linter.unusedSimpArgs false
set_option linter.unusedVariables false
set_option linter.unusedSectionVars false
namespace Go.Proofs.Ytphcaelkpgdbcaa
open Go.RowKit Dak
abbrev wr (n : Int) : Int := IntKind.i64.wrap n
/-- dactyllaw32.bent -/
def bentL (t : Int) (S : List Int) (T : List (List Int)) (at_ how by_ : Int) : Int × List Int × List (List Int) :=
  if aroundL how 4 = 0 then (wr (wr (t + aroundL by_ 5) - 2), S, T) else
  if aroundL how 4 = 1 then (t, S.set (aroundL at_ S.length).toNat (wr (wr (S.getD (aroundL at_ S.length).toNat 0 + aroundL by_ 5) - 2)), T) else
  if aroundL how 4 = 2 then (t, S, T.set (aroundL at_ T.length).toNat ((T.getD (aroundL at_ T.length).toNat []).set (aroundL by_ (T.getD (aroundL at_ T.length).toNat []).length).toNat
    (wr (wr ((T.getD (aroundL at_ T.length).toNat []).getD (aroundL by_ (T.getD (aroundL at_ T.length).toNat []).length).toNat 0 + aroundL (by_.tdiv 7) 5) - 2)))) else
  (t, S ++ [aroundL by_ 9], T)
theorem bentL_bd {t : Int} {S : List Int} {T : List (List Int)} {at_ how by_ : Int} {M : Nat} (hS : S.length ≤ M) (hT : T.length ≤ M) (hR : ∀ x ∈ T, x.length ≤ M) :
    (bentL t S T at_ how by_).2.1.length ≤ M + 1 ∧ (bentL t S T at_ how by_).2.2.length ≤ M ∧ ∀ x ∈ (bentL t S T at_ how by_).2.2, x.length ≤ M := by
  unfold bentL
  split
  · exact ⟨by show S.length ≤ M + 1; omega, hT, hR⟩
  split
  · exact ⟨by simp; omega, hT, hR⟩
  split
  · refine ⟨by show S.length ≤ M + 1; omega, by simp; omega, fun x hx => ?_⟩
    rcases List.mem_or_eq_of_mem_set hx with h | h
    · exact hR x h
    · rw [h, List.length_set]
      rw [List.getD_eq_getElem?_getD]
      cases e : T[(aroundL at_ T.length).toNat]? with
      | none => simp
      | some y => exact hR y (List.mem_of_getElem? e)
  · exact ⟨by simp; omega, hT, hR⟩
theorem tdiv7 {q : Int} (h5 : I64 q) : I64 (q.tdiv 7) := by
  unfold I64 at h5 ⊢
  have h6 : q.tdiv 7 * 7 + q.tmod 7 = q := by rw [Int.mul_comm]; exact Int.mul_tdiv_add_tmod q 7
  have h7 := Int.tmod_lt_of_pos q (show (0 : Int) < 7 by omega)
  have h8 : -7 < q.tmod 7 := by
    rcases Int.le_total 0 q with h | h
    · have := Int.tmod_nonneg 7 h; omega
    · have h9 := Int.tmod_nonneg 7 (show 0 ≤ -q by omega)
      have h10 := Int.tmod_lt_of_pos (-q) (show (0 : Int) < 7 by omega)
      rw [Int.neg_tmod] at h9 h10; omega
  omega
set_option maxRecDepth 100000 in
set_option maxHeartbeats 8000000 in
theorem bent_s (t : Int) (S : List Int) (T : List (List Int)) (at_ how by_ : Int) (hS : S.length ≤ 1000000) (hT : T.length ≤ 1000000) (hR : ∀ x ∈ T, x.length ≤ 1000000) (h1 : I64 at_) (h2 : I64 how) (h3 : I64 by_) :
    Ctr Try.prog 16 [certV t S T, vi at_, vi how, vi by_] (certV (bentL t S T at_ how by_).1 (bentL t S T at_ how by_).2.1 (bentL t S T at_ how by_).2.2) := by
  refine specC f16 (by simp) fun F0 w0 => ?_
  obtain ⟨r, hr⟩ : ∃ r, bentL t S T at_ how by_ = r := ⟨_, rfl⟩
  rw [hr]
  have hSb : S.length * 8 ≤ 140737488355328 := by omega
  have hSb1 : (S.length + 1) * 8 ≤ 140737488355328 := by omega
  have hTb : T.length * 24 ≤ 140737488355328 := by omega
  unfold c16
  refine CwpE.cut (st := ⟨[(1, vi at_), (2, vi how), (3, vi by_), (4, .ref 0 1 0 0), (8, .ref 1 1 0 0)], [.arr 1 3 34 [certV t S T], .arr 1 3 34 [.agg [vi 0, nilV, nilV]]]⟩) ?_ ?_
  · simp only [go_sem, List.replicate_succ, Nat.reducePow, Nat.reduceLeDiff, ↓reduceIte, reduceCtorEq, Nat.reduceLT, Nat.reduceEqDiff, Nat.reduceAdd, Nat.reduceSub, Nat.reduceMul, Int.reduceToNat]
    exact ⟨_, WkE.keep (by simp only [go_sem, List.replicate_succ, Nat.reducePow, Nat.reduceLeDiff, ↓reduceIte, reduceCtorEq, Nat.reduceLT, Nat.reduceEqDiff, Nat.reduceAdd, Nat.reduceSub, Nat.reduceMul, Int.reduceToNat]), rfl⟩
  refine CwpE.cut (st := ⟨[(1, vi at_), (2, vi how), (3, vi by_), (8, .ref 1 1 0 0), (9, .ref 4 1 0 0)], [.arr 1 3 34 [certV t S T], .arr 1 3 34 [.agg [vi 0, nilV, nilV]], .arr S.length 1 3 (S.map vi), .arr T.length 1 22 (T.map vints), .arr 1 3 34 [.agg [vi t, .own 2 S.length 0 S.length, .own 3 T.length 0 T.length]]]⟩) ?_ ?_
  · simp only [go_sem, List.replicate_succ, Nat.reducePow, Nat.reduceLeDiff, ↓reduceIte, reduceCtorEq, Nat.reduceLT, Nat.reduceEqDiff, Nat.reduceAdd, Nat.reduceSub, Nat.reduceMul, Int.reduceToNat, List.drop_succ_cons, hSb, hTb]
    exact ⟨_, WkE.keep (by simp only [go_sem, List.replicate_succ, Nat.reducePow, Nat.reduceLeDiff, ↓reduceIte, reduceCtorEq, Nat.reduceLT, Nat.reduceEqDiff, Nat.reduceAdd, Nat.reduceSub, Nat.reduceMul, Int.reduceToNat]), rfl⟩
  refine CwpE.seqJ (fun s => ∃ (gS gT : Nat) (rows : List AV) (rest : List AObj), rows.length = r.2.2.length ∧
      (∀ z i (h1 : i < rows.length) (h2 : i < r.2.2.length), Snap ([.arr 1 3 34 [certV t S T], z, .arr gS 1 3 (r.2.1.map vi), .arr gT 1 22 rows, .arr 1 3 34 [.agg [vi r.1, .own 2 gS 0 r.2.1.length, .own 3 gT 0 r.2.2.length]]] ++ rest) rows[i] (vints r.2.2[i])) ∧
      s = ⟨[(8, .ref 1 1 0 0), (9, .ref 4 1 0 0)], [.arr 1 3 34 [certV t S T], .arr 1 3 34 [.agg [vi 0, nilV, nilV]], .arr gS 1 3 (r.2.1.map vi), .arr gT 1 22 rows, .arr 1 3 34 [.agg [vi r.1, .own 2 gS 0 r.2.1.length, .own 3 gT 0 r.2.2.length]]] ++ rest⟩) ?_ ?_
  rotate_left
  · rintro s ⟨gS, gT, rows, rest, hrl, hsn, rfl⟩
    refine CwpE.vc ?_
    simp only [go_sem, List.replicate_succ, Nat.reducePow, Nat.reduceLeDiff, ↓reduceIte, reduceCtorEq, Nat.reduceLT, Nat.reduceEqDiff, Nat.reduceAdd, Nat.reduceSub, Nat.reduceMul, Int.reduceToNat, List.drop_succ_cons, List.drop_nil]
    have hsn2 := hsn (.arr 1 3 34 [.agg [vi r.1, .own 2 gS 0 r.2.1.length, .own 3 gT 0 r.2.2.length]])
    simp only [List.cons_append, List.nil_append] at hsn2
    refine .agg _ _ rfl fun j h1 h2 => ?_
    rcases (by simp at h1; omega : j = 0 ∨ j = 1 ∨ j = 2) with rfl | rfl | rfl
    · exact .tree _ rfl
    · refine .own 2 gS 0 _ 1 3 _ _ rfl (by simp) (by simp) fun i hi => ?_
      simp only [Nat.zero_add]
      exact .tree _ (by simp [AV.isT, AV.isT1])
    · refine .own 3 gT 0 _ 1 22 _ _ rfl (by simp; omega) (by simp) fun i hi => ?_
      simp only [Nat.zero_add, List.getElem_map]
      exact hsn2 i (by rw [hrl]; simpa using hi) (by simpa using hi)
  have tr : ∀ (O : List AObj) i (h1 : i < (T.map vints).length) (h2 : i < T.length), Snap O (T.map vints)[i] (vints T[i]) := fun O i h1 h2 => by
    rw [List.getElem_map]; exact .tree _ rfl
  have ka := aroundL_bd how 4 (by omega)
  have sK := Around_s how 4 h2 ⟨by omega, by omega⟩
  have a5 := Around_s by_ 5 h3 ⟨by omega, by omega⟩
  have a9 := Around_s by_ 9 h3 ⟨by omega, by omega⟩
  have a7 := Around_s (by_.tdiv 7) 5 (tdiv7 h3) ⟨by omega, by omega⟩
  have w7 : IntKind.i64.wrap (by_.tdiv 7) = by_.tdiv 7 := wrap_id (tdiv7 h3).1 (tdiv7 h3).2
  have z7 : ¬ (7 : Int) = 0 := by omega
  refine CwpE.vc ?_
  simp only [go_sem, List.replicate_succ, Nat.reducePow, Nat.reduceLeDiff, ↓reduceIte, reduceCtorEq, Nat.reduceLT, Nat.reduceEqDiff, Nat.reduceAdd, Nat.reduceSub, Nat.reduceMul, Int.reduceToNat]
  refine callT sK rfl ?_
  unfold bentL at hr
  by_cases k0 : aroundL how 4 = 0
  · rw [if_pos k0] at hr
    subst hr
    have k0' := eq_true k0
    simp only [go_sem, List.replicate_succ, Nat.reducePow, Nat.reduceLeDiff, ↓reduceIte, reduceCtorEq, Nat.reduceLT, Nat.reduceEqDiff, Nat.reduceAdd, Nat.reduceSub, Nat.reduceMul, Int.reduceToNat, k0']
    refine callT a5 rfl ?_
    simp only [go_sem, List.replicate_succ, Nat.reducePow, Nat.reduceLeDiff, ↓reduceIte, reduceCtorEq, Nat.reduceLT, Nat.reduceEqDiff, Nat.reduceAdd, Nat.reduceSub, Nat.reduceMul, Int.reduceToNat, List.drop_succ_cons]
    exact ⟨_, WkE.keep (env' := [(8, .ref 1 1 0 0), (9, .ref 4 1 0 0)]) (by simp only [go_sem, List.replicate_succ, Nat.reducePow, Nat.reduceLeDiff, ↓reduceIte, reduceCtorEq, Nat.reduceLT, Nat.reduceEqDiff, Nat.reduceAdd, Nat.reduceSub, Nat.reduceMul, Int.reduceToNat]), S.length, T.length, T.map vints, [], by simp, fun z i h1 h2 => tr _ i h1 h2, rfl⟩
  rw [if_neg k0] at hr
  have k0' := eq_false k0
  by_cases k1 : aroundL how 4 = 1
  · rw [if_pos k1] at hr
    subst hr
    have e10 : ((1 : Int) = 0) = False := eq_false (by omega)
    rw [k1]
    by_cases hS0 : S.length = 0
    · obtain rfl : S = [] := List.length_eq_zero_iff.1 hS0
      have g : ¬ (0 : Int) < ((0 : Nat) : Int) := by omega
      simp only [go_sem, List.replicate_succ, Nat.reducePow, Nat.reduceLeDiff, ↓reduceIte, reduceCtorEq, Nat.reduceLT, Nat.reduceEqDiff, Nat.reduceAdd, Nat.reduceSub, Nat.reduceMul, Int.reduceToNat, e10, List.drop_succ_cons, g]
      exact ⟨_, WkE.keep (env' := [(8, .ref 1 1 0 0), (9, .ref 4 1 0 0)]) (by simp only [go_sem, List.replicate_succ, Nat.reducePow, Nat.reduceLeDiff, ↓reduceIte, reduceCtorEq, Nat.reduceLT, Nat.reduceEqDiff, Nat.reduceAdd, Nat.reduceSub, Nat.reduceMul, Int.reduceToNat]), 0, T.length, T.map vints, [], by simp, fun z i h1 h2 => tr _ i h1 h2, rfl⟩
    have g : (0 : Int) < (S.length : Int) := by omega
    have ib := aroundL_bd at_ S.length (by omega)
    have iS := Around_s at_ S.length h1 ⟨by omega, by omega⟩
    obtain ⟨j, hj⟩ : ∃ j : Nat, aroundL at_ S.length = j := ⟨(aroundL at_ S.length).toNat, by omega⟩
    rw [hj] at iS ib ⊢
    rw [Int.toNat_natCast]
    have j0 : (0 : Int) ≤ (j : Int) := by omega
    have j1 : (j : Int) < (S.length : Int) := by omega
    have hSj : S[j]? = some (S.getD j 0) := getD_get (by omega)
    generalize S.getD j 0 = v at hSj ⊢
    simp only [go_sem, List.replicate_succ, Nat.reducePow, Nat.reduceLeDiff, ↓reduceIte, reduceCtorEq, Nat.reduceLT, Nat.reduceEqDiff, Nat.reduceAdd, Nat.reduceSub, Nat.reduceMul, Int.reduceToNat, e10, List.drop_succ_cons, g]
    refine callT iS rfl ?_
    simp only [go_sem, List.replicate_succ, Nat.reducePow, Nat.reduceLeDiff, ↓reduceIte, reduceCtorEq, Nat.reduceLT, Nat.reduceEqDiff, Nat.reduceAdd, Nat.reduceSub, Nat.reduceMul, Int.reduceToNat, List.drop_succ_cons, j0, j1, List.getElem?_map, hSj]
    refine callT a5 rfl ?_
    simp only [go_sem, List.replicate_succ, Nat.reducePow, Nat.reduceLeDiff, ↓reduceIte, reduceCtorEq, Nat.reduceLT, Nat.reduceEqDiff, Nat.reduceAdd, Nat.reduceSub, Nat.reduceMul, Int.reduceToNat, List.drop_succ_cons, j0, j1, List.getElem?_map, hSj]
    refine ⟨_, WkE.keep (env' := [(8, .ref 1 1 0 0), (9, .ref 4 1 0 0)]) (by simp only [go_sem, List.replicate_succ, Nat.reducePow, Nat.reduceLeDiff, ↓reduceIte, reduceCtorEq, Nat.reduceLT, Nat.reduceEqDiff, Nat.reduceAdd, Nat.reduceSub, Nat.reduceMul, Int.reduceToNat]), S.length, T.length, T.map vints, [], by simp, fun z i h1 h2 => tr _ i h1 h2, ?_⟩
    rw [List.map_set, List.length_set]
  rw [if_neg k1] at hr
  have k1' := eq_false k1
  by_cases k2 : aroundL how 4 = 2
  · rw [if_pos k2] at hr
    subst hr
    have e20 : ((2 : Int) = 0) = False := eq_false (by omega)
    have e21 : ((2 : Int) = 1) = False := eq_false (by omega)
    rw [k2]
    by_cases hT0 : T.length = 0
    · obtain rfl : T = [] := List.length_eq_zero_iff.1 hT0
      have g : ¬ (0 : Int) < ((0 : Nat) : Int) := by omega
      simp only [go_sem, List.replicate_succ, Nat.reducePow, Nat.reduceLeDiff, ↓reduceIte, reduceCtorEq, Nat.reduceLT, Nat.reduceEqDiff, Nat.reduceAdd, Nat.reduceSub, Nat.reduceMul, Int.reduceToNat, e20, e21, List.drop_succ_cons, g]
      exact ⟨_, WkE.keep (env' := [(8, .ref 1 1 0 0), (9, .ref 4 1 0 0)]) (by simp only [go_sem, List.replicate_succ, Nat.reducePow, Nat.reduceLeDiff, ↓reduceIte, reduceCtorEq, Nat.reduceLT, Nat.reduceEqDiff, Nat.reduceAdd, Nat.reduceSub, Nat.reduceMul, Int.reduceToNat]), S.length, 0, [], [], rfl, fun z i h1 h2 => absurd h1 (by simp), rfl⟩
    have g : (0 : Int) < (T.length : Int) := by omega
    have ib := aroundL_bd at_ T.length (by omega)
    have iT := Around_s at_ T.length h1 ⟨by omega, by omega⟩
    obtain ⟨j, hj⟩ : ∃ j : Nat, aroundL at_ T.length = j := ⟨(aroundL at_ T.length).toNat, by omega⟩
    rw [hj] at iT ib ⊢
    rw [Int.toNat_natCast]
    have j0 : (0 : Int) ≤ (j : Int) := by omega
    have j1 : (j : Int) < (T.length : Int) := by omega
    have hTj : T[j]? = some T[j] := List.getElem?_eq_getElem (by omega)
    have hgd : T.getD j [] = T[j] := by simp [show j < T.length by omega]
    have hRl := hR _ (List.getElem_mem (show j < T.length by omega))
    rw [hgd]
    generalize T[j] = R at hTj hRl ⊢
    have hRb : R.length * 8 ≤ 140737488355328 := by omega
    -- the rows with a new one among them
    have mix : ∀ (R' : List Int) (g' : Nat) (O : List AObj), R'.length = R.length → O[5]? = some (.arr g' 1 3 (R'.map vi)) → ∀ i (h1 : i < ((T.map vints).set j (.own 5 g' 0 R.length)).length) (h2 : i < (T.set j R').length), Snap O ((T.map vints).set j (.own 5 g' 0 R.length))[i] (vints (T.set j R')[i]) := by
      intro R' g' O hR' hO i h1 h2
      rw [List.getElem_set, List.getElem_set]
      split
      · refine .own 5 g' 0 R.length 1 3 _ _ hO (by simp; omega) (by simpa using hR') fun q hq => ?_
        simp only [Nat.zero_add]
        exact .tree _ (by simp [AV.isT, AV.isT1])
      · rw [List.getElem_map]; exact .tree _ rfl
    have glt : ((T.map vints).length : Nat) = T.length := by simp
    by_cases hR0 : R.length = 0
    · obtain rfl : R = [] := List.length_eq_zero_iff.1 hR0
      have g0 : ¬ (0 : Int) < ((0 : Nat) : Int) := by omega
      simp only [go_sem, List.replicate_succ, Nat.reducePow, Nat.reduceLeDiff, ↓reduceIte, reduceCtorEq, Nat.reduceLT, Nat.reduceEqDiff, Nat.reduceAdd, Nat.reduceSub, Nat.reduceMul, Int.reduceToNat, e20, e21, List.drop_succ_cons, List.drop_nil, g]
      refine callT iT rfl ?_
      simp only [go_sem, List.replicate_succ, Nat.reducePow, Nat.reduceLeDiff, ↓reduceIte, reduceCtorEq, Nat.reduceLT, Nat.reduceEqDiff, Nat.reduceAdd, Nat.reduceSub, Nat.reduceMul, Int.reduceToNat, List.drop_succ_cons, List.drop_nil, j0, j1, List.getElem?_map, hTj, hRb, g0]
      refine ⟨_, WkE.keep (env' := [(8, .ref 1 1 0 0), (9, .ref 4 1 0 0)]) (by simp only [go_sem, List.replicate_succ, Nat.reducePow, Nat.reduceLeDiff, ↓reduceIte, reduceCtorEq, Nat.reduceLT, Nat.reduceEqDiff, Nat.reduceAdd, Nat.reduceSub, Nat.reduceMul, Int.reduceToNat]), S.length, T.length, (T.map vints).set j (.own 5 0 0 0), [.arr 0 1 3 []], by simp, fun z i h1 h2 => mix [] 0 _ rfl rfl i h1 h2, ?_⟩
      rw [List.length_set]
    have g1 : (0 : Int) < (R.length : Int) := by omega
    have qb := aroundL_bd by_ R.length (by omega)
    have iR := Around_s by_ R.length h3 ⟨by omega, by omega⟩
    obtain ⟨q, hq⟩ : ∃ q : Nat, aroundL by_ R.length = q := ⟨(aroundL by_ R.length).toNat, by omega⟩
    rw [hq] at iR qb ⊢
    rw [Int.toNat_natCast]
    have q0 : (0 : Int) ≤ (q : Int) := by omega
    have q1 : (q : Int) < (R.length : Int) := by omega
    have hRq : R[q]? = some (R.getD q 0) := getD_get (by omega)
    generalize R.getD q 0 = v at hRq ⊢
    simp only [go_sem, List.replicate_succ, Nat.reducePow, Nat.reduceLeDiff, ↓reduceIte, reduceCtorEq, Nat.reduceLT, Nat.reduceEqDiff, Nat.reduceAdd, Nat.reduceSub, Nat.reduceMul, Int.reduceToNat, e20, e21, List.drop_succ_cons, List.drop_nil, g]
    refine callT iT rfl ?_
    simp only [go_sem, List.replicate_succ, Nat.reducePow, Nat.reduceLeDiff, ↓reduceIte, reduceCtorEq, Nat.reduceLT, Nat.reduceEqDiff, Nat.reduceAdd, Nat.reduceSub, Nat.reduceMul, Int.reduceToNat, List.drop_succ_cons, List.drop_nil, j0, j1, List.getElem?_map, hTj, hRb, g1, hR0]
    refine callT iR rfl ?_
    simp only [go_sem, List.replicate_succ, Nat.reducePow, Nat.reduceLeDiff, ↓reduceIte, reduceCtorEq, Nat.reduceLT, Nat.reduceEqDiff, Nat.reduceAdd, Nat.reduceSub, Nat.reduceMul, Int.reduceToNat, List.drop_succ_cons, List.drop_nil, j0, j1, q0, q1, List.getElem?_map, hTj, hRq, z7, w7]
    refine callT a7 rfl ?_
    simp only [go_sem, List.replicate_succ, Nat.reducePow, Nat.reduceLeDiff, ↓reduceIte, reduceCtorEq, Nat.reduceLT, Nat.reduceEqDiff, Nat.reduceAdd, Nat.reduceSub, Nat.reduceMul, Int.reduceToNat, List.drop_succ_cons, List.drop_nil, j0, j1, q0, q1, List.getElem?_map, hTj, hRq, z7, w7]
    refine ⟨_, WkE.keep (env' := [(8, .ref 1 1 0 0), (9, .ref 4 1 0 0)]) (by simp only [go_sem, List.replicate_succ, Nat.reducePow, Nat.reduceLeDiff, ↓reduceIte, reduceCtorEq, Nat.reduceLT, Nat.reduceEqDiff, Nat.reduceAdd, Nat.reduceSub, Nat.reduceMul, Int.reduceToNat]), S.length, T.length, (T.map vints).set j (.own 5 R.length 0 R.length), [.arr R.length 1 3 ((R.set q (wr (wr (v + aroundL (by_.tdiv 7) 5) - 2))).map vi)], by simp, fun z i h1 h2 => mix _ R.length _ (by simp) rfl i h1 h2, ?_⟩
    rw [List.map_set, List.length_set]
  · rw [if_neg k2] at hr
    subst hr
    have k2' := eq_false k2
    have htk : List.take S.length (S.map vi) = S.map vi := List.take_of_length_le (by simp)
    simp only [go_sem, List.replicate_succ, Nat.reducePow, Nat.reduceLeDiff, ↓reduceIte, reduceCtorEq, Nat.reduceLT, Nat.reduceEqDiff, Nat.reduceAdd, Nat.reduceSub, Nat.reduceMul, Int.reduceToNat, k0', k1', k2', List.drop_succ_cons]
    refine callT a9 rfl ?_
    simp only [go_sem, List.replicate_succ, Nat.reducePow, Nat.reduceLeDiff, ↓reduceIte, reduceCtorEq, Nat.reduceLT, Nat.reduceEqDiff, Nat.reduceAdd, Nat.reduceSub, Nat.reduceMul, Int.reduceToNat, List.drop_succ_cons, hSb1, htk]
    refine ⟨_, WkE.keep (env' := [(8, .ref 1 1 0 0), (9, .ref 4 1 0 0)]) (by simp only [go_sem, List.replicate_succ, Nat.reducePow, Nat.reduceLeDiff, ↓reduceIte, reduceCtorEq, Nat.reduceLT, Nat.reduceEqDiff, Nat.reduceAdd, Nat.reduceSub, Nat.reduceMul, Int.reduceToNat]), S.length + 1, T.length, T.map vints, [], by simp, fun z i h1 h2 => tr _ i h1 h2, ?_⟩
    rw [List.map_append]
    rfl
end Go.Proofs.Ytphcaelkpgdbcaa
