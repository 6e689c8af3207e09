/- allow.table, by contract: a closure that calls itself, and puts a row into its place when it is left. -/
import Derived.Test.YtphcaelkpgdbcaaPg
import Derived.Test.YtphcaelkpgdbcaaDt
set_option linter.unusedSimpArgs false
set_option linter.unusedVariables false
set_option linter.unusedSectionVars false
namespace Go.Proofs.Ytphcaelkpgdbcaa
open Go.RowKit Dak
/-- What solve has captured. -/
abbrev capsT : List AV := [.ref 5 1 0 0, .ref 2 1 0 0, .ref 3 1 0 0, .ref 6 1 0 0, .ref 0 1 0 0, .ref 1 1 0 0]
abbrev baseT (p o : List Int) (m n : Nat) (rows : List AV) : List AObj :=
  [.arr 1 1 22 [vints p], .arr 1 1 22 [vints o], .arr 1 1 3 [vi m], .arr 1 1 3 [vi n], .arr (n + 1) 1 22 rows, .arr 1 1 25 [.own 4 (n + 1) 0 (n + 1)], .arr 1 1 57 [.clo (.func 35) capsT]]
abbrev rowsT (p o : List Int) (m n j : Nat) : List AV := lstV n fun q => if j ≤ q then vints (rowQ p o m q) else nilV
theorem lstV_inn {n k : Nat} {f : Nat → AV} (h : ∀ q, q ≤ n → (f q).inn k = true) : (lstV n f).all (AV.inn k) = true := by
  refine List.all_eq_true.2 fun x hx => ?_
  obtain ⟨q, hq, rfl⟩ := List.mem_map.1 hx
  exact h q (by simp at hq; omega)
theorem rowsT_inn (p o : List Int) (m n j k : Nat) : (rowsT p o m n j).all (AV.inn k) = true := lstV_inn fun q _ => by split <;> rfl
theorem defer_s (p o : List Int) (m n i : Nat) (rows : List AV) (row : List AV) (hin : i ≤ n) (hrl : rows.length = n + 1) (hri : rows.all (AV.inn 12) = true) (hrow : row.all (AV.inn 12) = true) (hni : rows[i]? = some nilV) (G G2 : AObj) (hG : G.innO 12 = true) (hG2 : G2.innO 12 = true) :
    CtrD Try.prog 36 [.ref 9 1 0 0, .ref 5 1 0 0, .ref 8 1 0 0] (baseT p o m n rows ++ [G, .arr 1 1 3 [vi i], .arr 1 1 22 [.own 11 (m + 1) 0 (m + 1)], G2, .arr (m + 1) 1 3 row]) (.tup [])
      (baseT p o m n (rows.set i (.own 11 (m + 1) 0 (m + 1))) ++ [G, .arr 1 1 3 [vi i], .arr 1 1 22 [.own 11 (m + 1) 0 (m + 1)], G2, .arr (m + 1) 1 3 row]) := by
  have hset : (rows.set i (.own 11 (m + 1) 0 (m + 1))).all (AV.inn 12) = true := by
    refine List.all_eq_true.2 fun x hx => ?_
    rcases List.mem_or_eq_of_mem_set hx with h | h
    · exact List.all_eq_true.1 hri x h
    · subst h; rfl
  refine specMD f36 (by simp) (by simp) (by simp only [baseT, List.cons_append, List.nil_append, List.length_cons, List.length_nil, List.all_cons, List.all_nil, hG, hG2, Bool.and_true, Bool.true_and]; simp only [AObj.innO, Nat.zero_add, Nat.reduceAdd, hset, hrow]; rfl) rfl fun F0 w0 G' hG' => ?_
  have q0 : (0 : Int) ≤ (i : Int) := by omega
  have q1 : (i : Int) < ((n + 1 : Nat) : Int) := by omega
  refine CwpE.vc ?_
  unfold c36
  simp only [baseT, go_sem, List.replicate_succ, Nat.reducePow, Nat.reduceLeDiff, ↓reduceIte, reduceCtorEq, Nat.reduceLT, Nat.reduceEqDiff, Nat.reduceAdd, Nat.reduceSub, Nat.reduceMul, Int.reduceToNat, q0, q1, hni]
  exact ⟨_, rfl, .refl _ _⟩
set_option maxRecDepth 100000 in
set_option maxHeartbeats 8000000 in
theorem solve_s (p o : List Int) (m n : Nat) (h : OkQ p o m) (hpn : p.length = n) : ∀ (d i : Nat), i + d = n → CtrM Try.prog 35 (vi i :: capsT) (baseT p o m n (rowsT p o m n (n + 1))) (vints (rowQ p o m i)) (baseT p o m n (rowsT p o m n i)) := by
  intro d
  induction d with
  | zero => ?_
  | succ d ih => ?_
  all_goals intro i hid
  all_goals
    have hbd := rowQ_bd h m
    obtain ⟨hlen, hmost, hp, ho, hm0, hm1⟩ := h
    have hon : o.length = n := by omega
    have hl : ∀ q, q ≤ n → (rowQ p o m q).length = m + 1 := fun q hq => (hbd (n - q) q (by omega)).1
    have hin : i ≤ n := by omega
    refine specDef f35 (by simp) (by simp) (by simp only [baseT, List.length_cons, List.length_nil, List.all_cons, List.all_nil, Bool.and_true]; simp only [AObj.innO, rowsT_inn]; rfl) rfl fun G hG => ?_
    have key : ∀ K : Est → Prop, K ⟨[(12, .clo (.func 36) [.ref 9 1 0 0, .ref 5 1 0 0, .ref 8 1 0 0]), (8, .ref 9 1 0 0), (7, .ref 8 1 0 0), (0, vi i), (1, .ref 5 1 0 0), (2, .ref 2 1 0 0), (3, .ref 3 1 0 0), (4, .ref 6 1 0 0), (5, .ref 0 1 0 0), (6, .ref 1 1 0 0)],
        baseT p o m n (rowsT p o m n (n + 1)) ++ [G, .arr 1 1 3 [vi i], .arr 1 1 22 [nilV]]⟩ → RopsE Try.prog 65 ca35 (RopsE Try.prog 65 cb35 K) ⟨envOf 0 (vi i :: capsT), baseT p o m n (rowsT p o m n (n + 1)) ++ [G]⟩ := by
      intro K hK
      simp only [ca35, cb35, baseT, go_sem, List.replicate_succ, Nat.reducePow, Nat.reduceLeDiff, ↓reduceIte, reduceCtorEq, Nat.reduceLT, Nat.reduceEqDiff, Nat.reduceAdd, Nat.reduceSub, Nat.reduceMul, Int.reduceToNat]
      exact hK
    refine key _ ⟨36, _, rfl, rfl, fun F0 w0 G2 hG2 => ?_⟩
    have w2 : IntKind.i64.wrap ((m : Int) + 1) = ((m + 1 : Nat) : Int) := by rw [wrap_id (by omega) (by omega)]; omega
    have q1 : (0 : Int) ≤ ((m + 1 : Nat) : Int) := by omega
    have q2 : ((8 : Nat) : Int) * ((m + 1 : Nat) : Int) ≤ 281474976710656 := by omega
    have q3 : ((m + 1 : Nat) : Int) ≤ 9223372036854775807 := by omega
    have hG12 : G.innO 12 = true := hG 12 (by simp)
    have hG212 : G2.innO 12 = true := hG2 12 (by simp)
    -- the end: the row is put into its place, and both are data
    have fin : ∀ (R : List Int) (env : List (Nat × AV)), R = rowQ p o m i → lk env 8 = .ref 9 1 0 0 → retD Try.prog 36 [.ref 9 1 0 0, .ref 5 1 0 0, .ref 8 1 0 0] 10 G2 [.cell 8 false 1] (vints (rowQ p o m i)) (baseT p o m n (rowsT p o m n i) ++ [G])
        ⟨env, baseT p o m n (rowsT p o m n (i + 1)) ++ [G, .arr 1 1 3 [vi i], .arr 1 1 22 [.own 11 (m + 1) 0 (m + 1)], G2, .arr (m + 1) 1 3 (R.map vi)]⟩ := by
      rintro R env rfl h8
      have hni : (rowsT p o m n (i + 1))[i]? = some nilV := by rw [lstV_get hin]; simp
      refine ⟨rfl, .tup [], _, .own 11 (m + 1) 0 (m + 1), defer_s p o m n i (rowsT p o m n (i + 1)) ((rowQ p o m i).map vi) hin (lstV_len _ _) (rowsT_inn _ _ _ _ _ _) (by simp [List.all_map, AV.inn, AV.inn1]) hni G G2 hG12 hG212, ?_, ?_⟩
      · simp only [resAllE, List.mapM_cons, List.mapM_nil, resE, h8]
        rfl
      · have hl11 := hl i hin
        refine (WkE.freezeBoth 0 4 (n + 1) 1 i 0 11 (m + 1) 0 (m + 1) 1 22 3 ((rowsT p o m n (i + 1)).set i (.own 11 (m + 1) 0 (m + 1))) ((rowQ p o m i).map vi) (.own 11 (m + 1) 0 (m + 1)) (by omega) rfl rfl (by rw [List.getElem?_set_self (by rw [lstV_len]; omega)]) rfl rfl (by omega) (by simp [hl11]) (by simp [List.all_map, AV.isT, AV.isT1])).trans ?_
        have e : ((rowsT p o m n (i + 1)).set i (.own 11 (m + 1) 0 (m + 1))).set i (recell (.own 11 (m + 1) 0 (m + 1)) ((AV.own 11 (m + 1) 0 (m + 1)).cells.set 0 (.list 1 ((((rowQ p o m i).map vi).drop 0).take (m + 1))))) = rowsT p o m n i := by
          rw [List.set_set, List.drop_zero, List.take_of_length_le (by simp [hl11])]
          show (rowsT p o m n (i + 1)).set i (vints (rowQ p o m i)) = _
          unfold rowsT
          rw [lstV_set]
          refine lstV_congr fun q hq => ?_
          by_cases h1 : q = i
          · rw [if_pos h1, if_pos (by omega), h1]
          · rw [if_neg h1]
            by_cases h2 : i + 1 ≤ q
            · rw [if_pos h2, if_pos (by omega)]
            · rw [if_neg h2, if_neg (by omega)]
        rw [e]
        rw [List.drop_zero, List.take_of_length_le (by simp [hl11])]
        refine WkE.round ⟨rfl, trivial⟩ (by simp [AV.inn, AV.inn1]) ?_ rfl
        simp only [baseT, List.cons_append, List.nil_append, List.length_cons, List.length_nil, List.all_cons, List.all_nil, Bool.and_true, hG 8 (by simp)]
        simp only [AObj.innO, rowsT_inn]
        rfl
    unfold c35
    refine CwpE.cut (st := ⟨[(8, .ref 9 1 0 0), (7, .ref 8 1 0 0), (1, .ref 5 1 0 0), (3, .ref 3 1 0 0), (4, .ref 6 1 0 0), (5, .ref 0 1 0 0), (6, .ref 1 1 0 0)], baseT p o m n (rowsT p o m n (n + 1)) ++ [G, .arr 1 1 3 [vi i], .arr 1 1 22 [.own 11 (m + 1) 0 (m + 1)], G2, .arr (m + 1) 1 3 (lstV m fun _ => vi 0)]⟩) ?_ ?_
    · simp only [baseT, go_sem, Nat.reducePow, Nat.reduceLeDiff, ↓reduceIte, reduceCtorEq, Nat.reduceLT, Nat.reduceEqDiff, Nat.reduceAdd, Nat.reduceSub, Nat.reduceMul, Int.reduceToNat, w2, q1, q2, q3, lstV_rep, Int.le_refl]
      exact ⟨_, WkE.keep (by simp only [go_sem, List.replicate_succ, Nat.reducePow, Nat.reduceLeDiff, ↓reduceIte, reduceCtorEq, Nat.reduceLT, Nat.reduceEqDiff, Nat.reduceAdd, Nat.reduceSub, Nat.reduceMul, Int.reduceToNat]), rfl⟩
  · obtain rfl : i = n := by omega
    have er : (lstV m fun _ => vi 0) = (rowQ p o m i).map vi := by rw [← hpn, rowQ_last, List.map_replicate, lstV_rep]
    rw [er]
    refine CwpE.vc ?_
    simp only [baseT, go_sem, List.replicate_succ, Nat.reducePow, Nat.reduceLeDiff, ↓reduceIte, reduceCtorEq, Nat.reduceLT, Nat.reduceEqDiff, Nat.reduceAdd, Nat.reduceSub, Nat.reduceMul, Int.reduceToNat]
    exact fin _ _ rfl (by rfl)
  · have hip : i < p.length := by omega
    have hio : i < o.length := by omega
    have hne : ((i : Int) = (n : Int)) = False := eq_false (by omega)
    have g0 : (0 : Int) ≤ (i : Int) := by omega
    have g2 : (i : Int) < (p.length : Int) := by omega
    have g3 : (i : Int) < (o.length : Int) := by omega
    have g4 : (0 : Int) ≤ ((i + 1 : Nat) : Int) := by omega
    have g5 : ((i + 1 : Nat) : Int) < ((n + 1 : Nat) : Int) := by omega
    have w4 : IntKind.i64.wrap ((i : Int) + 1) = ((i + 1 : Nat) : Int) := by rw [wrap_id (by omega) (by omega)]; omega
    obtain ⟨hRl, hRb⟩ := hbd (n - (i + 1)) (i + 1) (by omega)
    have hst := fun c (hc : c < m + 1) => rowQ_get (p := p) (o := o) m (q := i) (c := c) hip hio (by rw [hRl]; exact hc)
    have hrow : rowsT p o m n (i + 1) = lstV n fun q => if i + 1 ≤ q then vints (rowQ p o m q) else nilV := rfl
    have hrg : (rowsT p o m n (i + 1))[i + 1]? = some (vints (rowQ p o m (i + 1))) := by rw [lstV_get (by omega)]; simp
    have hrl : (rowsT p o m n (i + 1)).length = n + 1 := lstV_len _ _
    have ih1 := ih (i + 1) (by omega)
    generalize hR : rowQ p o m (i + 1) = R at *
    obtain ⟨X, hX⟩ : ∃ X, rowQ p o m i = X := ⟨_, rfl⟩
    have hXl : X.length = m + 1 := by rw [← hX]; exact hl i hin
    rw [hX] at fin ⊢
    simp only [hX] at hst
    generalize hrs : rowsT p o m n (i + 1) = rows at *
    have get : ∀ c, 0 ≤ R.getD c 0 ∧ R.getD c 0 ≤ 48000000 := fun c => by
      rw [List.getD_eq_getElem?_getD]
      cases e : R[c]? with
      | none => simp
      | some y => have := hRb y (List.mem_of_getElem? e); simp; omega
    obtain ⟨D, hD⟩ : ∃ D : Nat → Nat → Int, D = fun c q => if q < c then X.getD q 0 else 0 := ⟨_, rfl⟩
    have hpb := hp _ (List.getElem_mem hip)
    have hob := ho _ (List.getElem_mem hio)
    refine CwpE.cut (st := ⟨[(8, .ref 9 1 0 0), (7, .ref 8 1 0 0), (1, .ref 5 1 0 0), (4, .ref 6 1 0 0), (5, .ref 0 1 0 0), (6, .ref 1 1 0 0)], baseT p o m n (rowsT p o m n (n + 1)) ++ [G, .arr 1 1 3 [vi i], .arr 1 1 22 [.own 11 (m + 1) 0 (m + 1)], G2, .arr (m + 1) 1 3 (lstV m fun _ => vi 0)]⟩) ?_ ?_
    · simp only [baseT, go_sem, List.replicate_succ, Nat.reducePow, Nat.reduceLeDiff, ↓reduceIte, reduceCtorEq, Nat.reduceLT, Nat.reduceEqDiff, Nat.reduceAdd, Nat.reduceSub, Nat.reduceMul, Int.reduceToNat, hne]
      exact ⟨_, WkE.keep (by simp only [go_sem, List.replicate_succ, Nat.reducePow, Nat.reduceLeDiff, ↓reduceIte, reduceCtorEq, Nat.reduceLT, Nat.reduceEqDiff, Nat.reduceAdd, Nat.reduceSub, Nat.reduceMul, Int.reduceToNat]), rfl⟩
    refine CwpE.cut (st := ⟨[(8, .ref 9 1 0 0)], baseT p o m n rows ++ [G, .arr 1 1 3 [vi i], .arr 1 1 22 [.own 11 (m + 1) 0 (m + 1)], G2, .arr (m + 1) 1 3 (X.map vi)]⟩) ?_ ?_
    rotate_left
    · refine CwpE.vc ?_
      simp only [baseT, go_sem, List.replicate_succ, Nat.reducePow, Nat.reduceLeDiff, ↓reduceIte, reduceCtorEq, Nat.reduceLT, Nat.reduceEqDiff, Nat.reduceAdd, Nat.reduceSub, Nat.reduceMul, Int.reduceToNat]
      exact fin _ _ rfl (by rfl)
    simp only [baseT, go_sem, List.replicate_succ, Nat.reducePow, Nat.reduceLeDiff, ↓reduceIte, reduceCtorEq, Nat.reduceLT, Nat.reduceEqDiff, Nat.reduceAdd, Nat.reduceSub, Nat.reduceMul, Int.reduceToNat, w4]
    refine callM (baseT p o m n (rowsT p o m n (n + 1))) [G, .arr 1 1 3 [vi i], .arr 1 1 22 [.own 11 (m + 1) 0 (m + 1)], G2, .arr (m + 1) 1 3 (lstV m fun _ => vi 0)] (baseT p o m n rows) ih1 rfl ?_ rfl ?_
    · simp only [baseT, List.length_cons, List.length_nil, List.all_cons, List.all_nil, Bool.and_true]
      simp only [AObj.innO, rowsT_inn]
      rfl
    simp only [baseT, go_sem, List.replicate_succ, Nat.reducePow, Nat.reduceLeDiff, ↓reduceIte, reduceCtorEq, Nat.reduceLT, Nat.reduceEqDiff, Nat.reduceAdd, Nat.reduceSub, Nat.reduceMul, Int.reduceToNat, hRl]
    refine loopXC 0 (fun m' s => ∃ c : Nat, m' = m + 1 - c ∧ c ≤ m + 1 ∧ s = ⟨[(8, .ref 9 1 0 0), (7, .ref 8 1 0 0), (1, .ref 5 1 0 0), (5, .ref 0 1 0 0), (6, .ref 1 1 0 0), (23, vints R), (24, vi (m + 1 : Nat)), (25, vi c)], baseT p o m n rows ++ [G, .arr 1 1 3 [vi i], .arr 1 1 22 [.own 11 (m + 1) 0 (m + 1)], G2, .arr (m + 1) 1 3 (lstV m fun q => vi (D c q))]⟩)
      (fun s => s = ⟨[(8, .ref 9 1 0 0)], baseT p o m n rows ++ [G, .arr 1 1 3 [vi i], .arr 1 1 22 [.own 11 (m + 1) 0 (m + 1)], G2, .arr (m + 1) 1 3 (X.map vi)]⟩) (m + 1)
      ⟨[(8, .ref 9 1 0 0), (7, .ref 8 1 0 0), (1, .ref 5 1 0 0), (5, .ref 0 1 0 0), (6, .ref 1 1 0 0), (23, vints R), (24, vi (m + 1 : Nat)), (25, vi (0 : Nat))], baseT p o m n rows ++ [G, .arr 1 1 3 [vi i], .arr 1 1 22 [.own 11 (m + 1) 0 (m + 1)], G2, .arr (m + 1) 1 3 (lstV m fun q => vi (D 0 q))]⟩ ?_ ⟨0, by omega, by omega, rfl⟩ ?_ ?_
    · have : (lstV m fun q => vi (D 0 q)) = lstV m fun _ => vi 0 := lstV_congr fun q _ => by rw [hD]; simp
      rw [this]
      exact WkE.keep (by simp only [go_sem, List.replicate_succ, Nat.reducePow, Nat.reduceLeDiff, ↓reduceIte, reduceCtorEq, Nat.reduceLT, Nat.reduceEqDiff, Nat.reduceAdd, Nat.reduceSub, Nat.reduceMul, Int.reduceToNat]; rfl)
    rotate_left
    · rintro s rfl
      simp only [go_sem, List.replicate_succ, Nat.reducePow, Nat.reduceLeDiff, ↓reduceIte, reduceCtorEq, Nat.reduceLT, Nat.reduceEqDiff, Nat.reduceAdd, Nat.reduceSub, Nat.reduceMul, Int.reduceToNat]
      exact ⟨_, .refl _ _, rfl⟩
    rintro m' s ⟨c, rfl, hc, rfl⟩
    refine CwpE.vc ?_
    by_cases hlt : c < m + 1
    rotate_left
    · obtain rfl : c = m + 1 := by omega
      have e : (lstV m fun q => vi (D (m + 1) q)) = X.map vi := by
        rw [lstV_ints hXl]
        exact lstV_congr fun q hq => by rw [hD]; dsimp only; rw [if_pos (by omega)]
      simp only [baseT, go_sem, List.replicate_succ, Nat.reducePow, Nat.reduceLeDiff, ↓reduceIte, reduceCtorEq, Nat.reduceLT, Nat.reduceEqDiff, Nat.reduceAdd, Nat.reduceSub, Nat.reduceMul, Int.reduceToNat, Int.lt_irrefl, e]
      exact ⟨_, WkE.keep (by simp only [go_sem, List.replicate_succ, Nat.reducePow, Nat.reduceLeDiff, ↓reduceIte, reduceCtorEq, Nat.reduceLT, Nat.reduceEqDiff, Nat.reduceAdd, Nat.reduceSub, Nat.reduceMul, Int.reduceToNat]), rfl⟩
    have c0 : (0 : Int) ≤ (c : Int) := by omega
    have c1 : (c : Int) < ((m + 1 : Nat) : Int) := by omega
    have hcR : c < R.length := by omega
    have hRc : R[c]? = some (R.getD c 0) := getD_get hcR
    have w5 : IntKind.i64.wrap ((c : Int) + 1) = ((c + 1 : Nat) : Int) := by rw [wrap_id (by omega) (by omega)]; omega
    have w6 : IntKind.i64.wrap ((c : Int) - p[i]) = (c : Int) - p[i] := wrap_id (by omega) (by omega)
    obtain ⟨E, hE⟩ : ∃ E : Nat → Int, E = fun q => if q = c then R.getD c 0 else D c q := ⟨_, rfl⟩
    have s1 : (lstV m fun q => vi (D c q)).set c (vi (R.getD c 0)) = lstV m fun q => vi (E q) := by
      rw [lstV_set]
      refine lstV_congr fun q hq => ?_
      rw [hE]; dsimp only
      split <;> rfl
    have hDg : (lstV m fun q => vi (D c q))[c]? = some (vi (D c c)) := lstV_get (by omega) _
    have hEg : (lstV m fun q => vi (E q))[c]? = some (vi (R.getD c 0)) := by rw [lstV_get (by omega), hE]; simp
    by_cases ha : p[i] ≤ c
    rotate_left
    · have ha' : ¬ (0 : Int) ≤ (c : Int) - p[i] := by omega
      have e : (lstV m fun q => vi (E q)) = lstV m fun q => vi (D (c + 1) q) := lstV_congr fun q hq => by
        rw [hE, hD]; dsimp only
        have h2 := hst c hlt
        rw [if_neg ha] at h2
        by_cases h1 : q = c
        · subst h1; rw [if_pos rfl, if_pos (by omega), h2]
        · rw [if_neg h1]
          by_cases h3 : q < c
          · rw [if_pos h3, if_pos (by omega)]
          · rw [if_neg h3, if_neg (by omega)]
      simp only [baseT, go_sem, List.replicate_succ, Nat.reducePow, Nat.reduceLeDiff, ↓reduceIte, reduceCtorEq, Nat.reduceLT, Nat.reduceEqDiff, Nat.reduceAdd, Nat.reduceSub, Nat.reduceMul, Int.reduceToNat, c0, c1, hRc, List.getElem?_map, hDg, s1, g0, g2, List.getElem?_eq_getElem hip, w5, w6, ha', e]
      exact ⟨m + 1 - (c + 1), ⟨[(8, .ref 9 1 0 0), (7, .ref 8 1 0 0), (1, .ref 5 1 0 0), (5, .ref 0 1 0 0), (6, .ref 1 1 0 0), (23, vints R), (24, vi (m + 1 : Nat)), (25, vi (c + 1 : Nat))], baseT p o m n rows ++ [G, .arr 1 1 3 [vi i], .arr 1 1 22 [.own 11 (m + 1) 0 (m + 1)], G2, .arr (m + 1) 1 3 (lstV m fun q => vi (D (c + 1) q))]⟩, by omega, WkE.keep (by simp only [go_sem, List.replicate_succ, Nat.reducePow, Nat.reduceLeDiff, ↓reduceIte, reduceCtorEq, Nat.reduceLT, Nat.reduceEqDiff, Nat.reduceAdd, Nat.reduceSub, Nat.reduceMul, Int.reduceToNat]), c + 1, rfl, by omega, rfl⟩
    have ha' : (0 : Int) ≤ (c : Int) - p[i] := by omega
    obtain ⟨e, he⟩ : ∃ e : Nat, c - p[i].toNat = e := ⟨_, rfl⟩
    have w6' : (c : Int) - p[i] = (e : Int) := by omega
    replace w6 : IntKind.i64.wrap ((c : Int) - p[i]) = (e : Int) := by rw [w6, w6']
    rw [w6'] at ha'
    have h2 := hst c hlt
    rw [if_pos ha, he] at h2
    have hRe : R[e]? = some (R.getD e 0) := getD_get (by omega)
    have b1 := get e
    have w7 : IntKind.i64.wrap (o[i] + R.getD e 0) = o[i] + R.getD e 0 := wrap_id (by omega) (by omega)
    have mx : (if R.getD c 0 < o[i] + R.getD e 0 then o[i] + R.getD e 0 else R.getD c 0) = X.getD c 0 := by rw [h2, Int.max_def]; split <;> split <;> omega
    have s2 : (lstV m fun q => vi (E q)).set c (vi (X.getD c 0)) = lstV m fun q => vi (D (c + 1) q) := by
      rw [lstV_set]
      refine lstV_congr fun q hq => ?_
      rw [hE, hD]; dsimp only
      by_cases h1 : q = c
      · subst h1; rw [if_pos rfl, if_pos (by omega)]
      · rw [if_neg h1, if_neg h1]
        by_cases h3 : q < c
        · rw [if_pos h3, if_pos (by omega)]
        · rw [if_neg h3, if_neg (by omega)]
    simp only [baseT, go_sem, List.replicate_succ, Nat.reducePow, Nat.reduceLeDiff, ↓reduceIte, reduceCtorEq, Nat.reduceLT, Nat.reduceEqDiff, Nat.reduceAdd, Nat.reduceSub, Nat.reduceMul, Int.reduceToNat, c0, c1, hRc, List.getElem?_map, hDg, s1, g0, g2, g3, g4, g5, hrg, hrl, hEg, hRe, List.getElem?_eq_getElem hip, List.getElem?_eq_getElem hio, w4, w5, w6, w7, ha', mx, s2]
    exact ⟨m + 1 - (c + 1), ⟨[(8, .ref 9 1 0 0), (7, .ref 8 1 0 0), (1, .ref 5 1 0 0), (5, .ref 0 1 0 0), (6, .ref 1 1 0 0), (23, vints R), (24, vi (m + 1 : Nat)), (25, vi (c + 1 : Nat))], baseT p o m n rows ++ [G, .arr 1 1 3 [vi i], .arr 1 1 22 [.own 11 (m + 1) 0 (m + 1)], G2, .arr (m + 1) 1 3 (lstV m fun q => vi (D (c + 1) q))]⟩, by omega, WkE.keep (by simp only [go_sem, List.replicate_succ, Nat.reducePow, Nat.reduceLeDiff, ↓reduceIte, reduceCtorEq, Nat.reduceLT, Nat.reduceEqDiff, Nat.reduceAdd, Nat.reduceSub, Nat.reduceMul, Int.reduceToNat]), c + 1, rfl, by omega, rfl⟩
end Go.Proofs.Ytphcaelkpgdbcaa
