/- The law AllowMore, by contract. -/
import Derived.Test.YtphcaelkpgdbcaaPs
set_option linter.unusedSimpArgs false
set_option linter.unusedVariables false
set_option linter.unusedSectionVars false
namespace Go.Proofs.Ytphcaelkpgdbcaa
open Go.RowKit Dak
theorem least_time {p o : List Int} {m : Nat} (h : OkQ p o m) : ∃ X A, Ctr Try.prog 11 [vints p, vints o, vi m] (.tup [certV (best p o m) X A, vi 0]) := by
  have hm := h.most
  have hl := h.len
  have cL := Least_s p o m (by omega) (by omega)
  rw [leastL_ok h, timeL_best] at cL
  exact ⟨_, _, cL⟩
theorem best_bd {p o : List Int} {lim : Int} (h : OkQ p o lim) (c : Nat) : 0 ≤ best p o c ∧ best p o c ≤ 48000000 := by
  refine ⟨best_nonneg p o c, ?_⟩
  obtain ⟨h1, h2⟩ := rowQ_bd h c p.length 0 (by omega)
  have h3 := rowQ_best p o c 0 c (Nat.le_refl _)
  rw [List.drop_zero, List.drop_zero] at h3
  have h4 := h2 _ (List.mem_of_getElem? (getD_get (show c < (rowQ p o c 0).length by omega)))
  have := h.most
  omega
set_option maxRecDepth 100000 in
set_option maxHeartbeats 8000000 in
theorem AllowMore_s (l m : List Int) (n limit more k q : Int) (hl : ∀ x ∈ l, I64 x) (hm : ∀ x ∈ m, I64 x) (h1 : I64 n) (h2 : I64 limit) (h3 : I64 more) (h4 : I64 k) (h5 : I64 q) :
    Ctr Try.prog 6 [vints l, vints m, vi n, vi limit, vi more, vi k, vi q] (vb true) := by
  refine specC f6 (by simp) fun F0 w0 => ?_
  have sQ := questions_s l m n hl hm h1
  have ca := aroundL_bd limit 40 (by omega)
  have sA := Around_s limit 40 h2 ⟨by omega, by omega⟩
  obtain ⟨c, hc⟩ : ∃ c : Nat, aroundL limit 40 = c := ⟨(aroundL limit 40).toNat, by omega⟩
  rw [hc] at sA ca
  have da := aroundL_bd more 40 (by omega)
  have sD := Around_s more 40 h3 ⟨by omega, by omega⟩
  obtain ⟨d, hd⟩ : ∃ d : Nat, aroundL more 40 = d := ⟨(aroundL more 40).toNat, by omega⟩
  rw [hd] at sD da
  have ka := aroundL_bd k 20 (by omega)
  have sK := Around_s k 20 h4 ⟨by omega, by omega⟩
  generalize aroundL k 20 = u at sK ka
  have xa := aroundL_bd q 12 (by omega)
  have sX := Around_s q 12 h5 ⟨by omega, by omega⟩
  generalize aroundL q 12 = x at sX xa
  have hq12 : I64 (q.tdiv 12) := by
    unfold I64 at h5 ⊢
    have h6 : q.tdiv 12 * 12 + q.tmod 12 = q := by rw [Int.mul_comm]; exact Int.mul_tdiv_add_tmod q 12
    have h7 := Int.tmod_lt_of_pos q (show (0 : Int) < 12 by omega)
    have h8 : -12 < q.tmod 12 := by
      rcases Int.le_total 0 q with h | h
      · have := Int.tmod_nonneg 12 h; omega
      · have h9 := Int.tmod_nonneg 12 (show 0 ≤ -q by omega)
        have h10 := Int.tmod_lt_of_pos (-q) (show (0 : Int) < 12 by omega)
        rw [Int.neg_tmod] at h9 h10; omega
    omega
  have ya := aroundL_bd (q.tdiv 12) 40 (by omega)
  have sY := Around_s (q.tdiv 12) 40 hq12 ⟨by omega, by omega⟩
  generalize aroundL (q.tdiv 12) 40 = y at sY ya
  have okc := okQ_gen l m n c (by omega)
  have okd := okQ_gen l m n d (by omega)
  have okb := okQ_gen l m n ((c + d : Nat) : Int) (by omega)
  have o40 := (stepsL_bd m (manyL n) 40 (by omega)).2
  have pl8 := (stepsL_bd l (manyL n) 12 (by omega)).1
  have n8 := manyL_bd n
  generalize stepsL l (manyL n) 12 = p at sQ okc okd okb pl8
  generalize stepsL m (manyL n) 40 = o at sQ okc okd okb o40
  have hlen := okc.len
  obtain ⟨Z, hZ⟩ : ∃ Z, o.map (fun v => u * v) = Z := ⟨_, rfl⟩
  have hZl : Z.length = o.length := by rw [← hZ]; simp
  have uv : ∀ v ∈ o, 0 ≤ u * v ∧ u * v ≤ 1000 := fun v hv => by
    have := o40 v hv
    refine ⟨Int.mul_nonneg ka.1 this.1, ?_⟩
    have h6 : u * v ≤ 19 * v := Int.mul_le_mul_of_nonneg_right (by omega) this.1
    omega
  have oks : OkQ p Z c := ⟨by omega, okc.most, okc.p, fun v hv => by
    rw [← hZ] at hv
    obtain ⟨v', hv', rfl⟩ := List.mem_map.1 hv
    have := uv v' hv'
    omega, okc.lim⟩
  have okf : OkQ (p ++ [x]) (o ++ [y]) c := ⟨by simp; omega, by simp; omega, fun v hv => by
    rcases List.mem_append.1 hv with h | h
    · exact okc.p v h
    · rw [List.mem_singleton.1 h]; omega, fun v hv => by
    rcases List.mem_append.1 hv with h | h
    · exact okc.o v h
    · rw [List.mem_singleton.1 h]; omega, okc.lim⟩
  obtain ⟨Xa, Aa, La⟩ := least_time okc
  obtain ⟨Xb, Ab, Lb⟩ := least_time okd
  obtain ⟨Xc, Ac, Lc⟩ := least_time okb
  obtain ⟨Xs, As, Ls⟩ := least_time oks
  obtain ⟨Xf, Af, Lf⟩ := least_time okf
  have r1 := best_mono p o c (c + d) (by omega)
  have r2 := best_mono p o d (c + d) (by omega)
  have r3 := best_scale u ka.1 p o c
  rw [hZ] at r3
  have r4 := best_further x y ya.1 p o c hlen
  have bd := best_bd okc c
  have bs := best_bd oks c
  generalize best p o c = ta at *
  generalize best p o d = tb at *
  generalize best p o (c + d) = tc at *
  generalize best p Z c = ts at *
  generalize best (p ++ [x]) (o ++ [y]) c = tf at *
  unfold c6
  refine CwpE.cut (st := ⟨[(0, vints l), (1, vints m), (2, vi n), (3, vi limit), (4, vi more), (5, vi k), (6, vi q)], []⟩) ?_ ?_
  · simp only [go_sem, List.replicate_succ, Nat.reducePow, Nat.reduceLeDiff, ↓reduceIte, reduceCtorEq, Nat.reduceLT, Nat.reduceEqDiff, Nat.reduceAdd, Nat.reduceSub, Nat.reduceMul, Int.reduceToNat]
    exact ⟨_, WkE.keep (by simp only [go_sem, List.replicate_succ, Nat.reducePow, Nat.reduceLeDiff, ↓reduceIte, reduceCtorEq, Nat.reduceLT, Nat.reduceEqDiff, Nat.reduceAdd, Nat.reduceSub, Nat.reduceMul, Int.reduceToNat]), rfl⟩
  refine CwpE.cut (st := ⟨[(3, vi limit), (4, vi more), (5, vi k), (6, vi q), (15, vints p), (16, vints o)], []⟩) ?_ ?_
  · simp only [go_sem, List.replicate_succ, Nat.reducePow, Nat.reduceLeDiff, ↓reduceIte, reduceCtorEq, Nat.reduceLT, Nat.reduceEqDiff, Nat.reduceAdd, Nat.reduceSub, Nat.reduceMul, Int.reduceToNat]
    refine callT sQ rfl ?_
    simp only [go_sem, List.replicate_succ, Nat.reducePow, Nat.reduceLeDiff, ↓reduceIte, reduceCtorEq, Nat.reduceLT, Nat.reduceEqDiff, Nat.reduceAdd, Nat.reduceSub, Nat.reduceMul, Int.reduceToNat]
    exact ⟨_, WkE.keep (by simp only [go_sem, List.replicate_succ, Nat.reducePow, Nat.reduceLeDiff, ↓reduceIte, reduceCtorEq, Nat.reduceLT, Nat.reduceEqDiff, Nat.reduceAdd, Nat.reduceSub, Nat.reduceMul, Int.reduceToNat]), rfl⟩
  refine CwpE.cut (st := ⟨[(4, vi more), (5, vi k), (6, vi q), (15, vints p), (16, vints o), (17, vi c)], []⟩) ?_ ?_
  · simp only [go_sem, List.replicate_succ, Nat.reducePow, Nat.reduceLeDiff, ↓reduceIte, reduceCtorEq, Nat.reduceLT, Nat.reduceEqDiff, Nat.reduceAdd, Nat.reduceSub, Nat.reduceMul, Int.reduceToNat]
    refine callT sA rfl ?_
    simp only [go_sem, List.replicate_succ, Nat.reducePow, Nat.reduceLeDiff, ↓reduceIte, reduceCtorEq, Nat.reduceLT, Nat.reduceEqDiff, Nat.reduceAdd, Nat.reduceSub, Nat.reduceMul, Int.reduceToNat]
    exact ⟨_, WkE.keep (by simp only [go_sem, List.replicate_succ, Nat.reducePow, Nat.reduceLeDiff, ↓reduceIte, reduceCtorEq, Nat.reduceLT, Nat.reduceEqDiff, Nat.reduceAdd, Nat.reduceSub, Nat.reduceMul, Int.reduceToNat]), rfl⟩
  refine CwpE.cut (st := ⟨[(5, vi k), (6, vi q), (15, vints p), (16, vints o), (17, vi c), (18, vi d)], []⟩) ?_ ?_
  · simp only [go_sem, List.replicate_succ, Nat.reducePow, Nat.reduceLeDiff, ↓reduceIte, reduceCtorEq, Nat.reduceLT, Nat.reduceEqDiff, Nat.reduceAdd, Nat.reduceSub, Nat.reduceMul, Int.reduceToNat]
    refine callT sD rfl ?_
    simp only [go_sem, List.replicate_succ, Nat.reducePow, Nat.reduceLeDiff, ↓reduceIte, reduceCtorEq, Nat.reduceLT, Nat.reduceEqDiff, Nat.reduceAdd, Nat.reduceSub, Nat.reduceMul, Int.reduceToNat]
    exact ⟨_, WkE.keep (by simp only [go_sem, List.replicate_succ, Nat.reducePow, Nat.reduceLeDiff, ↓reduceIte, reduceCtorEq, Nat.reduceLT, Nat.reduceEqDiff, Nat.reduceAdd, Nat.reduceSub, Nat.reduceMul, Int.reduceToNat]), rfl⟩
  refine CwpE.cut (st := ⟨[(5, vi k), (6, vi q), (15, vints p), (16, vints o), (17, vi c), (18, vi d), (19, .ref 0 1 0 0), (20, vi 0)], [.arr 1 3 30 [certV ta Xa Aa]]⟩) ?_ ?_
  · simp only [go_sem, List.replicate_succ, Nat.reducePow, Nat.reduceLeDiff, ↓reduceIte, reduceCtorEq, Nat.reduceLT, Nat.reduceEqDiff, Nat.reduceAdd, Nat.reduceSub, Nat.reduceMul, Int.reduceToNat]
    refine callT La rfl ?_
    simp only [go_sem, List.replicate_succ, Nat.reducePow, Nat.reduceLeDiff, ↓reduceIte, reduceCtorEq, Nat.reduceLT, Nat.reduceEqDiff, Nat.reduceAdd, Nat.reduceSub, Nat.reduceMul, Int.reduceToNat, List.drop_succ_cons]
    exact ⟨_, WkE.keep (by simp only [go_sem, List.replicate_succ, Nat.reducePow, Nat.reduceLeDiff, ↓reduceIte, reduceCtorEq, Nat.reduceLT, Nat.reduceEqDiff, Nat.reduceAdd, Nat.reduceSub, Nat.reduceMul, Int.reduceToNat]), rfl⟩
  refine CwpE.cut (st := ⟨[(5, vi k), (6, vi q), (15, vints p), (16, vints o), (17, vi c), (18, vi d), (19, .ref 0 1 0 0), (20, vi 0), (21, .ref 1 1 0 0), (22, vi 0)], [.arr 1 3 30 [certV ta Xa Aa], .arr 1 3 30 [certV tb Xb Ab]]⟩) ?_ ?_
  · simp only [go_sem, List.replicate_succ, Nat.reducePow, Nat.reduceLeDiff, ↓reduceIte, reduceCtorEq, Nat.reduceLT, Nat.reduceEqDiff, Nat.reduceAdd, Nat.reduceSub, Nat.reduceMul, Int.reduceToNat]
    refine callT Lb rfl ?_
    simp only [go_sem, List.replicate_succ, Nat.reducePow, Nat.reduceLeDiff, ↓reduceIte, reduceCtorEq, Nat.reduceLT, Nat.reduceEqDiff, Nat.reduceAdd, Nat.reduceSub, Nat.reduceMul, Int.reduceToNat, List.drop_succ_cons]
    exact ⟨_, WkE.keep (by simp only [go_sem, List.replicate_succ, Nat.reducePow, Nat.reduceLeDiff, ↓reduceIte, reduceCtorEq, Nat.reduceLT, Nat.reduceEqDiff, Nat.reduceAdd, Nat.reduceSub, Nat.reduceMul, Int.reduceToNat]), rfl⟩
  have wcd : IntKind.i64.wrap ((c : Int) + (d : Int)) = ((c + d : Nat) : Int) := by rw [wrap_id (by omega) (by omega)]; omega
  refine CwpE.cut (st := ⟨[(5, vi k), (6, vi q), (15, vints p), (16, vints o), (17, vi c), (19, .ref 0 1 0 0), (20, vi 0), (21, .ref 1 1 0 0), (22, vi 0), (23, .ref 2 1 0 0), (24, vi 0)], [.arr 1 3 30 [certV ta Xa Aa], .arr 1 3 30 [certV tb Xb Ab], .arr 1 3 30 [certV tc Xc Ac]]⟩) ?_ ?_
  · simp only [go_sem, List.replicate_succ, Nat.reducePow, Nat.reduceLeDiff, ↓reduceIte, reduceCtorEq, Nat.reduceLT, Nat.reduceEqDiff, Nat.reduceAdd, Nat.reduceSub, Nat.reduceMul, Int.reduceToNat, wcd]
    refine callT Lc rfl ?_
    simp only [go_sem, List.replicate_succ, Nat.reducePow, Nat.reduceLeDiff, ↓reduceIte, reduceCtorEq, Nat.reduceLT, Nat.reduceEqDiff, Nat.reduceAdd, Nat.reduceSub, Nat.reduceMul, Int.reduceToNat, List.drop_succ_cons]
    exact ⟨_, WkE.keep (by simp only [go_sem, List.replicate_succ, Nat.reducePow, Nat.reduceLeDiff, ↓reduceIte, reduceCtorEq, Nat.reduceLT, Nat.reduceEqDiff, Nat.reduceAdd, Nat.reduceSub, Nat.reduceMul, Int.reduceToNat]), rfl⟩
  refine CwpE.cut (st := ⟨[(5, vi k), (6, vi q), (15, vints p), (16, vints o), (17, vi c), (19, .ref 0 1 0 0), (20, vi 0), (21, .ref 1 1 0 0), (22, vi 0), (23, .ref 2 1 0 0), (24, vi 0), (25, nilV)], [.arr 1 3 30 [certV ta Xa Aa], .arr 1 3 30 [certV tb Xb Ab], .arr 1 3 30 [certV tc Xc Ac]]⟩) ?_ ?_
  · simp only [go_sem, List.replicate_succ, Nat.reducePow, Nat.reduceLeDiff, ↓reduceIte, reduceCtorEq, Nat.reduceLT, Nat.reduceEqDiff, Nat.reduceAdd, Nat.reduceSub, Nat.reduceMul, Int.reduceToNat]
    exact ⟨_, WkE.keep (by simp only [go_sem, List.replicate_succ, Nat.reducePow, Nat.reduceLeDiff, ↓reduceIte, reduceCtorEq, Nat.reduceLT, Nat.reduceEqDiff, Nat.reduceAdd, Nat.reduceSub, Nat.reduceMul, Int.reduceToNat]), rfl⟩
  refine CwpE.cut (st := ⟨[(6, vi q), (15, vints p), (16, vints o), (17, vi c), (19, .ref 0 1 0 0), (20, vi 0), (21, .ref 1 1 0 0), (22, vi 0), (23, .ref 2 1 0 0), (24, vi 0), (25, nilV), (26, vi u)], [.arr 1 3 30 [certV ta Xa Aa], .arr 1 3 30 [certV tb Xb Ab], .arr 1 3 30 [certV tc Xc Ac]]⟩) ?_ ?_
  · simp only [go_sem, List.replicate_succ, Nat.reducePow, Nat.reduceLeDiff, ↓reduceIte, reduceCtorEq, Nat.reduceLT, Nat.reduceEqDiff, Nat.reduceAdd, Nat.reduceSub, Nat.reduceMul, Int.reduceToNat]
    refine callT sK rfl ?_
    simp only [go_sem, List.replicate_succ, Nat.reducePow, Nat.reduceLeDiff, ↓reduceIte, reduceCtorEq, Nat.reduceLT, Nat.reduceEqDiff, Nat.reduceAdd, Nat.reduceSub, Nat.reduceMul, Int.reduceToNat]
    exact ⟨_, WkE.keep (by simp only [go_sem, List.replicate_succ, Nat.reducePow, Nat.reduceLeDiff, ↓reduceIte, reduceCtorEq, Nat.reduceLT, Nat.reduceEqDiff, Nat.reduceAdd, Nat.reduceSub, Nat.reduceMul, Int.reduceToNat]), rfl⟩
  obtain ⟨Gf, hGf⟩ : ∃ Gf : Nat → List Int, Gf = fun i => Z.take i := ⟨_, rfl⟩
  have hGl : ∀ i, i ≤ o.length → (Gf i).length = i := fun i hi => by rw [hGf]; simp; omega
  have hGs : ∀ i (h : i < o.length), Gf (i + 1) = Gf i ++ [u * o[i]] := fun i h => by
    rw [hGf]
    show Z.take (i + 1) = Z.take i ++ [u * o[i]]
    rw [List.take_succ_eq_append_getElem (by omega)]
    congr 2
    simp only [← hZ, List.getElem_map]
  have hGe : Gf o.length = Z := by rw [hGf]; exact List.take_of_length_le (by omega)
  have hG0 : Gf 0 = [] := by rw [hGf]; rfl
  refine CwpE.cut (st := ⟨[(6, vi q), (15, vints p), (16, vints o), (17, vi c), (19, .ref 0 1 0 0), (20, vi 0), (21, .ref 1 1 0 0), (22, vi 0), (23, .ref 2 1 0 0), (24, vi 0), (25, vints Z), (26, vi u)], [.arr 1 3 30 [certV ta Xa Aa], .arr 1 3 30 [certV tb Xb Ab], .arr 1 3 30 [certV tc Xc Ac]]⟩) ?_ ?_
  · simp only [go_sem, List.replicate_succ, Nat.reducePow, Nat.reduceLeDiff, ↓reduceIte, reduceCtorEq, Nat.reduceLT, Nat.reduceEqDiff, Nat.reduceAdd, Nat.reduceSub, Nat.reduceMul, Int.reduceToNat]
    refine loopXC 0 (fun m' s => ∃ i : Nat, m' = o.length - i ∧ i ≤ o.length ∧
        s = ⟨[(6, vi q), (15, vints p), (16, vints o), (17, vi c), (19, .ref 0 1 0 0), (20, vi 0), (21, .ref 1 1 0 0), (22, vi 0), (23, .ref 2 1 0 0), (24, vi 0), (25, ownV 3 i), (26, vi u), (27, vi i)], [.arr 1 3 30 [certV ta Xa Aa], .arr 1 3 30 [certV tb Xb Ab], .arr 1 3 30 [certV tc Xc Ac], .arr i 1 3 ((Gf i).map vi)]⟩)
      (fun s => s = ⟨[(6, vi q), (15, vints p), (16, vints o), (17, vi c), (19, .ref 0 1 0 0), (20, vi 0), (21, .ref 1 1 0 0), (22, vi 0), (23, .ref 2 1 0 0), (24, vi 0), (25, vints Z), (26, vi u)], [.arr 1 3 30 [certV ta Xa Aa], .arr 1 3 30 [certV tb Xb Ab], .arr 1 3 30 [certV tc Xc Ac]]⟩) o.length
      ⟨[(6, vi q), (15, vints p), (16, vints o), (17, vi c), (19, .ref 0 1 0 0), (20, vi 0), (21, .ref 1 1 0 0), (22, vi 0), (23, .ref 2 1 0 0), (24, vi 0), (25, ownV 3 0), (26, vi u), (27, vi (0 : Nat))], [.arr 1 3 30 [certV ta Xa Aa], .arr 1 3 30 [certV tb Xb Ab], .arr 1 3 30 [certV tc Xc Ac], .arr 0 1 3 []]⟩ ((WkE.nil 25 1 3 (by omega) rfl).trans (WkE.keep (by simp only [go_sem, List.replicate_succ, Nat.reducePow, Nat.reduceLeDiff, ↓reduceIte, reduceCtorEq, Nat.reduceLT, Nat.reduceEqDiff, Nat.reduceAdd, Nat.reduceSub, Nat.reduceMul, Int.reduceToNat]; rfl))) ⟨0, by omega, by omega, by rw [hG0]; rfl⟩ ?_ ?_
    rotate_left
    · rintro s rfl
      simp only [go_sem, List.replicate_succ, Nat.reducePow, Nat.reduceLeDiff, ↓reduceIte, reduceCtorEq, Nat.reduceLT, Nat.reduceEqDiff, Nat.reduceAdd, Nat.reduceSub, Nat.reduceMul, Int.reduceToNat]
      exact ⟨_, .refl _ _, rfl⟩
    rintro m' s ⟨i, rfl, hi, rfl⟩
    refine CwpE.vc ?_
    by_cases hlt : i < o.length
    rotate_left
    · obtain rfl : i = o.length := by omega
      rw [hGe]
      simp only [go_sem, List.replicate_succ, Nat.reducePow, Nat.reduceLeDiff, ↓reduceIte, reduceCtorEq, Nat.reduceLT, Nat.reduceEqDiff, Nat.reduceAdd, Nat.reduceSub, Nat.reduceMul, Int.reduceToNat, Int.lt_irrefl]
      refine ⟨_, (WkE.keep (env' := [(6, vi q), (15, vints p), (16, vints o), (17, vi c), (19, .ref 0 1 0 0), (20, vi 0), (21, .ref 1 1 0 0), (22, vi 0), (23, .ref 2 1 0 0), (24, vi 0), (25, ownV 3 o.length), (26, vi u)]) (by simp only [go_sem, List.replicate_succ, Nat.reducePow, Nat.reduceLeDiff, ↓reduceIte, reduceCtorEq, Nat.reduceLT, Nat.reduceEqDiff, Nat.reduceAdd, Nat.reduceSub, Nat.reduceMul, Int.reduceToNat])).trans ((WkE.freeze 25 3 o.length 0 o.length 1 3 (Z.map vi) (by omega) rfl rfl (by simp [hZl]) (by simp [List.all_map, AV.isT, AV.isT1])).trans (WkE.round ?_ (by simp [AV.inn, AV.inn1]) (by simp [AObj.innO, AV.inn, AV.inn1]) (by simp))), rfl⟩
      simp only [go_sem, List.replicate_succ, Nat.reducePow, Nat.reduceLeDiff, ↓reduceIte, reduceCtorEq, Nat.reduceLT, Nat.reduceEqDiff, Nat.reduceAdd, Nat.reduceSub, Nat.reduceMul, Int.reduceToNat]
      exact congrArg (AV.list 1) (List.take_of_length_le (by simp [hZl]))
    have g0 : (0 : Int) ≤ (i : Int) := by omega
    have g1 : (i : Int) < (o.length : Int) := by omega
    have w1 : IntKind.i64.wrap ((i : Int) + 1) = ((i + 1 : Nat) : Int) := by rw [wrap_id (by omega) (by omega)]; omega
    have hv := uv _ (List.getElem_mem hlt)
    have w2 : IntKind.i64.wrap (u * o[i]) = u * o[i] := wrap_id (by omega) (by omega)
    have hb : (i + 1) * 8 ≤ 140737488355328 := by omega
    have hgl := hGl i hi
    have htk : List.take i ((Gf i).map vi) = (Gf i).map vi := List.take_of_length_le (by simp [hgl])
    simp only [go_sem, List.replicate_succ, Nat.reducePow, Nat.reduceLeDiff, ↓reduceIte, reduceCtorEq, Nat.reduceLT, Nat.reduceEqDiff, Nat.reduceAdd, Nat.reduceSub, Nat.reduceMul, Int.reduceToNat, g1, g0, List.getElem?_map, List.getElem?_eq_getElem hlt, w1, w2, hb, hgl, htk]
    refine ⟨o.length - (i + 1), ⟨[(6, vi q), (15, vints p), (16, vints o), (17, vi c), (19, .ref 0 1 0 0), (20, vi 0), (21, .ref 1 1 0 0), (22, vi 0), (23, .ref 2 1 0 0), (24, vi 0), (25, ownV 3 (i + 1)), (26, vi u), (27, vi (i + 1 : Nat))], [.arr 1 3 30 [certV ta Xa Aa], .arr 1 3 30 [certV tb Xb Ab], .arr 1 3 30 [certV tc Xc Ac], .arr (i + 1) 1 3 ((Gf (i + 1)).map vi)]⟩, by omega, ?_, i + 1, rfl, by omega, rfl⟩
    rw [hGs i hlt, List.map_append]
    exact WkE.keep (by simp only [go_sem, List.replicate_succ, Nat.reducePow, Nat.reduceLeDiff, ↓reduceIte, reduceCtorEq, Nat.reduceLT, Nat.reduceEqDiff, Nat.reduceAdd, Nat.reduceSub, Nat.reduceMul, Int.reduceToNat])
  refine CwpE.cut (st := ⟨[(6, vi q), (15, vints p), (16, vints o), (17, vi c), (19, .ref 0 1 0 0), (20, vi 0), (21, .ref 1 1 0 0), (22, vi 0), (23, .ref 2 1 0 0), (24, vi 0), (26, vi u), (28, .ref 3 1 0 0), (29, vi 0)], [.arr 1 3 30 [certV ta Xa Aa], .arr 1 3 30 [certV tb Xb Ab], .arr 1 3 30 [certV tc Xc Ac], .arr 1 3 30 [certV ts Xs As]]⟩) ?_ ?_
  · simp only [go_sem, List.replicate_succ, Nat.reducePow, Nat.reduceLeDiff, ↓reduceIte, reduceCtorEq, Nat.reduceLT, Nat.reduceEqDiff, Nat.reduceAdd, Nat.reduceSub, Nat.reduceMul, Int.reduceToNat]
    refine callT Ls rfl ?_
    simp only [go_sem, List.replicate_succ, Nat.reducePow, Nat.reduceLeDiff, ↓reduceIte, reduceCtorEq, Nat.reduceLT, Nat.reduceEqDiff, Nat.reduceAdd, Nat.reduceSub, Nat.reduceMul, Int.reduceToNat, List.drop_succ_cons]
    exact ⟨_, WkE.keep (by simp only [go_sem, List.replicate_succ, Nat.reducePow, Nat.reduceLeDiff, ↓reduceIte, reduceCtorEq, Nat.reduceLT, Nat.reduceEqDiff, Nat.reduceAdd, Nat.reduceSub, Nat.reduceMul, Int.reduceToNat]), rfl⟩
  have hpb : p.length * 8 ≤ 140737488355328 := by omega
  have hpb1 : (p.length + 1) * 8 ≤ 140737488355328 := by omega
  have hob : o.length * 8 ≤ 140737488355328 := by omega
  have hob1 : (o.length + 1) * 8 ≤ 140737488355328 := by omega
  have z12 : ¬ (12 : Int) = 0 := by omega
  have wq : IntKind.i64.wrap (q.tdiv 12) = q.tdiv 12 := wrap_id hq12.1 hq12.2
  refine CwpE.seqJ (fun s => s = ⟨[(19, .ref 0 1 0 0), (20, vi 0), (21, .ref 1 1 0 0), (22, vi 0), (23, .ref 2 1 0 0), (24, vi 0), (26, vi u), (28, .ref 3 1 0 0), (29, vi 0), (30, .ref 4 1 0 0), (31, vi 0)], [.arr 1 3 30 [certV ta Xa Aa], .arr 1 3 30 [certV tb Xb Ab], .arr 1 3 30 [certV tc Xc Ac], .arr 1 3 30 [certV ts Xs As], .arr 1 3 30 [certV tf Xf Af]]⟩) (CwpE.regionW 15 ?_) ?_
  · simp only [go_sem, List.replicate_succ, Nat.reducePow, Nat.reduceLeDiff, ↓reduceIte, reduceCtorEq, Nat.reduceLT, Nat.reduceEqDiff, Nat.reduceAdd, Nat.reduceSub, Nat.reduceMul, Int.reduceToNat, hpb, hpb1, hob, hob1, z12, wq]
    refine callT sX rfl ?_
    simp only [go_sem, List.replicate_succ, Nat.reducePow, Nat.reduceLeDiff, ↓reduceIte, reduceCtorEq, Nat.reduceLT, Nat.reduceEqDiff, Nat.reduceAdd, Nat.reduceSub, Nat.reduceMul, Int.reduceToNat, hpb, hpb1, hob, hob1, z12, wq]
    refine callT sY rfl ?_
    simp only [go_sem, List.replicate_succ, Nat.reducePow, Nat.reduceLeDiff, ↓reduceIte, reduceCtorEq, Nat.reduceLT, Nat.reduceEqDiff, Nat.reduceAdd, Nat.reduceSub, Nat.reduceMul, Int.reduceToNat, hpb, hpb1, hob, hob1, z12, wq]
    have ep : ((p ++ [x]).map vi) = p.map vi ++ [vi x] := by simp
    have eo : ((o ++ [y]).map vi) = o.map vi ++ [vi y] := by simp
    rw [← ep, ← eo]
    refine ⟨⟨[(17, vi c), (19, .ref 0 1 0 0), (20, vi 0), (21, .ref 1 1 0 0), (22, vi 0), (23, .ref 2 1 0 0), (24, vi 0), (26, vi u), (28, .ref 3 1 0 0), (29, vi 0), (97, vints (p ++ [x])), (105, vints (o ++ [y]))], [.arr 1 3 30 [certV ta Xa Aa], .arr 1 3 30 [certV tb Xb Ab], .arr 1 3 30 [certV tc Xc Ac], .arr 1 3 30 [certV ts Xs As]]⟩, ?_, ?_⟩
    · refine (WkE.keep (env' := [(17, vi c), (19, .ref 0 1 0 0), (20, vi 0), (21, .ref 1 1 0 0), (22, vi 0), (23, .ref 2 1 0 0), (24, vi 0), (26, vi u), (28, .ref 3 1 0 0), (29, vi 0), (97, .own 4 (p.length + 1) 0 (p.length + 1)), (105, .own 5 (o.length + 1) 0 (o.length + 1))]) (by simp only [go_sem, List.replicate_succ, Nat.reducePow, Nat.reduceLeDiff, ↓reduceIte, reduceCtorEq, Nat.reduceLT, Nat.reduceEqDiff, Nat.reduceAdd, Nat.reduceSub, Nat.reduceMul, Int.reduceToNat])).trans ((WkE.freeze 97 4 (p.length + 1) 0 (p.length + 1) 1 3 ((p ++ [x]).map vi) (by omega) rfl rfl (by simp) (by simp [List.all_map, AV.isT, AV.isT1])).trans ((WkE.freeze 105 5 (o.length + 1) 0 (o.length + 1) 1 3 ((o ++ [y]).map vi) (by omega) rfl rfl (by simp) (by simp [List.all_map, AV.isT, AV.isT1])).trans (WkE.round ?_ (by simp [AV.inn, AV.inn1]) (by simp [AObj.innO, AV.inn, AV.inn1]) (by simp))))
      refine ⟨rfl, rfl, rfl, rfl, rfl, rfl, rfl, rfl, rfl, rfl, ?_, ?_, trivial⟩
      · exact congrArg (AV.list 1) (List.take_of_length_le (by simp))
      · exact congrArg (AV.list 1) (List.take_of_length_le (by simp))
    simp only [go_sem, List.replicate_succ, Nat.reducePow, Nat.reduceLeDiff, ↓reduceIte, reduceCtorEq, Nat.reduceLT, Nat.reduceEqDiff, Nat.reduceAdd, Nat.reduceSub, Nat.reduceMul, Int.reduceToNat]
    refine callT Lf rfl ?_
    simp only [go_sem, List.replicate_succ, Nat.reducePow, Nat.reduceLeDiff, ↓reduceIte, reduceCtorEq, Nat.reduceLT, Nat.reduceEqDiff, Nat.reduceAdd, Nat.reduceSub, Nat.reduceMul, Int.reduceToNat, List.drop_succ_cons]
    exact ⟨_, WkE.keep (by simp only [go_sem, List.replicate_succ, Nat.reducePow, Nat.reduceLeDiff, ↓reduceIte, reduceCtorEq, Nat.reduceLT, Nat.reduceEqDiff, Nat.reduceAdd, Nat.reduceSub, Nat.reduceMul, Int.reduceToNat]), rfl⟩
  rintro s rfl
  have wm : IntKind.i64.wrap (u * ta) = u * ta := wrap_id (by omega) (by omega)
  have es : (ts = u * ta) = True := eq_true r3
  refine CwpE.vc ?_
  simp only [go_sem, List.replicate_succ, Nat.reducePow, Nat.reduceLeDiff, ↓reduceIte, reduceCtorEq, Nat.reduceLT, Nat.reduceEqDiff, Nat.reduceAdd, Nat.reduceSub, Nat.reduceMul, Int.reduceToNat, List.drop_succ_cons, r1, r2, r4, wm, es]
  refine callT lives_s rfl ?_
  simp only [go_sem, List.replicate_succ, Nat.reducePow, Nat.reduceLeDiff, ↓reduceIte, reduceCtorEq, Nat.reduceLT, Nat.reduceEqDiff, Nat.reduceAdd, Nat.reduceSub, Nat.reduceMul, Int.reduceToNat]
  exact .tree _ rfl
end Go.Proofs.Ytphcaelkpgdbcaa
