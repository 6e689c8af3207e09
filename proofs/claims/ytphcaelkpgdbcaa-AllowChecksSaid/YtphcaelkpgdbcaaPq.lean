/- The law AllowFinds, by contract. -/
import Derived.Test.YtphcaelkpgdbcaaPp
set_option linter.unusedSimpArgs false
set_option linter.unusedVariables false
set_option linter.unusedSectionVars false
namespace Go.Proofs.Ytphcaelkpgdbcaa
open Go.RowKit Dak
theorem leastL_bd (p o : List Int) (lim : Int) : (leastL p o lim).2.1.length ≤ 48 ∧ (leastL p o lim).2.2.1.length ≤ 49 ∧ ∀ x ∈ (leastL p o lim).2.2.1, x.length ≤ 2049 := by
  unfold leastL
  split
  · rename_i hv
    have hq := validL_ok.1 hv
    have h1 := setA_len p o lim.toNat 0 lim.toNat
    have h2 := hq.most
    have h3 := hq.lim
    refine ⟨by show (setA p o lim.toNat 0 lim.toNat).length ≤ 48; omega, ?_, ?_⟩
    · show (tabA p o lim.toNat).length ≤ 49
      rw [tabA_rows hq.len]; simp; omega
    · show ∀ x ∈ tabA p o lim.toNat, x.length ≤ 2049
      rw [tabA_rows hq.len]
      intro x hx
      obtain ⟨q, hq', rfl⟩ := List.mem_map.1 hx
      have := (rowQ_bd hq lim.toNat (p.length - q) q (by simp at hq'; omega)).1
      omega
  · simp
theorem stepsL_I64 (l : List Int) (n : Nat) (most : Int) (h : 1 ≤ most) : (stepsL l n most).length = n := (stepsL_bd l n most h).1
set_option maxRecDepth 100000 in
set_option maxHeartbeats 8000000 in
theorem AllowFinds_s (l m : List Int) (n limit at_ by_ : Int) (hl : ∀ x ∈ l, I64 x) (hm : ∀ x ∈ m, I64 x) (h1 : I64 n) (h2 : I64 limit) (h3 : I64 at_) (h4 : I64 by_) :
    Ctr Try.prog 3 [vints l, vints m, vi n, vi limit, vi at_, vi by_] (vb true) := by
  refine specC f3 (by simp) fun F0 w0 => ?_
  have sQ := questions_s l m n hl hm h1
  have pl : (stepsL l (manyL n) 12).length ≤ 1000 := by
    rw [stepsL_I64 _ _ _ (by omega)]
    have := aroundL_bd n 9 (by omega); unfold manyL; omega
  have ol : (stepsL m (manyL n) 40).length ≤ 1000 := by
    rw [stepsL_I64 _ _ _ (by omega)]
    have := aroundL_bd n 9 (by omega); unfold manyL; omega
  generalize stepsL l (manyL n) 12 = p at sQ pl
  generalize stepsL m (manyL n) 40 = o at sQ ol
  have oddl : ∀ (x : List Int) (a b : Int), x.length ≤ 1000 → (oddL x a b).length ≤ 1000000 := fun x a b hx => by unfold oddL; split <;> simp <;> omega
  have t1 := odd_s p at_ by_ (by omega) h3 h4
  have t2 := odd_s o at_ by_ (by omega) h3 h4
  have t3 := odd_s o by_ at_ (by omega) h4 h3
  have t1l := oddl p at_ by_ pl
  have t2l := oddl o at_ by_ ol
  have t3l := oddl o by_ at_ ol
  generalize oddL p at_ by_ = p1 at t1 t1l
  generalize oddL o at_ by_ = o1 at t2 t2l
  generalize oddL o by_ at_ = o2 at t3 t3l
  unfold c3
  refine CwpE.cut (st := ⟨[(0, vints l), (1, vints m), (2, vi n), (3, vi limit), (4, vi at_), (5, vi by_)], []⟩) ?_ ?_
  · simp only [go_sem, List.replicate_succ, Nat.reducePow, Nat.reduceLeDiff, ↓reduceIte, reduceCtorEq, Nat.reduceLT, Nat.reduceEqDiff, Nat.reduceAdd, Nat.reduceSub, Nat.reduceMul, Int.reduceToNat]
    exact ⟨_, WkE.keep (by simp only [go_sem, List.replicate_succ, Nat.reducePow, Nat.reduceLeDiff, ↓reduceIte, reduceCtorEq, Nat.reduceLT, Nat.reduceEqDiff, Nat.reduceAdd, Nat.reduceSub, Nat.reduceMul, Int.reduceToNat]), rfl⟩
  refine CwpE.cut (st := ⟨[(3, vi limit), (4, vi at_), (5, vi by_), (13, vints p), (14, vints o)], []⟩) ?_ ?_
  · simp only [go_sem, List.replicate_succ, Nat.reducePow, Nat.reduceLeDiff, ↓reduceIte, reduceCtorEq, Nat.reduceLT, Nat.reduceEqDiff, Nat.reduceAdd, Nat.reduceSub, Nat.reduceMul, Int.reduceToNat]
    refine callT sQ rfl ?_
    simp only [go_sem, List.replicate_succ, Nat.reducePow, Nat.reduceLeDiff, ↓reduceIte, reduceCtorEq, Nat.reduceLT, Nat.reduceEqDiff, Nat.reduceAdd, Nat.reduceSub, Nat.reduceMul, Int.reduceToNat]
    exact ⟨_, WkE.keep (by simp only [go_sem, List.replicate_succ, Nat.reducePow, Nat.reduceLeDiff, ↓reduceIte, reduceCtorEq, Nat.reduceLT, Nat.reduceEqDiff, Nat.reduceAdd, Nat.reduceSub, Nat.reduceMul, Int.reduceToNat]), rfl⟩
  obtain ⟨Z, hZ⟩ : ∃ Z, List.replicate 49 (0 : Int) = Z := ⟨_, rfl⟩
  have hZl : Z.length = 49 := by rw [← hZ]; simp
  have hZv : List.replicate 49 (vi 0) = Z.map vi := by rw [← hZ, List.map_replicate]
  obtain ⟨LL, hLL⟩ : ∃ LL : List (List (List Int)), LL = [[p, o], [p1, o], [p, o1], [p1, o2], [Z, Z]] := ⟨_, rfl⟩
  have hLg : ∀ i, i < 5 → ∃ P O, LL[i]? = some [P, O] ∧ P.length ≤ 1000000 ∧ O.length ≤ 1000000 := by
    intro i hi
    rw [hLL]
    rcases (by omega : i = 0 ∨ i = 1 ∨ i = 2 ∨ i = 3 ∨ i = 4) with rfl | rfl | rfl | rfl | rfl
    · exact ⟨p, o, rfl, by omega, by omega⟩
    · exact ⟨p1, o, rfl, by omega, by omega⟩
    · exact ⟨p, o1, rfl, by omega, by omega⟩
    · exact ⟨p1, o2, rfl, by omega, by omega⟩
    · exact ⟨Z, Z, rfl, by omega, by omega⟩
  have hLl : LL.length = 5 := by rw [hLL]; rfl
  refine CwpE.cut (st := ⟨[(3, vi limit), (15, .list 1 (LL.map vrows))], []⟩) ?_ ?_
  · have q1 : (0 : Int) ≤ 49 := by omega
    have q2 : ((8 : Nat) : Int) * 49 ≤ 281474976710656 := by omega
    have q3 : (49 : Int) ≤ 9223372036854775807 := by omega
    simp only [go_sem, Nat.reducePow, Nat.reduceLeDiff, ↓reduceIte, reduceCtorEq, Nat.reduceLT, Nat.reduceEqDiff, Nat.reduceAdd, Nat.reduceSub, Nat.reduceMul, Int.reduceToNat]
    refine callT t1 rfl ?_
    simp only [go_sem, Nat.reducePow, Nat.reduceLeDiff, ↓reduceIte, reduceCtorEq, Nat.reduceLT, Nat.reduceEqDiff, Nat.reduceAdd, Nat.reduceSub, Nat.reduceMul, Int.reduceToNat]
    refine callT t2 rfl ?_
    simp only [go_sem, Nat.reducePow, Nat.reduceLeDiff, ↓reduceIte, reduceCtorEq, Nat.reduceLT, Nat.reduceEqDiff, Nat.reduceAdd, Nat.reduceSub, Nat.reduceMul, Int.reduceToNat]
    refine callT t1 rfl ?_
    simp only [go_sem, Nat.reducePow, Nat.reduceLeDiff, ↓reduceIte, reduceCtorEq, Nat.reduceLT, Nat.reduceEqDiff, Nat.reduceAdd, Nat.reduceSub, Nat.reduceMul, Int.reduceToNat]
    refine callT t3 rfl ?_
    simp only [go_sem, Nat.reducePow, Nat.reduceLeDiff, ↓reduceIte, reduceCtorEq, Nat.reduceLT, Nat.reduceEqDiff, Nat.reduceAdd, Nat.reduceSub, Nat.reduceMul, Int.reduceToNat, q1, q2, q3, Int.le_refl, hZv]
    have htk : ((Z.map vi).drop 0).take 49 = Z.map vi := by rw [List.drop_zero, List.take_of_length_le (by simp [hZl])]
    have hZT : (Z.map vi).all AV.isT = true := by simp [List.all_map, AV.isT, AV.isT1]
    have S1 : WkE 143 ⟨[(3, vi limit), (15, .own 3 5 0 5)], [.arr 49 1 3 (Z.map vi), .arr 49 1 3 (Z.map vi), .arr 2 1 22 [.own 0 49 0 49, .own 1 49 0 49], .arr 5 1 25 [vrows [p, o], vrows [p1, o], vrows [p, o1], vrows [p1, o2], .own 2 2 0 2]]⟩
        ⟨[(3, vi limit), (15, .own 3 5 0 5)], [.dead, .arr 49 1 3 (Z.map vi), .arr 2 1 22 [vints Z, .own 1 49 0 49], .arr 5 1 25 [vrows [p, o], vrows [p1, o], vrows [p, o1], vrows [p1, o2], .own 2 2 0 2]]⟩ := by
      have := WkE.freezeCell (n := 143) (env := [(3, vi limit), (15, .own 3 5 0 5)]) (objs := [.arr 49 1 3 (Z.map vi), .arr 49 1 3 (Z.map vi), .arr 2 1 22 [.own 0 49 0 49, .own 1 49 0 49], .arr 5 1 25 [vrows [p, o], vrows [p1, o], vrows [p, o1], vrows [p1, o2], .own 2 2 0 2]]) 2 2 1 0 0 0 49 0 49 1 22 3 [.own 0 49 0 49, .own 1 49 0 49] (Z.map vi) (.own 0 49 0 49) rfl rfl rfl rfl (by omega) (by simp [hZl]) hZT
      rw [htk] at this
      exact this
    have S2 : WkE 143 ⟨[(3, vi limit), (15, .own 3 5 0 5)], [.dead, .arr 49 1 3 (Z.map vi), .arr 2 1 22 [vints Z, .own 1 49 0 49], .arr 5 1 25 [vrows [p, o], vrows [p1, o], vrows [p, o1], vrows [p1, o2], .own 2 2 0 2]]⟩
        ⟨[(3, vi limit), (15, .own 3 5 0 5)], [.dead, .dead, .arr 2 1 22 [vints Z, vints Z], .arr 5 1 25 [vrows [p, o], vrows [p1, o], vrows [p, o1], vrows [p1, o2], .own 2 2 0 2]]⟩ := by
      have := WkE.freezeCell (n := 143) (env := [(3, vi limit), (15, .own 3 5 0 5)]) (objs := [.dead, .arr 49 1 3 (Z.map vi), .arr 2 1 22 [vints Z, .own 1 49 0 49], .arr 5 1 25 [vrows [p, o], vrows [p1, o], vrows [p, o1], vrows [p1, o2], .own 2 2 0 2]]) 2 2 1 1 0 1 49 0 49 1 22 3 [vints Z, .own 1 49 0 49] (Z.map vi) (.own 1 49 0 49) rfl rfl rfl rfl (by omega) (by simp [hZl]) hZT
      rw [htk] at this
      exact this
    have S3 : WkE 143 ⟨[(3, vi limit), (15, .own 3 5 0 5)], [.dead, .dead, .arr 2 1 22 [vints Z, vints Z], .arr 5 1 25 [vrows [p, o], vrows [p1, o], vrows [p, o1], vrows [p1, o2], .own 2 2 0 2]]⟩
        ⟨[(3, vi limit), (15, .own 3 5 0 5)], [.dead, .dead, .dead, .arr 5 1 25 [vrows [p, o], vrows [p1, o], vrows [p, o1], vrows [p1, o2], vrows [Z, Z]]]⟩ :=
      WkE.freezeCell (n := 143) (env := [(3, vi limit), (15, .own 3 5 0 5)]) (objs := [.dead, .dead, .arr 2 1 22 [vints Z, vints Z], .arr 5 1 25 [vrows [p, o], vrows [p1, o], vrows [p, o1], vrows [p1, o2], .own 2 2 0 2]]) 3 5 1 4 0 2 2 0 2 1 25 22 [vrows [p, o], vrows [p1, o], vrows [p, o1], vrows [p1, o2], .own 2 2 0 2] [vints Z, vints Z] (.own 2 2 0 2) rfl rfl rfl rfl (by omega) (by simp) rfl
    have S4 : WkE 143 ⟨[(3, vi limit), (15, .own 3 5 0 5)], [.dead, .dead, .dead, .arr 5 1 25 [vrows [p, o], vrows [p1, o], vrows [p, o1], vrows [p1, o2], vrows [Z, Z]]]⟩
        ⟨[(15, .list 1 (LL.map vrows)), (3, vi limit), (15, .own 3 5 0 5)], [.dead, .dead, .dead, .dead]⟩ := by
      rw [hLL]
      exact WkE.freeze (n := 143) (env := [(3, vi limit), (15, .own 3 5 0 5)]) (objs := [.dead, .dead, .dead, .arr 5 1 25 [vrows [p, o], vrows [p1, o], vrows [p, o1], vrows [p1, o2], vrows [Z, Z]]]) 15 3 5 0 5 1 25 [vrows [p, o], vrows [p1, o], vrows [p, o1], vrows [p1, o2], vrows [Z, Z]] (by omega) rfl rfl (by simp) rfl
    refine ⟨_, (WkE.keep (env' := [(3, vi limit), (15, .own 3 5 0 5)]) (by simp only [go_sem, List.replicate_succ, Nat.reducePow, Nat.reduceLeDiff, ↓reduceIte, reduceCtorEq, Nat.reduceLT, Nat.reduceEqDiff, Nat.reduceAdd, Nat.reduceSub, Nat.reduceMul, Int.reduceToNat])).trans (S1.trans (S2.trans (S3.trans (S4.trans (WkE.round (env' := [(3, vi limit), (15, .list 1 (LL.map vrows))]) ⟨rfl, rfl, trivial⟩ (by simp [AV.inn, AV.inn1]) rfl rfl))))), rfl⟩
  obtain ⟨c1, hc1⟩ : ∃ c1, aroundL limit 40 = c1 := ⟨_, rfl⟩
  have sA := Around_s limit 40 h2 ⟨by omega, by omega⟩
  rw [hc1] at sA
  have a2 := aroundL_bd limit 4 (by omega)
  have sB := Around_s limit 4 h2 ⟨by omega, by omega⟩
  obtain ⟨k, hk⟩ : ∃ k : Nat, aroundL limit 4 = k := ⟨(aroundL limit 4).toNat, by omega⟩
  rw [hk] at sB a2
  obtain ⟨c2, hc2⟩ : ∃ c2, ([-1, 2048, 2049, 0] : List Int).getD k 0 = c2 := ⟨_, rfl⟩
  refine CwpE.cut (st := ⟨[(15, .list 1 (LL.map vrows)), (16, vints [c1, c2])], []⟩) ?_ ?_
  · simp only [go_sem, List.replicate_succ, Nat.reducePow, Nat.reduceLeDiff, ↓reduceIte, reduceCtorEq, Nat.reduceLT, Nat.reduceEqDiff, Nat.reduceAdd, Nat.reduceSub, Nat.reduceMul, Int.reduceToNat]
    refine callT sA rfl ?_
    simp only [go_sem, List.replicate_succ, Nat.reducePow, Nat.reduceLeDiff, ↓reduceIte, reduceCtorEq, Nat.reduceLT, Nat.reduceEqDiff, Nat.reduceAdd, Nat.reduceSub, Nat.reduceMul, Int.reduceToNat]
    refine callT sB rfl ?_
    rcases (by omega : k = 0 ∨ k = 1 ∨ k = 2 ∨ k = 3) with rfl | rfl | rfl | rfl
    all_goals
      simp only [List.getD_cons_zero, List.getD_cons_succ] at hc2
      subst hc2
      simp only [go_sem, List.replicate_succ, Nat.reducePow, Nat.reduceLeDiff, ↓reduceIte, reduceCtorEq, Nat.reduceLT, Nat.reduceEqDiff, Nat.reduceAdd, Nat.reduceSub, Nat.reduceMul, Int.reduceToNat, show (0 : Int) ≤ ((0 : Nat) : Int) by omega, show (0 : Int) ≤ ((1 : Nat) : Int) by omega, show (0 : Int) ≤ ((2 : Nat) : Int) by omega, show (0 : Int) ≤ ((3 : Nat) : Int) by omega, Int.toNat_natCast]
      exact ⟨_, WkE.keep (by simp only [go_sem, List.replicate_succ, Nat.reducePow, Nat.reduceLeDiff, ↓reduceIte, reduceCtorEq, Nat.reduceLT, Nat.reduceEqDiff, Nat.reduceAdd, Nat.reduceSub, Nat.reduceMul, Int.reduceToNat]; rfl), rfl⟩
  refine CwpE.cut (st := ⟨[], []⟩) ?_ ?_
  rotate_left
  · refine CwpE.vc ?_
    simp only [go_sem, List.replicate_succ, Nat.reducePow, Nat.reduceLeDiff, ↓reduceIte, reduceCtorEq, Nat.reduceLT, Nat.reduceEqDiff, Nat.reduceAdd, Nat.reduceSub, Nat.reduceMul, Int.reduceToNat]
    refine callT lives_s rfl ?_
    simp only [go_sem, List.replicate_succ, Nat.reducePow, Nat.reduceLeDiff, ↓reduceIte, reduceCtorEq, Nat.reduceLT, Nat.reduceEqDiff, Nat.reduceAdd, Nat.reduceSub, Nat.reduceMul, Int.reduceToNat]
    exact .tree _ rfl
  have hlim : ∀ k, k < 2 → ∃ c, ([c1, c2] : List Int)[k]? = some c := fun k hk => ⟨_, List.getElem?_eq_getElem (by simpa using hk)⟩
  simp only [go_sem, List.replicate_succ, Nat.reducePow, Nat.reduceLeDiff, ↓reduceIte, reduceCtorEq, Nat.reduceLT, Nat.reduceEqDiff, Nat.reduceAdd, Nat.reduceSub, Nat.reduceMul, Int.reduceToNat]
  refine loopXC 0 (fun m' s => ∃ i : Nat, m' = 5 - i ∧ i ≤ 5 ∧ s = ⟨[(15, .list 1 (LL.map vrows)), (16, vints [c1, c2]), (17, vi i)], []⟩)
    (fun s => s = ⟨[], []⟩) 5
    ⟨[(15, .list 1 (LL.map vrows)), (16, vints [c1, c2]), (17, vi (0 : Nat))], []⟩ (WkE.keep (by simp only [go_sem, List.replicate_succ, Nat.reducePow, Nat.reduceLeDiff, ↓reduceIte, reduceCtorEq, Nat.reduceLT, Nat.reduceEqDiff, Nat.reduceAdd, Nat.reduceSub, Nat.reduceMul, Int.reduceToNat]; rfl)) ⟨0, by omega, by omega, rfl⟩ ?_ ?_
  rotate_left
  · rintro s rfl
    simp only [go_sem, List.replicate_succ, Nat.reducePow, Nat.reduceLeDiff, ↓reduceIte, reduceCtorEq, Nat.reduceLT, Nat.reduceEqDiff, Nat.reduceAdd, Nat.reduceSub, Nat.reduceMul, Int.reduceToNat]
    exact ⟨_, .refl _ _, rfl⟩
  rintro m' s ⟨i, rfl, hi, rfl⟩
  by_cases hlt : i < 5
  rotate_left
  · obtain rfl : i = 5 := by omega
    refine CwpE.vc ?_
    simp only [go_sem, List.replicate_succ, Nat.reducePow, Nat.reduceLeDiff, ↓reduceIte, reduceCtorEq, Nat.reduceLT, Nat.reduceEqDiff, Nat.reduceAdd, Nat.reduceSub, Nat.reduceMul, Int.reduceToNat, hLl, Int.lt_irrefl]
    exact ⟨_, WkE.keep (env' := []) trivial, rfl⟩
  obtain ⟨P, O, hPO, hPl, hOl⟩ := hLg i hlt
  have i0 : (0 : Int) ≤ (i : Int) := by omega
  have i1 : (i : Int) < ((5 : Nat) : Int) := by omega
  have wi : IntKind.i64.wrap ((i : Int) + 1) = ((i + 1 : Nat) : Int) := by rw [wrap_id (by omega) (by omega)]; omega
  refine CwpE.cut (st := ⟨[(15, .list 1 (LL.map vrows)), (16, vints [c1, c2]), (17, vi i)], []⟩) ?_ ?_
  · simp only [go_sem, List.replicate_succ, Nat.reducePow, Nat.reduceLeDiff, ↓reduceIte, reduceCtorEq, Nat.reduceLT, Nat.reduceEqDiff, Nat.reduceAdd, Nat.reduceSub, Nat.reduceMul, Int.reduceToNat, hLl, i1]
    exact ⟨_, WkE.keep (by simp only [go_sem, List.replicate_succ, Nat.reducePow, Nat.reduceLeDiff, ↓reduceIte, reduceCtorEq, Nat.reduceLT, Nat.reduceEqDiff, Nat.reduceAdd, Nat.reduceSub, Nat.reduceMul, Int.reduceToNat]), rfl⟩
  refine CwpE.seqJ (fun s => s = ⟨[(15, .list 1 (LL.map vrows)), (16, vints [c1, c2]), (17, vi i)], []⟩) (CwpE.block ?_) ?_
  rotate_left
  · rintro s rfl
    refine CwpE.vc ?_
    simp only [go_sem, List.replicate_succ, Nat.reducePow, Nat.reduceLeDiff, ↓reduceIte, reduceCtorEq, Nat.reduceLT, Nat.reduceEqDiff, Nat.reduceAdd, Nat.reduceSub, Nat.reduceMul, Int.reduceToNat, wi]
    exact ⟨5 - (i + 1), ⟨[(15, .list 1 (LL.map vrows)), (16, vints [c1, c2]), (17, vi (i + 1 : Nat))], []⟩, by omega, WkE.keep (by simp only [go_sem, List.replicate_succ, Nat.reducePow, Nat.reduceLeDiff, ↓reduceIte, reduceCtorEq, Nat.reduceLT, Nat.reduceEqDiff, Nat.reduceAdd, Nat.reduceSub, Nat.reduceMul, Int.reduceToNat]), i + 1, rfl, by omega, rfl⟩
  refine CwpE.cut (st := ⟨[(15, .list 1 (LL.map vrows)), (16, vints [c1, c2]), (17, vi i), (18, vi (0 : Nat))], []⟩) ?_ ?_
  · simp only [go_sem, List.replicate_succ, Nat.reducePow, Nat.reduceLeDiff, ↓reduceIte, reduceCtorEq, Nat.reduceLT, Nat.reduceEqDiff, Nat.reduceAdd, Nat.reduceSub, Nat.reduceMul, Int.reduceToNat]
    exact ⟨_, WkE.keep (by simp only [go_sem, List.replicate_succ, Nat.reducePow, Nat.reduceLeDiff, ↓reduceIte, reduceCtorEq, Nat.reduceLT, Nat.reduceEqDiff, Nat.reduceAdd, Nat.reduceSub, Nat.reduceMul, Int.reduceToNat]; rfl), rfl⟩
  refine CwpE.block ?_
  refine loopXC 2 (fun m' s => ∃ k : Nat, m' = 2 - k ∧ k ≤ 2 ∧ s = ⟨[(15, .list 1 (LL.map vrows)), (16, vints [c1, c2]), (17, vi i), (18, vi k)], []⟩)
    (fun s => s = ⟨[(15, .list 1 (LL.map vrows)), (16, vints [c1, c2]), (17, vi i)], []⟩) 2
    ⟨[(15, .list 1 (LL.map vrows)), (16, vints [c1, c2]), (17, vi i), (18, vi (0 : Nat))], []⟩ (WkE.refl _ _) ⟨0, by omega, by omega, rfl⟩ ?_ ?_
  rotate_left
  · rintro s rfl
    simp only [go_sem, List.replicate_succ, Nat.reducePow, Nat.reduceLeDiff, ↓reduceIte, reduceCtorEq, Nat.reduceLT, Nat.reduceEqDiff, Nat.reduceAdd, Nat.reduceSub, Nat.reduceMul, Int.reduceToNat]
    exact ⟨_, .refl _ _, rfl⟩
  rintro m' s ⟨k, rfl, hk, rfl⟩
  refine CwpE.vc ?_
  by_cases hkt : k < 2
  rotate_left
  · have g : ¬ (k : Int) < 2 := by omega
    simp only [go_sem, List.replicate_succ, Nat.reducePow, Nat.reduceLeDiff, ↓reduceIte, reduceCtorEq, Nat.reduceLT, Nat.reduceEqDiff, Nat.reduceAdd, Nat.reduceSub, Nat.reduceMul, Int.reduceToNat, g]
    exact ⟨_, WkE.keep (by simp only [go_sem, List.replicate_succ, Nat.reducePow, Nat.reduceLeDiff, ↓reduceIte, reduceCtorEq, Nat.reduceLT, Nat.reduceEqDiff, Nat.reduceAdd, Nat.reduceSub, Nat.reduceMul, Int.reduceToNat]), rfl⟩
  obtain ⟨c, hc⟩ := hlim k hkt
  have k0 : (0 : Int) ≤ (k : Int) := by omega
  have k1 : (k : Int) < 2 := by omega
  have wk : IntKind.i64.wrap ((k : Int) + 1) = ((k + 1 : Nat) : Int) := by rw [wrap_id (by omega) (by omega)]; omega
  have l1 := Least_s P O c hPl hOl
  have l2 := refLeast_s P O c hPl hOl
  obtain ⟨b1, b2, b3⟩ := leastL_bd P O c
  generalize leastL P O c = x at l1 l2 b1 b2 b3
  obtain ⟨t, S, TT, e⟩ := x
  simp only at l1 l2 b1 b2 b3
  have s1 := SameInts_s S S (by omega)
  have s2 := Same_s TT TT (by omega) (fun x hx => by have := b3 x hx; omega)
  rw [decide_eq_true rfl] at s1 s2
  have te : (t = t) = True := eq_true rfl
  have hcm : ([vi c1, vi c2] : List AV)[k]? = some (vi c) := by
    have : ([vi c1, vi c2] : List AV) = ([c1, c2] : List Int).map vi := rfl
    rw [this, List.getElem?_map, hc]; rfl
  simp only [go_sem, List.replicate_succ, Nat.reducePow, Nat.reduceLeDiff, ↓reduceIte, reduceCtorEq, Nat.reduceLT, Nat.reduceEqDiff, Nat.reduceAdd, Nat.reduceSub, Nat.reduceMul, Int.reduceToNat, k0, k1, i0, Int.le_refl, show (0 : Int) ≤ 1 by omega, List.getElem?_map, hPO, hcm]
  refine callT l1 rfl ?_
  simp only [go_sem, List.replicate_succ, Nat.reducePow, Nat.reduceLeDiff, ↓reduceIte, reduceCtorEq, Nat.reduceLT, Nat.reduceEqDiff, Nat.reduceAdd, Nat.reduceSub, Nat.reduceMul, Int.reduceToNat, k0, k1, i0, Int.le_refl, show (0 : Int) ≤ 1 by omega, List.getElem?_map, hPO, hcm]
  refine callT l2 rfl ?_
  simp only [go_sem, List.replicate_succ, Nat.reducePow, Nat.reduceLeDiff, ↓reduceIte, reduceCtorEq, Nat.reduceLT, Nat.reduceEqDiff, Nat.reduceAdd, Nat.reduceSub, Nat.reduceMul, Int.reduceToNat, List.drop_succ_cons]
  refine callT s1 rfl ?_
  simp only [go_sem, List.replicate_succ, Nat.reducePow, Nat.reduceLeDiff, ↓reduceIte, reduceCtorEq, Nat.reduceLT, Nat.reduceEqDiff, Nat.reduceAdd, Nat.reduceSub, Nat.reduceMul, Int.reduceToNat, List.drop_succ_cons]
  refine callT s2 rfl ?_
  simp only [go_sem, List.replicate_succ, Nat.reducePow, Nat.reduceLeDiff, ↓reduceIte, reduceCtorEq, Nat.reduceLT, Nat.reduceEqDiff, Nat.reduceAdd, Nat.reduceSub, Nat.reduceMul, Int.reduceToNat, wk]
  exact ⟨2 - (k + 1), ⟨[(15, .list 1 (LL.map vrows)), (16, vints [c1, c2]), (17, vi i), (18, vi (k + 1 : Nat))], []⟩, by omega, WkE.round (by simp only [go_sem, List.replicate_succ, Nat.reducePow, Nat.reduceLeDiff, ↓reduceIte, reduceCtorEq, Nat.reduceLT, Nat.reduceEqDiff, Nat.reduceAdd, Nat.reduceSub, Nat.reduceMul, Int.reduceToNat]) (by simp [AV.inn, AV.inn1]) rfl rfl, k + 1, rfl, by omega, rfl⟩
end Go.Proofs.Ytphcaelkpgdbcaa
