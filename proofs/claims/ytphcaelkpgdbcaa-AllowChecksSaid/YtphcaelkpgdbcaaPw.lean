/- The law AllowChecks, by contract. -/
import Derived.Test.YtphcaelkpgdbcaaPv
set_option linter.unusedSimpArgs false
set_option linter.unusedVariables false
set_option linter.unusedSectionVars false
namespace Go.Proofs.Ytphcaelkpgdbcaa
open Go.RowKit Dak
theorem given_s (t : Int) (S : List Int) (T : List (List Int)) : Ctr Try.prog 18 [certV t S T] (certV t S T) := by
  refine specE f18 (by simp) fun F0 w0 => ?_
  simp only [c18, go_sem, List.replicate_succ, Nat.reducePow, Nat.reduceLeDiff, ↓reduceIte, reduceCtorEq, Nat.reduceLT, Nat.reduceEqDiff, Nat.reduceAdd, Nat.reduceSub, Nat.reduceMul, Int.reduceToNat, List.drop_succ_cons, List.drop_nil]
  exact .tree _ (by simp [AV.isT, AV.isT1])
set_option maxRecDepth 100000 in
set_option maxHeartbeats 8000000 in
theorem AllowChecks_s (l m : List Int) (n limit at_ how by_ : Int) (hl : ∀ x ∈ l, I64 x) (hm : ∀ x ∈ m, I64 x) (h1 : I64 n) (h2 : I64 limit) (h3 : I64 at_) (h4 : I64 how) (h5 : I64 by_) :
    Ctr Try.prog 4 [vints l, vints m, vi n, vi limit, vi at_, vi how, vi by_] (vb true) := by
  refine specC f4 (by simp) fun F0 w0 => ?_
  have sQ := questions_s l m n hl hm h1
  have ca := aroundL_bd limit 40 (by omega)
  have sA := Around_s limit 40 h2 ⟨by omega, by omega⟩
  obtain ⟨c, hc⟩ : ∃ c : Nat, aroundL limit 40 = c := ⟨(aroundL limit 40).toNat, by omega⟩
  rw [hc] at sA ca
  have hok := okQ_gen l m n c (by omega)
  generalize stepsL l (manyL n) 12 = p at sQ hok
  generalize stepsL m (manyL n) 40 = o at sQ hok
  have hlen := hok.len
  have hmost := hok.most
  have hp0 : ∀ x ∈ p, 0 ≤ x := fun x hx => (hok.p x hx).1
  have sO := odd_s p at_ 0 (by omega) h3 ⟨by omega, by omega⟩
  have eO : oddL p at_ 0 = p ++ [1] := by unfold oddL; rw [if_pos (.inr (by decide))]
  rw [eO] at sO
  have vO : validL (p ++ [1]) o (c : Int) = false := by
    cases h : validL (p ++ [1]) o (c : Int) with
    | false => rfl
    | true => have := (validL_ok.1 h).len; simp at this; omega
  have cL := Least_s p o c (by omega) (by omega)
  have cR := refLeast_s p o c (by omega) (by omega)
  have bL := leastL_bd p o c
  have sb := set_best hok c p.length 0 c 0 0 (by omega) (by omega) (by omega)
  have x0 : 0 ≤ sumL p (setA p o c 0 c) ∧ sumL p (setA p o c 0 c) ≤ (c : Int) := by
    have h2 : (0 : Int) ≤ sumL p (setA p o c 0 c) := sb.1.1
    have h6 : sumL p (setA p o c 0 c) ≤ 0 + (c : Int) := sb.1.2
    omega
  have x1 : sumL o (setA p o c 0 c) = timeL p o c := by
    have h2 : sumL o (setA p o c 0 c) = 0 + best p o c := sb.2
    rw [timeL_best]; omega
  rw [leastL_ok hok] at cL cR bL
  dsimp only at bL
  have tb := best_bd hok c
  rw [← timeL_best] at tb
  have k1 : checkL p o c (timeL p o c) (setA p o c 0 c) (tabA p o c) = 0 := by rw [checkL_ok hok, if_pos ⟨rfl, rfl, x0.1, x0.2, x1⟩]
  have k2 : checkL p o c (timeL p o c + 1) (setA p o c 0 c) (tabA p o c) = 19 := by rw [checkL_ok hok, if_neg fun h => by have := h.1; omega]
  have k3 : checkL (p ++ [1]) o c (timeL p o c + 1) (setA p o c 0 c) (tabA p o c) = 1 := by unfold checkL; rw [if_neg (by simp [vO])]
  generalize timeL p o c = t at *
  generalize setA p o c 0 c = S at *
  generalize tabA p o c = T at *
  obtain ⟨bS, bT, bR⟩ := bL
  have bR' : ∀ x ∈ T, x.length ≤ 100000 := fun x hx => by have := bR x hx; omega
  have cY := bent_s t S T at_ how by_ (by omega) (by omega) (fun x hx => by have := bR x hx; omega) h3 h4 h5
  have yb := bentL_bd (t := t) (at_ := at_) (how := how) (by_ := by_) (M := 100000) (show S.length ≤ 100000 by omega) (show T.length ≤ 100000 by omega) bR'
  generalize bentL t S T at_ how by_ = y at cY yb
  obtain ⟨ty, Sy, Ty⟩ := y
  dsimp only at cY yb
  have cZ := bent_s ty Sy Ty by_ at_ how (by omega) (by omega) (fun x hx => by have := yb.2.2 x hx; omega) h5 h3 h4
  have zb := bentL_bd (t := ty) (at_ := by_) (how := at_) (by_ := how) (M := 100001) (show Sy.length ≤ 100001 by omega) (show Ty.length ≤ 100001 by omega) (fun x hx => by have := yb.2.2 x hx; omega)
  generalize bentL ty Sy Ty by_ at_ how = z at cZ zb
  obtain ⟨tz, Sz, Tz⟩ := z
  dsimp only at cZ zb
  have cC1 := Check_s p o c t S T (by omega) (by omega) (by omega) (by omega) (fun x hx => by have := bR x hx; omega)
  rw [k1] at cC1
  have cC2 := Check_s p o c (t + 1) S T (by omega) (by omega) (by omega) (by omega) (fun x hx => by have := bR x hx; omega)
  rw [k2] at cC2
  have cC3 := Check_s (p ++ [1]) o c (t + 1) S T (by simp; omega) (by omega) (by omega) (by omega) (fun x hx => by have := bR x hx; omega)
  rw [k3] at cC3
  have w1 : IntKind.i64.wrap (t + 1) = t + 1 := wrap_id (by omega) (by omega)
  unfold c4
  refine CwpE.cut (st := ⟨[(0, vints l), (1, vints m), (2, vi n), (3, vi limit), (4, vi at_), (5, vi how), (6, vi by_)], []⟩) ?_ ?_
  · simp only [go_sem, List.replicate_succ, Nat.reducePow, Nat.reduceLeDiff, ↓reduceIte, reduceCtorEq, Nat.reduceLT, Nat.reduceEqDiff, Nat.reduceAdd, Nat.reduceSub, Nat.reduceMul, Int.reduceToNat]
    exact ⟨_, WkE.keep (by simp only [go_sem, List.replicate_succ, Nat.reducePow, Nat.reduceLeDiff, ↓reduceIte, reduceCtorEq, Nat.reduceLT, Nat.reduceEqDiff, Nat.reduceAdd, Nat.reduceSub, Nat.reduceMul, Int.reduceToNat]), rfl⟩
  refine CwpE.cut (st := ⟨[(3, vi limit), (4, vi at_), (5, vi how), (6, vi by_), (15, vints p), (16, vints o)], []⟩) ?_ ?_
  · simp only [go_sem, List.replicate_succ, Nat.reducePow, Nat.reduceLeDiff, ↓reduceIte, reduceCtorEq, Nat.reduceLT, Nat.reduceEqDiff, Nat.reduceAdd, Nat.reduceSub, Nat.reduceMul, Int.reduceToNat]
    refine callT sQ rfl ?_
    simp only [go_sem, List.replicate_succ, Nat.reducePow, Nat.reduceLeDiff, ↓reduceIte, reduceCtorEq, Nat.reduceLT, Nat.reduceEqDiff, Nat.reduceAdd, Nat.reduceSub, Nat.reduceMul, Int.reduceToNat]
    exact ⟨_, WkE.keep (by simp only [go_sem, List.replicate_succ, Nat.reducePow, Nat.reduceLeDiff, ↓reduceIte, reduceCtorEq, Nat.reduceLT, Nat.reduceEqDiff, Nat.reduceAdd, Nat.reduceSub, Nat.reduceMul, Int.reduceToNat]), rfl⟩
  refine CwpE.cut (st := ⟨[(4, vi at_), (5, vi how), (6, vi by_), (15, vints p), (16, vints o), (17, vi c)], []⟩) ?_ ?_
  · simp only [go_sem, List.replicate_succ, Nat.reducePow, Nat.reduceLeDiff, ↓reduceIte, reduceCtorEq, Nat.reduceLT, Nat.reduceEqDiff, Nat.reduceAdd, Nat.reduceSub, Nat.reduceMul, Int.reduceToNat]
    refine callT sA rfl ?_
    simp only [go_sem, List.replicate_succ, Nat.reducePow, Nat.reduceLeDiff, ↓reduceIte, reduceCtorEq, Nat.reduceLT, Nat.reduceEqDiff, Nat.reduceAdd, Nat.reduceSub, Nat.reduceMul, Int.reduceToNat]
    exact ⟨_, WkE.keep (by simp only [go_sem, List.replicate_succ, Nat.reducePow, Nat.reduceLeDiff, ↓reduceIte, reduceCtorEq, Nat.reduceLT, Nat.reduceEqDiff, Nat.reduceAdd, Nat.reduceSub, Nat.reduceMul, Int.reduceToNat]), rfl⟩
  refine CwpE.cut (st := ⟨[(4, vi at_), (5, vi how), (6, vi by_), (15, vints p), (16, vints o), (17, vi c), (18, .ref 0 1 0 0), (19, vi 0)], [.arr 1 3 34 [certV t S T]]⟩) ?_ ?_
  · simp only [go_sem, List.replicate_succ, Nat.reducePow, Nat.reduceLeDiff, ↓reduceIte, reduceCtorEq, Nat.reduceLT, Nat.reduceEqDiff, Nat.reduceAdd, Nat.reduceSub, Nat.reduceMul, Int.reduceToNat]
    refine callT cR rfl ?_
    simp only [go_sem, List.replicate_succ, Nat.reducePow, Nat.reduceLeDiff, ↓reduceIte, reduceCtorEq, Nat.reduceLT, Nat.reduceEqDiff, Nat.reduceAdd, Nat.reduceSub, Nat.reduceMul, Int.reduceToNat, List.drop_succ_cons]
    exact ⟨_, WkE.keep (by simp only [go_sem, List.replicate_succ, Nat.reducePow, Nat.reduceLeDiff, ↓reduceIte, reduceCtorEq, Nat.reduceLT, Nat.reduceEqDiff, Nat.reduceAdd, Nat.reduceSub, Nat.reduceMul, Int.reduceToNat]), rfl⟩
  refine CwpE.cut (st := ⟨[(4, vi at_), (5, vi how), (6, vi by_), (15, vints p), (16, vints o), (17, vi c), (18, .ref 0 1 0 0), (19, vi 0), (20, .ref 1 1 0 0)], [.arr 1 3 34 [certV t S T], .arr 1 3 34 [certV ty Sy Ty]]⟩) ?_ ?_
  · simp only [go_sem, List.replicate_succ, Nat.reducePow, Nat.reduceLeDiff, ↓reduceIte, reduceCtorEq, Nat.reduceLT, Nat.reduceEqDiff, Nat.reduceAdd, Nat.reduceSub, Nat.reduceMul, Int.reduceToNat, List.drop_succ_cons]
    refine callT cY rfl ?_
    simp only [go_sem, List.replicate_succ, Nat.reducePow, Nat.reduceLeDiff, ↓reduceIte, reduceCtorEq, Nat.reduceLT, Nat.reduceEqDiff, Nat.reduceAdd, Nat.reduceSub, Nat.reduceMul, Int.reduceToNat, List.drop_succ_cons]
    exact ⟨_, WkE.keep (by simp only [go_sem, List.replicate_succ, Nat.reducePow, Nat.reduceLeDiff, ↓reduceIte, reduceCtorEq, Nat.reduceLT, Nat.reduceEqDiff, Nat.reduceAdd, Nat.reduceSub, Nat.reduceMul, Int.reduceToNat]), rfl⟩
  obtain ⟨EL, hEL⟩ : ∃ EL : List AV, EL = [certV t S T, certV ty Sy Ty, certV tz Sz Tz, .agg [vi 0, nilV, nilV]] := ⟨_, rfl⟩
  have hEg : ∀ i, i < 4 → ∃ a x1 x2 X A, EL[i]? = some (.agg [vi a, x1, x2]) ∧ Snap [] (.agg [vi a, x1, x2]) (certV a X A) ∧ X.length ≤ 1000000000 ∧ A.length ≤ 1000000 ∧ ∀ x ∈ A, x.length ≤ 1000000 := by
    intro i hi
    rw [hEL]
    rcases (by omega : i = 0 ∨ i = 1 ∨ i = 2 ∨ i = 3) with rfl | rfl | rfl | rfl
    · exact ⟨t, vints S, vrows T, S, T, rfl, .tree _ (by simp [AV.isT, AV.isT1]), by omega, by omega, fun x hx => by have := bR x hx; omega⟩
    · exact ⟨ty, vints Sy, vrows Ty, Sy, Ty, rfl, .tree _ (by simp [AV.isT, AV.isT1]), by omega, by omega, fun x hx => by have := yb.2.2 x hx; omega⟩
    · exact ⟨tz, vints Sz, vrows Tz, Sz, Tz, rfl, .tree _ (by simp [AV.isT, AV.isT1]), by omega, by omega, fun x hx => by have := zb.2.2 x hx; omega⟩
    · refine ⟨0, nilV, nilV, [], [], rfl, .agg _ _ rfl fun j h1 h2 => ?_, by simp, by simp, by simp⟩
      rcases (by simp at h1; omega : j = 0 ∨ j = 1 ∨ j = 2) with rfl | rfl | rfl
      · exact .tree _ rfl
      · exact .nil _
      · exact .nil _
  have hELl : EL.length = 4 := by rw [hEL]; rfl
  refine CwpE.cut (st := ⟨[(4, vi at_), (15, vints p), (16, vints o), (17, vi c), (19, vi 0), (21, .list 3 EL)], []⟩) ?_ ?_
  · simp only [go_sem, List.replicate_succ, Nat.reducePow, Nat.reduceLeDiff, ↓reduceIte, reduceCtorEq, Nat.reduceLT, Nat.reduceEqDiff, Nat.reduceAdd, Nat.reduceSub, Nat.reduceMul, Int.reduceToNat, List.drop_succ_cons]
    refine callT cZ rfl ?_
    simp only [go_sem, List.replicate_succ, Nat.reducePow, Nat.reduceLeDiff, ↓reduceIte, reduceCtorEq, Nat.reduceLT, Nat.reduceEqDiff, Nat.reduceAdd, Nat.reduceSub, Nat.reduceMul, Int.reduceToNat, List.drop_succ_cons]
    exact ⟨_, WkE.round (env' := [(4, vi at_), (15, vints p), (16, vints o), (17, vi c), (19, vi 0), (21, .list 3 EL)]) (by rw [hEL]; simp only [go_sem, List.replicate_succ, Nat.reducePow, Nat.reduceLeDiff, ↓reduceIte, reduceCtorEq, Nat.reduceLT, Nat.reduceEqDiff, Nat.reduceAdd, Nat.reduceSub, Nat.reduceMul, Int.reduceToNat]) (by simp [AV.inn, AV.inn1]) rfl rfl, rfl⟩
  refine CwpE.cut (st := ⟨[(4, vi at_), (15, vints p), (16, vints o), (17, vi c), (19, vi 0)], []⟩) ?_ ?_
  · simp only [go_sem, List.replicate_succ, Nat.reducePow, Nat.reduceLeDiff, ↓reduceIte, reduceCtorEq, Nat.reduceLT, Nat.reduceEqDiff, Nat.reduceAdd, Nat.reduceSub, Nat.reduceMul, Int.reduceToNat]
    refine loopXC 0 (fun m' s => ∃ i : Nat, m' = 4 - i ∧ i ≤ 4 ∧ s = ⟨[(4, vi at_), (15, vints p), (16, vints o), (17, vi c), (19, vi 0), (21, .list 3 EL), (22, vi i)], []⟩)
      (fun s => s = ⟨[(4, vi at_), (15, vints p), (16, vints o), (17, vi c), (19, vi 0)], []⟩) 4
      ⟨[(4, vi at_), (15, vints p), (16, vints o), (17, vi c), (19, vi 0), (21, .list 3 EL), (22, vi (0 : Nat))], []⟩ (WkE.keep (by simp only [go_sem, List.replicate_succ, Nat.reducePow, Nat.reduceLeDiff, ↓reduceIte, reduceCtorEq, Nat.reduceLT, Nat.reduceEqDiff, Nat.reduceAdd, Nat.reduceSub, Nat.reduceMul, Int.reduceToNat]; rfl)) ⟨0, by omega, by omega, rfl⟩ ?_ ?_
    rotate_left
    · rintro s rfl
      simp only [go_sem, List.replicate_succ, Nat.reducePow, Nat.reduceLeDiff, ↓reduceIte, reduceCtorEq, Nat.reduceLT, Nat.reduceEqDiff, Nat.reduceAdd, Nat.reduceSub, Nat.reduceMul, Int.reduceToNat]
      exact ⟨_, .refl _ _, rfl⟩
    rintro m' s ⟨i, rfl, hi, rfl⟩
    refine CwpE.vc ?_
    by_cases hlt : i < 4
    rotate_left
    · obtain rfl : i = 4 := by omega
      simp only [go_sem, List.replicate_succ, Nat.reducePow, Nat.reduceLeDiff, ↓reduceIte, reduceCtorEq, Nat.reduceLT, Nat.reduceEqDiff, Nat.reduceAdd, Nat.reduceSub, Nat.reduceMul, Int.reduceToNat, hELl, Int.lt_irrefl]
      exact ⟨_, WkE.keep (by simp only [go_sem, List.replicate_succ, Nat.reducePow, Nat.reduceLeDiff, ↓reduceIte, reduceCtorEq, Nat.reduceLT, Nat.reduceEqDiff, Nat.reduceAdd, Nat.reduceSub, Nat.reduceMul, Int.reduceToNat]), rfl⟩
    obtain ⟨a, x1, x2, X, A, hE, hsn, b1, b2, b3⟩ := hEg i hlt
    have i0 : (0 : Int) ≤ (i : Int) := by omega
    have i1 : (i : Int) < ((4 : Nat) : Int) := by omega
    have wi : IntKind.i64.wrap ((i : Int) + 1) = ((i + 1 : Nat) : Int) := by rw [wrap_id (by omega) (by omega)]; omega
    have cA := Check_s p o c a X A (by omega) (by omega) b1 b2 b3
    have cB := refCheck_s p o c a X A (by omega) (by omega) b1 b2 b3
    generalize checkL p o c a X A = e at cA cB
    have ee : (e = e) = True := eq_true rfl
    simp only [go_sem, List.replicate_succ, Nat.reducePow, Nat.reduceLeDiff, ↓reduceIte, reduceCtorEq, Nat.reduceLT, Nat.reduceEqDiff, Nat.reduceAdd, Nat.reduceSub, Nat.reduceMul, Int.reduceToNat, hELl, i0, i1, hE]
    refine callN (given_s a X A) (.cons hsn .nil) ?_
    simp only [go_sem, List.replicate_succ, Nat.reducePow, Nat.reduceLeDiff, ↓reduceIte, reduceCtorEq, Nat.reduceLT, Nat.reduceEqDiff, Nat.reduceAdd, Nat.reduceSub, Nat.reduceMul, Int.reduceToNat]
    refine callT cA rfl ?_
    simp only [go_sem, List.replicate_succ, Nat.reducePow, Nat.reduceLeDiff, ↓reduceIte, reduceCtorEq, Nat.reduceLT, Nat.reduceEqDiff, Nat.reduceAdd, Nat.reduceSub, Nat.reduceMul, Int.reduceToNat, i0, hE]
    refine callN cB (.cons (.tree _ rfl) (.cons (.tree _ rfl) (.cons (.tree _ rfl) (.cons hsn .nil)))) ?_
    simp only [go_sem, List.replicate_succ, Nat.reducePow, Nat.reduceLeDiff, ↓reduceIte, reduceCtorEq, Nat.reduceLT, Nat.reduceEqDiff, Nat.reduceAdd, Nat.reduceSub, Nat.reduceMul, Int.reduceToNat, ee, wi]
    exact ⟨4 - (i + 1), ⟨[(4, vi at_), (15, vints p), (16, vints o), (17, vi c), (19, vi 0), (21, .list 3 EL), (22, vi (i + 1 : Nat))], []⟩, by omega, WkE.keep (by simp only [go_sem, List.replicate_succ, Nat.reducePow, Nat.reduceLeDiff, ↓reduceIte, reduceCtorEq, Nat.reduceLT, Nat.reduceEqDiff, Nat.reduceAdd, Nat.reduceSub, Nat.reduceMul, Int.reduceToNat]), i + 1, rfl, by omega, rfl⟩
  refine CwpE.cut (st := ⟨[(4, vi at_), (15, vints p), (16, vints o), (17, vi c), (19, vi 0), (23, .ref 0 1 0 0), (24, vi 0)], [.arr 1 3 30 [certV t S T]]⟩) ?_ ?_
  · simp only [go_sem, List.replicate_succ, Nat.reducePow, Nat.reduceLeDiff, ↓reduceIte, reduceCtorEq, Nat.reduceLT, Nat.reduceEqDiff, Nat.reduceAdd, Nat.reduceSub, Nat.reduceMul, Int.reduceToNat]
    refine callT cL rfl ?_
    simp only [go_sem, List.replicate_succ, Nat.reducePow, Nat.reduceLeDiff, ↓reduceIte, reduceCtorEq, Nat.reduceLT, Nat.reduceEqDiff, Nat.reduceAdd, Nat.reduceSub, Nat.reduceMul, Int.reduceToNat, List.drop_succ_cons]
    exact ⟨_, WkE.keep (by simp only [go_sem, List.replicate_succ, Nat.reducePow, Nat.reduceLeDiff, ↓reduceIte, reduceCtorEq, Nat.reduceLT, Nat.reduceEqDiff, Nat.reduceAdd, Nat.reduceSub, Nat.reduceMul, Int.reduceToNat]), rfl⟩
  refine CwpE.cut (st := ⟨[(4, vi at_), (15, vints p), (16, vints o), (17, vi c), (23, .ref 0 1 0 0)], [.arr 1 3 30 [certV t S T]]⟩) ?_ ?_
  · simp only [go_sem, List.replicate_succ, Nat.reducePow, Nat.reduceLeDiff, ↓reduceIte, reduceCtorEq, Nat.reduceLT, Nat.reduceEqDiff, Nat.reduceAdd, Nat.reduceSub, Nat.reduceMul, Int.reduceToNat, List.drop_succ_cons]
    refine callT cC1 rfl ?_
    simp only [go_sem, List.replicate_succ, Nat.reducePow, Nat.reduceLeDiff, ↓reduceIte, reduceCtorEq, Nat.reduceLT, Nat.reduceEqDiff, Nat.reduceAdd, Nat.reduceSub, Nat.reduceMul, Int.reduceToNat]
    exact ⟨_, WkE.keep (by simp only [go_sem, List.replicate_succ, Nat.reducePow, Nat.reduceLeDiff, ↓reduceIte, reduceCtorEq, Nat.reduceLT, Nat.reduceEqDiff, Nat.reduceAdd, Nat.reduceSub, Nat.reduceMul, Int.reduceToNat]), rfl⟩
  refine CwpE.cut (st := ⟨[(4, vi at_), (15, vints p), (16, vints o), (17, vi c), (23, .ref 0 1 0 0)], [.arr 1 3 30 [certV (t + 1) S T]]⟩) ?_ ?_
  · simp only [go_sem, List.replicate_succ, Nat.reducePow, Nat.reduceLeDiff, ↓reduceIte, reduceCtorEq, Nat.reduceLT, Nat.reduceEqDiff, Nat.reduceAdd, Nat.reduceSub, Nat.reduceMul, Int.reduceToNat, List.drop_succ_cons, w1]
    exact ⟨_, WkE.keep (by simp only [go_sem, List.replicate_succ, Nat.reducePow, Nat.reduceLeDiff, ↓reduceIte, reduceCtorEq, Nat.reduceLT, Nat.reduceEqDiff, Nat.reduceAdd, Nat.reduceSub, Nat.reduceMul, Int.reduceToNat]), rfl⟩
  have e19 : ((19 : Int) = 19) = True := eq_true rfl
  have e1 : ((1 : Int) = 1) = True := eq_true rfl
  refine CwpE.vc ?_
  simp only [go_sem, List.replicate_succ, Nat.reducePow, Nat.reduceLeDiff, ↓reduceIte, reduceCtorEq, Nat.reduceLT, Nat.reduceEqDiff, Nat.reduceAdd, Nat.reduceSub, Nat.reduceMul, Int.reduceToNat, List.drop_succ_cons]
  refine callT cC2 rfl ?_
  simp only [go_sem, List.replicate_succ, Nat.reducePow, Nat.reduceLeDiff, ↓reduceIte, reduceCtorEq, Nat.reduceLT, Nat.reduceEqDiff, Nat.reduceAdd, Nat.reduceSub, Nat.reduceMul, Int.reduceToNat, e19, List.drop_succ_cons]
  refine callT sO rfl ?_
  simp only [go_sem, List.replicate_succ, Nat.reducePow, Nat.reduceLeDiff, ↓reduceIte, reduceCtorEq, Nat.reduceLT, Nat.reduceEqDiff, Nat.reduceAdd, Nat.reduceSub, Nat.reduceMul, Int.reduceToNat, List.drop_succ_cons]
  refine callT cC3 rfl ?_
  simp only [go_sem, List.replicate_succ, Nat.reducePow, Nat.reduceLeDiff, ↓reduceIte, reduceCtorEq, Nat.reduceLT, Nat.reduceEqDiff, Nat.reduceAdd, Nat.reduceSub, Nat.reduceMul, Int.reduceToNat, e1]
  refine callT lives_s rfl ?_
  simp only [go_sem, List.replicate_succ, Nat.reducePow, Nat.reduceLeDiff, ↓reduceIte, reduceCtorEq, Nat.reduceLT, Nat.reduceEqDiff, Nat.reduceAdd, Nat.reduceSub, Nat.reduceMul, Int.reduceToNat]
  exact .tree _ rfl
end Go.Proofs.Ytphcaelkpgdbcaa
