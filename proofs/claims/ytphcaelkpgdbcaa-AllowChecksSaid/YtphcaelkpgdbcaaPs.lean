/- The law AllowBest, by contract. -/
import Derived.Test.YtphcaelkpgdbcaaPq
import Derived.Test.YtphcaelkpgdbcaaPr
set_option linter.unusedSimpArgs false
set_option linter.unusedVariables false
set_option linter.unusedSectionVars false
namespace Go.Proofs.Ytphcaelkpgdbcaa
open Go.RowKit Dak
/-- The questions from q on that are picked. -/
def pickF (pk : List Int) : Nat → Nat → List Int
  | 0, _ => []
  | k + 1, q => if atL pk q 2 = 1 then (q : Int) :: pickF pk k (q + 1) else pickF pk k (q + 1)
theorem pickF_len (pk : List Int) : ∀ k q, (pickF pk k q).length ≤ k
  | 0, q => by simp [pickF]
  | k + 1, q => by
    have := pickF_len pk k (q + 1)
    rw [pickF]; split <;> (try simp only [List.length_cons]) <;> omega
theorem pickF_ok (pk : List Int) {l : List Int} (hl : ∀ x ∈ l, 0 ≤ x) : ∀ k q (last acc : Int), q + k = l.length → last < (q : Int) → 0 ≤ acc → 0 ≤ sumGo l last acc (pickF pk k q)
  | 0, q, last, acc, hq, h1, h2 => by simpa [pickF, sumGo] using h2
  | k + 1, q, last, acc, hq, h1, h2 => by
    have hql : q < l.length := by omega
    have g : l.getD ((q : Int)).toNat 0 = l[q] := by simp [hql]
    have := hl _ (List.getElem_mem hql)
    rw [pickF]
    split
    · rw [sumGo, if_pos (by omega), g]
      exact pickF_ok pk hl k (q + 1) (q : Int) (acc + l[q]) (by omega) (by omega) (by omega)
    · exact pickF_ok pk hl k (q + 1) last acc (by omega) (by omega) h2
theorem manyL_bd (n : Int) : manyL n ≤ 8 := by
  have := aroundL_bd n 9 (by omega)
  unfold manyL; omega
/-- Questions of the generator are valid. -/
theorem okQ_gen (l m : List Int) (n : Int) (c : Int) (h : 0 ≤ c ∧ c ≤ 2048) : OkQ (stepsL l (manyL n) 12) (stepsL m (manyL n) 40) c := by
  obtain ⟨l1, l2⟩ := stepsL_bd l (manyL n) 12 (by omega)
  obtain ⟨m1, m2⟩ := stepsL_bd m (manyL n) 40 (by omega)
  have := manyL_bd n
  exact ⟨by omega, by omega, fun x hx => by have := l2 x hx; omega, fun x hx => by have := m2 x hx; omega, h⟩
theorem leastL_ok {p o : List Int} {m : Nat} (h : OkQ p o m) : leastL p o (m : Int) = (timeL p o m, setA p o m 0 m, tabA p o m, 0) := by
  unfold leastL; rw [if_pos (validL_ok.2 h), Int.toNat_natCast]
theorem checkL_ok {p o : List Int} {m : Nat} (h : OkQ p o m) (t : Int) (S : List Int) (T : List (List Int)) : checkL p o (m : Int) t S T = if t = timeL p o m ∧ T = tabA p o m ∧ 0 ≤ sumL p S ∧ sumL p S ≤ (m : Int) ∧ sumL o S = t then 0 else 19 := by
  unfold checkL; rw [if_pos (validL_ok.2 h), Int.toNat_natCast]
set_option maxRecDepth 100000 in
set_option maxHeartbeats 8000000 in
theorem AllowBest_s (l m : List Int) (n limit : Int) (pick : List Int) (hl : ∀ x ∈ l, I64 x) (hm : ∀ x ∈ m, I64 x) (h1 : I64 n) (h2 : I64 limit) (h3 : ∀ x ∈ pick, I64 x) :
    Ctr Try.prog 5 [vints l, vints m, vi n, vi limit, vints pick] (vb true) := by
  refine specC f5 (by simp) fun F0 w0 => ?_
  have sQ := questions_s l m n hl hm h1
  have ca := aroundL_bd limit 40 (by omega)
  have sA := Around_s limit 40 h2 ⟨by omega, by omega⟩
  obtain ⟨c, hc⟩ : ∃ c : Nat, aroundL limit 40 = c := ⟨(aroundL limit 40).toNat, by omega⟩
  rw [hc] at sA ca
  have hok := okQ_gen l m n c (by omega)
  generalize stepsL l (manyL n) 12 = p at sQ hok
  generalize stepsL m (manyL n) 40 = o at sQ hok
  have hlen := hok.len
  have hmost := hok.most
  have hp0 : ∀ x ∈ p, 0 ≤ x := fun x hx => (hok.p x hx).1
  have ho0 : ∀ x ∈ o, 0 ≤ x := fun x hx => (hok.o x hx).1
  -- what the law says, in plain
  obtain ⟨S, hS⟩ : ∃ S, pickF pick p.length 0 = S := ⟨_, rfl⟩
  have hSl : S.length ≤ 48 := by rw [← hS]; have := pickF_len pick p.length 0; omega
  have s0 : 0 ≤ sumL p S := by rw [← hS]; exact pickF_ok pick hp0 p.length 0 (-1) 0 (by omega) (by omega) (by omega)
  have s1 : sumL p S ≤ (c : Int) → sumL o S ≤ timeL p o c := by
    intro h
    have := best_set hlen hp0 p.length 0 S 0 0 c (by omega) (by omega) (by show sumL p S ≠ -1; omega) (by show sumL p S ≤ 0 + (c : Int); omega)
    rw [timeL_best]
    have h2 : sumL o S ≤ 0 + best p o c := this
    omega
  have sb := set_best hok c p.length 0 c 0 0 (by omega) (by omega) (by omega)
  have x0 : sumL p (setA p o c 0 c) ≤ (c : Int) := by
    have h2 : sumL p (setA p o c 0 c) ≤ 0 + (c : Int) := sb.1.2
    omega
  have x1 : sumL o (setA p o c 0 c) = timeL p o c := by
    have h2 : sumL o (setA p o c 0 c) = 0 + best p o c := sb.2
    rw [timeL_best]; omega
  have xl : (setA p o c 0 c).length ≤ 48 := by have := setA_len p o c 0 c; omega
  have tl : (tabA p o c).length ≤ 1000000 ∧ ∀ x ∈ tabA p o c, x.length ≤ 1000000 := by
    have := leastL_bd p o c
    rw [leastL_ok hok] at this
    exact ⟨by have := this.2.1; dsimp only at this; omega, fun x hx => by have := this.2.2 x hx; omega⟩
  have cL := Least_s p o c (by omega) (by omega)
  rw [leastL_ok hok] at cL
  have cC := Check_s p o c (timeL p o c) S (tabA p o c) (by omega) (by omega) (by omega) tl.1 tl.2
  rw [checkL_ok hok] at cC
  have c1 := Sum_s p S hmost hok.p (by omega)
  have c2 := Sum_s o S (by omega) hok.o (by omega)
  have c3 := Sum_s p (setA p o c 0 c) hmost hok.p (by omega)
  have c4 := Sum_s o (setA p o c 0 c) (by omega) hok.o (by omega)
  rw [x1] at c4
  obtain ⟨w, hw⟩ : ∃ w : Int, (if sumL p S ≤ (c : Int) ∧ sumL o S = timeL p o c then (0 : Int) else 19) = w := ⟨_, rfl⟩
  have hw2 : (if timeL p o c = timeL p o c ∧ tabA p o c = tabA p o c ∧ 0 ≤ sumL p S ∧ sumL p S ≤ (c : Int) ∧ sumL o S = timeL p o c then (0 : Int) else 19) = w := by
    rw [← hw]
    by_cases h : sumL p S ≤ (c : Int) ∧ sumL o S = timeL p o c
    · rw [if_pos h, if_pos ⟨rfl, rfl, s0, h.1, h.2⟩]
    · rw [if_neg h, if_neg fun hh => h ⟨hh.2.2.2.1, hh.2.2.2.2⟩]
  rw [hw2] at cC
  generalize timeL p o c = t at *
  generalize setA p o c 0 c = X at *
  generalize tabA p o c = A at *
  unfold c5
  refine CwpE.cut (st := ⟨[(0, vints l), (1, vints m), (2, vi n), (3, vi limit), (4, vints pick)], []⟩) ?_ ?_
  · simp only [go_sem, List.replicate_succ, Nat.reducePow, Nat.reduceLeDiff, ↓reduceIte, reduceCtorEq, Nat.reduceLT, Nat.reduceEqDiff, Nat.reduceAdd, Nat.reduceSub, Nat.reduceMul, Int.reduceToNat]
    exact ⟨_, WkE.keep (by simp only [go_sem, List.replicate_succ, Nat.reducePow, Nat.reduceLeDiff, ↓reduceIte, reduceCtorEq, Nat.reduceLT, Nat.reduceEqDiff, Nat.reduceAdd, Nat.reduceSub, Nat.reduceMul, Int.reduceToNat]), rfl⟩
  refine CwpE.cut (st := ⟨[(3, vi limit), (4, vints pick), (11, vints p), (12, vints o)], []⟩) ?_ ?_
  · simp only [go_sem, List.replicate_succ, Nat.reducePow, Nat.reduceLeDiff, ↓reduceIte, reduceCtorEq, Nat.reduceLT, Nat.reduceEqDiff, Nat.reduceAdd, Nat.reduceSub, Nat.reduceMul, Int.reduceToNat]
    refine callT sQ rfl ?_
    simp only [go_sem, List.replicate_succ, Nat.reducePow, Nat.reduceLeDiff, ↓reduceIte, reduceCtorEq, Nat.reduceLT, Nat.reduceEqDiff, Nat.reduceAdd, Nat.reduceSub, Nat.reduceMul, Int.reduceToNat]
    exact ⟨_, WkE.keep (by simp only [go_sem, List.replicate_succ, Nat.reducePow, Nat.reduceLeDiff, ↓reduceIte, reduceCtorEq, Nat.reduceLT, Nat.reduceEqDiff, Nat.reduceAdd, Nat.reduceSub, Nat.reduceMul, Int.reduceToNat]), rfl⟩
  refine CwpE.cut (st := ⟨[(4, vints pick), (11, vints p), (12, vints o), (13, vi c)], []⟩) ?_ ?_
  · simp only [go_sem, List.replicate_succ, Nat.reducePow, Nat.reduceLeDiff, ↓reduceIte, reduceCtorEq, Nat.reduceLT, Nat.reduceEqDiff, Nat.reduceAdd, Nat.reduceSub, Nat.reduceMul, Int.reduceToNat]
    refine callT sA rfl ?_
    simp only [go_sem, List.replicate_succ, Nat.reducePow, Nat.reduceLeDiff, ↓reduceIte, reduceCtorEq, Nat.reduceLT, Nat.reduceEqDiff, Nat.reduceAdd, Nat.reduceSub, Nat.reduceMul, Int.reduceToNat]
    exact ⟨_, WkE.keep (by simp only [go_sem, List.replicate_succ, Nat.reducePow, Nat.reduceLeDiff, ↓reduceIte, reduceCtorEq, Nat.reduceLT, Nat.reduceEqDiff, Nat.reduceAdd, Nat.reduceSub, Nat.reduceMul, Int.reduceToNat]), rfl⟩
  refine CwpE.cut (st := ⟨[(4, vints pick), (11, vints p), (12, vints o), (13, vi c), (14, .ref 0 1 0 0), (15, vi 0)], [.arr 1 3 30 [certV t X A]]⟩) ?_ ?_
  · simp only [go_sem, List.replicate_succ, Nat.reducePow, Nat.reduceLeDiff, ↓reduceIte, reduceCtorEq, Nat.reduceLT, Nat.reduceEqDiff, Nat.reduceAdd, Nat.reduceSub, Nat.reduceMul, Int.reduceToNat]
    refine callT cL rfl ?_
    simp only [go_sem, List.replicate_succ, Nat.reducePow, Nat.reduceLeDiff, ↓reduceIte, reduceCtorEq, Nat.reduceLT, Nat.reduceEqDiff, Nat.reduceAdd, Nat.reduceSub, Nat.reduceMul, Int.reduceToNat, List.drop_succ_cons]
    exact ⟨_, WkE.keep (by simp only [go_sem, List.replicate_succ, Nat.reducePow, Nat.reduceLeDiff, ↓reduceIte, reduceCtorEq, Nat.reduceLT, Nat.reduceEqDiff, Nat.reduceAdd, Nat.reduceSub, Nat.reduceMul, Int.reduceToNat]), rfl⟩
  refine CwpE.cut (st := ⟨[(4, vints pick), (11, vints p), (12, vints o), (13, vi c), (14, .ref 0 1 0 0)], [.arr 1 3 30 [certV t X A]]⟩) ?_ ?_
  · simp only [go_sem, List.replicate_succ, Nat.reducePow, Nat.reduceLeDiff, ↓reduceIte, reduceCtorEq, Nat.reduceLT, Nat.reduceEqDiff, Nat.reduceAdd, Nat.reduceSub, Nat.reduceMul, Int.reduceToNat]
    exact ⟨_, WkE.keep (by simp only [go_sem, List.replicate_succ, Nat.reducePow, Nat.reduceLeDiff, ↓reduceIte, reduceCtorEq, Nat.reduceLT, Nat.reduceEqDiff, Nat.reduceAdd, Nat.reduceSub, Nat.reduceMul, Int.reduceToNat]), rfl⟩
  refine CwpE.cut (st := ⟨[(4, vints pick), (11, vints p), (12, vints o), (13, vi c), (14, .ref 0 1 0 0), (16, nilV)], [.arr 1 3 30 [certV t X A]]⟩) ?_ ?_
  · simp only [go_sem, List.replicate_succ, Nat.reducePow, Nat.reduceLeDiff, ↓reduceIte, reduceCtorEq, Nat.reduceLT, Nat.reduceEqDiff, Nat.reduceAdd, Nat.reduceSub, Nat.reduceMul, Int.reduceToNat]
    exact ⟨_, WkE.keep (by simp only [go_sem, List.replicate_succ, Nat.reducePow, Nat.reduceLeDiff, ↓reduceIte, reduceCtorEq, Nat.reduceLT, Nat.reduceEqDiff, Nat.reduceAdd, Nat.reduceSub, Nat.reduceMul, Int.reduceToNat]), rfl⟩
  refine CwpE.cut (st := ⟨[(11, vints p), (12, vints o), (13, vi c), (14, .ref 0 1 0 0), (16, vints S)], [.arr 1 3 30 [certV t X A]]⟩) ?_ ?_
  · simp only [go_sem, List.replicate_succ, Nat.reducePow, Nat.reduceLeDiff, ↓reduceIte, reduceCtorEq, Nat.reduceLT, Nat.reduceEqDiff, Nat.reduceAdd, Nat.reduceSub, Nat.reduceMul, Int.reduceToNat]
    refine loopXC 0 (fun m' s => ∃ (i : Nat) (acc : List Int), m' = p.length - i ∧ i ≤ p.length ∧ acc.length ≤ i ∧ acc ++ pickF pick (p.length - i) i = S ∧
        s = ⟨[(4, vints pick), (11, vints p), (12, vints o), (13, vi c), (14, .ref 0 1 0 0), (16, ownV 1 acc.length), (17, vi i)], [.arr 1 3 30 [certV t X A], .arr acc.length 1 3 (acc.map vi)]⟩)
      (fun s => s = ⟨[(11, vints p), (12, vints o), (13, vi c), (14, .ref 0 1 0 0), (16, vints S)], [.arr 1 3 30 [certV t X A]]⟩) p.length
      ⟨[(4, vints pick), (11, vints p), (12, vints o), (13, vi c), (14, .ref 0 1 0 0), (16, ownV 1 0), (17, vi (0 : Nat))], [.arr 1 3 30 [certV t X A], .arr 0 1 3 []]⟩ ((WkE.nil 16 1 3 (by omega) rfl).trans (WkE.keep (by simp only [go_sem, List.replicate_succ, Nat.reducePow, Nat.reduceLeDiff, ↓reduceIte, reduceCtorEq, Nat.reduceLT, Nat.reduceEqDiff, Nat.reduceAdd, Nat.reduceSub, Nat.reduceMul, Int.reduceToNat]; rfl))) ⟨0, [], by omega, by omega, by simp, by simpa using hS, rfl⟩ ?_ ?_
    rotate_left
    · rintro s rfl
      simp only [go_sem, List.replicate_succ, Nat.reducePow, Nat.reduceLeDiff, ↓reduceIte, reduceCtorEq, Nat.reduceLT, Nat.reduceEqDiff, Nat.reduceAdd, Nat.reduceSub, Nat.reduceMul, Int.reduceToNat]
      exact ⟨_, .refl _ _, rfl⟩
    rintro m' s ⟨i, acc, rfl, hi, hacc, hE, rfl⟩
    refine CwpE.vc ?_
    by_cases hlt : i < p.length
    rotate_left
    · obtain rfl : i = p.length := by omega
      rw [Nat.sub_self, pickF, List.append_nil] at hE
      subst hE
      simp only [go_sem, List.replicate_succ, Nat.reducePow, Nat.reduceLeDiff, ↓reduceIte, reduceCtorEq, Nat.reduceLT, Nat.reduceEqDiff, Nat.reduceAdd, Nat.reduceSub, Nat.reduceMul, Int.reduceToNat, Int.lt_irrefl]
      refine ⟨_, (WkE.keep (env' := [(11, vints p), (12, vints o), (13, vi c), (14, .ref 0 1 0 0), (16, ownV 1 acc.length)]) (by simp only [go_sem, List.replicate_succ, Nat.reducePow, Nat.reduceLeDiff, ↓reduceIte, reduceCtorEq, Nat.reduceLT, Nat.reduceEqDiff, Nat.reduceAdd, Nat.reduceSub, Nat.reduceMul, Int.reduceToNat])).trans ((WkE.freeze 16 1 acc.length 0 acc.length 1 3 (acc.map vi) (by omega) rfl rfl (by simp) (by simp [List.all_map, AV.isT, AV.isT1])).trans (WkE.round ?_ (by simp [AV.inn, AV.inn1]) (by simp [AObj.innO, AV.inn, AV.inn1]) (by simp))), rfl⟩
      simp only [go_sem, List.replicate_succ, Nat.reducePow, Nat.reduceLeDiff, ↓reduceIte, reduceCtorEq, Nat.reduceLT, Nat.reduceEqDiff, Nat.reduceAdd, Nat.reduceSub, Nat.reduceMul, Int.reduceToNat]
    have g0 : (0 : Int) ≤ (i : Int) := by omega
    have g1 : (i : Int) < (p.length : Int) := by omega
    have w1 : IntKind.i64.wrap ((i : Int) + 1) = ((i + 1 : Nat) : Int) := by rw [wrap_id (by omega) (by omega)]; omega
    rw [show p.length - i = (p.length - (i + 1)) + 1 by omega, pickF] at hE
    simp only [go_sem, List.replicate_succ, Nat.reducePow, Nat.reduceLeDiff, ↓reduceIte, reduceCtorEq, Nat.reduceLT, Nat.reduceEqDiff, Nat.reduceAdd, Nat.reduceSub, Nat.reduceMul, Int.reduceToNat, g1]
    refine callT (At_s pick i 2 h3 ⟨by omega, by omega⟩) rfl ?_
    by_cases h : atL pick i 2 = 1
    · rw [if_pos h] at hE
      have h' := eq_true h
      have hb : (acc.length + 1) * 8 ≤ 140737488355328 := by omega
      have htk : List.take acc.length (acc.map vi) = acc.map vi := List.take_of_length_le (by simp)
      simp only [go_sem, List.replicate_succ, Nat.reducePow, Nat.reduceLeDiff, ↓reduceIte, reduceCtorEq, Nat.reduceLT, Nat.reduceEqDiff, Nat.reduceAdd, Nat.reduceSub, Nat.reduceMul, Int.reduceToNat, h', w1, hb, htk]
      refine ⟨p.length - (i + 1), ⟨[(4, vints pick), (11, vints p), (12, vints o), (13, vi c), (14, .ref 0 1 0 0), (16, ownV 1 (acc ++ [(i : Int)]).length), (17, vi (i + 1 : Nat))], [.arr 1 3 30 [certV t X A], .arr (acc ++ [(i : Int)]).length 1 3 ((acc ++ [(i : Int)]).map vi)]⟩, by omega, ?_, i + 1, acc ++ [(i : Int)], rfl, by omega, by simp; omega, by simpa using hE, rfl⟩
      rw [List.map_append, List.length_append]
      exact WkE.keep (by simp only [go_sem, List.replicate_succ, Nat.reducePow, Nat.reduceLeDiff, ↓reduceIte, reduceCtorEq, Nat.reduceLT, Nat.reduceEqDiff, Nat.reduceAdd, Nat.reduceSub, Nat.reduceMul, Int.reduceToNat])
    · rw [if_neg h] at hE
      have h' := eq_false h
      simp only [go_sem, List.replicate_succ, Nat.reducePow, Nat.reduceLeDiff, ↓reduceIte, reduceCtorEq, Nat.reduceLT, Nat.reduceEqDiff, Nat.reduceAdd, Nat.reduceSub, Nat.reduceMul, Int.reduceToNat, h', w1]
      exact ⟨p.length - (i + 1), ⟨[(4, vints pick), (11, vints p), (12, vints o), (13, vi c), (14, .ref 0 1 0 0), (16, ownV 1 acc.length), (17, vi (i + 1 : Nat))], [.arr 1 3 30 [certV t X A], .arr acc.length 1 3 (acc.map vi)]⟩, by omega, WkE.keep (by simp only [go_sem, List.replicate_succ, Nat.reducePow, Nat.reduceLeDiff, ↓reduceIte, reduceCtorEq, Nat.reduceLT, Nat.reduceEqDiff, Nat.reduceAdd, Nat.reduceSub, Nat.reduceMul, Int.reduceToNat]), i + 1, acc, rfl, by omega, by omega, hE, rfl⟩
  refine CwpE.cut (st := ⟨[(11, vints p), (12, vints o), (13, vi c), (14, .ref 0 1 0 0), (16, vints S), (18, vi (sumL p S))], [.arr 1 3 30 [certV t X A]]⟩) ?_ ?_
  · simp only [go_sem, List.replicate_succ, Nat.reducePow, Nat.reduceLeDiff, ↓reduceIte, reduceCtorEq, Nat.reduceLT, Nat.reduceEqDiff, Nat.reduceAdd, Nat.reduceSub, Nat.reduceMul, Int.reduceToNat]
    refine callT c1 rfl ?_
    simp only [go_sem, List.replicate_succ, Nat.reducePow, Nat.reduceLeDiff, ↓reduceIte, reduceCtorEq, Nat.reduceLT, Nat.reduceEqDiff, Nat.reduceAdd, Nat.reduceSub, Nat.reduceMul, Int.reduceToNat]
    exact ⟨_, WkE.keep (by simp only [go_sem, List.replicate_succ, Nat.reducePow, Nat.reduceLeDiff, ↓reduceIte, reduceCtorEq, Nat.reduceLT, Nat.reduceEqDiff, Nat.reduceAdd, Nat.reduceSub, Nat.reduceMul, Int.reduceToNat]), rfl⟩
  refine CwpE.cut (st := ⟨[(11, vints p), (12, vints o), (13, vi c), (14, .ref 0 1 0 0), (16, vints S), (18, vi (sumL p S)), (19, vi (sumL o S))], [.arr 1 3 30 [certV t X A]]⟩) ?_ ?_
  · simp only [go_sem, List.replicate_succ, Nat.reducePow, Nat.reduceLeDiff, ↓reduceIte, reduceCtorEq, Nat.reduceLT, Nat.reduceEqDiff, Nat.reduceAdd, Nat.reduceSub, Nat.reduceMul, Int.reduceToNat]
    refine callT c2 rfl ?_
    simp only [go_sem, List.replicate_succ, Nat.reducePow, Nat.reduceLeDiff, ↓reduceIte, reduceCtorEq, Nat.reduceLT, Nat.reduceEqDiff, Nat.reduceAdd, Nat.reduceSub, Nat.reduceMul, Int.reduceToNat]
    exact ⟨_, WkE.keep (by simp only [go_sem, List.replicate_succ, Nat.reducePow, Nat.reduceLeDiff, ↓reduceIte, reduceCtorEq, Nat.reduceLT, Nat.reduceEqDiff, Nat.reduceAdd, Nat.reduceSub, Nat.reduceMul, Int.reduceToNat]), rfl⟩
  generalize sumL p S = sp at *
  generalize sumL o S = so at *
  refine CwpE.cut (st := ⟨[(11, vints p), (12, vints o), (13, vi c), (14, .ref 0 1 0 0), (16, vints S), (18, vi sp), (19, vi so), (20, vi 19)], [.arr 1 3 30 [certV t X A]]⟩) ?_ ?_
  · simp only [go_sem, List.replicate_succ, Nat.reducePow, Nat.reduceLeDiff, ↓reduceIte, reduceCtorEq, Nat.reduceLT, Nat.reduceEqDiff, Nat.reduceAdd, Nat.reduceSub, Nat.reduceMul, Int.reduceToNat]
    exact ⟨_, WkE.keep (by simp only [go_sem, List.replicate_succ, Nat.reducePow, Nat.reduceLeDiff, ↓reduceIte, reduceCtorEq, Nat.reduceLT, Nat.reduceEqDiff, Nat.reduceAdd, Nat.reduceSub, Nat.reduceMul, Int.reduceToNat]), rfl⟩
  refine CwpE.cut (st := ⟨[(11, vints p), (12, vints o), (13, vi c), (14, .ref 0 1 0 0), (16, vints S), (18, vi sp), (19, vi so), (20, vi w)], [.arr 1 3 30 [certV t X A]]⟩) ?_ ?_
  · by_cases hA : sp ≤ (c : Int)
    · by_cases hB : so = t
      · rw [if_pos ⟨hA, hB⟩] at hw
        subst hw
        have hB' := eq_true hB
        simp only [go_sem, List.replicate_succ, Nat.reducePow, Nat.reduceLeDiff, ↓reduceIte, reduceCtorEq, Nat.reduceLT, Nat.reduceEqDiff, Nat.reduceAdd, Nat.reduceSub, Nat.reduceMul, Int.reduceToNat, hA, List.drop_succ_cons, hB']
        exact ⟨_, WkE.keep (by simp only [go_sem, List.replicate_succ, Nat.reducePow, Nat.reduceLeDiff, ↓reduceIte, reduceCtorEq, Nat.reduceLT, Nat.reduceEqDiff, Nat.reduceAdd, Nat.reduceSub, Nat.reduceMul, Int.reduceToNat]), rfl⟩
      · rw [if_neg (fun h => hB h.2)] at hw
        subst hw
        have hB' := eq_false hB
        simp only [go_sem, List.replicate_succ, Nat.reducePow, Nat.reduceLeDiff, ↓reduceIte, reduceCtorEq, Nat.reduceLT, Nat.reduceEqDiff, Nat.reduceAdd, Nat.reduceSub, Nat.reduceMul, Int.reduceToNat, hA, List.drop_succ_cons, hB']
        exact ⟨_, WkE.keep (by simp only [go_sem, List.replicate_succ, Nat.reducePow, Nat.reduceLeDiff, ↓reduceIte, reduceCtorEq, Nat.reduceLT, Nat.reduceEqDiff, Nat.reduceAdd, Nat.reduceSub, Nat.reduceMul, Int.reduceToNat]), rfl⟩
    · rw [if_neg (fun h => hA h.1)] at hw
      subst hw
      simp only [go_sem, List.replicate_succ, Nat.reducePow, Nat.reduceLeDiff, ↓reduceIte, reduceCtorEq, Nat.reduceLT, Nat.reduceEqDiff, Nat.reduceAdd, Nat.reduceSub, Nat.reduceMul, Int.reduceToNat, hA]
      exact ⟨_, WkE.keep (by simp only [go_sem, List.replicate_succ, Nat.reducePow, Nat.reduceLeDiff, ↓reduceIte, reduceCtorEq, Nat.reduceLT, Nat.reduceEqDiff, Nat.reduceAdd, Nat.reduceSub, Nat.reduceMul, Int.reduceToNat]), rfl⟩
  refine CwpE.cut (st := ⟨[(11, vints p), (12, vints o), (13, vi c), (14, .ref 0 1 0 0), (16, vints S), (18, vi sp), (19, vi so), (20, vi w), (21, .ref 1 1 0 0)], [.arr 1 3 30 [certV t X A], .arr 1 3 30 [certV t X A]]⟩) ?_ ?_
  · simp only [go_sem, List.replicate_succ, Nat.reducePow, Nat.reduceLeDiff, ↓reduceIte, reduceCtorEq, Nat.reduceLT, Nat.reduceEqDiff, Nat.reduceAdd, Nat.reduceSub, Nat.reduceMul, Int.reduceToNat, List.drop_succ_cons]
    exact ⟨_, WkE.keep (by simp only [go_sem, List.replicate_succ, Nat.reducePow, Nat.reduceLeDiff, ↓reduceIte, reduceCtorEq, Nat.reduceLT, Nat.reduceEqDiff, Nat.reduceAdd, Nat.reduceSub, Nat.reduceMul, Int.reduceToNat]), rfl⟩
  refine CwpE.cut (st := ⟨[(11, vints p), (12, vints o), (13, vi c), (14, .ref 0 1 0 0), (18, vi sp), (19, vi so), (20, vi w), (21, .ref 1 1 0 0)], [.arr 1 3 30 [certV t X A], .arr 1 3 30 [certV t S A]]⟩) ?_ ?_
  · simp only [go_sem, List.replicate_succ, Nat.reducePow, Nat.reduceLeDiff, ↓reduceIte, reduceCtorEq, Nat.reduceLT, Nat.reduceEqDiff, Nat.reduceAdd, Nat.reduceSub, Nat.reduceMul, Int.reduceToNat, List.drop_succ_cons]
    exact ⟨_, WkE.keep (by simp only [go_sem, List.replicate_succ, Nat.reducePow, Nat.reduceLeDiff, ↓reduceIte, reduceCtorEq, Nat.reduceLT, Nat.reduceEqDiff, Nat.reduceAdd, Nat.reduceSub, Nat.reduceMul, Int.reduceToNat]), rfl⟩
  refine CwpE.cut (st := ⟨[(11, vints p), (12, vints o), (13, vi c), (14, .ref 0 1 0 0), (18, vi sp), (19, vi so)], [.arr 1 3 30 [certV t X A]]⟩) ?_ ?_
  · simp only [go_sem, List.replicate_succ, Nat.reducePow, Nat.reduceLeDiff, ↓reduceIte, reduceCtorEq, Nat.reduceLT, Nat.reduceEqDiff, Nat.reduceAdd, Nat.reduceSub, Nat.reduceMul, Int.reduceToNat, List.drop_succ_cons]
    refine callT cC rfl ?_
    have ww : (w = w) = True := eq_true rfl
    simp only [go_sem, List.replicate_succ, Nat.reducePow, Nat.reduceLeDiff, ↓reduceIte, reduceCtorEq, Nat.reduceLT, Nat.reduceEqDiff, Nat.reduceAdd, Nat.reduceSub, Nat.reduceMul, Int.reduceToNat, ww]
    exact ⟨_, WkE.round (env' := [(11, vints p), (12, vints o), (13, vi c), (14, .ref 0 1 0 0), (18, vi sp), (19, vi so)]) (by simp only [go_sem, List.replicate_succ, Nat.reducePow, Nat.reduceLeDiff, ↓reduceIte, reduceCtorEq, Nat.reduceLT, Nat.reduceEqDiff, Nat.reduceAdd, Nat.reduceSub, Nat.reduceMul, Int.reduceToNat]) (by simp [AV.inn, AV.inn1]) (by simp [AObj.innO, AV.inn, AV.inn1]) rfl, rfl⟩
  refine CwpE.vc ?_
  have tt : (t = t) = True := eq_true rfl
  by_cases hA : (c : Int) < sp
  · simp only [go_sem, List.replicate_succ, Nat.reducePow, Nat.reduceLeDiff, ↓reduceIte, reduceCtorEq, Nat.reduceLT, Nat.reduceEqDiff, Nat.reduceAdd, Nat.reduceSub, Nat.reduceMul, Int.reduceToNat, hA, List.drop_succ_cons]
    refine callT c3 rfl ?_
    simp only [go_sem, List.replicate_succ, Nat.reducePow, Nat.reduceLeDiff, ↓reduceIte, reduceCtorEq, Nat.reduceLT, Nat.reduceEqDiff, Nat.reduceAdd, Nat.reduceSub, Nat.reduceMul, Int.reduceToNat, x0, List.drop_succ_cons]
    refine callT c4 rfl ?_
    simp only [go_sem, List.replicate_succ, Nat.reducePow, Nat.reduceLeDiff, ↓reduceIte, reduceCtorEq, Nat.reduceLT, Nat.reduceEqDiff, Nat.reduceAdd, Nat.reduceSub, Nat.reduceMul, Int.reduceToNat, tt, List.drop_succ_cons]
    refine callT lives_s rfl ?_
    simp only [go_sem, List.replicate_succ, Nat.reducePow, Nat.reduceLeDiff, ↓reduceIte, reduceCtorEq, Nat.reduceLT, Nat.reduceEqDiff, Nat.reduceAdd, Nat.reduceSub, Nat.reduceMul, Int.reduceToNat]
    exact .tree _ rfl
  · have hB : so ≤ t := s1 (by omega)
    simp only [go_sem, List.replicate_succ, Nat.reducePow, Nat.reduceLeDiff, ↓reduceIte, reduceCtorEq, Nat.reduceLT, Nat.reduceEqDiff, Nat.reduceAdd, Nat.reduceSub, Nat.reduceMul, Int.reduceToNat, hA, hB, List.drop_succ_cons]
    refine callT c3 rfl ?_
    simp only [go_sem, List.replicate_succ, Nat.reducePow, Nat.reduceLeDiff, ↓reduceIte, reduceCtorEq, Nat.reduceLT, Nat.reduceEqDiff, Nat.reduceAdd, Nat.reduceSub, Nat.reduceMul, Int.reduceToNat, x0, List.drop_succ_cons]
    refine callT c4 rfl ?_
    simp only [go_sem, List.replicate_succ, Nat.reducePow, Nat.reduceLeDiff, ↓reduceIte, reduceCtorEq, Nat.reduceLT, Nat.reduceEqDiff, Nat.reduceAdd, Nat.reduceSub, Nat.reduceMul, Int.reduceToNat, tt, List.drop_succ_cons]
    refine callT lives_s rfl ?_
    simp only [go_sem, List.replicate_succ, Nat.reducePow, Nat.reduceLeDiff, ↓reduceIte, reduceCtorEq, Nat.reduceLT, Nat.reduceEqDiff, Nat.reduceAdd, Nat.reduceSub, Nat.reduceMul, Int.reduceToNat]
    exact .tree _ rfl
end Go.Proofs.Ytphcaelkpgdbcaa
