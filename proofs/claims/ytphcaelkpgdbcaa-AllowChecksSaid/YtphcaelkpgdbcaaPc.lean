/- The generators of chapter 32, by contract. -/
import Derived.Test.YtphcaelkpgdbcaaPb
set_option linter.unusedSimpArgs false
set_option linter.unusedVariables false
set_option linter.unusedSectionVars false
namespace Go.Proofs.Ytphcaelkpgdbcaa
open Go.RowKit Dak
/-- dactylref32.Steps -/
def stepsL (l : List Int) (n : Nat) (most : Int) : List Int := (List.range n).map fun i : Nat => atL l i most
theorem stepsL_bd (l : List Int) (n : Nat) (most : Int) (h : 1 ≤ most) : (stepsL l n most).length = n ∧ ∀ x ∈ stepsL l n most, 0 ≤ x ∧ x < most := by
  refine ⟨by simp [stepsL], fun x hx => ?_⟩
  obtain ⟨i, _, rfl⟩ := List.mem_map.1 hx
  exact atL_bd l i most h
set_option maxRecDepth 100000 in
theorem Steps_s (l : List Int) (n : Nat) (most : Int) (hl : ∀ x ∈ l, I64 x) (hn : n ≤ 1000) (h1 : 1 ≤ most) (h2 : most ≤ 1000) : Ctr Try.prog 24 [vints l, vi n, vi most] (vints (stepsL l n most)) := by
  refine specC f24 (by simp) fun F0 w0 => ?_
  obtain ⟨G, hG⟩ : ∃ G : Nat → List Int, G = fun i => (List.range i).map fun i : Nat => atL l i most := ⟨_, rfl⟩
  have hK : stepsL l n most = G n := by rw [hG]; rfl
  have hGl : ∀ i, (G i).length = i := fun i => by rw [hG]; simp
  have hGs : ∀ i : Nat, G (i + 1) = G i ++ [atL l i most] := fun i => by rw [hG]; simp [List.range_succ]
  rw [hK]
  clear hK
  unfold c24
  refine CwpE.cut (st := ⟨[(0, vints l), (1, vi n), (2, vi most)], []⟩) ?_ ?_
  · simp only [go_sem, List.replicate_succ, Nat.reducePow, Nat.reduceLeDiff, ↓reduceIte, reduceCtorEq, Nat.reduceLT, Nat.reduceEqDiff, Nat.reduceAdd, Nat.reduceSub, Nat.reduceMul, Int.reduceToNat]
    exact ⟨_, WkE.keep (by simp only [go_sem, List.replicate_succ, Nat.reducePow, Nat.reduceLeDiff, ↓reduceIte, reduceCtorEq, Nat.reduceLT, Nat.reduceEqDiff, Nat.reduceAdd, Nat.reduceSub, Nat.reduceMul, Int.reduceToNat]), rfl⟩
  refine CwpE.cut (st := ⟨[(0, vints l), (1, vi n), (2, vi most), (7, .val (.slice none 0 0))], []⟩) ?_ ?_
  · simp only [go_sem, List.replicate_succ, Nat.reducePow, Nat.reduceLeDiff, ↓reduceIte, reduceCtorEq, Nat.reduceLT, Nat.reduceEqDiff, Nat.reduceAdd, Nat.reduceSub, Nat.reduceMul, Int.reduceToNat]
    exact ⟨_, WkE.keep (by simp only [go_sem, List.replicate_succ, Nat.reducePow, Nat.reduceLeDiff, ↓reduceIte, reduceCtorEq, Nat.reduceLT, Nat.reduceEqDiff, Nat.reduceAdd, Nat.reduceSub, Nat.reduceMul, Int.reduceToNat]), rfl⟩
  refine CwpE.cut (st := ⟨[(7, vints (G n))], []⟩) ?_ ?_
  · simp only [go_sem, List.replicate_succ, Nat.reducePow, Nat.reduceLeDiff, ↓reduceIte, reduceCtorEq, Nat.reduceLT, Nat.reduceEqDiff, Nat.reduceAdd, Nat.reduceSub, Nat.reduceMul, Int.reduceToNat]
    refine loopXC 0 (fun m s => ∃ i : Nat, m = n - i ∧ i ≤ n ∧ s = ⟨[(0, vints l), (1, vi n), (2, vi most), (7, ownV 0 i), (8, vi i)], [.arr i 1 3 ((G i).map vi)]⟩)
      (fun s => s = ⟨[(7, vints (G n))], []⟩) n
      ⟨[(0, vints l), (1, vi n), (2, vi most), (7, ownV 0 0), (8, vi (0 : Nat))], [.arr 0 1 3 []]⟩ ((WkE.nil 7 1 3 (by omega) rfl).trans (WkE.keep (by simp only [go_sem, List.replicate_succ, Nat.reducePow, Nat.reduceLeDiff, ↓reduceIte, reduceCtorEq, Nat.reduceLT, Nat.reduceEqDiff, Nat.reduceAdd, Nat.reduceSub, Nat.reduceMul, Int.reduceToNat]; rfl))) ⟨0, by omega, by omega, by rw [hG]; rfl⟩ ?_ ?_
    rotate_left
    · rintro s rfl
      simp only [go_sem, List.replicate_succ, Nat.reducePow, Nat.reduceLeDiff, ↓reduceIte, reduceCtorEq, Nat.reduceLT, Nat.reduceEqDiff, Nat.reduceAdd, Nat.reduceSub, Nat.reduceMul, Int.reduceToNat]
      exact ⟨_, .refl _ _, rfl⟩
    rintro m s ⟨i, rfl, hi, rfl⟩
    refine CwpE.vc ?_
    by_cases hlt : i < n
    rotate_left
    · obtain rfl : i = n := by omega
      simp only [go_sem, List.replicate_succ, Nat.reducePow, Nat.reduceLeDiff, ↓reduceIte, reduceCtorEq, Nat.reduceLT, Nat.reduceEqDiff, Nat.reduceAdd, Nat.reduceSub, Nat.reduceMul, Int.reduceToNat, Int.lt_irrefl]
      refine ⟨_, (WkE.freeze 7 0 i 0 i 1 3 ((G i).map vi) (by omega) rfl rfl (by simp [hGl]) (by simp [List.all_map, AV.isT, AV.isT1])).trans (WkE.round ?_ (by simp [AV.inn, AV.inn1]) (by simp) (by simp)), rfl⟩
      simp only [go_sem, List.replicate_succ, Nat.reducePow, Nat.reduceLeDiff, ↓reduceIte, reduceCtorEq, Nat.reduceLT, Nat.reduceEqDiff, Nat.reduceAdd, Nat.reduceSub, Nat.reduceMul, Int.reduceToNat]
      exact congrArg (AV.list 1) (List.take_of_length_le (by simp [hGl]))
    have g : (i : Int) < (n : Int) := by omega
    have w2 : IntKind.i64.wrap ((i : Int) + 1) = ((i + 1 : Nat) : Int) := by rw [wrap_id (by omega) (by omega)]; omega
    have hb : (i + 1) * 8 ≤ 140737488355328 := by omega
    have htk : List.take i ((G i).map vi) = (G i).map vi := List.take_of_length_le (by simp [hGl])
    have hgl := hGl i
    simp only [go_sem, List.replicate_succ, Nat.reducePow, Nat.reduceLeDiff, ↓reduceIte, reduceCtorEq, Nat.reduceLT, Nat.reduceEqDiff, Nat.reduceAdd, Nat.reduceSub, Nat.reduceMul, Int.reduceToNat, g]
    refine callT (At_s l i most hl ⟨by omega, by omega⟩) rfl ?_
    simp only [go_sem, List.replicate_succ, Nat.reducePow, Nat.reduceLeDiff, ↓reduceIte, reduceCtorEq, Nat.reduceLT, Nat.reduceEqDiff, Nat.reduceAdd, Nat.reduceSub, Nat.reduceMul, Int.reduceToNat, w2, hb, htk, hgl]
    refine ⟨n - (i + 1), ⟨[(0, vints l), (1, vi n), (2, vi most), (7, ownV 0 (i + 1)), (8, vi (i + 1 : Nat))], [.arr (i + 1) 1 3 ((G (i + 1)).map vi)]⟩, by omega, ?_, i + 1, rfl, by omega, rfl⟩
    rw [hGs, List.map_append]
    exact WkE.keep (by simp only [go_sem, List.replicate_succ, Nat.reducePow, Nat.reduceLeDiff, ↓reduceIte, reduceCtorEq, Nat.reduceLT, Nat.reduceEqDiff, Nat.reduceAdd, Nat.reduceSub, Nat.reduceMul, Int.reduceToNat])
  refine CwpE.vc ?_
  simp only [go_sem, List.replicate_succ, Nat.reducePow, Nat.reduceLeDiff, ↓reduceIte, reduceCtorEq, Nat.reduceLT, Nat.reduceEqDiff, Nat.reduceAdd, Nat.reduceSub, Nat.reduceMul, Int.reduceToNat]
  exact .tree _ rfl
/-- dactyllaw32.questions -/
abbrev manyL (n : Int) : Nat := (aroundL n 9).toNat
theorem questions_s (l m : List Int) (n : Int) (hl : ∀ x ∈ l, I64 x) (hm : ∀ x ∈ m, I64 x) (hn : I64 n) : Ctr Try.prog 8 [vints l, vints m, vi n] (.tup [vints (stepsL l (manyL n) 12), vints (stepsL m (manyL n) 40)]) := by
  refine specE f8 (by simp) fun F0 w0 => ?_
  have a1 := aroundL_bd n 9 (by omega)
  have s1 := Around_s n 9 hn ⟨by omega, by omega⟩
  obtain ⟨k, hk⟩ : ∃ k, manyL n = k := ⟨_, rfl⟩
  have hk2 : (aroundL n 9).toNat = k := hk
  have hk' : aroundL n 9 = (k : Int) := by omega
  rw [hk'] at s1
  rw [hk]
  simp only [c8, go_sem, List.replicate_succ, Nat.reducePow, Nat.reduceLeDiff, ↓reduceIte, reduceCtorEq, Nat.reduceLT, Nat.reduceEqDiff, Nat.reduceAdd, Nat.reduceSub, Nat.reduceMul, Int.reduceToNat]
  refine callT s1 rfl ?_
  simp only [go_sem, List.replicate_succ, Nat.reducePow, Nat.reduceLeDiff, ↓reduceIte, reduceCtorEq, Nat.reduceLT, Nat.reduceEqDiff, Nat.reduceAdd, Nat.reduceSub, Nat.reduceMul, Int.reduceToNat]
  refine callT (Steps_s l k 12 hl (by omega) (by omega) (by omega)) rfl ?_
  simp only [go_sem, List.replicate_succ, Nat.reducePow, Nat.reduceLeDiff, ↓reduceIte, reduceCtorEq, Nat.reduceLT, Nat.reduceEqDiff, Nat.reduceAdd, Nat.reduceSub, Nat.reduceMul, Int.reduceToNat]
  refine callT (Steps_s m k 40 hm (by omega) (by omega) (by omega)) rfl ?_
  simp only [go_sem, List.replicate_succ, Nat.reducePow, Nat.reduceLeDiff, ↓reduceIte, reduceCtorEq, Nat.reduceLT, Nat.reduceEqDiff, Nat.reduceAdd, Nat.reduceSub, Nat.reduceMul, Int.reduceToNat]
  exact .tup _ _ rfl fun i h1 h2 => match i, h1 with | 0, _ => .tree _ rfl | 1, _ => .tree _ rfl
/-- dactyllaw32.odd -/
def oddL (l : List Int) (at_ by_ : Int) : List Int :=
  if l.length = 0 ∨ by_.tmod 3 = 0 then l ++ [1] else l.set (aroundL at_ l.length).toNat (([-1, 1000000, 1000001, by_] : List Int).getD (aroundL by_ 4).toNat 0)
set_option maxRecDepth 100000 in
theorem odd_s (l : List Int) (at_ by_ : Int) (hl : l.length ≤ 1000000) (h1 : I64 at_) (h2 : I64 by_) : Ctr Try.prog 9 [vints l, vi at_, vi by_] (vints (oddL l at_ by_)) := by
  refine specC f9 (by simp) fun F0 w0 => ?_
  have hb8 : l.length * 8 ≤ 140737488355328 := by omega
  have hb9 : (l.length + 1) * 8 ≤ 140737488355328 := by omega
  have z3 : ¬ (3 : Int) = 0 := by omega
  unfold c9
  refine CwpE.cut (st := ⟨[(0, vints l), (1, vi at_), (2, vi by_)], []⟩) ?_ ?_
  · simp only [go_sem, List.replicate_succ, Nat.reducePow, Nat.reduceLeDiff, ↓reduceIte, reduceCtorEq, Nat.reduceLT, Nat.reduceEqDiff, Nat.reduceAdd, Nat.reduceSub, Nat.reduceMul, Int.reduceToNat]
    exact ⟨_, WkE.keep (by simp only [go_sem, List.replicate_succ, Nat.reducePow, Nat.reduceLeDiff, ↓reduceIte, reduceCtorEq, Nat.reduceLT, Nat.reduceEqDiff, Nat.reduceAdd, Nat.reduceSub, Nat.reduceMul, Int.reduceToNat]), rfl⟩
  refine CwpE.cut (st := ⟨[(1, vi at_), (2, vi by_), (7, ownV 0 l.length)], [.arr l.length 1 3 (l.map vi)]⟩) ?_ ?_
  · by_cases hA0 : l.length = 0
    · obtain rfl : l = [] := List.length_eq_zero_iff.1 hA0
      simp only [go_sem, List.replicate_succ, Nat.reducePow, Nat.reduceLeDiff, ↓reduceIte, reduceCtorEq, Nat.reduceLT, Nat.reduceEqDiff, Nat.reduceAdd, Nat.reduceSub, Nat.reduceMul, Int.reduceToNat]
      exact ⟨_, WkE.keep (by simp only [go_sem, List.replicate_succ, Nat.reducePow, Nat.reduceLeDiff, ↓reduceIte, reduceCtorEq, Nat.reduceLT, Nat.reduceEqDiff, Nat.reduceAdd, Nat.reduceSub, Nat.reduceMul, Int.reduceToNat]), rfl⟩
    · simp only [go_sem, List.replicate_succ, Nat.reducePow, Nat.reduceLeDiff, ↓reduceIte, reduceCtorEq, Nat.reduceLT, Nat.reduceEqDiff, Nat.reduceAdd, Nat.reduceSub, Nat.reduceMul, Int.reduceToNat, hb8, hA0]
      exact ⟨_, WkE.keep (by simp only [go_sem, List.replicate_succ, Nat.reducePow, Nat.reduceLeDiff, ↓reduceIte, reduceCtorEq, Nat.reduceLT, Nat.reduceEqDiff, Nat.reduceAdd, Nat.reduceSub, Nat.reduceMul, Int.reduceToNat]), rfl⟩
  have fin : ∀ (r : List Int) (g : Nat), r.length = g → Snap [.arr g 1 3 (r.map vi)] (.own 0 g 0 g) (vints r) := fun r g hr => by
    subst hr
    refine .own 0 _ 0 _ 1 3 _ _ rfl (by simp) (by simp) fun j hj => ?_
    simp only [Nat.zero_add]
    exact .tree _ (by simp [AV.isT, AV.isT1])
  have app : Snap [.arr (l.length + 1) 1 3 (l.map vi ++ [vi 1])] (.own 0 (l.length + 1) 0 (l.length + 1)) (vints (l ++ [1])) := by
    have := fin (l ++ [1]) (l.length + 1) (by simp)
    rw [List.map_append] at this
    exact this
  by_cases h0 : l.length = 0
  · have h0' : ((l.length : Int) = 0) = True := eq_true (by omega)
    rw [oddL, if_pos (.inl h0)]
    refine CwpE.vc ?_
    simp only [go_sem, List.replicate_succ, Nat.reducePow, Nat.reduceLeDiff, ↓reduceIte, reduceCtorEq, Nat.reduceLT, Nat.reduceEqDiff, Nat.reduceAdd, Nat.reduceSub, Nat.reduceMul, Int.reduceToNat, h0', hb9]
    exact app
  have h0' : ¬ (l.length : Int) = 0 := by omega
  by_cases h3 : by_.tmod 3 = 0
  · have h3' := eq_true h3
    rw [oddL, if_pos (.inr h3)]
    refine CwpE.vc ?_
    simp only [go_sem, List.replicate_succ, Nat.reducePow, Nat.reduceLeDiff, ↓reduceIte, reduceCtorEq, Nat.reduceLT, Nat.reduceEqDiff, Nat.reduceAdd, Nat.reduceSub, Nat.reduceMul, Int.reduceToNat, h0', h3', z3, hb9]
    exact app
  rw [oddL, if_neg (fun h => h.elim h0 h3)]
  refine CwpE.cut (st := ⟨[(1, vi at_), (2, vi by_), (7, ownV 0 l.length)], [.arr l.length 1 3 (l.map vi)]⟩) ?_ ?_
  · simp only [go_sem, List.replicate_succ, Nat.reducePow, Nat.reduceLeDiff, ↓reduceIte, reduceCtorEq, Nat.reduceLT, Nat.reduceEqDiff, Nat.reduceAdd, Nat.reduceSub, Nat.reduceMul, Int.reduceToNat, h0', h3, z3]
    exact ⟨_, WkE.keep (by simp only [go_sem, List.replicate_succ, Nat.reducePow, Nat.reduceLeDiff, ↓reduceIte, reduceCtorEq, Nat.reduceLT, Nat.reduceEqDiff, Nat.reduceAdd, Nat.reduceSub, Nat.reduceMul, Int.reduceToNat]), rfl⟩
  have a1 := aroundL_bd at_ l.length (by omega)
  have s1 := Around_s at_ l.length h1 ⟨by omega, by omega⟩
  obtain ⟨i, hi⟩ : ∃ i : Nat, aroundL at_ l.length = i := ⟨(aroundL at_ l.length).toNat, by omega⟩
  rw [hi] at s1 a1
  rw [hi, Int.toNat_natCast]
  have a2 := aroundL_bd by_ 4 (by omega)
  have s2 := Around_s by_ 4 h2 ⟨by omega, by omega⟩
  obtain ⟨k, hk⟩ : ∃ k : Nat, aroundL by_ 4 = k := ⟨(aroundL by_ 4).toNat, by omega⟩
  rw [hk] at s2 a2
  rw [hk, Int.toNat_natCast]
  have hil : i < l.length := by omega
  have e0 : (0 : Int) ≤ (i : Int) := by omega
  have e1 : (i : Int) < (l.length : Int) := by omega
  obtain ⟨v, hv⟩ : ∃ v, ([-1, 1000000, 1000001, by_] : List Int).getD k 0 = v := ⟨_, rfl⟩
  rw [hv]
  refine CwpE.cut (st := ⟨[(7, ownV 0 l.length)], [.arr l.length 1 3 ((l.set i v).map vi)]⟩) ?_ ?_
  · simp only [go_sem, List.replicate_succ, Nat.reducePow, Nat.reduceLeDiff, ↓reduceIte, reduceCtorEq, Nat.reduceLT, Nat.reduceEqDiff, Nat.reduceAdd, Nat.reduceSub, Nat.reduceMul, Int.reduceToNat]
    refine callT s1 rfl ?_
    simp only [go_sem, List.replicate_succ, Nat.reducePow, Nat.reduceLeDiff, ↓reduceIte, reduceCtorEq, Nat.reduceLT, Nat.reduceEqDiff, Nat.reduceAdd, Nat.reduceSub, Nat.reduceMul, Int.reduceToNat]
    refine callT s2 rfl ?_
    rw [List.map_set]
    rcases (by omega : k = 0 ∨ k = 1 ∨ k = 2 ∨ k = 3) with rfl | rfl | rfl | rfl
    · obtain rfl : -1 = v := hv
      simp only [go_sem, List.replicate_succ, Nat.reducePow, Nat.reduceLeDiff, ↓reduceIte, reduceCtorEq, Nat.reduceLT, Nat.reduceEqDiff, Nat.reduceAdd, Nat.reduceSub, Nat.reduceMul, Int.reduceToNat, e0, e1, List.getElem?_map, List.getElem?_eq_getElem hil, show (0 : Int) ≤ ((0 : Nat) : Int) by omega, show ((0 : Nat) : Int) < ((4 : Nat) : Int) by omega]
      exact ⟨_, WkE.keep (by simp only [go_sem, List.replicate_succ, Nat.reducePow, Nat.reduceLeDiff, ↓reduceIte, reduceCtorEq, Nat.reduceLT, Nat.reduceEqDiff, Nat.reduceAdd, Nat.reduceSub, Nat.reduceMul, Int.reduceToNat]), rfl⟩
    · obtain rfl : 1000000 = v := hv
      simp only [go_sem, List.replicate_succ, Nat.reducePow, Nat.reduceLeDiff, ↓reduceIte, reduceCtorEq, Nat.reduceLT, Nat.reduceEqDiff, Nat.reduceAdd, Nat.reduceSub, Nat.reduceMul, Int.reduceToNat, e0, e1, List.getElem?_map, List.getElem?_eq_getElem hil, show (0 : Int) ≤ ((1 : Nat) : Int) by omega, show ((1 : Nat) : Int) < ((4 : Nat) : Int) by omega]
      exact ⟨_, WkE.keep (by simp only [go_sem, List.replicate_succ, Nat.reducePow, Nat.reduceLeDiff, ↓reduceIte, reduceCtorEq, Nat.reduceLT, Nat.reduceEqDiff, Nat.reduceAdd, Nat.reduceSub, Nat.reduceMul, Int.reduceToNat]), rfl⟩
    · obtain rfl : 1000001 = v := hv
      simp only [go_sem, List.replicate_succ, Nat.reducePow, Nat.reduceLeDiff, ↓reduceIte, reduceCtorEq, Nat.reduceLT, Nat.reduceEqDiff, Nat.reduceAdd, Nat.reduceSub, Nat.reduceMul, Int.reduceToNat, e0, e1, List.getElem?_map, List.getElem?_eq_getElem hil, show (0 : Int) ≤ ((2 : Nat) : Int) by omega, show ((2 : Nat) : Int) < ((4 : Nat) : Int) by omega]
      exact ⟨_, WkE.keep (by simp only [go_sem, List.replicate_succ, Nat.reducePow, Nat.reduceLeDiff, ↓reduceIte, reduceCtorEq, Nat.reduceLT, Nat.reduceEqDiff, Nat.reduceAdd, Nat.reduceSub, Nat.reduceMul, Int.reduceToNat]), rfl⟩
    · obtain rfl : by_ = v := hv
      simp only [go_sem, List.replicate_succ, Nat.reducePow, Nat.reduceLeDiff, ↓reduceIte, reduceCtorEq, Nat.reduceLT, Nat.reduceEqDiff, Nat.reduceAdd, Nat.reduceSub, Nat.reduceMul, Int.reduceToNat, e0, e1, List.getElem?_map, List.getElem?_eq_getElem hil, show (0 : Int) ≤ ((3 : Nat) : Int) by omega, show ((3 : Nat) : Int) < ((4 : Nat) : Int) by omega]
      exact ⟨_, WkE.keep (by simp only [go_sem, List.replicate_succ, Nat.reducePow, Nat.reduceLeDiff, ↓reduceIte, reduceCtorEq, Nat.reduceLT, Nat.reduceEqDiff, Nat.reduceAdd, Nat.reduceSub, Nat.reduceMul, Int.reduceToNat]), rfl⟩
  refine CwpE.vc ?_
  simp only [go_sem, List.replicate_succ, Nat.reducePow, Nat.reduceLeDiff, ↓reduceIte, reduceCtorEq, Nat.reduceLT, Nat.reduceEqDiff, Nat.reduceAdd, Nat.reduceSub, Nat.reduceMul, Int.reduceToNat]
  exact fin (l.set i v) l.length (by simp)
end Go.Proofs.Ytphcaelkpgdbcaa
