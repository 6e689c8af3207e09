/- A new hall. -/
import Derived.Test.YtjpknjicfoiheaaPf
set_option linter.unusedSimpArgs false
set_option linter.unusedVariables false
set_option linter.unusedSectionVars false
namespace Go.Proofs.Ytjpknjicfoiheaa
open Go.RowKit Dak
abbrev vu (n : Int) : AV := .val (.int .u64 n)
set_option maxRecDepth 100000 in
theorem Mul64_s (n : Nat) (h1 : 1 ≤ n) (h8 : n ≤ 8) : Ctr Try.prog 63 [vu 1, vu n] (.tup [vu 0, vu n]) := by
  refine specE f63 (by simp) fun F0 w0 => ?_
  have : n = 1 ∨ n = 2 ∨ n = 3 ∨ n = 4 ∨ n = 5 ∨ n = 6 ∨ n = 7 ∨ n = 8 := by omega
  rcases this with rfl | rfl | rfl | rfl | rfl | rfl | rfl | rfl <;> simp only [c63, go_sem, List.replicate_succ, Nat.reducePow, Nat.reduceLeDiff, ↓reduceIte, reduceCtorEq, Nat.reduceLT, Nat.reduceEqDiff, Nat.reduceAdd, Nat.reduceSub, Nat.reduceMul, Int.reduceToNat, Int.reduceLT, Int.reduceLE, Int.reduceEq, Int.reduceNe, Int.reduceNeg, Int.reduceToNat, Int.lt_irrefl, Int.le_refl] <;> exact .tree _ rfl
theorem Mul_s (n : Nat) (h1 : 1 ≤ n) (h8 : n ≤ 8) : Ctr Try.prog 51 [vu 1, vu n] (.tup [vu 0, vu n]) := by
  refine specE f51 (by simp) fun F0 w0 => ?_
  simp only [c51, go_sem, List.replicate_succ, Nat.reducePow, Nat.reduceLeDiff, ↓reduceIte, reduceCtorEq, Nat.reduceLT, Nat.reduceEqDiff, Nat.reduceAdd, Nat.reduceSub, Nat.reduceMul, Int.reduceToNat, Int.reduceLT, Int.reduceLE, Int.reduceEq, Int.reduceNe, Int.reduceNeg, Int.reduceToNat, Int.lt_irrefl, Int.le_refl]
  refine callT (Mul64_s n h1 h8) rfl ?_
  simp only [go_sem, List.replicate_succ, Nat.reducePow, Nat.reduceLeDiff, ↓reduceIte, reduceCtorEq, Nat.reduceLT, Nat.reduceEqDiff, Nat.reduceAdd, Nat.reduceSub, Nat.reduceMul, Int.reduceToNat, Int.reduceLT, Int.reduceLE, Int.reduceEq, Int.reduceNe, Int.reduceNeg, Int.reduceToNat, Int.lt_irrefl, Int.le_refl]
  exact .tree _ rfl
def dev1 : Dv := ⟨true, true, 0, false, false, false, false, false⟩
def dev0 : Dv := ⟨false, false, 0, false, false, false, false, false⟩
abbrev fillR (k n : Nat) : List AV := List.replicate k (vdv dev1) ++ List.replicate (n - k) (vdv dev0)
set_option maxRecDepth 100000 in
theorem Repeat_s (n : Nat) (h1 : 1 ≤ n) (h8 : n ≤ 8) : CtrN Try.prog 26 [.list 8 [vdv dev1], vi n] (.own 0 n 0 n) [.arr n 8 60 (List.replicate n (vdv dev1))] := by
  refine specN f26 (by simp) rfl (by simp [AObj.innO, AV.inn, AV.inn1]) rfl fun F0 w0 => ?_
  have n0 : ((n : Int) < 0) = False := eq_false (by omega)
  have u1 : IntKind.u64.wrap ((1 : Nat) : Int) = 1 := rfl
  have u2 : IntKind.u64.wrap (n : Int) = (n : Int) := by rw [IntKind.wrap_u64]; omega
  have u3 : IntKind.i64.wrap (n : Int) = (n : Int) := wrap_id (by omega) (by omega)
  have u4 : ((9223372036854775807 : Int) < (n : Int)) = False := eq_false (by omega)
  have q0 : (0 : Int) ≤ (n : Int) := by omega
  have q2 : ((24 : Nat) : Int) * (n : Int) ≤ 281474976710656 := by omega
  have q3 : (n : Int) ≤ 9223372036854775807 := by omega
  have m1 : min 1 n = 1 := by omega
  unfold c26
  refine CwpE.cut (st := ⟨[(0, .list 8 [vdv dev1]), (1, vi n)], []⟩) ?_ ?_
  · simp only [go_sem, List.replicate_succ, Nat.reducePow, Nat.reduceLeDiff, ↓reduceIte, reduceCtorEq, Nat.reduceLT, Nat.reduceEqDiff, Nat.reduceAdd, Nat.reduceSub, Nat.reduceMul, Int.reduceToNat]
    exact ⟨_, WkE.keep (by simp only [go_sem, List.replicate_succ, Nat.reducePow, Nat.reduceLeDiff, ↓reduceIte, reduceCtorEq, Nat.reduceLT, Nat.reduceEqDiff, Nat.reduceAdd, Nat.reduceSub, Nat.reduceMul, Int.reduceToNat]), rfl⟩
  refine CwpE.cut (st := ⟨[(0, .list 8 [vdv dev1]), (1, vi n)], []⟩) ?_ ?_
  · simp only [go_sem, List.replicate_succ, Nat.reducePow, Nat.reduceLeDiff, ↓reduceIte, reduceCtorEq, Nat.reduceLT, Nat.reduceEqDiff, Nat.reduceAdd, Nat.reduceSub, Nat.reduceMul, Int.reduceToNat, n0]
    exact ⟨_, WkE.keep (by simp only [go_sem, List.replicate_succ, Nat.reducePow, Nat.reduceLeDiff, ↓reduceIte, reduceCtorEq, Nat.reduceLT, Nat.reduceEqDiff, Nat.reduceAdd, Nat.reduceSub, Nat.reduceMul, Int.reduceToNat]), rfl⟩
  refine CwpE.cut (st := ⟨[(0, .list 8 [vdv dev1]), (1, vi n), (5, vu 0), (6, vu n)], []⟩) ?_ ?_
  · simp only [go_sem, List.replicate_succ, Nat.reducePow, Nat.reduceLeDiff, ↓reduceIte, reduceCtorEq, Nat.reduceLT, Nat.reduceEqDiff, Nat.reduceAdd, Nat.reduceSub, Nat.reduceMul, Int.reduceToNat, Int.reduceLT, Int.reduceLE, Int.reduceEq, Int.reduceNe, Int.reduceNeg, Int.reduceToNat, Int.lt_irrefl, Int.le_refl, u1, u2]
    refine callT (Mul_s n h1 h8) rfl ?_
    simp only [go_sem, List.replicate_succ, Nat.reducePow, Nat.reduceLeDiff, ↓reduceIte, reduceCtorEq, Nat.reduceLT, Nat.reduceEqDiff, Nat.reduceAdd, Nat.reduceSub, Nat.reduceMul, Int.reduceToNat, Int.reduceLT, Int.reduceLE, Int.reduceEq, Int.reduceNe, Int.reduceNeg, Int.reduceToNat, Int.lt_irrefl, Int.le_refl]
    exact ⟨_, WkE.keep (by simp only [go_sem, List.replicate_succ, Nat.reducePow, Nat.reduceLeDiff, ↓reduceIte, reduceCtorEq, Nat.reduceLT, Nat.reduceEqDiff, Nat.reduceAdd, Nat.reduceSub, Nat.reduceMul, Int.reduceToNat]), rfl⟩
  refine CwpE.cut (st := ⟨[(0, .list 8 [vdv dev1]), (1, vi n), (6, vu n)], []⟩) ?_ ?_
  · simp only [go_sem, List.replicate_succ, Nat.reducePow, Nat.reduceLeDiff, ↓reduceIte, reduceCtorEq, Nat.reduceLT, Nat.reduceEqDiff, Nat.reduceAdd, Nat.reduceSub, Nat.reduceMul, Int.reduceToNat, Int.reduceLT, Int.reduceLE, Int.reduceEq, Int.reduceNe, Int.reduceNeg, Int.reduceToNat, Int.lt_irrefl, Int.le_refl, u4]
    exact ⟨_, WkE.keep (by simp only [go_sem, List.replicate_succ, Nat.reducePow, Nat.reduceLeDiff, ↓reduceIte, reduceCtorEq, Nat.reduceLT, Nat.reduceEqDiff, Nat.reduceAdd, Nat.reduceSub, Nat.reduceMul, Int.reduceToNat]), rfl⟩
  refine CwpE.cut (st := ⟨[(0, .list 8 [vdv dev1]), (7, .own 0 n 0 n)], [.arr n 8 60 (List.replicate n (vdv dev0))]⟩) ?_ ?_
  · simp only [go_sem, Nat.reducePow, Nat.reduceLeDiff, ↓reduceIte, reduceCtorEq, Nat.reduceLT, Nat.reduceEqDiff, Nat.reduceAdd, Nat.reduceSub, Nat.reduceMul, Int.reduceToNat, u3, q0, q2, q3, Int.le_refl]
    exact ⟨_, WkE.keep (by simp only [go_sem, List.replicate_succ, Nat.reducePow, Nat.reduceLeDiff, ↓reduceIte, reduceCtorEq, Nat.reduceLT, Nat.reduceEqDiff, Nat.reduceAdd, Nat.reduceSub, Nat.reduceMul, Int.reduceToNat]), rfl⟩
  have z1 : n ≤ (List.replicate n (vdv dev0)).length := by simp
  refine CwpE.cut (st := ⟨[(7, .own 0 n 0 n), (8, vi (1 : Nat))], [.arr n 8 60 (fillR 1 n)]⟩) ?_ ?_
  · simp only [go_sem, List.replicate_succ, Nat.reducePow, Nat.reduceLeDiff, ↓reduceIte, reduceCtorEq, Nat.reduceLT, Nat.reduceEqDiff, Nat.reduceAdd, Nat.reduceSub, Nat.reduceMul, Int.reduceToNat, Int.reduceLT, Int.reduceLE, Int.reduceEq, Int.reduceNe, Int.reduceNeg, Int.reduceToNat, Int.lt_irrefl, Int.le_refl, z1, m1]
    have e : vdv dev1 :: List.drop 1 (List.replicate n (vdv dev0)) = fillR 1 n := by simp [fillR]
    rw [e]
    exact ⟨_, WkE.keep (by simp only [go_sem, List.replicate_succ, Nat.reducePow, Nat.reduceLeDiff, ↓reduceIte, reduceCtorEq, Nat.reduceLT, Nat.reduceEqDiff, Nat.reduceAdd, Nat.reduceSub, Nat.reduceMul, Int.reduceToNat]), rfl⟩
  refine CwpE.step (fun st => st = ⟨[(7, .own 0 n 0 n)], [.arr n 8 60 (fillR n n)]⟩) ?_ ?_
  rotate_left
  · rintro st rfl
    refine CwpE.vc ?_
    have e : fillR n n = List.replicate n (vdv dev1) := by simp [fillR]
    rw [e]
    simp only [go_sem, List.replicate_succ, Nat.reducePow, Nat.reduceLeDiff, ↓reduceIte, reduceCtorEq, Nat.reduceLT, Nat.reduceEqDiff, Nat.reduceAdd, Nat.reduceSub, Nat.reduceMul, Int.reduceToNat]
    exact ⟨_, rfl, .refl _ _⟩
  simp only [go_sem, List.replicate_succ, Nat.reducePow, Nat.reduceLeDiff, ↓reduceIte, reduceCtorEq, Nat.reduceLT, Nat.reduceEqDiff, Nat.reduceAdd, Nat.reduceSub, Nat.reduceMul, Int.reduceToNat]
  refine loopX 0 (fun m st => ∃ k : Nat, m = n - k ∧ 1 ≤ k ∧ k ≤ n ∧ st = ⟨[(7, .own 0 n 0 n), (8, vi k)], [.arr n 8 60 (fillR k n)]⟩)
    (fun st => st = ⟨[(7, .own 0 n 0 n)], [.arr n 8 60 (fillR n n)]⟩) (n - 1) _ (.refl _ _) ⟨1, rfl, Nat.le_refl _, h1, rfl⟩ ?_ ?_
  rotate_left
  · rintro st rfl
    simp only [go_sem, List.replicate_succ, Nat.reducePow, Nat.reduceLeDiff, ↓reduceIte, reduceCtorEq, Nat.reduceLT, Nat.reduceEqDiff, Nat.reduceAdd, Nat.reduceSub, Nat.reduceMul, Int.reduceToNat]
    exact ⟨_, .refl _ _, rfl⟩
  rintro m st ⟨k, rfl, hk1, hk, rfl⟩
  by_cases hlt : k < n
  rotate_left
  · have g1 : ¬ (k : Int) < (n : Int) := by omega
    obtain rfl : k = n := by omega
    simp only [go_sem, List.replicate_succ, Nat.reducePow, Nat.reduceLeDiff, ↓reduceIte, reduceCtorEq, Nat.reduceLT, Nat.reduceEqDiff, Nat.reduceAdd, Nat.reduceSub, Nat.reduceMul, Int.reduceToNat, g1]
    exact ⟨_, WkE.keep (by simp only [go_sem, List.replicate_succ, Nat.reducePow, Nat.reduceLeDiff, ↓reduceIte, reduceCtorEq, Nat.reduceLT, Nat.reduceEqDiff, Nat.reduceAdd, Nat.reduceSub, Nat.reduceMul, Int.reduceToNat]), rfl⟩
  have g1 : (k : Int) < (n : Int) := by omega
  have g2 : (0 : Int) ≤ (k : Int) := by omega
  have g3 : (k : Int) ≤ (n : Int) := by omega
  have g4 : k ≤ n := by omega
  have hl : (fillR k n).length = n := by simp [fillR]; omega
  obtain ⟨c, hc⟩ : ∃ c, min k (n - k) = c := ⟨_, rfl⟩
  have hc1 : c ≤ k ∧ c ≤ n - k ∧ 1 ≤ c := by omega
  have w1 : IntKind.i64.wrap ((k : Int) + (c : Int)) = ((k + c : Nat) : Int) := by rw [wrap_id (by omega) (by omega)]; omega
  have e3 : List.take k (fillR k n) ++ List.take c (List.take k (fillR k n)) ++ List.drop (k + c) (fillR k n) = fillR (k + c) n := by
    have t1 : List.take k (fillR k n) = List.replicate k (vdv dev1) := by
      rw [fillR, List.take_append_of_le_length (by simp), List.take_of_length_le (by simp)]
    have t2 : List.drop (k + c) (fillR k n) = List.replicate (n - (k + c)) (vdv dev0) := by
      rw [fillR, List.drop_append, List.drop_eq_nil_of_le (by simp), List.nil_append]
      simp; omega
    have t3 : List.take c (List.replicate k (vdv dev1)) = List.replicate c (vdv dev1) := by
      rw [List.take_replicate, Nat.min_eq_left hc1.1]
    rw [t1, t2, t3, fillR, List.replicate_append_replicate]
  generalize fillR k n = l at *
  have hle : k + (n - k) ≤ l.length := by omega
  have hle2 : k ≤ l.length := by omega
  have hlt2 : (List.take k l).length = k := by simp; omega
  simp only [go_sem, List.replicate_succ, Nat.reducePow, Nat.reduceLeDiff, ↓reduceIte, reduceCtorEq, Nat.reduceLT, Nat.reduceEqDiff, Nat.reduceAdd, Nat.reduceSub, Nat.reduceMul, Int.reduceToNat, Int.reduceLT, Int.reduceLE, Int.reduceEq, Int.reduceNe, Int.reduceNeg, Int.reduceToNat, Int.lt_irrefl, Int.le_refl, g1, g2, g3, g4, hle, hle2, hlt2, hc, w1, Nat.sub_zero, e3]
  exact ⟨n - (k + c), ⟨[(7, .own 0 n 0 n), (8, vi (k + c : Nat))], [.arr n 8 60 (fillR (k + c) n)]⟩, by omega, WkE.keep (by simp only [go_sem, List.replicate_succ, Nat.reducePow, Nat.reduceLeDiff, ↓reduceIte, reduceCtorEq, Nat.reduceLT, Nat.reduceEqDiff, Nat.reduceAdd, Nat.reduceSub, Nat.reduceMul, Int.reduceToNat]), k + c, rfl, by omega, by omega, rfl⟩
/-- A hall with so many devices. -/
def newH (n : Nat) : Hs := ⟨List.replicate n dev1, [], 0, []⟩
def newE (n : Int) : Int := if n < 1 ∨ 8 < n then 1 else 0
set_option maxRecDepth 100000 in
theorem New_s (n : Nat) (h1 : 1 ≤ n) (h8 : n ≤ 8) : CtrN Try.prog 9 [vi n] (.tup [.ref 2 1 0 0, vi 0]) (objsH (newH n)) := by
  refine specN f9 (by simp) rfl (objsH_inn _ 5 (by omega)) rfl fun F0 w0 => ?_
  have a1 : ((n : Int) < 1) = False := eq_false (by omega)
  have a2 : ((8 : Int) < (n : Int)) = False := eq_false (by omega)
  unfold c9
  refine CwpE.cut (st := ⟨[(0, vi n)], []⟩) ?_ ?_
  · simp only [go_sem, List.replicate_succ, Nat.reducePow, Nat.reduceLeDiff, ↓reduceIte, reduceCtorEq, Nat.reduceLT, Nat.reduceEqDiff, Nat.reduceAdd, Nat.reduceSub, Nat.reduceMul, Int.reduceToNat]
    exact ⟨_, WkE.keep (by simp only [go_sem, List.replicate_succ, Nat.reducePow, Nat.reduceLeDiff, ↓reduceIte, reduceCtorEq, Nat.reduceLT, Nat.reduceEqDiff, Nat.reduceAdd, Nat.reduceSub, Nat.reduceMul, Int.reduceToNat]), rfl⟩
  refine CwpE.cut (st := ⟨[(0, vi n)], []⟩) ?_ ?_
  · simp only [go_sem, List.replicate_succ, Nat.reducePow, Nat.reduceLeDiff, ↓reduceIte, reduceCtorEq, Nat.reduceLT, Nat.reduceEqDiff, Nat.reduceAdd, Nat.reduceSub, Nat.reduceMul, Int.reduceToNat, a1, a2]
    exact ⟨_, WkE.keep (by simp only [go_sem, List.replicate_succ, Nat.reducePow, Nat.reduceLeDiff, ↓reduceIte, reduceCtorEq, Nat.reduceLT, Nat.reduceEqDiff, Nat.reduceAdd, Nat.reduceSub, Nat.reduceMul, Int.reduceToNat]), rfl⟩
  refine CwpE.seqJ (fun st => st = ⟨[(2, .ref 2 1 0 0), (3, vi 0)], objsH (newH n)⟩) (CwpE.regionW 3 ?_) ?_
  rotate_left
  · rintro st rfl
    refine CwpE.vc ?_
    simp only [go_sem, List.replicate_succ, Nat.reducePow, Nat.reduceLeDiff, ↓reduceIte, reduceCtorEq, Nat.reduceLT, Nat.reduceEqDiff, Nat.reduceAdd, Nat.reduceSub, Nat.reduceMul, Int.reduceToNat]
    exact ⟨_, rfl, .refl _ _⟩
  simp only [go_sem, List.replicate_succ, Nat.reducePow, Nat.reduceLeDiff, ↓reduceIte, reduceCtorEq, Nat.reduceLT, Nat.reduceEqDiff, Nat.reduceAdd, Nat.reduceSub, Nat.reduceMul, Int.reduceToNat, Int.reduceLT, Int.reduceLE, Int.reduceEq, Int.reduceNe, Int.reduceNeg, Int.reduceToNat, Int.lt_irrefl, Int.le_refl, List.drop_succ_cons]
  refine ⟨⟨[(11, .list 8 [vdv dev1]), (12, vi n)], [.void]⟩, ?_, ?_⟩
  · refine (WkE.void).trans ?_
    exact WkE.keep (by simp only [go_sem, List.replicate_succ, Nat.reducePow, Nat.reduceLeDiff, ↓reduceIte, reduceCtorEq, Nat.reduceLT, Nat.reduceEqDiff, Nat.reduceAdd, Nat.reduceSub, Nat.reduceMul, Int.reduceToNat]; rfl)
  simp only [go_sem, List.replicate_succ, Nat.reducePow, Nat.reduceLeDiff, ↓reduceIte, reduceCtorEq, Nat.reduceLT, Nat.reduceEqDiff, Nat.reduceAdd, Nat.reduceSub, Nat.reduceMul, Int.reduceToNat, Int.reduceLT, Int.reduceLE, Int.reduceEq, Int.reduceNe, Int.reduceNeg, Int.reduceToNat, Int.lt_irrefl, Int.le_refl]
  refine callNew (Repeat_s n h1 h8) (.cons (.tree _ rfl) (.cons (.tree _ rfl) .nil)) ?_
  have e1 : AV.shift 1 (.own 0 n 0 n) = .own 1 n 0 n := rfl
  have e2 : AObj.shiftO 1 (.arr n 8 60 (List.replicate n (vdv dev1))) = .arr n 8 60 (List.replicate n (vdv dev1)) := by simp [AObj.shiftO, AV.shift, AV.shift1]
  simp only [go_sem, List.replicate_succ, Nat.reducePow, Nat.reduceLeDiff, ↓reduceIte, reduceCtorEq, Nat.reduceLT, Nat.reduceEqDiff, Nat.reduceAdd, Nat.reduceSub, Nat.reduceMul, Int.reduceToNat, Int.reduceLT, Int.reduceLE, Int.reduceEq, Int.reduceNe, Int.reduceNeg, Int.reduceToNat, Int.lt_irrefl, Int.le_refl, e1, e2]
  refine ⟨_, ?_, rfl⟩
  refine (WkE.nilCell 2 1 4 0 1 1 3 62 _ _ rfl rfl rfl).trans ?_
  refine (WkE.nilCell 2 1 4 0 3 3 38 62 _ _ rfl rfl rfl).trans ?_
  have e : objsH (newH n) = [.void, .arr n 8 60 (List.replicate n (vdv dev1)), .arr 1 4 62 [.agg [.own 1 n 0 n, .own 3 0 0 0, vi 0, .own 4 0 0 0]], .arr 0 1 3 [], .arr 0 3 38 []] := by
    simp [objsH, oH, newH]
  rw [e]
  exact WkE.keep (by simp only [go_sem, List.replicate_succ, Nat.reducePow, Nat.reduceLeDiff, ↓reduceIte, reduceCtorEq, Nat.reduceLT, Nat.reduceEqDiff, Nat.reduceAdd, Nat.reduceSub, Nat.reduceMul, Int.reduceToNat])
end Go.Proofs.Ytjpknjicfoiheaa
