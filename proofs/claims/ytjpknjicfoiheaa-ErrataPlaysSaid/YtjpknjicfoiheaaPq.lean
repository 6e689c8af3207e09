/- The law Through. -/
import Derived.Test.YtjpknjicfoiheaaPp
set_option linter.unusedSimpArgs false
set_option linter.unusedVariables false
set_option linter.unusedSectionVars false
namespace Go.Proofs.Ytjpknjicfoiheaa
open Go.RowKit Dak
abbrev envT (turn : Int) (n m : Nat) (acts : List Act') (i : Nat) : List (Nat × AV) := [(2, vi turn), (7, vi n), (8, .ref 2 1 0 0), (10, vi m), (11, .own 5 n 0 n), (13, .list 6 (acts.map vact)), (14, vi i)]
abbrev envR (turn : Int) (n m : Nat) : List (Nat × AV) := [(2, vi turn), (7, vi n), (8, .ref 2 1 0 0), (10, vi m), (11, .own 5 n 0 n)]
abbrev objT (n : Nat) (s : Hs) (L : List Bool) : List AObj := objsH s ++ [.arr n 1 4 (L.map vb)]
def upL (k n : Nat) : List Bool := List.replicate k true ++ List.replicate (n - k) false
theorem upL_set {k n : Nat} (h : k < n) : (upL k n).set k true = upL (k + 1) n := by
  unfold upL
  rw [List.set_append_right _ _ (by simp)]
  simp only [List.length_replicate, Nat.sub_self]
  obtain ⟨m, hm⟩ : ∃ m, n - k = m + 1 := ⟨n - k - 1, by omega⟩
  have hm' : n - (k + 1) = m := by omega
  rw [hm, hm', List.replicate_succ, List.set_cons_zero, List.replicate_succ' (n := k), List.append_assoc]; rfl
theorem upL_len {k n : Nat} (h : k ≤ n) : (upL k n).length = n := by unfold upL; simp; omega
theorem upL_zero (n : Nat) : upL 0 n = List.replicate n false := by simp [upL]
theorem upL_full (n : Nat) : upL n n = (newH n).devs.map Dv.up := by
  simp [upL, newH]
  exact .inr rfl
theorem bd_mv {n k : Nat} {s u : Hs} (inv : Inv n k s) (hn : n ≤ 1000) (hk : k ≤ 100000) (mv : Mv s u) : Bd u :=
  ⟨by rw [mv.len, inv.len]; exact hn, by have := inv.tl; rw [← mv.tot] at this; unfold tot at this; rw [List.length_append] at this; omega, by rw [mv.ans]; have := inv.al; omega⟩
theorem inv_kp {n k : Nat} {s u : Hs} (inv : Inv n k s) (kp : Kp n s u) : Inv n k u :=
  ⟨by rw [kp.mv.len, inv.len], by rw [kp.mv.tot]; exact inv.tl, by rw [kp.mv.ans]; exact inv.al, kp.wt, kp.ph⟩
theorem objT_inn (n : Nat) (s : Hs) (L : List Bool) : (objT n s L).all (fun o => o.innO 6) = true := by
  rw [List.all_append, objsH_inn s _ (by omega)]
  simp [AObj.innO, AV.inn, AV.inn1]
theorem tot_small {s : Hs} {x : Act'} (h : ∀ y ∈ tot s, y ≤ 900) (hx : x.num ≤ 41) : ∀ y ∈ tot (doesH s x), y ≤ 900 := by
  intro y hy
  rw [does_tot] at hy
  split at hy
  · rcases List.mem_append.1 hy with hy | hy
    · exact h y hy
    · rw [List.mem_singleton] at hy; omega
  · exact h y hy
theorem resend_step {s : Hs} (h : 0 < s.devs.length) : decide (stepE s ⟨0, 0, 5, 0, 0⟩ = 0) = true ∧ stepH s ⟨0, 0, 5, 0, 0⟩ = resendH s := by
  have e : s.devs[(0 : Int).toNat]? = some s.devs[0] := List.getElem?_eq_getElem h
  have nb : ¬ badE s ⟨0, 0, 5, 0, 0⟩ := by unfold badE; simp only; omega
  constructor
  · unfold stepE
    rw [if_neg nb]
    show decide ((match s.devs[(0 : Int).toNat]? with | some d => evE s d ⟨0, 0, 5, 0, 0⟩ | none => 1) = 0) = true
    rw [e]; rfl
  · unfold stepH
    rw [if_neg nb]
    show (match s.devs[(0 : Int).toNat]? with | some d => evH s (0 : Int).toNat d ⟨0, 0, 5, 0, 0⟩ | none => s) = _
    rw [e]; rfl
set_option maxHeartbeats 4000000 in
set_option maxRecDepth 100000 in
theorem Through_law (l : List Int) (seats turn : Int) (hl : ∀ x ∈ l, I64 x) (hs : I64 seats) (ht : I64 turn) : Ctr Try.prog 5 [vints l, vi seats, vi turn] (vb true) := by
  refine specC f5 (by simp) fun F0 w0 => ?_
  obtain ⟨n, hn, n1, n5⟩ := k50 seats
  have hA := Around_s seats 5 hs ⟨by omega, by omega⟩
  have bA := aroundL_bd seats 5 (by omega)
  have w1 : IntKind.i64.wrap (1 + aroundL seats 5) = (n : Int) := by rw [wrap_id (by omega) (by omega)]; exact hn
  unfold c5
  refine CwpE.cut (st := ⟨[(0, vints l), (1, vi seats), (2, vi turn)], []⟩) ?_ ?_
  · simp only [go_sem, List.replicate_succ, Nat.reducePow, Nat.reduceLeDiff, ↓reduceIte, reduceCtorEq, Nat.reduceLT, Nat.reduceEqDiff, Nat.reduceAdd, Nat.reduceSub, Nat.reduceMul, Int.reduceToNat]
    exact ⟨_, WkE.keep (by simp only [go_sem, List.replicate_succ, Nat.reducePow, Nat.reduceLeDiff, ↓reduceIte, reduceCtorEq, Nat.reduceLT, Nat.reduceEqDiff, Nat.reduceAdd, Nat.reduceSub, Nat.reduceMul, Int.reduceToNat]), rfl⟩
  refine CwpE.cut (st := ⟨[(0, vints l), (2, vi turn), (7, vi n)], []⟩) ?_ ?_
  · simp only [go_sem, List.replicate_succ, Nat.reducePow, Nat.reduceLeDiff, ↓reduceIte, reduceCtorEq, Nat.reduceLT, Nat.reduceEqDiff, Nat.reduceAdd, Nat.reduceSub, Nat.reduceMul, Int.reduceToNat]
    refine callT hA rfl ?_
    simp only [go_sem, List.replicate_succ, Nat.reducePow, Nat.reduceLeDiff, ↓reduceIte, reduceCtorEq, Nat.reduceLT, Nat.reduceEqDiff, Nat.reduceAdd, Nat.reduceSub, Nat.reduceMul, Int.reduceToNat, w1]
    exact ⟨_, WkE.keep (by simp only [go_sem, List.replicate_succ, Nat.reducePow, Nat.reduceLeDiff, ↓reduceIte, reduceCtorEq, Nat.reduceLT, Nat.reduceEqDiff, Nat.reduceAdd, Nat.reduceSub, Nat.reduceMul, Int.reduceToNat]), rfl⟩
  refine CwpE.cut (st := ⟨[(0, vints l), (2, vi turn), (7, vi n), (8, .ref 2 1 0 0), (9, vi 0)], objsH (newH n)⟩) ?_ ?_
  · simp only [go_sem, List.replicate_succ, Nat.reducePow, Nat.reduceLeDiff, ↓reduceIte, reduceCtorEq, Nat.reduceLT, Nat.reduceEqDiff, Nat.reduceAdd, Nat.reduceSub, Nat.reduceMul, Int.reduceToNat, Int.reduceLT, Int.reduceLE, Int.reduceEq, Int.reduceNe, Int.reduceNeg, Int.reduceToNat, Int.lt_irrefl, Int.le_refl]
    refine callNew (New_s n n1 (by omega)) (.cons (.tree _ rfl) .nil) ?_
    have e1 : (objsH (newH n)).map (AObj.shiftO 0) = objsH (newH n) := by simp [newH, objsH, oH, AObj.shiftO, AV.shift, AV.shift1]
    have e2 : AV.shift 0 (.tup [.ref 2 1 0 0, vi 0]) = .tup [.ref 2 1 0 0, vi 0] := rfl
    simp only [List.length_nil, List.nil_append, e1, e2]
    simp only [go_sem, List.replicate_succ, Nat.reducePow, Nat.reduceLeDiff, ↓reduceIte, reduceCtorEq, Nat.reduceLT, Nat.reduceEqDiff, Nat.reduceAdd, Nat.reduceSub, Nat.reduceMul, Int.reduceToNat, Int.reduceLT, Int.reduceLE, Int.reduceEq, Int.reduceNe, Int.reduceNeg, Int.reduceToNat, Int.lt_irrefl, Int.le_refl]
    exact ⟨_, WkE.keep (by simp only [go_sem, List.replicate_succ, Nat.reducePow, Nat.reduceLeDiff, ↓reduceIte, reduceCtorEq, Nat.reduceLT, Nat.reduceEqDiff, Nat.reduceAdd, Nat.reduceSub, Nat.reduceMul, Int.reduceToNat]), rfl⟩
  refine CwpE.cut (st := ⟨[(0, vints l), (2, vi turn), (7, vi n), (8, .ref 2 1 0 0)], objsH (newH n)⟩) ?_ ?_
  · simp only [go_sem, List.replicate_succ, Nat.reducePow, Nat.reduceLeDiff, ↓reduceIte, reduceCtorEq, Nat.reduceLT, Nat.reduceEqDiff, Nat.reduceAdd, Nat.reduceSub, Nat.reduceMul, Int.reduceToNat, Int.reduceLT, Int.reduceLE, Int.reduceEq, Int.reduceNe, Int.reduceNeg, Int.reduceToNat, Int.lt_irrefl, Int.le_refl]
    exact ⟨_, WkE.keep (by simp only [go_sem, List.replicate_succ, Nat.reducePow, Nat.reduceLeDiff, ↓reduceIte, reduceCtorEq, Nat.reduceLT, Nat.reduceEqDiff, Nat.reduceAdd, Nat.reduceSub, Nat.reduceMul, Int.reduceToNat]), rfl⟩
  refine CwpE.cut (st := ⟨[(0, vints l), (2, vi turn), (7, vi n), (8, .ref 2 1 0 0), (10, vi (0 : Nat))], objsH (newH n)⟩) ?_ ?_
  · simp only [objsH, oH, go_sem, List.replicate_succ, Nat.reducePow, Nat.reduceLeDiff, ↓reduceIte, reduceCtorEq, Nat.reduceLT, Nat.reduceEqDiff, Nat.reduceAdd, Nat.reduceSub, Nat.reduceMul, Int.reduceToNat, Int.reduceLT, Int.reduceLE, Int.reduceEq, Int.reduceNe, Int.reduceNeg, Int.reduceToNat, Int.lt_irrefl, Int.le_refl]
    exact ⟨_, WkE.keep (by simp only [go_sem, List.replicate_succ, Nat.reducePow, Nat.reduceLeDiff, ↓reduceIte, reduceCtorEq, Nat.reduceLT, Nat.reduceEqDiff, Nat.reduceAdd, Nat.reduceSub, Nat.reduceMul, Int.reduceToNat]; rfl), rfl⟩
  refine CwpE.cut (st := ⟨[(0, vints l), (2, vi turn), (7, vi n), (8, .ref 2 1 0 0), (10, vi (0 : Nat)), (11, .own 5 n 0 n)], objT n (newH n) (upL 0 n)⟩) ?_ ?_
  · have q0 : (0 : Int) ≤ (n : Int) := by omega
    have q2 : ((1 : Nat) : Int) * (n : Int) ≤ 281474976710656 := by omega
    have q3 : (n : Int) ≤ 9223372036854775807 := by omega
    simp only [objT, objsH, oH, go_sem, Nat.reducePow, Nat.reduceLeDiff, ↓reduceIte, reduceCtorEq, Nat.reduceLT, Nat.reduceEqDiff, Nat.reduceAdd, Nat.reduceSub, Nat.reduceMul, Int.reduceToNat, q0, q2, q3, Int.le_refl]
    refine ⟨_, ?_, rfl⟩
    rw [upL_zero, List.map_replicate]
    exact WkE.keep (by simp only [go_sem, List.replicate_succ, Nat.reducePow, Nat.reduceLeDiff, ↓reduceIte, reduceCtorEq, Nat.reduceLT, Nat.reduceEqDiff, Nat.reduceAdd, Nat.reduceSub, Nat.reduceMul, Int.reduceToNat])
  clear hA bA w1
  refine CwpE.seqJ (fun st => st = ⟨[(0, vints l), (2, vi turn), (7, vi n), (8, .ref 2 1 0 0), (10, vi (0 : Nat)), (11, .own 5 n 0 n)], objT n (newH n) (upL n n)⟩) ?_ ?_
  · refine CwpE.cut (st := ⟨[(0, vints l), (2, vi turn), (7, vi n), (8, .ref 2 1 0 0), (10, vi (0 : Nat)), (11, .own 5 n 0 n), (12, vi (0 : Nat))], objT n (newH n) (upL 0 n)⟩) ?_ (CwpE.block ?_)
    · simp only [objT, objsH, oH, go_sem, List.replicate_succ, Nat.reducePow, Nat.reduceLeDiff, ↓reduceIte, reduceCtorEq, Nat.reduceLT, Nat.reduceEqDiff, Nat.reduceAdd, Nat.reduceSub, Nat.reduceMul, Int.reduceToNat, Int.reduceLT, Int.reduceLE, Int.reduceEq, Int.reduceNe, Int.reduceNeg, Int.reduceToNat, Int.lt_irrefl, Int.le_refl]
      exact ⟨_, WkE.keep (by simp only [go_sem, List.replicate_succ, Nat.reducePow, Nat.reduceLeDiff, ↓reduceIte, reduceCtorEq, Nat.reduceLT, Nat.reduceEqDiff, Nat.reduceAdd, Nat.reduceSub, Nat.reduceMul, Int.reduceToNat]; rfl), rfl⟩
    refine loopXC 0 (fun m st => ∃ k : Nat, m = n - k ∧ k ≤ n ∧ st = ⟨[(0, vints l), (2, vi turn), (7, vi n), (8, .ref 2 1 0 0), (10, vi (0 : Nat)), (11, .own 5 n 0 n), (12, vi k)], objT n (newH n) (upL k n)⟩)
      (fun st => st = ⟨[(0, vints l), (2, vi turn), (7, vi n), (8, .ref 2 1 0 0), (10, vi (0 : Nat)), (11, .own 5 n 0 n)], objT n (newH n) (upL n n)⟩) n
      ⟨[(0, vints l), (2, vi turn), (7, vi n), (8, .ref 2 1 0 0), (10, vi (0 : Nat)), (11, .own 5 n 0 n), (12, vi (0 : Nat))], objT n (newH n) (upL 0 n)⟩ (.refl _ _) ⟨0, rfl, by omega, rfl⟩ ?_ ?_
    rotate_left
    · rintro st rfl
      simp only [objT, objsH, oH, go_sem, List.replicate_succ, Nat.reducePow, Nat.reduceLeDiff, ↓reduceIte, reduceCtorEq, Nat.reduceLT, Nat.reduceEqDiff, Nat.reduceAdd, Nat.reduceSub, Nat.reduceMul, Int.reduceToNat]
      exact ⟨_, .refl _ _, rfl⟩
    rintro m st ⟨k, rfl, hk, rfl⟩
    by_cases hlt : k < n
    rotate_left
    · have e : k = n := by omega
      subst e
      have g1 : ¬ (k : Int) < (k : Int) := by omega
      refine CwpE.vc ?_
      simp only [objT, objsH, oH, go_sem, List.replicate_succ, Nat.reducePow, Nat.reduceLeDiff, ↓reduceIte, reduceCtorEq, Nat.reduceLT, Nat.reduceEqDiff, Nat.reduceAdd, Nat.reduceSub, Nat.reduceMul, Int.reduceToNat, Int.reduceLT, Int.reduceLE, Int.reduceEq, Int.reduceNe, Int.reduceNeg, Int.reduceToNat, Int.lt_irrefl, Int.le_refl, g1]
      exact ⟨_, WkE.keep (by simp only [go_sem, List.replicate_succ, Nat.reducePow, Nat.reduceLeDiff, ↓reduceIte, reduceCtorEq, Nat.reduceLT, Nat.reduceEqDiff, Nat.reduceAdd, Nat.reduceSub, Nat.reduceMul, Int.reduceToNat]), rfl⟩
    have g1 : (k : Int) < (n : Int) := by omega
    have g0 : (0 : Int) ≤ (k : Int) := by omega
    have w4 : IntKind.i64.wrap ((k : Int) + 1) = ((k + 1 : Nat) : Int) := by rw [wrap_id (by omega) (by omega)]; omega
    have hs1 : ((upL k n).map vb).set k (vb true) = (upL (k + 1) n).map vb := by rw [← upL_set hlt, List.map_set]
    have hkL : k < (upL k n).length := by rw [upL_len hk]; exact hlt
    have hgL : ((upL k n).map vb)[k]? = some (vb (upL k n)[k]) := by rw [List.getElem?_map, List.getElem?_eq_getElem hkL]; rfl
    refine CwpE.vc ?_
    simp only [objT, objsH, oH, go_sem, List.replicate_succ, Nat.reducePow, Nat.reduceLeDiff, ↓reduceIte, reduceCtorEq, Nat.reduceLT, Nat.reduceEqDiff, Nat.reduceAdd, Nat.reduceSub, Nat.reduceMul, Int.reduceToNat, Int.reduceLT, Int.reduceLE, Int.reduceEq, Int.reduceNe, Int.reduceNeg, Int.reduceToNat, Int.lt_irrefl, Int.le_refl, g1, g0, w4, hgL, hs1]
    exact ⟨n - (k + 1), ⟨[(0, vints l), (2, vi turn), (7, vi n), (8, .ref 2 1 0 0), (10, vi (0 : Nat)), (11, .own 5 n 0 n), (12, vi (k + 1 : Nat))], objT n (newH n) (upL (k + 1) n)⟩, by omega, WkE.keep (by simp only [go_sem, List.replicate_succ, Nat.reducePow, Nat.reduceLeDiff, ↓reduceIte, reduceCtorEq, Nat.reduceLT, Nat.reduceEqDiff, Nat.reduceAdd, Nat.reduceSub, Nat.reduceMul, Int.reduceToNat]), k + 1, rfl, by omega, rfl⟩
  rintro st rfl
  rw [upL_full]
  obtain ⟨acts, ha⟩ : ∃ acts, scriptL l n = acts := ⟨_, rfl⟩
  have hS := Script_s l n hl (by omega)
  rw [ha] at hS
  have hal : acts.length ≤ 40 := by rw [← ha]; unfold scriptL; rw [scriptK_len]; unfold roundsL; omega
  have hnum : ∀ x ∈ acts, x.num ≤ 41 := by
    rw [← ha]; unfold scriptL
    exact script_nums l n _ (by unfold roundsL; omega)
  clear ha hn
  refine CwpE.cut (st := ⟨[(2, vi turn), (7, vi n), (8, .ref 2 1 0 0), (10, vi (0 : Nat)), (11, .own 5 n 0 n), (13, .list 6 (acts.map vact))], objT n (newH n) ((newH n).devs.map Dv.up)⟩) ?_ ?_
  · simp only [objT, objsH, oH, go_sem, List.replicate_succ, Nat.reducePow, Nat.reduceLeDiff, ↓reduceIte, reduceCtorEq, Nat.reduceLT, Nat.reduceEqDiff, Nat.reduceAdd, Nat.reduceSub, Nat.reduceMul, Int.reduceToNat, Int.reduceLT, Int.reduceLE, Int.reduceEq, Int.reduceNe, Int.reduceNeg, Int.reduceToNat, Int.lt_irrefl, Int.le_refl]
    refine callT hS rfl ?_
    simp only [go_sem, List.replicate_succ, Nat.reducePow, Nat.reduceLeDiff, ↓reduceIte, reduceCtorEq, Nat.reduceLT, Nat.reduceEqDiff, Nat.reduceAdd, Nat.reduceSub, Nat.reduceMul, Int.reduceToNat, Int.reduceLT, Int.reduceLE, Int.reduceEq, Int.reduceNe, Int.reduceNeg, Int.reduceToNat, Int.lt_irrefl, Int.le_refl]
    exact ⟨_, WkE.keep (by simp only [go_sem, List.replicate_succ, Nat.reducePow, Nat.reduceLeDiff, ↓reduceIte, reduceCtorEq, Nat.reduceLT, Nat.reduceEqDiff, Nat.reduceAdd, Nat.reduceSub, Nat.reduceMul, Int.reduceToNat]), rfl⟩
  refine CwpE.seqJ (fun st => ∃ s : Hs, Inv n acts.length s ∧ (∀ y ∈ tot s, y ≤ 900) ∧ st = ⟨envR turn n (tot s).length, objT n s (s.devs.map Dv.up)⟩) ?_ ?_
  · refine CwpE.cut (st := ⟨envT turn n 0 acts 0, objT n (newH n) ((newH n).devs.map Dv.up)⟩) ?_ (CwpE.block ?_)
    · simp only [objT, objsH, oH, go_sem, List.replicate_succ, Nat.reducePow, Nat.reduceLeDiff, ↓reduceIte, reduceCtorEq, Nat.reduceLT, Nat.reduceEqDiff, Nat.reduceAdd, Nat.reduceSub, Nat.reduceMul, Int.reduceToNat, Int.reduceLT, Int.reduceLE, Int.reduceEq, Int.reduceNe, Int.reduceNeg, Int.reduceToNat, Int.lt_irrefl, Int.le_refl]
      exact ⟨_, WkE.keep (by simp only [go_sem, List.replicate_succ, Nat.reducePow, Nat.reduceLeDiff, ↓reduceIte, reduceCtorEq, Nat.reduceLT, Nat.reduceEqDiff, Nat.reduceAdd, Nat.reduceSub, Nat.reduceMul, Int.reduceToNat]; rfl), rfl⟩
    refine loopXC 2 (fun m st => ∃ (i : Nat) (s : Hs), m = acts.length - i ∧ i ≤ acts.length ∧ Inv n i s ∧ (∀ y ∈ tot s, y ≤ 900) ∧ st = ⟨envT turn n (tot s).length acts i, objT n s (s.devs.map Dv.up)⟩)
      (fun st => ∃ s : Hs, Inv n acts.length s ∧ (∀ y ∈ tot s, y ≤ 900) ∧ st = ⟨envR turn n (tot s).length, objT n s (s.devs.map Dv.up)⟩) acts.length
      ⟨envT turn n 0 acts 0, objT n (newH n) ((newH n).devs.map Dv.up)⟩ (.refl _ _) ⟨0, newH n, rfl, by omega, inv_new n, by simp [tot, newH], rfl⟩ ?_ ?_
    rotate_left
    · rintro st ⟨s, inv, hy, rfl⟩
      simp only [objT, objsH, oH, go_sem, List.replicate_succ, Nat.reducePow, Nat.reduceLeDiff, ↓reduceIte, reduceCtorEq, Nat.reduceLT, Nat.reduceEqDiff, Nat.reduceAdd, Nat.reduceSub, Nat.reduceMul, Int.reduceToNat]
      exact ⟨_, .refl _ _, s, inv, hy, rfl⟩
    rintro m st ⟨i, s, rfl, hi, inv, hy, rfl⟩
    by_cases hlt : i < acts.length
    rotate_left
    · have e : i = acts.length := by omega
      have g1 : ¬ (i : Int) < (acts.length : Int) := by omega
      refine CwpE.vc ?_
      simp only [objT, objsH, oH, go_sem, List.replicate_succ, Nat.reducePow, Nat.reduceLeDiff, ↓reduceIte, reduceCtorEq, Nat.reduceLT, Nat.reduceEqDiff, Nat.reduceAdd, Nat.reduceSub, Nat.reduceMul, Int.reduceToNat, Int.reduceLT, Int.reduceLE, Int.reduceEq, Int.reduceNe, Int.reduceNeg, Int.reduceToNat, Int.lt_irrefl, Int.le_refl, g1, List.length_map]
      exact ⟨⟨envR turn n (tot s).length, objT n s (s.devs.map Dv.up)⟩, WkE.keep (by simp only [go_sem, List.replicate_succ, Nat.reducePow, Nat.reduceLeDiff, ↓reduceIte, reduceCtorEq, Nat.reduceLT, Nat.reduceEqDiff, Nat.reduceAdd, Nat.reduceSub, Nat.reduceMul, Int.reduceToNat]), s, e ▸ inv, hy, rfl⟩
    have g1 : (i : Int) < (acts.length : Int) := by omega
    have g0 : (0 : Int) ≤ (i : Int) := by omega
    have w4 : IntKind.i64.wrap ((i : Int) + 1) = ((i + 1 : Nat) : Int) := by rw [wrap_id (by omega) (by omega)]; omega
    refine CwpE.cut (st := ⟨envT turn n (tot s).length acts i, objT n s (s.devs.map Dv.up)⟩) ?_ ?_
    · simp only [objT, objsH, oH, go_sem, List.replicate_succ, Nat.reducePow, Nat.reduceLeDiff, ↓reduceIte, reduceCtorEq, Nat.reduceLT, Nat.reduceEqDiff, Nat.reduceAdd, Nat.reduceSub, Nat.reduceMul, Int.reduceToNat, Int.reduceLT, Int.reduceLE, Int.reduceEq, Int.reduceNe, Int.reduceNeg, Int.reduceToNat, Int.lt_irrefl, Int.le_refl, g1, List.length_map]
      exact ⟨_, WkE.keep (by simp only [go_sem, List.replicate_succ, Nat.reducePow, Nat.reduceLeDiff, ↓reduceIte, reduceCtorEq, Nat.reduceLT, Nat.reduceEqDiff, Nat.reduceAdd, Nat.reduceSub, Nat.reduceMul, Int.reduceToNat]), rfl⟩
    refine CwpE.seqJ (fun st => ∃ s' : Hs, Inv n (i + 1) s' ∧ (∀ y ∈ tot s', y ≤ 900) ∧ st = ⟨envT turn n (tot s').length acts i, objT n s' (s'.devs.map Dv.up)⟩) (CwpE.block ?_) ?_
    rotate_left
    · rintro st ⟨s', inv', hy', rfl⟩
      refine CwpE.vc ?_
      simp only [objT, objsH, oH, go_sem, List.replicate_succ, Nat.reducePow, Nat.reduceLeDiff, ↓reduceIte, reduceCtorEq, Nat.reduceLT, Nat.reduceEqDiff, Nat.reduceAdd, Nat.reduceSub, Nat.reduceMul, Int.reduceToNat, w4]
      exact ⟨acts.length - (i + 1), ⟨envT turn n (tot s').length acts (i + 1), objT n s' (s'.devs.map Dv.up)⟩, by omega, WkE.keep (by simp only [go_sem, List.replicate_succ, Nat.reducePow, Nat.reduceLeDiff, ↓reduceIte, reduceCtorEq, Nat.reduceLT, Nat.reduceEqDiff, Nat.reduceAdd, Nat.reduceSub, Nat.reduceMul, Int.reduceToNat]), i + 1, s', rfl, by omega, inv', hy', rfl⟩
    have hget : (acts.map vact)[i]? = some (vact acts[i]) := by rw [List.getElem?_map, List.getElem?_eq_getElem hlt]; rfl
    have hn41 : acts[i].num ≤ 41 := hnum _ (List.getElem_mem hlt)
    generalize acts[i] = x at *
    have dinv := does_inv inv x
    have dtot := does_tot s x
    have dup := does_up s x
    have dy := tot_small hy hn41
    have dlen := inv.len
    have htl := inv.tl
    have hcall := does_s s (inv.bd (by omega) (by omega)) x
    have hok : doesE s x = 0 → x.num = 0 → ∃ k : Nat, x.ev.seat = (k : Int) ∧ k < s.devs.length := by
      intro h z
      rw [doesE_ev z] at h
      obtain ⟨d, hd, s0, s1, _⟩ := step_ok h
      exact ⟨x.ev.seat.toNat, by omega, by omega⟩
    obtain ⟨L, hL⟩ : ∃ L, s.devs.map Dv.up = L := ⟨_, rfl⟩
    have lenL : L.length = n := by rw [← hL, List.length_map]; exact dlen
    unfold upE at dup
    rw [hL] at dup ⊢
    obtain ⟨f, hf⟩ : ∃ f, doesE s x = f := ⟨_, rfl⟩
    obtain ⟨s', hs'⟩ : ∃ s', doesH s x = s' := ⟨_, rfl⟩
    rw [hf, hs'] at hcall dtot dup
    rw [hf] at hok
    rw [hs'] at dinv dy
    obtain ⟨num, tick, seat, kind, a, b⟩ := x
    refine CwpE.cut (st := ⟨(15, vi f) :: envT turn n (tot s).length acts i, objT n s' L⟩) ?_ ?_
    · simp only [objT, objsH, oH, go_sem, List.replicate_succ, Nat.reducePow, Nat.reduceLeDiff, ↓reduceIte, reduceCtorEq, Nat.reduceLT, Nat.reduceEqDiff, Nat.reduceAdd, Nat.reduceSub, Nat.reduceMul, Int.reduceToNat, Int.reduceLT, Int.reduceLE, Int.reduceEq, Int.reduceNe, Int.reduceNeg, Int.reduceToNat, Int.lt_irrefl, Int.le_refl, g0, g1, hget, List.length_map]
      refine callM (objsH s) [.arr n 1 4 (L.map vb)] _ hcall rfl (objsH_inn _ 5 (by omega)) rfl ?_
      simp only [objsH, oH, go_sem, List.replicate_succ, Nat.reducePow, Nat.reduceLeDiff, ↓reduceIte, reduceCtorEq, Nat.reduceLT, Nat.reduceEqDiff, Nat.reduceAdd, Nat.reduceSub, Nat.reduceMul, Int.reduceToNat, Int.reduceLT, Int.reduceLE, Int.reduceEq, Int.reduceNe, Int.reduceNeg, Int.reduceToNat, Int.lt_irrefl, Int.le_refl]
      exact ⟨_, WkE.keep (by simp only [go_sem, List.replicate_succ, Nat.reducePow, Nat.reduceLeDiff, ↓reduceIte, reduceCtorEq, Nat.reduceLT, Nat.reduceEqDiff, Nat.reduceAdd, Nat.reduceSub, Nat.reduceMul, Int.reduceToNat]), rfl⟩
    simp only at hok dtot dup
    refine CwpE.vc ?_
    by_cases z : f = 0
    rotate_left
    · rw [if_neg (show ¬ (f = 0 ∧ num ≠ 0) from fun c => z c.1)] at dtot
      rw [if_neg (show ¬ (f = 0 ∧ num = 0 ∧ (kind = 3 ∨ kind = 4)) from fun c => z c.1)] at dup
      rw [← dtot]
      simp only [objT, objsH, oH, go_sem, List.replicate_succ, Nat.reducePow, Nat.reduceLeDiff, ↓reduceIte, reduceCtorEq, Nat.reduceLT, Nat.reduceEqDiff, Nat.reduceAdd, Nat.reduceSub, Nat.reduceMul, Int.reduceToNat, Int.reduceLT, Int.reduceLE, Int.reduceEq, Int.reduceNe, Int.reduceNeg, Int.reduceToNat, Int.lt_irrefl, Int.le_refl, g0, g1, hget, List.length_map, z]
      exact ⟨⟨envT turn n (tot s').length acts i, objT n s' L⟩, WkE.keep (by simp only [go_sem, List.replicate_succ, Nat.reducePow, Nat.reduceLeDiff, ↓reduceIte, reduceCtorEq, Nat.reduceLT, Nat.reduceEqDiff, Nat.reduceAdd, Nat.reduceSub, Nat.reduceMul, Int.reduceToNat]), s', dinv, dy, by rw [dup]; rfl⟩
    by_cases y : num = 0
    rotate_left
    · rw [if_pos (show f = 0 ∧ num ≠ 0 from ⟨z, y⟩)] at dtot
      rw [if_neg (show ¬ (f = 0 ∧ num = 0 ∧ (kind = 3 ∨ kind = 4)) from fun c => y c.2.1)] at dup
      have lt : (tot s').length = (tot s).length + 1 := by rw [dtot]; simp
      have w5 : IntKind.i64.wrap (((tot s).length : Int) + 1) = ((tot s').length : Int) := by rw [wrap_id (by omega) (by omega), lt]; omega
      simp only [objT, objsH, oH, go_sem, List.replicate_succ, Nat.reducePow, Nat.reduceLeDiff, ↓reduceIte, reduceCtorEq, Nat.reduceLT, Nat.reduceEqDiff, Nat.reduceAdd, Nat.reduceSub, Nat.reduceMul, Int.reduceToNat, Int.reduceLT, Int.reduceLE, Int.reduceEq, Int.reduceNe, Int.reduceNeg, Int.reduceToNat, Int.lt_irrefl, Int.le_refl, g0, g1, hget, List.length_map, z, y, w5]
      exact ⟨⟨envT turn n (tot s').length acts i, objT n s' L⟩, WkE.keep (by simp only [go_sem, List.replicate_succ, Nat.reducePow, Nat.reduceLeDiff, ↓reduceIte, reduceCtorEq, Nat.reduceLT, Nat.reduceEqDiff, Nat.reduceAdd, Nat.reduceSub, Nat.reduceMul, Int.reduceToNat]), s', dinv, dy, by rw [dup]; rfl⟩
    rw [if_neg (show ¬ (f = 0 ∧ num ≠ 0) from fun c => c.2 y)] at dtot
    rw [← dtot]
    obtain ⟨k, hk, hkl⟩ := hok z y
    subst hk
    by_cases c3 : kind = 3
    · rw [if_pos (show f = 0 ∧ num = 0 ∧ (kind = 3 ∨ kind = 4) from ⟨z, y, .inl c3⟩), decide_eq_false (by omega), Int.toNat_natCast] at dup
      have hs1 : (L.map vb).set k (vb false) = (s'.devs.map Dv.up).map vb := by rw [dup, List.map_set]
      have q0 : (0 : Int) ≤ (k : Int) := by omega
      have q1 : (k : Int) < (n : Int) := by omega
      have hkL : k < L.length := by omega
      have hgL : (L.map vb)[k]? = some (vb L[k]) := by rw [List.getElem?_map, List.getElem?_eq_getElem hkL]; rfl
      simp only [objT, objsH, oH, go_sem, List.replicate_succ, Nat.reducePow, Nat.reduceLeDiff, ↓reduceIte, reduceCtorEq, Nat.reduceLT, Nat.reduceEqDiff, Nat.reduceAdd, Nat.reduceSub, Nat.reduceMul, Int.reduceToNat, Int.reduceLT, Int.reduceLE, Int.reduceEq, Int.reduceNe, Int.reduceNeg, Int.reduceToNat, Int.lt_irrefl, Int.le_refl, g0, g1, hget, List.length_map, z, y, c3, q0, q1, hgL, hs1]
      exact ⟨⟨envT turn n (tot s').length acts i, objT n s' (s'.devs.map Dv.up)⟩, WkE.keep (by simp only [go_sem, List.replicate_succ, Nat.reducePow, Nat.reduceLeDiff, ↓reduceIte, reduceCtorEq, Nat.reduceLT, Nat.reduceEqDiff, Nat.reduceAdd, Nat.reduceSub, Nat.reduceMul, Int.reduceToNat]), s', dinv, dy, rfl⟩
    by_cases c4 : kind = 4
    · rw [if_pos (show f = 0 ∧ num = 0 ∧ (kind = 3 ∨ kind = 4) from ⟨z, y, .inr c4⟩), decide_eq_true c4, Int.toNat_natCast] at dup
      have hs1 : (L.map vb).set k (vb true) = (s'.devs.map Dv.up).map vb := by rw [dup, List.map_set]
      have q0 : (0 : Int) ≤ (k : Int) := by omega
      have q1 : (k : Int) < (n : Int) := by omega
      have hkL : k < L.length := by omega
      have hgL : (L.map vb)[k]? = some (vb L[k]) := by rw [List.getElem?_map, List.getElem?_eq_getElem hkL]; rfl
      simp only [objT, objsH, oH, go_sem, List.replicate_succ, Nat.reducePow, Nat.reduceLeDiff, ↓reduceIte, reduceCtorEq, Nat.reduceLT, Nat.reduceEqDiff, Nat.reduceAdd, Nat.reduceSub, Nat.reduceMul, Int.reduceToNat, Int.reduceLT, Int.reduceLE, Int.reduceEq, Int.reduceNe, Int.reduceNeg, Int.reduceToNat, Int.lt_irrefl, Int.le_refl, g0, g1, hget, List.length_map, z, y, c4, q0, q1, hgL, hs1]
      exact ⟨⟨envT turn n (tot s').length acts i, objT n s' (s'.devs.map Dv.up)⟩, WkE.keep (by simp only [go_sem, List.replicate_succ, Nat.reducePow, Nat.reduceLeDiff, ↓reduceIte, reduceCtorEq, Nat.reduceLT, Nat.reduceEqDiff, Nat.reduceAdd, Nat.reduceSub, Nat.reduceMul, Int.reduceToNat]), s', dinv, dy, rfl⟩
    rw [if_neg (show ¬ (f = 0 ∧ num = 0 ∧ (kind = 3 ∨ kind = 4)) from fun c => c.2.2.elim c3 c4)] at dup
    simp only [objT, objsH, oH, go_sem, List.replicate_succ, Nat.reducePow, Nat.reduceLeDiff, ↓reduceIte, reduceCtorEq, Nat.reduceLT, Nat.reduceEqDiff, Nat.reduceAdd, Nat.reduceSub, Nat.reduceMul, Int.reduceToNat, Int.reduceLT, Int.reduceLE, Int.reduceEq, Int.reduceNe, Int.reduceNeg, Int.reduceToNat, Int.lt_irrefl, Int.le_refl, g0, g1, hget, List.length_map, z, y, c3, c4]
    exact ⟨⟨envT turn n (tot s').length acts i, objT n s' L⟩, WkE.keep (by simp only [go_sem, List.replicate_succ, Nat.reducePow, Nat.reduceLeDiff, ↓reduceIte, reduceCtorEq, Nat.reduceLT, Nat.reduceEqDiff, Nat.reduceAdd, Nat.reduceSub, Nat.reduceMul, Int.reduceToNat]), s', dinv, dy, by rw [dup]; rfl⟩
  rintro st ⟨s, inv, hy, rfl⟩
  have hA := Around_s turn ((3 * n : Nat) : Int) ht ⟨by omega, by omega⟩
  have bA := aroundL_bd turn ((3 * n : Nat) : Int) (by omega)
  obtain ⟨tt, htt⟩ : ∃ tt : Nat, aroundL turn ((3 * n : Nat) : Int) = (tt : Int) := ⟨(aroundL turn ((3 * n : Nat) : Int)).toNat, by omega⟩
  rw [htt] at hA bA
  have ltt : tt < 3 * n := by omega
  obtain ⟨m, hm⟩ : ∃ m, (tot s).length = m := ⟨_, rfl⟩
  rw [hm]
  obtain ⟨L, hL⟩ : ∃ L, s.devs.map Dv.up = L := ⟨_, rfl⟩
  rw [hL]
  have kps := fun k => kp_four (t := tt) inv.len n1 inv.wt inv.ex k
  have w3 : IntKind.i64.wrap (3 * (n : Int)) = ((3 * n : Nat) : Int) := by rw [wrap_id (by omega) (by omega)]; omega
  refine CwpE.seqJ (fun st => st = ⟨envR turn n m, objT n (fourS n tt s 4) L⟩) ?_ ?_
  · refine CwpE.cut (st := ⟨(16, vi (0 : Nat)) :: envR turn n m, objT n (fourS n tt s 0) L⟩) ?_ (CwpE.block ?_)
    · simp only [fourS, objT, objsH, oH, go_sem, List.replicate_succ, Nat.reducePow, Nat.reduceLeDiff, ↓reduceIte, reduceCtorEq, Nat.reduceLT, Nat.reduceEqDiff, Nat.reduceAdd, Nat.reduceSub, Nat.reduceMul, Int.reduceToNat, Int.reduceLT, Int.reduceLE, Int.reduceEq, Int.reduceNe, Int.reduceNeg, Int.reduceToNat, Int.lt_irrefl, Int.le_refl]
      exact ⟨_, WkE.keep (by simp only [go_sem, List.replicate_succ, Nat.reducePow, Nat.reduceLeDiff, ↓reduceIte, reduceCtorEq, Nat.reduceLT, Nat.reduceEqDiff, Nat.reduceAdd, Nat.reduceSub, Nat.reduceMul, Int.reduceToNat]; rfl), rfl⟩
    refine loopXC 4 (fun q st => ∃ k : Nat, q = 4 - k ∧ k ≤ 4 ∧ st = ⟨(16, vi k) :: envR turn n m, objT n (fourS n tt s k) L⟩)
      (fun st => st = ⟨envR turn n m, objT n (fourS n tt s 4) L⟩) 4
      ⟨(16, vi (0 : Nat)) :: envR turn n m, objT n (fourS n tt s 0) L⟩ (.refl _ _) ⟨0, rfl, by omega, rfl⟩ ?_ ?_
    rotate_left
    · rintro st rfl
      generalize fourS n tt s 4 = v
      simp only [objT, objsH, oH, go_sem, List.replicate_succ, Nat.reducePow, Nat.reduceLeDiff, ↓reduceIte, reduceCtorEq, Nat.reduceLT, Nat.reduceEqDiff, Nat.reduceAdd, Nat.reduceSub, Nat.reduceMul, Int.reduceToNat]
      exact ⟨_, .refl _ _, rfl⟩
    rintro q st ⟨k, rfl, hk, rfl⟩
    by_cases hlt : k < 4
    rotate_left
    · have e : k = 4 := by omega
      subst e
      have g1 : ¬ ((4 : Nat) : Int) < 4 := by decide
      generalize fourS n tt s 4 = v
      refine CwpE.vc ?_
      simp only [objT, objsH, oH, go_sem, List.replicate_succ, Nat.reducePow, Nat.reduceLeDiff, ↓reduceIte, reduceCtorEq, Nat.reduceLT, Nat.reduceEqDiff, Nat.reduceAdd, Nat.reduceSub, Nat.reduceMul, Int.reduceToNat, Int.reduceLT, Int.reduceLE, Int.reduceEq, Int.reduceNe, Int.reduceNeg, Int.reduceToNat, Int.lt_irrefl, Int.le_refl, g1]
      exact ⟨_, WkE.keep (by simp only [go_sem, List.replicate_succ, Nat.reducePow, Nat.reduceLeDiff, ↓reduceIte, reduceCtorEq, Nat.reduceLT, Nat.reduceEqDiff, Nat.reduceAdd, Nat.reduceSub, Nat.reduceMul, Int.reduceToNat]), rfl⟩
    have kp := kps k
    have hrn : ∀ i, i ≤ 3 * n → Mv s (rndS (fourS n tt s k) (jN n tt k) i) := fun i hi => kp.mv.trans (rnd_len (by rw [kp.mv.len, inv.len]) (fun i _ => jN_lt n1) i hi)
    have hnext : fourS n tt s (k + 1) = rndS (fourS n tt s k) (jN n tt k) (3 * n) := rfl
    have bdk := bd_mv inv (by omega) (by omega) kp.mv
    generalize fourS n tt s k = v at *
    have g1 : (k : Int) < 4 := by omega
    have g0 : (0 : Int) ≤ (k : Int) := by omega
    have w4 : IntKind.i64.wrap ((k : Int) + 1) = ((k + 1 : Nat) : Int) := by rw [wrap_id (by omega) (by omega)]; omega
    refine CwpE.cut (st := ⟨(16, vi k) :: envR turn n m, objT n v L⟩) ?_ ?_
    · simp only [objT, objsH, oH, go_sem, List.replicate_succ, Nat.reducePow, Nat.reduceLeDiff, ↓reduceIte, reduceCtorEq, Nat.reduceLT, Nat.reduceEqDiff, Nat.reduceAdd, Nat.reduceSub, Nat.reduceMul, Int.reduceToNat, Int.reduceLT, Int.reduceLE, Int.reduceEq, Int.reduceNe, Int.reduceNeg, Int.reduceToNat, Int.lt_irrefl, Int.le_refl, g1]
      exact ⟨_, WkE.keep (by simp only [go_sem, List.replicate_succ, Nat.reducePow, Nat.reduceLeDiff, ↓reduceIte, reduceCtorEq, Nat.reduceLT, Nat.reduceEqDiff, Nat.reduceAdd, Nat.reduceSub, Nat.reduceMul, Int.reduceToNat]), rfl⟩
    refine CwpE.seqJ (fun st => st = ⟨(16, vi k) :: envR turn n m, objT n (rndS v (jN n tt k) (3 * n)) L⟩) (CwpE.block ?_) ?_
    rotate_left
    · rintro st rfl
      rw [← hnext]
      obtain ⟨u, hu⟩ : ∃ u, fourS n tt s (k + 1) = u := ⟨_, rfl⟩
      rw [hu]
      refine CwpE.vc ?_
      simp only [objT, objsH, oH, go_sem, List.replicate_succ, Nat.reducePow, Nat.reduceLeDiff, ↓reduceIte, reduceCtorEq, Nat.reduceLT, Nat.reduceEqDiff, Nat.reduceAdd, Nat.reduceSub, Nat.reduceMul, Int.reduceToNat, w4]
      exact ⟨4 - (k + 1), ⟨(16, vi (k + 1 : Nat)) :: envR turn n m, objT n u L⟩, by omega, WkE.keep (by simp only [go_sem, List.replicate_succ, Nat.reducePow, Nat.reduceLeDiff, ↓reduceIte, reduceCtorEq, Nat.reduceLT, Nat.reduceEqDiff, Nat.reduceAdd, Nat.reduceSub, Nat.reduceMul, Int.reduceToNat]), k + 1, rfl, by omega, by rw [hu]; rfl⟩
    refine CwpE.cut (st := ⟨(16, vi k) :: envR turn n m, objT n (rndS v (jN n tt k) 0) L⟩) ?_ ?_
    · have hE := event_s v bdk 5 0 0
      have h0 : v.devs.length = n := by have := (hrn 0 (by omega)).len; rw [show (rndS v (jN n tt k) 0).devs.length = v.devs.length by simp [rndS, resendH], inv.len] at this; exact this
      obtain ⟨e1, e2⟩ := resend_step (s := v) (by omega)
      rw [e1, e2] at hE
      have e3 : rndS v (jN n tt k) 0 = resendH v := rfl
      rw [e3]
      generalize resendH v = u at *
      simp only [objT, objsH, oH, go_sem, List.replicate_succ, Nat.reducePow, Nat.reduceLeDiff, ↓reduceIte, reduceCtorEq, Nat.reduceLT, Nat.reduceEqDiff, Nat.reduceAdd, Nat.reduceSub, Nat.reduceMul, Int.reduceToNat, Int.reduceLT, Int.reduceLE, Int.reduceEq, Int.reduceNe, Int.reduceNeg, Int.reduceToNat, Int.lt_irrefl, Int.le_refl]
      refine callM (objsH v) [.arr n 1 4 (L.map vb)] _ hE rfl (objsH_inn _ 5 (by omega)) rfl ?_
      simp only [objsH, oH, go_sem, List.replicate_succ, Nat.reducePow, Nat.reduceLeDiff, ↓reduceIte, reduceCtorEq, Nat.reduceLT, Nat.reduceEqDiff, Nat.reduceAdd, Nat.reduceSub, Nat.reduceMul, Int.reduceToNat, Int.reduceLT, Int.reduceLE, Int.reduceEq, Int.reduceNe, Int.reduceNeg, Int.reduceToNat, Int.lt_irrefl, Int.le_refl]
      exact ⟨_, WkE.keep (by simp only [go_sem, List.replicate_succ, Nat.reducePow, Nat.reduceLeDiff, ↓reduceIte, reduceCtorEq, Nat.reduceLT, Nat.reduceEqDiff, Nat.reduceAdd, Nat.reduceSub, Nat.reduceMul, Int.reduceToNat]), rfl⟩
    have hdl : ∀ i, i ≤ 3 * n → (rndS v (jN n tt k) i).devs.length = n := fun i hi => by rw [(hrn i hi).len, inv.len]
    refine CwpE.cut (st := ⟨(17, vi (0 : Nat)) :: (16, vi k) :: envR turn n m, objT n (rndS v (jN n tt k) 0) L⟩) ?_ (CwpE.block ?_)
    · generalize rndS v (jN n tt k) 0 = u
      simp only [objT, objsH, oH, go_sem, List.replicate_succ, Nat.reducePow, Nat.reduceLeDiff, ↓reduceIte, reduceCtorEq, Nat.reduceLT, Nat.reduceEqDiff, Nat.reduceAdd, Nat.reduceSub, Nat.reduceMul, Int.reduceToNat, Int.reduceLT, Int.reduceLE, Int.reduceEq, Int.reduceNe, Int.reduceNeg, Int.reduceToNat, Int.lt_irrefl, Int.le_refl]
      exact ⟨_, WkE.keep (by simp only [go_sem, List.replicate_succ, Nat.reducePow, Nat.reduceLeDiff, ↓reduceIte, reduceCtorEq, Nat.reduceLT, Nat.reduceEqDiff, Nat.reduceAdd, Nat.reduceSub, Nat.reduceMul, Int.reduceToNat]; rfl), rfl⟩
    refine loopXC 6 (fun q st => ∃ i : Nat, q = 3 * n - i ∧ i ≤ 3 * n ∧ st = ⟨(17, vi i) :: (16, vi k) :: envR turn n m, objT n (rndS v (jN n tt k) i) L⟩)
      (fun st => st = ⟨(16, vi k) :: envR turn n m, objT n (rndS v (jN n tt k) (3 * n)) L⟩) (3 * n)
      ⟨(17, vi (0 : Nat)) :: (16, vi k) :: envR turn n m, objT n (rndS v (jN n tt k) 0) L⟩ (.refl _ _) ⟨0, rfl, by omega, rfl⟩ ?_ ?_
    rotate_left
    · rintro st rfl
      generalize rndS v (jN n tt k) (3 * n) = u
      simp only [objT, objsH, oH, go_sem, List.replicate_succ, Nat.reducePow, Nat.reduceLeDiff, ↓reduceIte, reduceCtorEq, Nat.reduceLT, Nat.reduceEqDiff, Nat.reduceAdd, Nat.reduceSub, Nat.reduceMul, Int.reduceToNat]
      exact ⟨_, .refl _ _, rfl⟩
    rintro q st ⟨i, rfl, hi, rfl⟩
    by_cases hlti : i < 3 * n
    rotate_left
    · have e : i = 3 * n := by omega
      subst e
      have h1 : ¬ (((3 * n : Nat) : Int) < ((3 * n : Nat) : Int)) := by omega
      generalize rndS v (jN n tt k) (3 * n) = u
      refine CwpE.vc ?_
      simp only [objT, objsH, oH, go_sem, List.replicate_succ, Nat.reducePow, Nat.reduceLeDiff, ↓reduceIte, reduceCtorEq, Nat.reduceLT, Nat.reduceEqDiff, Nat.reduceAdd, Nat.reduceSub, Nat.reduceMul, Int.reduceToNat, Int.reduceLT, Int.reduceLE, Int.reduceEq, Int.reduceNe, Int.reduceNeg, Int.reduceToNat, Int.lt_irrefl, Int.le_refl, w3, h1]
      exact ⟨_, WkE.keep (by simp only [go_sem, List.replicate_succ, Nat.reducePow, Nat.reduceLeDiff, ↓reduceIte, reduceCtorEq, Nat.reduceLT, Nat.reduceEqDiff, Nat.reduceAdd, Nat.reduceSub, Nat.reduceMul, Int.reduceToNat]), rfl⟩
    have h1 : (i : Int) < ((3 * n : Nat) : Int) := by omega
    have w5 : IntKind.i64.wrap ((i : Int) + 1) = ((i + 1 : Nat) : Int) := by rw [wrap_id (by omega) (by omega)]; omega
    have bdu := bd_mv inv (by omega) (by omega) (hrn i hi)
    have hlu := hdl i hi
    have hnx : rndS v (jN n tt k) (i + 1) = stepH (rndS v (jN n tt k) i) (evA (jN n tt k i)) := rfl
    obtain ⟨u', hu'⟩ : ∃ u', rndS v (jN n tt k) (i + 1) = u' := ⟨_, rfl⟩
    have hJ : ∀ u'', u'' = u' → u'' = rndS v (jN n tt k) (i + 1) := fun u'' e => by rw [hu', e]
    generalize rndS v (jN n tt k) i = u at *
    refine CwpE.cut (st := ⟨(17, vi i) :: (16, vi k) :: envR turn n m, objT n u L⟩) ?_ ?_
    · simp only [objT, objsH, oH, go_sem, List.replicate_succ, Nat.reducePow, Nat.reduceLeDiff, ↓reduceIte, reduceCtorEq, Nat.reduceLT, Nat.reduceEqDiff, Nat.reduceAdd, Nat.reduceSub, Nat.reduceMul, Int.reduceToNat, Int.reduceLT, Int.reduceLE, Int.reduceEq, Int.reduceNe, Int.reduceNeg, Int.reduceToNat, Int.lt_irrefl, Int.le_refl, w3, h1]
      exact ⟨_, WkE.keep (by simp only [go_sem, List.replicate_succ, Nat.reducePow, Nat.reduceLeDiff, ↓reduceIte, reduceCtorEq, Nat.reduceLT, Nat.reduceEqDiff, Nat.reduceAdd, Nat.reduceSub, Nat.reduceMul, Int.reduceToNat]), rfl⟩
    refine CwpE.seqJ (fun st => st = ⟨(17, vi i) :: (16, vi k) :: envR turn n m, objT n u' L⟩) (CwpE.block ?_) ?_
    rotate_left
    · rintro st rfl
      refine CwpE.vc ?_
      simp only [objT, objsH, oH, go_sem, List.replicate_succ, Nat.reducePow, Nat.reduceLeDiff, ↓reduceIte, reduceCtorEq, Nat.reduceLT, Nat.reduceEqDiff, Nat.reduceAdd, Nat.reduceSub, Nat.reduceMul, Int.reduceToNat, w5]
      exact ⟨3 * n - (i + 1), ⟨(17, vi (i + 1 : Nat)) :: (16, vi k) :: envR turn n m, objT n u' L⟩, by omega, WkE.keep (by simp only [go_sem, List.replicate_succ, Nat.reducePow, Nat.reduceLeDiff, ↓reduceIte, reduceCtorEq, Nat.reduceLT, Nat.reduceEqDiff, Nat.reduceAdd, Nat.reduceSub, Nat.reduceMul, Int.reduceToNat]), i + 1, rfl, by omega, by rw [hu']; rfl⟩
    have w6 : IntKind.i64.wrap ((i : Int) + (tt : Int)) = ((i + tt : Nat) : Int) := by rw [wrap_id (by omega) (by omega)]; omega
    have m6 : (i + tt) % (3 * n) < 3 * n := Nat.mod_lt _ (by omega)
    have w7 : Int.tmod ((i + tt : Nat) : Int) ((3 * n : Nat) : Int) = (((i + tt) % (3 * n) : Nat) : Int) := (Int.ofNat_tmod _ _).symm
    have w8 : IntKind.i64.wrap (((i + tt) % (3 * n) : Nat) : Int) = (((i + tt) % (3 * n) : Nat) : Int) := wrap_id (by omega) (by omega)
    have z3 : ¬ ((3 * n : Nat) : Int) = 0 := by omega
    obtain ⟨j0, hj0⟩ : ∃ j0, (i + tt) % (3 * n) = j0 := ⟨_, rfl⟩
    rw [hj0] at w7 w8 m6
    refine CwpE.cut (st := ⟨(18, vi j0) :: (17, vi i) :: (16, vi k) :: envR turn n m, objT n u L⟩) ?_ ?_
    · simp only [objT, objsH, oH, go_sem, List.replicate_succ, Nat.reducePow, Nat.reduceLeDiff, ↓reduceIte, reduceCtorEq, Nat.reduceLT, Nat.reduceEqDiff, Nat.reduceAdd, Nat.reduceSub, Nat.reduceMul, Int.reduceToNat, Int.reduceLT, Int.reduceLE, Int.reduceEq, Int.reduceNe, Int.reduceNeg, Int.reduceToNat, Int.lt_irrefl, Int.le_refl, w3]
      refine callT hA rfl ?_
      simp only [go_sem, List.replicate_succ, Nat.reducePow, Nat.reduceLeDiff, ↓reduceIte, reduceCtorEq, Nat.reduceLT, Nat.reduceEqDiff, Nat.reduceAdd, Nat.reduceSub, Nat.reduceMul, Int.reduceToNat, Int.reduceLT, Int.reduceLE, Int.reduceEq, Int.reduceNe, Int.reduceNeg, Int.reduceToNat, Int.lt_irrefl, Int.le_refl, w3, w6, w7, w8, z3]
      exact ⟨_, WkE.keep (by simp only [go_sem, List.replicate_succ, Nat.reducePow, Nat.reduceLeDiff, ↓reduceIte, reduceCtorEq, Nat.reduceLT, Nat.reduceEqDiff, Nat.reduceAdd, Nat.reduceSub, Nat.reduceMul, Int.reduceToNat]), rfl⟩
    obtain ⟨j1, hj1⟩ : ∃ j1, jN n tt k i = j1 := ⟨_, rfl⟩
    have lj1 : j1 < 3 * n := by rw [← hj1]; exact jN_lt n1
    refine CwpE.cut (st := ⟨(18, vi j1) :: (17, vi i) :: (16, vi k) :: envR turn n m, objT n u L⟩) ?_ ?_
    · have hk4 : k = 0 ∨ k = 1 ∨ k = 2 ∨ k = 3 := by omega
      have w9 : IntKind.i64.wrap (((3 * n : Nat) : Int) - 1) = ((3 * n - 1 : Nat) : Int) := by rw [wrap_id (by omega) (by omega)]; omega
      have w10 : IntKind.i64.wrap (((3 * n - 1 : Nat) : Int) - (j0 : Int)) = ((3 * n - 1 - j0 : Nat) : Int) := by rw [wrap_id (by omega) (by omega)]; omega
      unfold jN at hj1
      rw [hj0] at hj1
      rcases hk4 with rfl | rfl | rfl | rfl
      · have e : j0 = j1 := by simpa using hj1
        subst e
        have t1 : decide (Int.tmod ((0 : Nat) : Int) 2 = 1) = false := by decide
        simp only [objT, objsH, oH, go_sem, List.replicate_succ, Nat.reducePow, Nat.reduceLeDiff, ↓reduceIte, reduceCtorEq, Nat.reduceLT, Nat.reduceEqDiff, Nat.reduceAdd, Nat.reduceSub, Nat.reduceMul, Int.reduceToNat, Int.reduceLT, Int.reduceLE, Int.reduceEq, Int.reduceNe, Int.reduceNeg, Int.reduceToNat, Int.lt_irrefl, Int.le_refl, t1]
        exact ⟨_, WkE.keep (by simp only [go_sem, List.replicate_succ, Nat.reducePow, Nat.reduceLeDiff, ↓reduceIte, reduceCtorEq, Nat.reduceLT, Nat.reduceEqDiff, Nat.reduceAdd, Nat.reduceSub, Nat.reduceMul, Int.reduceToNat]), rfl⟩
      · have e : 3 * n - 1 - j0 = j1 := by simpa using hj1
        rw [e] at w10
        have t1 : decide (Int.tmod ((1 : Nat) : Int) 2 = 1) = true := by decide
        simp only [objT, objsH, oH, go_sem, List.replicate_succ, Nat.reducePow, Nat.reduceLeDiff, ↓reduceIte, reduceCtorEq, Nat.reduceLT, Nat.reduceEqDiff, Nat.reduceAdd, Nat.reduceSub, Nat.reduceMul, Int.reduceToNat, Int.reduceLT, Int.reduceLE, Int.reduceEq, Int.reduceNe, Int.reduceNeg, Int.reduceToNat, Int.lt_irrefl, Int.le_refl, t1, w3, w9, w10]
        exact ⟨_, WkE.keep (by simp only [go_sem, List.replicate_succ, Nat.reducePow, Nat.reduceLeDiff, ↓reduceIte, reduceCtorEq, Nat.reduceLT, Nat.reduceEqDiff, Nat.reduceAdd, Nat.reduceSub, Nat.reduceMul, Int.reduceToNat]), rfl⟩
      · have e : j0 = j1 := by simpa using hj1
        subst e
        have t1 : decide (Int.tmod ((2 : Nat) : Int) 2 = 1) = false := by decide
        simp only [objT, objsH, oH, go_sem, List.replicate_succ, Nat.reducePow, Nat.reduceLeDiff, ↓reduceIte, reduceCtorEq, Nat.reduceLT, Nat.reduceEqDiff, Nat.reduceAdd, Nat.reduceSub, Nat.reduceMul, Int.reduceToNat, Int.reduceLT, Int.reduceLE, Int.reduceEq, Int.reduceNe, Int.reduceNeg, Int.reduceToNat, Int.lt_irrefl, Int.le_refl, t1]
        exact ⟨_, WkE.keep (by simp only [go_sem, List.replicate_succ, Nat.reducePow, Nat.reduceLeDiff, ↓reduceIte, reduceCtorEq, Nat.reduceLT, Nat.reduceEqDiff, Nat.reduceAdd, Nat.reduceSub, Nat.reduceMul, Int.reduceToNat]), rfl⟩
      · have e : 3 * n - 1 - j0 = j1 := by simpa using hj1
        rw [e] at w10
        have t1 : decide (Int.tmod ((3 : Nat) : Int) 2 = 1) = true := by decide
        simp only [objT, objsH, oH, go_sem, List.replicate_succ, Nat.reducePow, Nat.reduceLeDiff, ↓reduceIte, reduceCtorEq, Nat.reduceLT, Nat.reduceEqDiff, Nat.reduceAdd, Nat.reduceSub, Nat.reduceMul, Int.reduceToNat, Int.reduceLT, Int.reduceLE, Int.reduceEq, Int.reduceNe, Int.reduceNeg, Int.reduceToNat, Int.lt_irrefl, Int.le_refl, t1, w3, w9, w10]
        exact ⟨_, WkE.keep (by simp only [go_sem, List.replicate_succ, Nat.reducePow, Nat.reduceLeDiff, ↓reduceIte, reduceCtorEq, Nat.reduceLT, Nat.reduceEqDiff, Nat.reduceAdd, Nat.reduceSub, Nat.reduceMul, Int.reduceToNat]), rfl⟩
    refine CwpE.vc ?_
    have hS := Step_s u bdu.1 bdu.2.1 bdu.2.2 (evA j1)
    rw [hj1] at hnx
    rw [hu'] at hnx
    rw [← hnx] at hS
    have v1 : Int.tdiv (j1 : Int) 3 = ((j1 / 3 : Nat) : Int) := (Int.ofNat_tdiv _ 3).symm
    have v2 : Int.tmod (j1 : Int) 3 = ((j1 % 3 : Nat) : Int) := (Int.ofNat_tmod _ 3).symm
    have v3 : IntKind.i64.wrap ((j1 / 3 : Nat) : Int) = ((j1 / 3 : Nat) : Int) := wrap_id (by omega) (by omega)
    have v4 : IntKind.i64.wrap ((j1 % 3 : Nat) : Int) = ((j1 % 3 : Nat) : Int) := wrap_id (by omega) (by omega)
    simp only [objT, objsH, oH, go_sem, List.replicate_succ, Nat.reducePow, Nat.reduceLeDiff, ↓reduceIte, reduceCtorEq, Nat.reduceLT, Nat.reduceEqDiff, Nat.reduceAdd, Nat.reduceSub, Nat.reduceMul, Int.reduceToNat, Int.reduceLT, Int.reduceLE, Int.reduceEq, Int.reduceNe, Int.reduceNeg, Int.reduceToNat, Int.lt_irrefl, Int.le_refl, v1, v2, v3, v4]
    refine callM (objsH u) [.arr n 1 4 (L.map vb)] _ hS rfl (objsH_inn _ 5 (by omega)) rfl ?_
    simp only [objsH, oH, go_sem, List.replicate_succ, Nat.reducePow, Nat.reduceLeDiff, ↓reduceIte, reduceCtorEq, Nat.reduceLT, Nat.reduceEqDiff, Nat.reduceAdd, Nat.reduceSub, Nat.reduceMul, Int.reduceToNat, Int.reduceLT, Int.reduceLE, Int.reduceEq, Int.reduceNe, Int.reduceNeg, Int.reduceToNat, Int.lt_irrefl, Int.le_refl]
    exact ⟨_, WkE.keep (by simp only [go_sem, List.replicate_succ, Nat.reducePow, Nat.reduceLeDiff, ↓reduceIte, reduceCtorEq, Nat.reduceLT, Nat.reduceEqDiff, Nat.reduceAdd, Nat.reduceSub, Nat.reduceMul, Int.reduceToNat]), rfl⟩
  rintro st rfl
  have kp := kps 4
  have invu := inv_kp inv kp
  obtain ⟨hdl, hae⟩ := four_ann inv.len n1 ltt inv.wt inv.ex hy hm
  have hfs := fun (h0 : 0 < m) i u hu => four_shown inv.len n1 ltt inv.wt inv.ex hy hm h0 i u hu
  rw [hL] at hfs
  have lenL : L.length = n := by rw [← hL, List.length_map]; exact inv.len
  generalize fourS n tt s 4 = u at *
  have hm40 : m ≤ 40 := by have := inv.tl; omega
  have hAnn := Announce_s u 999 (by rw [invu.len]; omega) (by have := invu.dec; omega)
  rw [hae] at hAnn
  have inva := does_inv invu ⟨999, ⟨0, 0, 0, 0, 0⟩⟩
  rw [doesH_an (by show ¬ (999 : Int) = 0; decide)] at inva
  have oka := inva.okH (by omega) (by omega)
  have hMom := Moment_s u
  rw [hdl] at hMom
  simp only at inva oka
  generalize announceH u 999 = a at *
  refine CwpE.cut (st := ⟨envR turn n m, objT n a L⟩) ?_ ?_
  · simp only [objT, objsH, oH, go_sem, List.replicate_succ, Nat.reducePow, Nat.reduceLeDiff, ↓reduceIte, reduceCtorEq, Nat.reduceLT, Nat.reduceEqDiff, Nat.reduceAdd, Nat.reduceSub, Nat.reduceMul, Int.reduceToNat, Int.reduceLT, Int.reduceLE, Int.reduceEq, Int.reduceNe, Int.reduceNeg, Int.reduceToNat, Int.lt_irrefl, Int.le_refl]
    refine callM (objsH u) [.arr n 1 4 (L.map vb)] _ hMom rfl (objsH_inn _ 5 (by omega)) rfl ?_
    simp only [objT, objsH, oH, go_sem, List.replicate_succ, Nat.reducePow, Nat.reduceLeDiff, ↓reduceIte, reduceCtorEq, Nat.reduceLT, Nat.reduceEqDiff, Nat.reduceAdd, Nat.reduceSub, Nat.reduceMul, Int.reduceToNat, Int.reduceLT, Int.reduceLE, Int.reduceEq, Int.reduceNe, Int.reduceNeg, Int.reduceToNat, Int.lt_irrefl, Int.le_refl]
    refine callM (objsH u) [.arr n 1 4 (L.map vb)] _ hAnn rfl (objsH_inn _ 5 (by omega)) rfl ?_
    simp only [objT, objsH, oH, go_sem, List.replicate_succ, Nat.reducePow, Nat.reduceLeDiff, ↓reduceIte, reduceCtorEq, Nat.reduceLT, Nat.reduceEqDiff, Nat.reduceAdd, Nat.reduceSub, Nat.reduceMul, Int.reduceToNat, Int.reduceLT, Int.reduceLE, Int.reduceEq, Int.reduceNe, Int.reduceNeg, Int.reduceToNat, Int.lt_irrefl, Int.le_refl]
    exact ⟨_, WkE.keep (by simp only [go_sem, List.replicate_succ, Nat.reducePow, Nat.reduceLeDiff, ↓reduceIte, reduceCtorEq, Nat.reduceLT, Nat.reduceEqDiff, Nat.reduceAdd, Nat.reduceSub, Nat.reduceMul, Int.reduceToNat]), rfl⟩
  refine CwpE.seqJ (fun st => st = ⟨[], []⟩) ?_ ?_
  rotate_left
  · rintro st rfl
    refine CwpE.vc ?_
    simp only [go_sem, List.replicate_succ, Nat.reducePow, Nat.reduceLeDiff, ↓reduceIte, reduceCtorEq, Nat.reduceLT, Nat.reduceEqDiff, Nat.reduceAdd, Nat.reduceSub, Nat.reduceMul, Int.reduceToNat, Int.reduceLT, Int.reduceLE, Int.reduceEq, Int.reduceNe, Int.reduceNeg, Int.reduceToNat, Int.lt_irrefl, Int.le_refl]
    refine callT lives_s rfl ?_
    simp only [go_sem, List.replicate_succ, Nat.reducePow, Nat.reduceLeDiff, ↓reduceIte, reduceCtorEq, Nat.reduceLT, Nat.reduceEqDiff, Nat.reduceAdd, Nat.reduceSub, Nat.reduceMul, Int.reduceToNat, Int.reduceLT, Int.reduceLE, Int.reduceEq, Int.reduceNe, Int.reduceNeg, Int.reduceToNat, Int.lt_irrefl, Int.le_refl]
    exact .tree _ rfl
  refine CwpE.cut (st := ⟨(19, vi (0 : Nat)) :: envR turn n m, objT n a L⟩) ?_ (CwpE.block ?_)
  · simp only [objT, objsH, oH, go_sem, List.replicate_succ, Nat.reducePow, Nat.reduceLeDiff, ↓reduceIte, reduceCtorEq, Nat.reduceLT, Nat.reduceEqDiff, Nat.reduceAdd, Nat.reduceSub, Nat.reduceMul, Int.reduceToNat, Int.reduceLT, Int.reduceLE, Int.reduceEq, Int.reduceNe, Int.reduceNeg, Int.reduceToNat, Int.lt_irrefl, Int.le_refl]
    exact ⟨_, WkE.keep (by simp only [go_sem, List.replicate_succ, Nat.reducePow, Nat.reduceLeDiff, ↓reduceIte, reduceCtorEq, Nat.reduceLT, Nat.reduceEqDiff, Nat.reduceAdd, Nat.reduceSub, Nat.reduceMul, Int.reduceToNat]; rfl), rfl⟩
  refine loopXC 8 (fun q st => ∃ i : Nat, q = n - i ∧ i ≤ n ∧ st = ⟨(19, vi i) :: envR turn n m, objT n a L⟩)
    (fun st => st = ⟨[], []⟩) n
    ⟨(19, vi (0 : Nat)) :: envR turn n m, objT n a L⟩ (.refl _ _) ⟨0, rfl, by omega, rfl⟩ ?_ ?_
  rotate_left
  · rintro st rfl
    simp only [go_sem, List.replicate_succ, Nat.reducePow, Nat.reduceLeDiff, ↓reduceIte, reduceCtorEq, Nat.reduceLT, Nat.reduceEqDiff, Nat.reduceAdd, Nat.reduceSub, Nat.reduceMul, Int.reduceToNat]
    exact ⟨_, .refl _ _, rfl⟩
  rintro q st ⟨i, rfl, hi, rfl⟩
  by_cases hlt : i < n
  rotate_left
  · have g1 : ¬ (i : Int) < (n : Int) := by omega
    refine CwpE.vc ?_
    simp only [objT, objsH, oH, go_sem, List.replicate_succ, Nat.reducePow, Nat.reduceLeDiff, ↓reduceIte, reduceCtorEq, Nat.reduceLT, Nat.reduceEqDiff, Nat.reduceAdd, Nat.reduceSub, Nat.reduceMul, Int.reduceToNat, Int.reduceLT, Int.reduceLE, Int.reduceEq, Int.reduceNe, Int.reduceNeg, Int.reduceToNat, Int.lt_irrefl, Int.le_refl, g1]
    exact ⟨⟨[], []⟩, WkE.round (by simp only [go_sem, List.replicate_succ, Nat.reducePow, Nat.reduceLeDiff, ↓reduceIte, reduceCtorEq, Nat.reduceLT, Nat.reduceEqDiff, Nat.reduceAdd, Nat.reduceSub, Nat.reduceMul, Int.reduceToNat]) rfl rfl rfl, rfl⟩
  have g1 : (i : Int) < (n : Int) := by omega
  have g0 : (0 : Int) ≤ (i : Int) := by omega
  have w4 : IntKind.i64.wrap ((i : Int) + 1) = ((i + 1 : Nat) : Int) := by rw [wrap_id (by omega) (by omega)]; omega
  have hkL : i < L.length := by omega
  have hgL : (L.map vb)[i]? = some (vb L[i]) := by rw [List.getElem?_map, List.getElem?_eq_getElem hkL]; rfl
  have hsh := Shown_s a oka i
  have hfi := fun h0 => hfs h0 i L[i] (List.getElem?_eq_getElem hkL)
  generalize L[i] = b at *
  generalize shownE a i = sh at *
  have hT := hfi
  refine CwpE.vc ?_
  by_cases h0 : 0 < m
  · have hb := hfi h0
    have hb' : decide ((sh.length : Int) = (m : Int)) = b := by rw [← hb, decide_eq_decide]; omega
    have h0' : (0 : Int) < (m : Int) := by omega
    simp only [objT, objsH, oH, go_sem, List.replicate_succ, Nat.reducePow, Nat.reduceLeDiff, ↓reduceIte, reduceCtorEq, Nat.reduceLT, Nat.reduceEqDiff, Nat.reduceAdd, Nat.reduceSub, Nat.reduceMul, Int.reduceToNat, Int.reduceLT, Int.reduceLE, Int.reduceEq, Int.reduceNe, Int.reduceNeg, Int.reduceToNat, Int.lt_irrefl, Int.le_refl, g1, g0, hgL]
    refine callR (objsH a) [.arr n 1 4 (L.map vb)] hsh rfl (objsH_inn _ 5 (by omega)) rfl ?_
    have fin : ∀ env objs, WkE 163 ⟨env, objs⟩ ⟨(19, vi (i + 1 : Nat)) :: envR turn n m, objT n a L⟩ → ∃ m_1 s', m_1 < n - i ∧ WkE 163 ⟨env, objs⟩ s' ∧ ∃ i : Nat, m_1 = n - i ∧ i ≤ n ∧ s' = ⟨(19, vi i) :: envR turn n m, objT n a L⟩ :=
      fun env objs h => ⟨n - (i + 1), _, by omega, h, i + 1, rfl, by omega, rfl⟩
    cases b <;> simp only [objT, objsH, oH, go_sem, List.replicate_succ, Nat.reducePow, Nat.reduceLeDiff, ↓reduceIte, reduceCtorEq, Nat.reduceLT, Nat.reduceEqDiff, Nat.reduceAdd, Nat.reduceSub, Nat.reduceMul, Int.reduceToNat, Int.reduceLT, Int.reduceLE, Int.reduceEq, Int.reduceNe, Int.reduceNeg, Int.reduceToNat, Int.lt_irrefl, Int.le_refl, hb', w4] <;> exact fin _ _ (WkE.keep (by simp only [go_sem, List.replicate_succ, Nat.reducePow, Nat.reduceLeDiff, ↓reduceIte, reduceCtorEq, Nat.reduceLT, Nat.reduceEqDiff, Nat.reduceAdd, Nat.reduceSub, Nat.reduceMul, Int.reduceToNat]))
  · have e : m = 0 := by omega
    have h0' : ¬ ((0 : Int) < ((0 : Nat) : Int)) := by decide
    subst e
    simp only [objT, objsH, oH, go_sem, List.replicate_succ, Nat.reducePow, Nat.reduceLeDiff, ↓reduceIte, reduceCtorEq, Nat.reduceLT, Nat.reduceEqDiff, Nat.reduceAdd, Nat.reduceSub, Nat.reduceMul, Int.reduceToNat, Int.reduceLT, Int.reduceLE, Int.reduceEq, Int.reduceNe, Int.reduceNeg, Int.reduceToNat, Int.lt_irrefl, Int.le_refl, g1, g0, hgL]
    refine callR (objsH a) [.arr n 1 4 (L.map vb)] hsh rfl (objsH_inn _ 5 (by omega)) rfl ?_
    have fin : ∀ env objs, WkE 163 ⟨env, objs⟩ ⟨(19, vi (i + 1 : Nat)) :: envR turn n 0, objT n a L⟩ → ∃ m_1 s', m_1 < n - i ∧ WkE 163 ⟨env, objs⟩ s' ∧ ∃ i : Nat, m_1 = n - i ∧ i ≤ n ∧ s' = ⟨(19, vi i) :: envR turn n 0, objT n a L⟩ :=
      fun env objs h => ⟨n - (i + 1), _, by omega, h, i + 1, rfl, by omega, rfl⟩
    obtain ⟨c, hc⟩ : ∃ c, decide ((sh.length : Int) = ((0 : Nat) : Int)) = c := ⟨_, rfl⟩
    have n1 : (!(false == true)) = true := rfl
    have n2 : (!(true == false)) = true := rfl
    cases b <;> cases c <;> simp only [objT, objsH, oH, go_sem, List.replicate_succ, Nat.reducePow, Nat.reduceLeDiff, ↓reduceIte, reduceCtorEq, Nat.reduceLT, Nat.reduceEqDiff, Nat.reduceAdd, Nat.reduceSub, Nat.reduceMul, Int.reduceToNat, Int.reduceLT, Int.reduceLE, Int.reduceEq, Int.reduceNe, Int.reduceNeg, Int.reduceToNat, Int.lt_irrefl, Int.le_refl, w4, h0', hc, n1, n2] <;> exact fin _ _ (WkE.keep (by simp only [go_sem, List.replicate_succ, Nat.reducePow, Nat.reduceLeDiff, ↓reduceIte, reduceCtorEq, Nat.reduceLT, Nat.reduceEqDiff, Nat.reduceAdd, Nat.reduceSub, Nat.reduceMul, Int.reduceToNat]))
end Go.Proofs.Ytjpknjicfoiheaa
