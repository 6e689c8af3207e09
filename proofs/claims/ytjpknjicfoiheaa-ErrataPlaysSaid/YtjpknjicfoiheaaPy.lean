/- The law Network. -/
import Derived.Test.YtjpknjicfoiheaaPx
set_option linter.unusedSimpArgs false
set_option linter.unusedVariables false
set_option linter.unusedSectionVars false
namespace Go.Proofs.Ytjpknjicfoiheaa
open Go.RowKit Dak
abbrev envN (n : Nat) (acts : List Act') (i : Nat) : List (Nat × AV) := [(5, vi n), (6, .ref 2 1 0 0), (8, .ref 5 1 0 0), (10, .list 6 (acts.map vact)), (11, vi i)]
abbrev objN (s t : Hs) : List AObj := objsR (preH s) t
theorem objN_inn (s t : Hs) : (objN s t).all (fun o => o.innO 9) = true := objsR_inn _ _ 9 (by omega)
set_option maxHeartbeats 4000000 in
set_option maxRecDepth 100000 in
theorem Network_law (l : List Int) (seats : Int) (hl : ∀ x ∈ l, I64 x) (hs : I64 seats) : Ctr Try.prog 6 [vints l, vi seats] (vb true) := by
  refine specC f6 (by simp) fun F0 w0 => ?_
  obtain ⟨n, hn, n1, n5⟩ := k50 seats
  have hA := Around_s seats 5 hs ⟨by omega, by omega⟩
  have bA := aroundL_bd seats 5 (by omega)
  have w1 : IntKind.i64.wrap (1 + aroundL seats 5) = (n : Int) := by rw [wrap_id (by omega) (by omega)]; exact hn
  unfold c6
  refine CwpE.cut (st := ⟨[(0, vints l), (1, vi seats)], []⟩) ?_ ?_
  · simp only [go_sem, List.replicate_succ, Nat.reducePow, Nat.reduceLeDiff, ↓reduceIte, reduceCtorEq, Nat.reduceLT, Nat.reduceEqDiff, Nat.reduceAdd, Nat.reduceSub, Nat.reduceMul, Int.reduceToNat]
    exact ⟨_, WkE.keep (by simp only [go_sem, List.replicate_succ, Nat.reducePow, Nat.reduceLeDiff, ↓reduceIte, reduceCtorEq, Nat.reduceLT, Nat.reduceEqDiff, Nat.reduceAdd, Nat.reduceSub, Nat.reduceMul, Int.reduceToNat]), rfl⟩
  refine CwpE.cut (st := ⟨[(0, vints l), (5, vi n)], []⟩) ?_ ?_
  · simp only [go_sem, List.replicate_succ, Nat.reducePow, Nat.reduceLeDiff, ↓reduceIte, reduceCtorEq, Nat.reduceLT, Nat.reduceEqDiff, Nat.reduceAdd, Nat.reduceSub, Nat.reduceMul, Int.reduceToNat]
    refine callT hA rfl ?_
    simp only [go_sem, List.replicate_succ, Nat.reducePow, Nat.reduceLeDiff, ↓reduceIte, reduceCtorEq, Nat.reduceLT, Nat.reduceEqDiff, Nat.reduceAdd, Nat.reduceSub, Nat.reduceMul, Int.reduceToNat, w1]
    exact ⟨_, WkE.keep (by simp only [go_sem, List.replicate_succ, Nat.reducePow, Nat.reduceLeDiff, ↓reduceIte, reduceCtorEq, Nat.reduceLT, Nat.reduceEqDiff, Nat.reduceAdd, Nat.reduceSub, Nat.reduceMul, Int.reduceToNat]), rfl⟩
  refine CwpE.cut (st := ⟨[(0, vints l), (5, vi n), (6, .ref 2 1 0 0), (7, vi 0)], objsH (newH n)⟩) ?_ ?_
  · simp only [go_sem, List.replicate_succ, Nat.reducePow, Nat.reduceLeDiff, ↓reduceIte, reduceCtorEq, Nat.reduceLT, Nat.reduceEqDiff, Nat.reduceAdd, Nat.reduceSub, Nat.reduceMul, Int.reduceToNat, Int.reduceLT, Int.reduceLE, Int.reduceEq, Int.reduceNe, Int.reduceNeg, Int.reduceToNat, Int.lt_irrefl, Int.le_refl]
    refine callNew (New_s n n1 (by omega)) (.cons (.tree _ rfl) .nil) ?_
    have e1 : (objsH (newH n)).map (AObj.shiftO 0) = objsH (newH n) := by simp [newH, objsH, oH, AObj.shiftO, AV.shift, AV.shift1]
    have e2 : AV.shift 0 (.tup [.ref 2 1 0 0, vi 0]) = .tup [.ref 2 1 0 0, vi 0] := rfl
    simp only [List.length_nil, List.nil_append, e1, e2]
    simp only [go_sem, List.replicate_succ, Nat.reducePow, Nat.reduceLeDiff, ↓reduceIte, reduceCtorEq, Nat.reduceLT, Nat.reduceEqDiff, Nat.reduceAdd, Nat.reduceSub, Nat.reduceMul, Int.reduceToNat, Int.reduceLT, Int.reduceLE, Int.reduceEq, Int.reduceNe, Int.reduceNeg, Int.reduceToNat, Int.lt_irrefl, Int.le_refl]
    exact ⟨_, WkE.keep (by simp only [go_sem, List.replicate_succ, Nat.reducePow, Nat.reduceLeDiff, ↓reduceIte, reduceCtorEq, Nat.reduceLT, Nat.reduceEqDiff, Nat.reduceAdd, Nat.reduceSub, Nat.reduceMul, Int.reduceToNat]), rfl⟩
  refine CwpE.cut (st := ⟨[(0, vints l), (5, vi n), (6, .ref 2 1 0 0), (7, vi 0), (8, .ref 5 1 0 0), (9, vi 0)], objN (newH n) (newH n)⟩) ?_ ?_
  · have e1 := tlR_new n
    have e2 : AV.shift 5 (.tup [.ref 0 1 0 0, vi 0]) = .tup [.ref 5 1 0 0, vi 0] := rfl
    have e3 : (objsH (newH n)).length = 5 := rfl
    have e4 : objN (newH n) (newH n) = objsH (newH n) ++ tlR (newH n) := rfl
    rw [e4]
    generalize objsH (newH n) = OH at *
    simp only [go_sem, List.replicate_succ, Nat.reducePow, Nat.reduceLeDiff, ↓reduceIte, reduceCtorEq, Nat.reduceLT, Nat.reduceEqDiff, Nat.reduceAdd, Nat.reduceSub, Nat.reduceMul, Int.reduceToNat, Int.reduceLT, Int.reduceLE, Int.reduceEq, Int.reduceNe, Int.reduceNeg, Int.reduceToNat, Int.lt_irrefl, Int.le_refl]
    refine callNew (NewR_s n n1 (by omega)) (.cons (.tree _ rfl) .nil) ?_
    rw [e3, e1, e2]
    generalize tlR (newH n) = TL at *
    simp only [go_sem, List.replicate_succ, Nat.reducePow, Nat.reduceLeDiff, ↓reduceIte, reduceCtorEq, Nat.reduceLT, Nat.reduceEqDiff, Nat.reduceAdd, Nat.reduceSub, Nat.reduceMul, Int.reduceToNat, Int.reduceLT, Int.reduceLE, Int.reduceEq, Int.reduceNe, Int.reduceNeg, Int.reduceToNat, Int.lt_irrefl, Int.le_refl]
    exact ⟨_, WkE.keep (by simp only [go_sem, List.replicate_succ, Nat.reducePow, Nat.reduceLeDiff, ↓reduceIte, reduceCtorEq, Nat.reduceLT, Nat.reduceEqDiff, Nat.reduceAdd, Nat.reduceSub, Nat.reduceMul, Int.reduceToNat]), rfl⟩
  have inv0 := inv_new n
  generalize newH n = s0 at *
  refine CwpE.cut (st := ⟨[(0, vints l), (5, vi n), (6, .ref 2 1 0 0), (8, .ref 5 1 0 0)], objN s0 s0⟩) ?_ ?_
  · generalize objN s0 s0 = O
    simp only [go_sem, List.replicate_succ, Nat.reducePow, Nat.reduceLeDiff, ↓reduceIte, reduceCtorEq, Nat.reduceLT, Nat.reduceEqDiff, Nat.reduceAdd, Nat.reduceSub, Nat.reduceMul, Int.reduceToNat, Int.reduceLT, Int.reduceLE, Int.reduceEq, Int.reduceNe, Int.reduceNeg, Int.reduceToNat, Int.lt_irrefl, Int.le_refl]
    exact ⟨_, WkE.keep (by simp only [go_sem, List.replicate_succ, Nat.reducePow, Nat.reduceLeDiff, ↓reduceIte, reduceCtorEq, Nat.reduceLT, Nat.reduceEqDiff, Nat.reduceAdd, Nat.reduceSub, Nat.reduceMul, Int.reduceToNat]), rfl⟩
  obtain ⟨acts, ha⟩ : ∃ acts, scriptL l n = acts := ⟨_, rfl⟩
  have hS := Script_s l n hl (by omega)
  rw [ha] at hS
  have hal : acts.length ≤ 40 := by rw [← ha]; unfold scriptL; rw [scriptK_len]; unfold roundsL; omega
  clear ha hA bA w1 hn
  refine CwpE.cut (st := ⟨[(5, vi n), (6, .ref 2 1 0 0), (8, .ref 5 1 0 0), (10, .list 6 (acts.map vact))], objN s0 s0⟩) ?_ ?_
  · generalize objN s0 s0 = O
    simp only [go_sem, List.replicate_succ, Nat.reducePow, Nat.reduceLeDiff, ↓reduceIte, reduceCtorEq, Nat.reduceLT, Nat.reduceEqDiff, Nat.reduceAdd, Nat.reduceSub, Nat.reduceMul, Int.reduceToNat, Int.reduceLT, Int.reduceLE, Int.reduceEq, Int.reduceNe, Int.reduceNeg, Int.reduceToNat, Int.lt_irrefl, Int.le_refl]
    refine callT hS rfl ?_
    simp only [go_sem, List.replicate_succ, Nat.reducePow, Nat.reduceLeDiff, ↓reduceIte, reduceCtorEq, Nat.reduceLT, Nat.reduceEqDiff, Nat.reduceAdd, Nat.reduceSub, Nat.reduceMul, Int.reduceToNat, Int.reduceLT, Int.reduceLE, Int.reduceEq, Int.reduceNe, Int.reduceNeg, Int.reduceToNat, Int.lt_irrefl, Int.le_refl]
    exact ⟨_, WkE.keep (by simp only [go_sem, List.replicate_succ, Nat.reducePow, Nat.reduceLeDiff, ↓reduceIte, reduceCtorEq, Nat.reduceLT, Nat.reduceEqDiff, Nat.reduceAdd, Nat.reduceSub, Nat.reduceMul, Int.reduceToNat]), rfl⟩
  refine CwpE.seqJ (fun st => st = ⟨[], []⟩) ?_ ?_
  rotate_left
  · rintro st rfl
    refine CwpE.vc ?_
    simp only [go_sem, List.replicate_succ, Nat.reducePow, Nat.reduceLeDiff, ↓reduceIte, reduceCtorEq, Nat.reduceLT, Nat.reduceEqDiff, Nat.reduceAdd, Nat.reduceSub, Nat.reduceMul, Int.reduceToNat, Int.reduceLT, Int.reduceLE, Int.reduceEq, Int.reduceNe, Int.reduceNeg, Int.reduceToNat, Int.lt_irrefl, Int.le_refl]
    refine callT lives_s rfl ?_
    simp only [go_sem, List.replicate_succ, Nat.reducePow, Nat.reduceLeDiff, ↓reduceIte, reduceCtorEq, Nat.reduceLT, Nat.reduceEqDiff, Nat.reduceAdd, Nat.reduceSub, Nat.reduceMul, Int.reduceToNat, Int.reduceLT, Int.reduceLE, Int.reduceEq, Int.reduceNe, Int.reduceNeg, Int.reduceToNat, Int.lt_irrefl, Int.le_refl]
    exact .tree _ rfl
  refine CwpE.cut (st := ⟨envN n acts 0, objN s0 s0⟩) ?_ (CwpE.block ?_)
  · generalize objN s0 s0 = O
    simp only [go_sem, List.replicate_succ, Nat.reducePow, Nat.reduceLeDiff, ↓reduceIte, reduceCtorEq, Nat.reduceLT, Nat.reduceEqDiff, Nat.reduceAdd, Nat.reduceSub, Nat.reduceMul, Int.reduceToNat, Int.reduceLT, Int.reduceLE, Int.reduceEq, Int.reduceNe, Int.reduceNeg, Int.reduceToNat, Int.lt_irrefl, Int.le_refl]
    exact ⟨_, WkE.keep (by simp only [go_sem, List.replicate_succ, Nat.reducePow, Nat.reduceLeDiff, ↓reduceIte, reduceCtorEq, Nat.reduceLT, Nat.reduceEqDiff, Nat.reduceAdd, Nat.reduceSub, Nat.reduceMul, Int.reduceToNat]; rfl), rfl⟩
  refine loopXC 0 (fun m st => ∃ (i : Nat) (s : Hs), m = acts.length - i ∧ i ≤ acts.length ∧ Inv n i s ∧ st = ⟨envN n acts i, objN s s⟩)
    (fun st => st = ⟨[], []⟩) acts.length
    ⟨envN n acts 0, objN s0 s0⟩ (.refl _ _) ⟨0, s0, rfl, by omega, inv0, rfl⟩ ?_ ?_
  rotate_left
  · rintro st rfl
    simp only [go_sem, List.replicate_succ, Nat.reducePow, Nat.reduceLeDiff, ↓reduceIte, reduceCtorEq, Nat.reduceLT, Nat.reduceEqDiff, Nat.reduceAdd, Nat.reduceSub, Nat.reduceMul, Int.reduceToNat]
    exact ⟨_, .refl _ _, rfl⟩
  clear inv0 s0
  rintro m st ⟨i, s, rfl, hi, inv, rfl⟩
  by_cases hlt : i < acts.length
  rotate_left
  · have g1 : ¬ (i : Int) < (acts.length : Int) := by omega
    generalize objN s s = O
    refine CwpE.vc ?_
    simp only [go_sem, List.replicate_succ, Nat.reducePow, Nat.reduceLeDiff, ↓reduceIte, reduceCtorEq, Nat.reduceLT, Nat.reduceEqDiff, Nat.reduceAdd, Nat.reduceSub, Nat.reduceMul, Int.reduceToNat, Int.reduceLT, Int.reduceLE, Int.reduceEq, Int.reduceNe, Int.reduceNeg, Int.reduceToNat, Int.lt_irrefl, Int.le_refl, g1, List.length_map]
    exact ⟨⟨[], []⟩, WkE.round (by simp only [go_sem, List.replicate_succ, Nat.reducePow, Nat.reduceLeDiff, ↓reduceIte, reduceCtorEq, Nat.reduceLT, Nat.reduceEqDiff, Nat.reduceAdd, Nat.reduceSub, Nat.reduceMul, Int.reduceToNat]) rfl rfl rfl, rfl⟩
  have g1 : (i : Int) < (acts.length : Int) := by omega
  have g0 : (0 : Int) ≤ (i : Int) := by omega
  have w4 : IntKind.i64.wrap ((i : Int) + 1) = ((i + 1 : Nat) : Int) := by rw [wrap_id (by omega) (by omega)]; omega
  refine CwpE.cut (st := ⟨envN n acts i, objN s s⟩) ?_ ?_
  · generalize objN s s = O
    simp only [go_sem, List.replicate_succ, Nat.reducePow, Nat.reduceLeDiff, ↓reduceIte, reduceCtorEq, Nat.reduceLT, Nat.reduceEqDiff, Nat.reduceAdd, Nat.reduceSub, Nat.reduceMul, Int.reduceToNat, Int.reduceLT, Int.reduceLE, Int.reduceEq, Int.reduceNe, Int.reduceNeg, Int.reduceToNat, Int.lt_irrefl, Int.le_refl, g1, List.length_map]
    exact ⟨_, WkE.keep (by simp only [go_sem, List.replicate_succ, Nat.reducePow, Nat.reduceLeDiff, ↓reduceIte, reduceCtorEq, Nat.reduceLT, Nat.reduceEqDiff, Nat.reduceAdd, Nat.reduceSub, Nat.reduceMul, Int.reduceToNat]), rfl⟩
  refine CwpE.seqJ (fun st => ∃ s' : Hs, Inv n (i + 1) s' ∧ st = ⟨envN n acts i, objN s' s'⟩) (CwpE.block ?_) ?_
  rotate_left
  · rintro st ⟨s', inv', rfl⟩
    have fin : ∀ O env, WkE 128 ⟨env, O⟩ ⟨envN n acts (i + 1), O⟩ → O = objN s' s' → ∃ m_1 st, m_1 < acts.length - i ∧ WkE 128 ⟨env, O⟩ st ∧ ∃ (i : Nat) (s : Hs), m_1 = acts.length - i ∧ i ≤ acts.length ∧ Inv n i s ∧ st = ⟨envN n acts i, objN s s⟩ :=
      fun O env h e => ⟨acts.length - (i + 1), _, by omega, h, i + 1, s', rfl, by omega, inv', by rw [e]⟩
    have hO : ∃ O, O = objN s' s' := ⟨_, rfl⟩
    obtain ⟨O, hO⟩ := hO
    rw [← hO]
    refine CwpE.vc ?_
    simp only [go_sem, List.replicate_succ, Nat.reducePow, Nat.reduceLeDiff, ↓reduceIte, reduceCtorEq, Nat.reduceLT, Nat.reduceEqDiff, Nat.reduceAdd, Nat.reduceSub, Nat.reduceMul, Int.reduceToNat, w4]
    exact fin _ _ (WkE.keep (by simp only [go_sem, List.replicate_succ, Nat.reducePow, Nat.reduceLeDiff, ↓reduceIte, reduceCtorEq, Nat.reduceLT, Nat.reduceEqDiff, Nat.reduceAdd, Nat.reduceSub, Nat.reduceMul, Int.reduceToNat])) hO
  have hget : (acts.map vact)[i]? = some (vact acts[i]) := by rw [List.getElem?_map, List.getElem?_eq_getElem hlt]; rfl
  generalize acts[i] = x at *
  obtain ⟨num, tick, seat, kind, a, b⟩ := x
  obtain ⟨ev, hev⟩ : ∃ ev : Ev, (⟨tick, seat, kind, a, b⟩ : Ev) = ev := ⟨_, rfl⟩
  refine CwpE.cut (st := ⟨(12, .ref 9 1 0 0) :: envN n acts i, objN s s ++ [.arr 1 5 32 [vev ⟨tick, seat, kind, a, b⟩]]⟩) ?_ ?_
  · simp only [objN, objsR, oR, go_sem, List.replicate_succ, Nat.reducePow, Nat.reduceLeDiff, ↓reduceIte, reduceCtorEq, Nat.reduceLT, Nat.reduceEqDiff, Nat.reduceAdd, Nat.reduceSub, Nat.reduceMul, Int.reduceToNat, Int.reduceLT, Int.reduceLE, Int.reduceEq, Int.reduceNe, Int.reduceNeg, Int.reduceToNat, Int.lt_irrefl, Int.le_refl, g0, g1, hget, List.length_map]
    exact ⟨_, WkE.keep (by simp only [go_sem, List.replicate_succ, Nat.reducePow, Nat.reduceLeDiff, ↓reduceIte, reduceCtorEq, Nat.reduceLT, Nat.reduceEqDiff, Nat.reduceAdd, Nat.reduceSub, Nat.reduceMul, Int.reduceToNat]), rfl⟩
  have fin : ∀ (s' : Hs) env X, Inv n (i + 1) s' → (∀ p ∈ envN n acts i, lk env p.1 = p.2) → ∃ st, WkE 128 ⟨env, objN s' s' ++ X⟩ st ∧ ∃ s' : Hs, Inv n (i + 1) s' ∧ st = ⟨envN n acts i, objN s' s'⟩ := by
    intro s' env X inv' hlk
    refine ⟨⟨envN n acts i, objN s' s'⟩, WkE.round ⟨hlk (5, vi n) (by simp), hlk (6, .ref 2 1 0 0) (by simp), hlk (8, .ref 5 1 0 0) (by simp), hlk (10, .list 6 (acts.map vact)) (by simp), hlk (11, vi i) (by simp), trivial⟩ rfl (objN_inn s' s') ?_, s', inv', rfl⟩
    exact List.take_left' rfl
  have ok := inv.okH (by omega) (by omega)
  have bd := inv.bd (by omega) (by omega)
  by_cases c1 : num = 0 ∧ kind = 1
  · obtain ⟨rfl, rfl⟩ := c1
    have dinv := does_inv inv ⟨0, ⟨tick, seat, 1, a, b⟩⟩
    rw [doesH_ev rfl] at dinv
    simp only at dinv
    obtain ⟨o1, o2, o3⟩ := lose_obs s tick seat a b
    have hh := Step_s s bd.1 bd.2.1 bd.2.2 ⟨tick, seat, 1, a, b⟩
    have hb := fun p => StepR_s p s bd.1 bd.2.1 bd.2.2 ⟨tick, seat, 1, a, b⟩
    rw [step_eq inv.wt (inv_mom inv)] at hb
    have ok1 := dinv.okH (by omega) (by omega)
    generalize stepH s ⟨tick, seat, 1, a, b⟩ = s1 at *
    have hag := agree_s s1 s ok1 ok (by rw [o1]) o2 o3
    refine CwpE.vc ?_
    simp only [objN, objsR, oR, go_sem, List.replicate_succ, Nat.reducePow, Nat.reduceLeDiff, ↓reduceIte, reduceCtorEq, Nat.reduceLT, Nat.reduceEqDiff, Nat.reduceAdd, Nat.reduceSub, Nat.reduceMul, Int.reduceToNat, Int.reduceLT, Int.reduceLE, Int.reduceEq, Int.reduceNe, Int.reduceNeg, Int.reduceToNat, Int.lt_irrefl, Int.le_refl, g0, g1, hget, List.length_map]
    refine callM (objsH s) (tlR s ++ [.arr 1 5 32 [vev ⟨tick, seat, 1, a, b⟩]]) _ hh rfl (objsH_inn _ 5 (by omega)) rfl ?_
    simp only [objsH, oH, go_sem, List.replicate_succ, Nat.reducePow, Nat.reduceLeDiff, ↓reduceIte, reduceCtorEq, Nat.reduceLT, Nat.reduceEqDiff, Nat.reduceAdd, Nat.reduceSub, Nat.reduceMul, Int.reduceToNat, Int.reduceLT, Int.reduceLE, Int.reduceEq, Int.reduceNe, Int.reduceNeg, Int.reduceToNat, Int.lt_irrefl, Int.le_refl]
    refine callM (objsR (preH s1) s) [.arr 1 5 32 [vev ⟨tick, seat, 1, a, b⟩]] _ hag rfl (objsR_inn _ _ 9 (by omega)) rfl ?_
    simp only [objsR, oR, go_sem, List.replicate_succ, Nat.reducePow, Nat.reduceLeDiff, ↓reduceIte, reduceCtorEq, Nat.reduceLT, Nat.reduceEqDiff, Nat.reduceAdd, Nat.reduceSub, Nat.reduceMul, Int.reduceToNat, Int.reduceLT, Int.reduceLE, Int.reduceEq, Int.reduceNe, Int.reduceNeg, Int.reduceToNat, Int.lt_irrefl, Int.le_refl]
    refine callM (objsR (preH s1) s) [.arr 1 5 32 [vev ⟨tick, seat, 1, a, b⟩]] _ (hb _) rfl (objsR_inn _ _ 9 (by omega)) rfl ?_
    simp only [objsR, oR, go_sem, List.replicate_succ, Nat.reducePow, Nat.reduceLeDiff, ↓reduceIte, reduceCtorEq, Nat.reduceLT, Nat.reduceEqDiff, Nat.reduceAdd, Nat.reduceSub, Nat.reduceMul, Int.reduceToNat, Int.reduceLT, Int.reduceLE, Int.reduceEq, Int.reduceNe, Int.reduceNeg, Int.reduceToNat, Int.lt_irrefl, Int.le_refl]
    exact fin s1 _ [.arr 1 5 32 [vev ⟨tick, seat, 1, a, b⟩]] dinv (by simp [lk])
  refine CwpE.cut (st := ⟨(12, .ref 9 1 0 0) :: envN n acts i, objN s s ++ [.arr 1 5 32 [vev ⟨tick, seat, kind, a, b⟩]]⟩) ?_ ?_
  · by_cases z : num = 0
    · have y : ¬ kind = 1 := fun c => c1 ⟨z, c⟩
      simp only [objN, objsR, oR, go_sem, List.replicate_succ, Nat.reducePow, Nat.reduceLeDiff, ↓reduceIte, reduceCtorEq, Nat.reduceLT, Nat.reduceEqDiff, Nat.reduceAdd, Nat.reduceSub, Nat.reduceMul, Int.reduceToNat, Int.reduceLT, Int.reduceLE, Int.reduceEq, Int.reduceNe, Int.reduceNeg, Int.reduceToNat, Int.lt_irrefl, Int.le_refl, g0, g1, hget, List.length_map, z, y]
      exact ⟨_, WkE.keep (by simp only [go_sem, List.replicate_succ, Nat.reducePow, Nat.reduceLeDiff, ↓reduceIte, reduceCtorEq, Nat.reduceLT, Nat.reduceEqDiff, Nat.reduceAdd, Nat.reduceSub, Nat.reduceMul, Int.reduceToNat]), rfl⟩
    · simp only [objN, objsR, oR, go_sem, List.replicate_succ, Nat.reducePow, Nat.reduceLeDiff, ↓reduceIte, reduceCtorEq, Nat.reduceLT, Nat.reduceEqDiff, Nat.reduceAdd, Nat.reduceSub, Nat.reduceMul, Int.reduceToNat, Int.reduceLT, Int.reduceLE, Int.reduceEq, Int.reduceNe, Int.reduceNeg, Int.reduceToNat, Int.lt_irrefl, Int.le_refl, g0, g1, hget, List.length_map, z]
      exact ⟨_, WkE.keep (by simp only [go_sem, List.replicate_succ, Nat.reducePow, Nat.reduceLeDiff, ↓reduceIte, reduceCtorEq, Nat.reduceLT, Nat.reduceEqDiff, Nat.reduceAdd, Nat.reduceSub, Nat.reduceMul, Int.reduceToNat]), rfl⟩
  by_cases c0 : num = 0 ∧ kind = 0
  · obtain ⟨rfl, rfl⟩ := c0
    have dinv := does_inv inv ⟨0, ⟨tick, seat, 0, a, b⟩⟩
    have dinv2 := does_inv inv ⟨0, ⟨tick, seat, 2, a, b⟩⟩
    rw [doesH_ev rfl] at dinv dinv2
    simp only at dinv dinv2
    obtain ⟨t1, t2, t3⟩ := step_twice s tick seat a b
    have hh := Step_s s bd.1 bd.2.1 bd.2.2 ⟨tick, seat, 2, a, b⟩
    have hb := fun p => StepR_s p s bd.1 bd.2.1 bd.2.2 ⟨tick, seat, 0, a, b⟩
    rw [step_eq inv.wt (inv_mom inv), ← t1] at hb
    have ok1 := dinv.okH (by omega) (by omega)
    have bd2 := dinv2.bd (by omega) (by omega)
    have hh2 := Step_s (stepH s ⟨tick, seat, 2, a, b⟩) bd2.1 bd2.2.1 bd2.2.2 ⟨tick, seat, 0, a, b⟩
    rw [t2] at hh2
    generalize stepE (stepH s ⟨tick, seat, 2, a, b⟩) ⟨tick, seat, 0, a, b⟩ = o at *
    generalize stepE s ⟨tick, seat, 2, a, b⟩ = g at *
    generalize stepH s ⟨tick, seat, 2, a, b⟩ = s2 at *
    clear t1 t2 dinv2 bd2 bd ok c1
    generalize stepH s ⟨tick, seat, 0, a, b⟩ = s1 at *
    have hag := agree_s s1 s1 ok1 ok1 rfl rfl (fun _ => rfl)
    refine CwpE.vc ?_
    have cs : (g = 0 ∧ o = 0) ∨ (g = 0 ∧ o = 6) ∨ ¬ g = 0 := by
      by_cases z : g = 0
      · rcases t3 z with e | e
        · exact .inl ⟨z, e⟩
        · exact .inr (.inl ⟨z, e⟩)
      · exact .inr (.inr z)
    have n60 : ¬ (6 : Int) = 0 := by decide
    rcases cs with ⟨rfl, rfl⟩ | ⟨rfl, rfl⟩ | gz
    · simp only [objN, objsR, oR, go_sem, List.replicate_succ, Nat.reducePow, Nat.reduceLeDiff, ↓reduceIte, reduceCtorEq, Nat.reduceLT, Nat.reduceEqDiff, Nat.reduceAdd, Nat.reduceSub, Nat.reduceMul, Int.reduceToNat, Int.reduceLT, Int.reduceLE, Int.reduceEq, Int.reduceNe, Int.reduceNeg, Int.reduceToNat, Int.lt_irrefl, Int.le_refl, g0, g1, hget, List.length_map]
      refine callM (objsH s) (tlR s ++ [.arr 1 5 32 [vev ⟨tick, seat, 2, a, b⟩]]) _ hh rfl (objsH_inn _ 5 (by omega)) rfl ?_
      simp only [objsH, oH, go_sem, List.replicate_succ, Nat.reducePow, Nat.reduceLeDiff, ↓reduceIte, reduceCtorEq, Nat.reduceLT, Nat.reduceEqDiff, Nat.reduceAdd, Nat.reduceSub, Nat.reduceMul, Int.reduceToNat, Int.reduceLT, Int.reduceLE, Int.reduceEq, Int.reduceNe, Int.reduceNeg, Int.reduceToNat, Int.lt_irrefl, Int.le_refl]
      refine callM (objsH s2) (tlR s ++ [.arr 1 5 32 [vev ⟨tick, seat, 0, a, b⟩]]) _ hh2 rfl (objsH_inn _ 5 (by omega)) rfl ?_
      simp only [objsH, oH, go_sem, List.replicate_succ, Nat.reducePow, Nat.reduceLeDiff, ↓reduceIte, reduceCtorEq, Nat.reduceLT, Nat.reduceEqDiff, Nat.reduceAdd, Nat.reduceSub, Nat.reduceMul, Int.reduceToNat, Int.reduceLT, Int.reduceLE, Int.reduceEq, Int.reduceNe, Int.reduceNeg, Int.reduceToNat, Int.lt_irrefl, Int.le_refl]
      refine callM (objsR (preH s1) s) [.arr 1 5 32 [vev ⟨tick, seat, 0, a, b⟩]] _ (hb _) rfl (objsR_inn _ _ 9 (by omega)) rfl ?_
      simp only [objsR, oR, go_sem, List.replicate_succ, Nat.reducePow, Nat.reduceLeDiff, ↓reduceIte, reduceCtorEq, Nat.reduceLT, Nat.reduceEqDiff, Nat.reduceAdd, Nat.reduceSub, Nat.reduceMul, Int.reduceToNat, Int.reduceLT, Int.reduceLE, Int.reduceEq, Int.reduceNe, Int.reduceNeg, Int.reduceToNat, Int.lt_irrefl, Int.le_refl]
      refine callM (objsR (preH s1) s1) [.arr 1 5 32 [vev ⟨tick, seat, 0, a, b⟩]] _ hag rfl (objsR_inn _ _ 9 (by omega)) rfl ?_
      simp only [objsR, oR, go_sem, List.replicate_succ, Nat.reducePow, Nat.reduceLeDiff, ↓reduceIte, reduceCtorEq, Nat.reduceLT, Nat.reduceEqDiff, Nat.reduceAdd, Nat.reduceSub, Nat.reduceMul, Int.reduceToNat, Int.reduceLT, Int.reduceLE, Int.reduceEq, Int.reduceNe, Int.reduceNeg, Int.reduceToNat, Int.lt_irrefl, Int.le_refl]
      exact fin s1 _ [.arr 1 5 32 [vev ⟨tick, seat, 0, a, b⟩]] dinv (by simp [lk])
    · simp only [objN, objsR, oR, go_sem, List.replicate_succ, Nat.reducePow, Nat.reduceLeDiff, ↓reduceIte, reduceCtorEq, Nat.reduceLT, Nat.reduceEqDiff, Nat.reduceAdd, Nat.reduceSub, Nat.reduceMul, Int.reduceToNat, Int.reduceLT, Int.reduceLE, Int.reduceEq, Int.reduceNe, Int.reduceNeg, Int.reduceToNat, Int.lt_irrefl, Int.le_refl, g0, g1, hget, List.length_map]
      refine callM (objsH s) (tlR s ++ [.arr 1 5 32 [vev ⟨tick, seat, 2, a, b⟩]]) _ hh rfl (objsH_inn _ 5 (by omega)) rfl ?_
      simp only [objsH, oH, go_sem, List.replicate_succ, Nat.reducePow, Nat.reduceLeDiff, ↓reduceIte, reduceCtorEq, Nat.reduceLT, Nat.reduceEqDiff, Nat.reduceAdd, Nat.reduceSub, Nat.reduceMul, Int.reduceToNat, Int.reduceLT, Int.reduceLE, Int.reduceEq, Int.reduceNe, Int.reduceNeg, Int.reduceToNat, Int.lt_irrefl, Int.le_refl]
      refine callM (objsH s2) (tlR s ++ [.arr 1 5 32 [vev ⟨tick, seat, 0, a, b⟩]]) _ hh2 rfl (objsH_inn _ 5 (by omega)) rfl ?_
      simp only [objsH, oH, go_sem, List.replicate_succ, Nat.reducePow, Nat.reduceLeDiff, ↓reduceIte, reduceCtorEq, Nat.reduceLT, Nat.reduceEqDiff, Nat.reduceAdd, Nat.reduceSub, Nat.reduceMul, Int.reduceToNat, Int.reduceLT, Int.reduceLE, Int.reduceEq, Int.reduceNe, Int.reduceNeg, Int.reduceToNat, Int.lt_irrefl, Int.le_refl]
      refine callM (objsR (preH s1) s) [.arr 1 5 32 [vev ⟨tick, seat, 0, a, b⟩]] _ (hb _) rfl (objsR_inn _ _ 9 (by omega)) rfl ?_
      simp only [objsR, oR, go_sem, List.replicate_succ, Nat.reducePow, Nat.reduceLeDiff, ↓reduceIte, reduceCtorEq, Nat.reduceLT, Nat.reduceEqDiff, Nat.reduceAdd, Nat.reduceSub, Nat.reduceMul, Int.reduceToNat, Int.reduceLT, Int.reduceLE, Int.reduceEq, Int.reduceNe, Int.reduceNeg, Int.reduceToNat, Int.lt_irrefl, Int.le_refl, n60]
      refine callM (objsR (preH s1) s1) [.arr 1 5 32 [vev ⟨tick, seat, 0, a, b⟩]] _ hag rfl (objsR_inn _ _ 9 (by omega)) rfl ?_
      simp only [objsR, oR, go_sem, List.replicate_succ, Nat.reducePow, Nat.reduceLeDiff, ↓reduceIte, reduceCtorEq, Nat.reduceLT, Nat.reduceEqDiff, Nat.reduceAdd, Nat.reduceSub, Nat.reduceMul, Int.reduceToNat, Int.reduceLT, Int.reduceLE, Int.reduceEq, Int.reduceNe, Int.reduceNeg, Int.reduceToNat, Int.lt_irrefl, Int.le_refl]
      exact fin s1 _ [.arr 1 5 32 [vev ⟨tick, seat, 0, a, b⟩]] dinv (by simp [lk])
    · simp only [objN, objsR, oR, go_sem, List.replicate_succ, Nat.reducePow, Nat.reduceLeDiff, ↓reduceIte, reduceCtorEq, Nat.reduceLT, Nat.reduceEqDiff, Nat.reduceAdd, Nat.reduceSub, Nat.reduceMul, Int.reduceToNat, Int.reduceLT, Int.reduceLE, Int.reduceEq, Int.reduceNe, Int.reduceNeg, Int.reduceToNat, Int.lt_irrefl, Int.le_refl, g0, g1, hget, List.length_map]
      refine callM (objsH s) (tlR s ++ [.arr 1 5 32 [vev ⟨tick, seat, 2, a, b⟩]]) _ hh rfl (objsH_inn _ 5 (by omega)) rfl ?_
      simp only [objsH, oH, go_sem, List.replicate_succ, Nat.reducePow, Nat.reduceLeDiff, ↓reduceIte, reduceCtorEq, Nat.reduceLT, Nat.reduceEqDiff, Nat.reduceAdd, Nat.reduceSub, Nat.reduceMul, Int.reduceToNat, Int.reduceLT, Int.reduceLE, Int.reduceEq, Int.reduceNe, Int.reduceNeg, Int.reduceToNat, Int.lt_irrefl, Int.le_refl]
      refine callM (objsH s2) (tlR s ++ [.arr 1 5 32 [vev ⟨tick, seat, 0, a, b⟩]]) _ hh2 rfl (objsH_inn _ 5 (by omega)) rfl ?_
      simp only [objsH, oH, go_sem, List.replicate_succ, Nat.reducePow, Nat.reduceLeDiff, ↓reduceIte, reduceCtorEq, Nat.reduceLT, Nat.reduceEqDiff, Nat.reduceAdd, Nat.reduceSub, Nat.reduceMul, Int.reduceToNat, Int.reduceLT, Int.reduceLE, Int.reduceEq, Int.reduceNe, Int.reduceNeg, Int.reduceToNat, Int.lt_irrefl, Int.le_refl]
      refine callM (objsR (preH s1) s) [.arr 1 5 32 [vev ⟨tick, seat, 0, a, b⟩]] _ (hb _) rfl (objsR_inn _ _ 9 (by omega)) rfl ?_
      simp only [objsR, oR, go_sem, List.replicate_succ, Nat.reducePow, Nat.reduceLeDiff, ↓reduceIte, reduceCtorEq, Nat.reduceLT, Nat.reduceEqDiff, Nat.reduceAdd, Nat.reduceSub, Nat.reduceMul, Int.reduceToNat, Int.reduceLT, Int.reduceLE, Int.reduceEq, Int.reduceNe, Int.reduceNeg, Int.reduceToNat, Int.lt_irrefl, Int.le_refl, gz]
      refine callM (objsR (preH s1) s1) [.arr 1 5 32 [vev ⟨tick, seat, 0, a, b⟩]] _ hag rfl (objsR_inn _ _ 9 (by omega)) rfl ?_
      simp only [objsR, oR, go_sem, List.replicate_succ, Nat.reducePow, Nat.reduceLeDiff, ↓reduceIte, reduceCtorEq, Nat.reduceLT, Nat.reduceEqDiff, Nat.reduceAdd, Nat.reduceSub, Nat.reduceMul, Int.reduceToNat, Int.reduceLT, Int.reduceLE, Int.reduceEq, Int.reduceNe, Int.reduceNeg, Int.reduceToNat, Int.lt_irrefl, Int.le_refl]
      exact fin s1 _ [.arr 1 5 32 [vev ⟨tick, seat, 0, a, b⟩]] dinv (by simp [lk])
  refine CwpE.cut (st := ⟨envN n acts i, objN s s ++ [.arr 1 5 32 [vev ⟨tick, seat, kind, a, b⟩]]⟩) ?_ ?_
  · by_cases z : num = 0
    · have y : ¬ kind = 0 := fun c => c0 ⟨z, c⟩
      simp only [objN, objsR, oR, go_sem, List.replicate_succ, Nat.reducePow, Nat.reduceLeDiff, ↓reduceIte, reduceCtorEq, Nat.reduceLT, Nat.reduceEqDiff, Nat.reduceAdd, Nat.reduceSub, Nat.reduceMul, Int.reduceToNat, Int.reduceLT, Int.reduceLE, Int.reduceEq, Int.reduceNe, Int.reduceNeg, Int.reduceToNat, Int.lt_irrefl, Int.le_refl, g0, g1, hget, List.length_map, z, y]
      exact ⟨_, WkE.keep (by simp only [go_sem, List.replicate_succ, Nat.reducePow, Nat.reduceLeDiff, ↓reduceIte, reduceCtorEq, Nat.reduceLT, Nat.reduceEqDiff, Nat.reduceAdd, Nat.reduceSub, Nat.reduceMul, Int.reduceToNat]), rfl⟩
    · simp only [objN, objsR, oR, go_sem, List.replicate_succ, Nat.reducePow, Nat.reduceLeDiff, ↓reduceIte, reduceCtorEq, Nat.reduceLT, Nat.reduceEqDiff, Nat.reduceAdd, Nat.reduceSub, Nat.reduceMul, Int.reduceToNat, Int.reduceLT, Int.reduceLE, Int.reduceEq, Int.reduceNe, Int.reduceNeg, Int.reduceToNat, Int.lt_irrefl, Int.le_refl, g0, g1, hget, List.length_map, z]
      exact ⟨_, WkE.keep (by simp only [go_sem, List.replicate_succ, Nat.reducePow, Nat.reduceLeDiff, ↓reduceIte, reduceCtorEq, Nat.reduceLT, Nat.reduceEqDiff, Nat.reduceAdd, Nat.reduceSub, Nat.reduceMul, Int.reduceToNat]), rfl⟩
  have dinv := does_inv inv ⟨num, ⟨tick, seat, kind, a, b⟩⟩
  have hh := does_s s bd ⟨num, ⟨tick, seat, kind, a, b⟩⟩
  have hb := fun p => plays_s p inv (by omega) (by omega) ⟨num, ⟨tick, seat, kind, a, b⟩⟩
  have ok1 := dinv.okH (by omega) (by omega)
  generalize doesE s ⟨num, ⟨tick, seat, kind, a, b⟩⟩ = f at *
  generalize doesH s ⟨num, ⟨tick, seat, kind, a, b⟩⟩ = s1 at *
  have hag := agree_s s1 s1 ok1 ok1 rfl rfl (fun _ => rfl)
  refine CwpE.vc ?_
  simp only [objN, objsR, oR, go_sem, List.replicate_succ, Nat.reducePow, Nat.reduceLeDiff, ↓reduceIte, reduceCtorEq, Nat.reduceLT, Nat.reduceEqDiff, Nat.reduceAdd, Nat.reduceSub, Nat.reduceMul, Int.reduceToNat, Int.reduceLT, Int.reduceLE, Int.reduceEq, Int.reduceNe, Int.reduceNeg, Int.reduceToNat, Int.lt_irrefl, Int.le_refl, g0, g1, hget, List.length_map]
  refine callM (objsH s) (tlR s ++ [.arr 1 5 32 [vev ⟨tick, seat, kind, a, b⟩]]) _ hh rfl (objsH_inn _ 5 (by omega)) rfl ?_
  simp only [objsH, oH, go_sem, List.replicate_succ, Nat.reducePow, Nat.reduceLeDiff, ↓reduceIte, reduceCtorEq, Nat.reduceLT, Nat.reduceEqDiff, Nat.reduceAdd, Nat.reduceSub, Nat.reduceMul, Int.reduceToNat, Int.reduceLT, Int.reduceLE, Int.reduceEq, Int.reduceNe, Int.reduceNeg, Int.reduceToNat, Int.lt_irrefl, Int.le_refl, g0, g1, hget, List.length_map]
  refine callM (objsR (preH s1) s) [.arr 1 5 32 [vev ⟨tick, seat, kind, a, b⟩]] _ (hb _) rfl (objsR_inn _ _ 9 (by omega)) rfl ?_
  simp only [objsR, oR, go_sem, List.replicate_succ, Nat.reducePow, Nat.reduceLeDiff, ↓reduceIte, reduceCtorEq, Nat.reduceLT, Nat.reduceEqDiff, Nat.reduceAdd, Nat.reduceSub, Nat.reduceMul, Int.reduceToNat, Int.reduceLT, Int.reduceLE, Int.reduceEq, Int.reduceNe, Int.reduceNeg, Int.reduceToNat, Int.lt_irrefl, Int.le_refl]
  refine callM (objsR (preH s1) s1) [.arr 1 5 32 [vev ⟨tick, seat, kind, a, b⟩]] _ hag rfl (objsR_inn _ _ 9 (by omega)) rfl ?_
  simp only [objsR, oR, go_sem, List.replicate_succ, Nat.reducePow, Nat.reduceLeDiff, ↓reduceIte, reduceCtorEq, Nat.reduceLT, Nat.reduceEqDiff, Nat.reduceAdd, Nat.reduceSub, Nat.reduceMul, Int.reduceToNat, Int.reduceLT, Int.reduceLE, Int.reduceEq, Int.reduceNe, Int.reduceNeg, Int.reduceToNat, Int.lt_irrefl, Int.le_refl]
  exact fin s1 _ [.arr 1 5 32 [vev ⟨tick, seat, kind, a, b⟩]] dinv (by simp [lk])
end Go.Proofs.Ytjpknjicfoiheaa
