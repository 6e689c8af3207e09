/- The law Moment. -/
import Derived.Test.YtjpknjicfoiheaaPl
set_option linter.unusedSimpArgs false
set_option linter.unusedVariables false
set_option linter.unusedSectionVars false
namespace Go.Proofs.Ytjpknjicfoiheaa
open Go.RowKit Dak
theorem k50 : ∀ seats : Int, ∃ n : Nat, 1 + aroundL seats 5 = (n : Int) ∧ 1 ≤ n ∧ n ≤ 5 := fun seats => by
  have := aroundL_bd seats 5 (by omega)
  exact ⟨(1 + aroundL seats 5).toNat, by omega, by omega, by omega⟩
def HL (L : List Bool) : Nat → Bool := fun j => L.getD j false
theorem HL_set (L : List Bool) {i : Nat} (b : Bool) (h : i < L.length) : HL (L.set i b) = upd (HL L) i b := by
  funext j
  unfold HL upd
  simp only [List.getD_eq_getElem?_getD, List.getElem?_set]
  by_cases c : i = j
  · subst c; simp [h]
  · rw [if_neg c, if_neg (Ne.symm c)]
theorem HL_get {L : List Bool} {i : Nat} (h : i < L.length) : L[i] = HL L i := by
  unfold HL
  rw [List.getD_eq_getElem?_getD, List.getElem?_eq_getElem h]; rfl
def listE (L : List Bool) (e : Ev) : List Bool :=
  if (e.kind = 0 ∨ e.kind = 2) ∧ e.a = 0 then L.set e.seat.toNat true
  else if (e.kind = 0 ∨ e.kind = 2) ∧ e.a = 2 ∨ e.kind = 3 then L.set e.seat.toNat false else L
theorem listE_H {L : List Bool} {e : Ev} (h : e.seat.toNat < L.length) : HL (listE L e) = updE (HL L) e := by
  unfold listE updE
  split
  · exact HL_set _ _ h
  · split
    · exact HL_set _ _ h
    · rfl
theorem listE_len (L : List Bool) (e : Ev) : (listE L e).length = L.length := by
  unfold listE
  split
  · simp
  · split
    · simp
    · rfl
theorem shown_live {s : Hs} {k : Nat} {d : Dv} (h : s.devs[k]? = some d) (l : d.live = true) (m1 : d.mom ≤ s.dec.length) : (shownE s k).length = d.mom.toNat ∧ shownE s k = s.dec.take d.mom.toNat := by
  have hl := (List.getElem?_eq_some_iff.1 h).1
  have : shownE s k = s.dec.take d.mom.toNat := by
    unfold shownE
    rw [if_neg (by omega), Int.toNat_natCast, h]
    show (if d.live = false then [] else s.dec.take d.mom.toNat) = _
    rw [if_neg (by simp [l])]
  refine ⟨?_, this⟩
  rw [this, List.length_take]; omega
abbrev envM (n : Nat) (acts : List Act') (i : Nat) : List (Nat × AV) := [(5, vi n), (6, .ref 2 1 0 0), (8, .own 5 n 0 n), (9, .list 6 (acts.map vact)), (10, vi i)]
abbrev stM (n : Nat) (acts : List Act') (i : Nat) (s : Hs) (L : List Bool) : Est := ⟨envM n acts i, objsH s ++ [.arr n 1 4 (L.map vb)]⟩
set_option maxHeartbeats 4000000 in
set_option maxRecDepth 100000 in
theorem Moment_law (l : List Int) (seats : Int) (hl : ∀ x ∈ l, I64 x) (hs : I64 seats) : Ctr Try.prog 4 [vints l, vi seats] (vb true) := by
  refine specC f4 (by simp) fun F0 w0 => ?_
  obtain ⟨n, hn, n1, n5⟩ := k50 seats
  have hA := Around_s seats 5 hs ⟨by omega, by omega⟩
  have bA := aroundL_bd seats 5 (by omega)
  have w1 : IntKind.i64.wrap (1 + aroundL seats 5) = (n : Int) := by rw [wrap_id (by omega) (by omega)]; exact hn
  unfold c4
  refine CwpE.cut (st := ⟨[(0, vints l), (1, vi seats)], []⟩) ?_ ?_
  · simp only [go_sem, List.replicate_succ, Nat.reducePow, Nat.reduceLeDiff, ↓reduceIte, reduceCtorEq, Nat.reduceLT, Nat.reduceEqDiff, Nat.reduceAdd, Nat.reduceSub, Nat.reduceMul, Int.reduceToNat]
    exact ⟨_, WkE.keep (by simp only [go_sem, List.replicate_succ, Nat.reducePow, Nat.reduceLeDiff, ↓reduceIte, reduceCtorEq, Nat.reduceLT, Nat.reduceEqDiff, Nat.reduceAdd, Nat.reduceSub, Nat.reduceMul, Int.reduceToNat]), rfl⟩
  refine CwpE.cut (st := ⟨[(0, vints l), (5, vi n)], []⟩) ?_ ?_
  · simp only [go_sem, List.replicate_succ, Nat.reducePow, Nat.reduceLeDiff, ↓reduceIte, reduceCtorEq, Nat.reduceLT, Nat.reduceEqDiff, Nat.reduceAdd, Nat.reduceSub, Nat.reduceMul, Int.reduceToNat]
    refine callT hA rfl ?_
    simp only [go_sem, List.replicate_succ, Nat.reducePow, Nat.reduceLeDiff, ↓reduceIte, reduceCtorEq, Nat.reduceLT, Nat.reduceEqDiff, Nat.reduceAdd, Nat.reduceSub, Nat.reduceMul, Int.reduceToNat, w1]
    exact ⟨_, WkE.keep (by simp only [go_sem, List.replicate_succ, Nat.reducePow, Nat.reduceLeDiff, ↓reduceIte, reduceCtorEq, Nat.reduceLT, Nat.reduceEqDiff, Nat.reduceAdd, Nat.reduceSub, Nat.reduceMul, Int.reduceToNat]), rfl⟩
  refine CwpE.cut (st := ⟨[(0, vints l), (5, vi n), (6, .ref 2 1 0 0), (7, vi 0)], objsH (newH n)⟩) ?_ ?_
  · simp only [go_sem, List.replicate_succ, Nat.reducePow, Nat.reduceLeDiff, ↓reduceIte, reduceCtorEq, Nat.reduceLT, Nat.reduceEqDiff, Nat.reduceAdd, Nat.reduceSub, Nat.reduceMul, Int.reduceToNat, Int.reduceLT, Int.reduceLE, Int.reduceEq, Int.reduceNe, Int.reduceNeg, Int.reduceToNat, Int.lt_irrefl, Int.le_refl]
    refine callNew (New_s n n1 (by omega)) (.cons (.tree _ rfl) .nil) ?_
    have e1 : (objsH (newH n)).map (AObj.shiftO 0) = objsH (newH n) := by simp [newH, objsH, oH, AObj.shiftO, AV.shift, AV.shift1]
    have e2 : AV.shift 0 (.tup [.ref 2 1 0 0, vi 0]) = .tup [.ref 2 1 0 0, vi 0] := rfl
    simp only [List.length_nil, List.nil_append, e1, e2]
    simp only [go_sem, List.replicate_succ, Nat.reducePow, Nat.reduceLeDiff, ↓reduceIte, reduceCtorEq, Nat.reduceLT, Nat.reduceEqDiff, Nat.reduceAdd, Nat.reduceSub, Nat.reduceMul, Int.reduceToNat, Int.reduceLT, Int.reduceLE, Int.reduceEq, Int.reduceNe, Int.reduceNeg, Int.reduceToNat, Int.lt_irrefl, Int.le_refl]
    exact ⟨_, WkE.keep (by simp only [go_sem, List.replicate_succ, Nat.reducePow, Nat.reduceLeDiff, ↓reduceIte, reduceCtorEq, Nat.reduceLT, Nat.reduceEqDiff, Nat.reduceAdd, Nat.reduceSub, Nat.reduceMul, Int.reduceToNat]), rfl⟩
  refine CwpE.cut (st := ⟨[(0, vints l), (5, vi n), (6, .ref 2 1 0 0)], objsH (newH n)⟩) ?_ ?_
  · simp only [go_sem, List.replicate_succ, Nat.reducePow, Nat.reduceLeDiff, ↓reduceIte, reduceCtorEq, Nat.reduceLT, Nat.reduceEqDiff, Nat.reduceAdd, Nat.reduceSub, Nat.reduceMul, Int.reduceToNat, Int.reduceLT, Int.reduceLE, Int.reduceEq, Int.reduceNe, Int.reduceNeg, Int.reduceToNat, Int.lt_irrefl, Int.le_refl]
    exact ⟨_, WkE.keep (by simp only [go_sem, List.replicate_succ, Nat.reducePow, Nat.reduceLeDiff, ↓reduceIte, reduceCtorEq, Nat.reduceLT, Nat.reduceEqDiff, Nat.reduceAdd, Nat.reduceSub, Nat.reduceMul, Int.reduceToNat]), rfl⟩
  refine CwpE.cut (st := ⟨[(0, vints l), (5, vi n), (6, .ref 2 1 0 0), (8, .own 5 n 0 n)], objsH (newH n) ++ [.arr n 1 4 ((List.replicate n false).map vb)]⟩) ?_ ?_
  · have q0 : (0 : Int) ≤ (n : Int) := by omega
    have q2 : ((1 : Nat) : Int) * (n : Int) ≤ 281474976710656 := by omega
    have q3 : (n : Int) ≤ 9223372036854775807 := by omega
    simp only [objsH, oH, go_sem, Nat.reducePow, Nat.reduceLeDiff, ↓reduceIte, reduceCtorEq, Nat.reduceLT, Nat.reduceEqDiff, Nat.reduceAdd, Nat.reduceSub, Nat.reduceMul, Int.reduceToNat, q0, q2, q3, Int.le_refl]
    refine ⟨_, ?_, rfl⟩
    rw [List.map_replicate]
    exact WkE.keep (by simp only [go_sem, List.replicate_succ, Nat.reducePow, Nat.reduceLeDiff, ↓reduceIte, reduceCtorEq, Nat.reduceLT, Nat.reduceEqDiff, Nat.reduceAdd, Nat.reduceSub, Nat.reduceMul, Int.reduceToNat])
  obtain ⟨acts, ha⟩ : ∃ acts, scriptL l n = acts := ⟨_, rfl⟩
  have hS := Script_s l n hl (by omega)
  rw [ha] at hS
  have hal : acts.length ≤ 40 := by rw [← ha]; unfold scriptL; rw [scriptK_len]; unfold roundsL; omega
  clear ha hA bA w1 hn
  refine CwpE.cut (st := ⟨[(5, vi n), (6, .ref 2 1 0 0), (8, .own 5 n 0 n), (9, .list 6 (acts.map vact))], objsH (newH n) ++ [.arr n 1 4 ((List.replicate n false).map vb)]⟩) ?_ ?_
  · simp only [objsH, oH, go_sem, List.replicate_succ, Nat.reducePow, Nat.reduceLeDiff, ↓reduceIte, reduceCtorEq, Nat.reduceLT, Nat.reduceEqDiff, Nat.reduceAdd, Nat.reduceSub, Nat.reduceMul, Int.reduceToNat, Int.reduceLT, Int.reduceLE, Int.reduceEq, Int.reduceNe, Int.reduceNeg, Int.reduceToNat, Int.lt_irrefl, Int.le_refl]
    refine callT hS rfl ?_
    simp only [go_sem, List.replicate_succ, Nat.reducePow, Nat.reduceLeDiff, ↓reduceIte, reduceCtorEq, Nat.reduceLT, Nat.reduceEqDiff, Nat.reduceAdd, Nat.reduceSub, Nat.reduceMul, Int.reduceToNat, Int.reduceLT, Int.reduceLE, Int.reduceEq, Int.reduceNe, Int.reduceNeg, Int.reduceToNat, Int.lt_irrefl, Int.le_refl]
    exact ⟨_, WkE.keep (by simp only [go_sem, List.replicate_succ, Nat.reducePow, Nat.reduceLeDiff, ↓reduceIte, reduceCtorEq, Nat.reduceLT, Nat.reduceEqDiff, Nat.reduceAdd, Nat.reduceSub, Nat.reduceMul, Int.reduceToNat]), rfl⟩
  refine CwpE.seqJ (fun st => st = ⟨[], []⟩) ?_ ?_
  rotate_left
  · rintro st rfl
    refine CwpE.vc ?_
    simp only [go_sem, List.replicate_succ, Nat.reducePow, Nat.reduceLeDiff, ↓reduceIte, reduceCtorEq, Nat.reduceLT, Nat.reduceEqDiff, Nat.reduceAdd, Nat.reduceSub, Nat.reduceMul, Int.reduceToNat, Int.reduceLT, Int.reduceLE, Int.reduceEq, Int.reduceNe, Int.reduceNeg, Int.reduceToNat, Int.lt_irrefl, Int.le_refl]
    refine callT lives_s rfl ?_
    simp only [go_sem, List.replicate_succ, Nat.reducePow, Nat.reduceLeDiff, ↓reduceIte, reduceCtorEq, Nat.reduceLT, Nat.reduceEqDiff, Nat.reduceAdd, Nat.reduceSub, Nat.reduceMul, Int.reduceToNat, Int.reduceLT, Int.reduceLE, Int.reduceEq, Int.reduceNe, Int.reduceNeg, Int.reduceToNat, Int.lt_irrefl, Int.le_refl]
    exact .tree _ rfl
  refine CwpE.cut (st := stM n acts 0 (newH n) (List.replicate n false)) ?_ (CwpE.block ?_)
  · simp only [objsH, oH, go_sem, List.replicate_succ, Nat.reducePow, Nat.reduceLeDiff, ↓reduceIte, reduceCtorEq, Nat.reduceLT, Nat.reduceEqDiff, Nat.reduceAdd, Nat.reduceSub, Nat.reduceMul, Int.reduceToNat, Int.reduceLT, Int.reduceLE, Int.reduceEq, Int.reduceNe, Int.reduceNeg, Int.reduceToNat, Int.lt_irrefl, Int.le_refl]
    exact ⟨_, WkE.keep (by simp only [go_sem, List.replicate_succ, Nat.reducePow, Nat.reduceLeDiff, ↓reduceIte, reduceCtorEq, Nat.reduceLT, Nat.reduceEqDiff, Nat.reduceAdd, Nat.reduceSub, Nat.reduceMul, Int.reduceToNat]; rfl), rfl⟩
  have hH0 : HL (List.replicate n false) = fun _ => false := by
    funext j
    unfold HL
    rw [List.getD_eq_getElem?_getD, List.getElem?_replicate]
    split <;> rfl
  refine loopXC 0 (fun m st => ∃ (i : Nat) (s : Hs) (L : List Bool), m = acts.length - i ∧ i ≤ acts.length ∧ L.length = n ∧ Inv n i s ∧ All (PH (HL L)) s ∧ st = stM n acts i s L)
    (fun st => st = ⟨[], []⟩) acts.length
    (stM n acts 0 (newH n) (List.replicate n false)) (.refl _ _) ⟨0, _, _, rfl, by omega, by simp, inv_new n, by rw [hH0]; exact ph_new n, rfl⟩ ?_ ?_
  rotate_left
  · rintro st rfl
    simp only [go_sem, List.replicate_succ, Nat.reducePow, Nat.reduceLeDiff, ↓reduceIte, reduceCtorEq, Nat.reduceLT, Nat.reduceEqDiff, Nat.reduceAdd, Nat.reduceSub, Nat.reduceMul, Int.reduceToNat]
    exact ⟨_, .refl _ _, rfl⟩
  rintro m st ⟨i, s, L, rfl, hi, hL, inv, ph, rfl⟩
  by_cases hlt : i < acts.length
  rotate_left
  · have g1 : ¬ (i : Int) < (acts.length : Int) := by omega
    refine CwpE.vc ?_
    simp only [objsH, oH, go_sem, List.replicate_succ, Nat.reducePow, Nat.reduceLeDiff, ↓reduceIte, reduceCtorEq, Nat.reduceLT, Nat.reduceEqDiff, Nat.reduceAdd, Nat.reduceSub, Nat.reduceMul, Int.reduceToNat, Int.reduceLT, Int.reduceLE, Int.reduceEq, Int.reduceNe, Int.reduceNeg, Int.reduceToNat, Int.lt_irrefl, Int.le_refl, g1, List.length_map]
    exact ⟨⟨[], []⟩, WkE.round (by simp only [go_sem, List.replicate_succ, Nat.reducePow, Nat.reduceLeDiff, ↓reduceIte, reduceCtorEq, Nat.reduceLT, Nat.reduceEqDiff, Nat.reduceAdd, Nat.reduceSub, Nat.reduceMul, Int.reduceToNat]) rfl rfl rfl, rfl⟩
  have g1 : (i : Int) < (acts.length : Int) := by omega
  have g0 : (0 : Int) ≤ (i : Int) := by omega
  have w4 : IntKind.i64.wrap ((i : Int) + 1) = ((i + 1 : Nat) : Int) := by rw [wrap_id (by omega) (by omega)]; omega
  refine CwpE.cut (st := stM n acts i s L) ?_ ?_
  · simp only [objsH, oH, go_sem, List.replicate_succ, Nat.reducePow, Nat.reduceLeDiff, ↓reduceIte, reduceCtorEq, Nat.reduceLT, Nat.reduceEqDiff, Nat.reduceAdd, Nat.reduceSub, Nat.reduceMul, Int.reduceToNat, Int.reduceLT, Int.reduceLE, Int.reduceEq, Int.reduceNe, Int.reduceNeg, Int.reduceToNat, Int.lt_irrefl, Int.le_refl, g1, List.length_map]
    exact ⟨_, WkE.keep (by simp only [go_sem, List.replicate_succ, Nat.reducePow, Nat.reduceLeDiff, ↓reduceIte, reduceCtorEq, Nat.reduceLT, Nat.reduceEqDiff, Nat.reduceAdd, Nat.reduceSub, Nat.reduceMul, Int.reduceToNat]), rfl⟩
  refine CwpE.seqJ (fun st => ∃ (s' : Hs) (L' : List Bool), L'.length = n ∧ Inv n (i + 1) s' ∧ All (PH (HL L')) s' ∧ st = stM n acts i s' L') (CwpE.block ?_) ?_
  rotate_left
  · rintro st ⟨s', L', hL', inv', ph', rfl⟩
    refine CwpE.vc ?_
    simp only [objsH, oH, go_sem, List.replicate_succ, Nat.reducePow, Nat.reduceLeDiff, ↓reduceIte, reduceCtorEq, Nat.reduceLT, Nat.reduceEqDiff, Nat.reduceAdd, Nat.reduceSub, Nat.reduceMul, Int.reduceToNat, w4]
    exact ⟨acts.length - (i + 1), stM n acts (i + 1) s' L', by omega, WkE.keep (by simp only [go_sem, List.replicate_succ, Nat.reducePow, Nat.reduceLeDiff, ↓reduceIte, reduceCtorEq, Nat.reduceLT, Nat.reduceEqDiff, Nat.reduceAdd, Nat.reduceSub, Nat.reduceMul, Int.reduceToNat]), i + 1, s', L', rfl, by omega, hL', inv', ph', rfl⟩
  have hget : (acts.map vact)[i]? = some (vact acts[i]) := by rw [List.getElem?_map, List.getElem?_eq_getElem hlt]; rfl
  generalize acts[i] = x at *
  obtain ⟨num, tick, seat, kind, a, b⟩ := x
  refine CwpE.cut (st := ⟨(11, .ref 6 1 0 0) :: envM n acts i, objsH s ++ [.arr n 1 4 (L.map vb), .arr 1 5 32 [.agg [vi tick, vi seat, vi kind, vi a, vi b]]]⟩) ?_ ?_
  · simp only [objsH, oH, go_sem, List.replicate_succ, Nat.reducePow, Nat.reduceLeDiff, ↓reduceIte, reduceCtorEq, Nat.reduceLT, Nat.reduceEqDiff, Nat.reduceAdd, Nat.reduceSub, Nat.reduceMul, Int.reduceToNat, Int.reduceLT, Int.reduceLE, Int.reduceEq, Int.reduceNe, Int.reduceNeg, Int.reduceToNat, Int.lt_irrefl, Int.le_refl, g0, g1, hget, List.length_map]
    exact ⟨_, WkE.keep (by simp only [go_sem, List.replicate_succ, Nat.reducePow, Nat.reduceLeDiff, ↓reduceIte, reduceCtorEq, Nat.reduceLT, Nat.reduceEqDiff, Nat.reduceAdd, Nat.reduceSub, Nat.reduceMul, Int.reduceToNat]), rfl⟩
  have ok := inv.okH (by omega) (by omega)
  refine CwpE.cut (st := ⟨(12, vints (shownE s seat)) :: (11, .ref 6 1 0 0) :: envM n acts i, objsH s ++ [.arr n 1 4 (L.map vb), .arr 1 5 32 [.agg [vi tick, vi seat, vi kind, vi a, vi b]]]⟩) ?_ ?_
  · simp only [objsH, oH, go_sem, List.replicate_succ, Nat.reducePow, Nat.reduceLeDiff, ↓reduceIte, reduceCtorEq, Nat.reduceLT, Nat.reduceEqDiff, Nat.reduceAdd, Nat.reduceSub, Nat.reduceMul, Int.reduceToNat, Int.reduceLT, Int.reduceLE, Int.reduceEq, Int.reduceNe, Int.reduceNeg, Int.reduceToNat, Int.lt_irrefl, Int.le_refl]
    refine callM (objsH s) [.arr n 1 4 (L.map vb), .arr 1 5 32 [.agg [vi tick, vi seat, vi kind, vi a, vi b]]] _ (Shown_s s ok seat) rfl (objsH_inn _ 5 (by omega)) rfl ?_
    simp only [objsH, oH, go_sem, List.replicate_succ, Nat.reducePow, Nat.reduceLeDiff, ↓reduceIte, reduceCtorEq, Nat.reduceLT, Nat.reduceEqDiff, Nat.reduceAdd, Nat.reduceSub, Nat.reduceMul, Int.reduceToNat, Int.reduceLT, Int.reduceLE, Int.reduceEq, Int.reduceNe, Int.reduceNeg, Int.reduceToNat, Int.lt_irrefl, Int.le_refl]
    exact ⟨_, WkE.keep (by simp only [go_sem, List.replicate_succ, Nat.reducePow, Nat.reduceLeDiff, ↓reduceIte, reduceCtorEq, Nat.reduceLT, Nat.reduceEqDiff, Nat.reduceAdd, Nat.reduceSub, Nat.reduceMul, Int.reduceToNat]), rfl⟩
  obtain ⟨late, hlate⟩ : ∃ late, decide (((shownE s seat).length : Int) < (s.dec.length : Int)) = late := ⟨_, rfl⟩
  refine CwpE.cut (st := ⟨(13, vb late) :: (11, .ref 6 1 0 0) :: envM n acts i, objsH s ++ [.arr n 1 4 (L.map vb), .arr 1 5 32 [.agg [vi tick, vi seat, vi kind, vi a, vi b]]]⟩) ?_ ?_
  · simp only [objsH, oH, go_sem, List.replicate_succ, Nat.reducePow, Nat.reduceLeDiff, ↓reduceIte, reduceCtorEq, Nat.reduceLT, Nat.reduceEqDiff, Nat.reduceAdd, Nat.reduceSub, Nat.reduceMul, Int.reduceToNat, Int.reduceLT, Int.reduceLE, Int.reduceEq, Int.reduceNe, Int.reduceNeg, Int.reduceToNat, Int.lt_irrefl, Int.le_refl, List.length_map]
    refine callM (objsH s) [.arr n 1 4 (L.map vb), .arr 1 5 32 [.agg [vi tick, vi seat, vi kind, vi a, vi b]]] _ (Moment_s s) rfl (objsH_inn _ 5 (by omega)) rfl ?_
    simp only [objsH, oH, go_sem, List.replicate_succ, Nat.reducePow, Nat.reduceLeDiff, ↓reduceIte, reduceCtorEq, Nat.reduceLT, Nat.reduceEqDiff, Nat.reduceAdd, Nat.reduceSub, Nat.reduceMul, Int.reduceToNat, Int.reduceLT, Int.reduceLE, Int.reduceEq, Int.reduceNe, Int.reduceNeg, Int.reduceToNat, Int.lt_irrefl, Int.le_refl, hlate]
    exact ⟨_, WkE.keep (by simp only [go_sem, List.replicate_succ, Nat.reducePow, Nat.reduceLeDiff, ↓reduceIte, reduceCtorEq, Nat.reduceLT, Nat.reduceEqDiff, Nat.reduceAdd, Nat.reduceSub, Nat.reduceMul, Int.reduceToNat]), rfl⟩
  obtain ⟨x, hx⟩ : ∃ x : Act', (⟨num, ⟨tick, seat, kind, a, b⟩⟩ : Act') = x := ⟨_, rfl⟩
  have dph := does_ph x ph
  have dinv := does_inv inv x
  have dans := does_ans s x
  have dlen := does_len s x
  have hcall := does_s s (inv.bd (by omega) (by omega)) x
  obtain ⟨f, hf⟩ : ∃ f, doesE s x = f := ⟨_, rfl⟩
  obtain ⟨s', hs'⟩ : ∃ s', doesH s x = s' := ⟨_, rfl⟩
  refine CwpE.cut (st := ⟨(13, vb late) :: (14, vi f) :: (11, .ref 6 1 0 0) :: envM n acts i, objsH s' ++ [.arr n 1 4 (L.map vb), .arr 1 5 32 [.agg [vi tick, vi seat, vi kind, vi a, vi b]]]⟩) ?_ ?_
  · simp only [objsH, oH, go_sem, List.replicate_succ, Nat.reducePow, Nat.reduceLeDiff, ↓reduceIte, reduceCtorEq, Nat.reduceLT, Nat.reduceEqDiff, Nat.reduceAdd, Nat.reduceSub, Nat.reduceMul, Int.reduceToNat, Int.reduceLT, Int.reduceLE, Int.reduceEq, Int.reduceNe, Int.reduceNeg, Int.reduceToNat, Int.lt_irrefl, Int.le_refl, g0, g1, hget, List.length_map]
    rw [hf, hs', ← hx] at hcall
    refine callM (objsH s) [.arr n 1 4 (L.map vb), .arr 1 5 32 [.agg [vi tick, vi seat, vi kind, vi a, vi b]]] _ hcall rfl (objsH_inn _ 5 (by omega)) rfl ?_
    simp only [objsH, oH, go_sem, List.replicate_succ, Nat.reducePow, Nat.reduceLeDiff, ↓reduceIte, reduceCtorEq, Nat.reduceLT, Nat.reduceEqDiff, Nat.reduceAdd, Nat.reduceSub, Nat.reduceMul, Int.reduceToNat, Int.reduceLT, Int.reduceLE, Int.reduceEq, Int.reduceNe, Int.reduceNeg, Int.reduceToNat, Int.lt_irrefl, Int.le_refl]
    exact ⟨_, WkE.keep (by simp only [go_sem, List.replicate_succ, Nat.reducePow, Nat.reduceLeDiff, ↓reduceIte, reduceCtorEq, Nat.reduceLT, Nat.reduceEqDiff, Nat.reduceAdd, Nat.reduceSub, Nat.reduceMul, Int.reduceToNat]), rfl⟩
  -- an error, or a number that was announced
  by_cases hc : f ≠ 0 ∨ num ≠ 0
  · have hu : updA (HL L) s x = HL L := if_pos (by rw [hf, ← hx]; exact hc)
    rw [hu, hs'] at dph
    rw [hs'] at dinv
    refine CwpE.vc ?_
    by_cases z : f = 0
    · have z2 : ¬ num = 0 := by rcases hc with c | c; exact absurd z c; exact c
      simp only [objsH, oH, go_sem, List.replicate_succ, Nat.reducePow, Nat.reduceLeDiff, ↓reduceIte, reduceCtorEq, Nat.reduceLT, Nat.reduceEqDiff, Nat.reduceAdd, Nat.reduceSub, Nat.reduceMul, Int.reduceToNat, Int.reduceLT, Int.reduceLE, Int.reduceEq, Int.reduceNe, Int.reduceNeg, Int.reduceToNat, Int.lt_irrefl, Int.le_refl, g0, g1, hget, List.length_map, z, z2]
      exact ⟨stM n acts i s' L, WkE.round ⟨rfl, rfl, rfl, rfl, rfl, trivial⟩ rfl (by rw [List.all_append, objsH_inn s' _ (by simp [objsH_len])]; simp [AObj.innO, AV.inn, AV.inn1]) rfl, s', L, hL, dinv, dph, rfl⟩
    · simp only [objsH, oH, go_sem, List.replicate_succ, Nat.reducePow, Nat.reduceLeDiff, ↓reduceIte, reduceCtorEq, Nat.reduceLT, Nat.reduceEqDiff, Nat.reduceAdd, Nat.reduceSub, Nat.reduceMul, Int.reduceToNat, Int.reduceLT, Int.reduceLE, Int.reduceEq, Int.reduceNe, Int.reduceNeg, Int.reduceToNat, Int.lt_irrefl, Int.le_refl, g0, g1, hget, List.length_map, z]
      exact ⟨stM n acts i s' L, WkE.round ⟨rfl, rfl, rfl, rfl, rfl, trivial⟩ rfl (by rw [List.all_append, objsH_inn s' _ (by simp [objsH_len])]; simp [AObj.innO, AV.inn, AV.inn1]) rfl, s', L, hL, dinv, dph, rfl⟩
  have f0 : f = 0 := by omega
  have num0 : num = 0 := by omega
  subst f0 num0
  subst hx
  rw [doesE_ev rfl] at hf
  obtain ⟨d, hd, s0, s1, k0, k6, he, hst⟩ := step_ok hf
  simp only at hd s0 s1 k0 k6
  have hu : updA (HL L) s ⟨0, ⟨tick, seat, kind, a, b⟩⟩ = HL (listE L ⟨tick, seat, kind, a, b⟩) := by
    unfold updA
    rw [if_neg (show ¬ (doesE s ⟨0, ⟨tick, seat, kind, a, b⟩⟩ ≠ 0 ∨ (0 : Int) ≠ 0) by rw [doesE_ev rfl, hf]; simp), listE_H]
    show seat.toNat < L.length
    rw [hL, ← inv.len]; omega
  rw [hu, hs'] at dph
  rw [hs'] at dinv
  have hlen' := listE_len L ⟨tick, seat, kind, a, b⟩
  -- an answer
  have hans : kind = 6 → late = true → ∀ h : seat.toNat < L.length, L[seat.toNat] = true := by
    intro h6 hl h
    obtain ⟨lv, up, _⟩ := ev_ans (i := seat.toNat) (e := ⟨tick, seat, kind, a, b⟩) h6 he
    have p := ph _ _ hd
    have q := (shown_live hd lv p.m1).1
    have c : ((seat.toNat : Nat) : Int) = seat := by omega
    rw [c] at q
    have e := p.lt lv (by
      rw [← hlate, decide_eq_true_eq, q] at hl
      have := p.m0
      omega)
    rw [HL_get h]; exact e
  have s2 : seat < (n : Int) := by rw [← inv.len]; exact s1
  obtain ⟨k, hk⟩ : ∃ k : Nat, seat = (k : Int) := ⟨seat.toNat, by omega⟩
  subst hk
  have hkL : k < L.length := by omega
  simp only [Int.toNat_natCast] at hans
  have hans' : kind = 6 → late = true → L[k] = true := fun h6 hl => hans h6 hl hkL
  have hgL : (L.map vb)[k]? = some (vb L[k]) := by rw [List.getElem?_map, List.getElem?_eq_getElem hkL]; rfl
  have fin : ∀ env L1, L1 = listE L ⟨tick, k, kind, a, b⟩ → (∀ p ∈ envM n acts i, lk env p.1 = p.2) → ∃ st, WkE 120 ⟨env, objsH s' ++ [.arr n 1 4 (L1.map vb), .arr 1 5 32 [.agg [vi tick, vi k, vi kind, vi a, vi b]]]⟩ st ∧ ∃ (s' : Hs) (L' : List Bool), L'.length = n ∧ Inv n (i + 1) s' ∧ All (PH (HL L')) s' ∧ st = stM n acts i s' L' := by
    intro env L1 hL1 hlk
    subst hL1
    refine ⟨stM n acts i s' (listE L ⟨tick, k, kind, a, b⟩), WkE.round ⟨hlk (5, vi n) (by simp), hlk (6, .ref 2 1 0 0) (by simp), hlk (8, .own 5 n 0 n) (by simp), hlk (9, .list 6 (acts.map vact)) (by simp), hlk (10, vi i) (by simp), trivial⟩ rfl (by rw [List.all_append, objsH_inn s' _ (by simp [objsH_len])]; simp [AObj.innO, AV.inn, AV.inn1]) rfl, s', _, by rw [hlen', hL], dinv, dph, rfl⟩
  clear hu dph dinv dans dlen hcall hans hlate hS ok inv ph hd
  have m1 : (L.map vb).set k (vb true) = (L.set k true).map vb := by rw [List.map_set]
  have m2 : (L.map vb).set k (vb false) = (L.set k false).map vb := by rw [List.map_set]
  have hlL : k < (L.map vb).length := by rw [List.length_map]; exact hkL
  have set0 : (kind = 0 ∨ kind = 2) ∧ a = 0 → L.set k true = listE L ⟨tick, k, kind, a, b⟩ := fun h => by unfold listE; rw [if_pos h]; rfl
  have set2 : (kind = 0 ∨ kind = 2) ∧ a = 2 ∨ kind = 3 → L.set k false = listE L ⟨tick, k, kind, a, b⟩ := fun h => by unfold listE; rw [if_neg (by simp only; omega), if_pos h]; rfl
  have set3 : ¬ ((kind = 0 ∨ kind = 2) ∧ a = 0) → ¬ ((kind = 0 ∨ kind = 2) ∧ a = 2 ∨ kind = 3) → L = listE L ⟨tick, k, kind, a, b⟩ := fun h h' => by unfold listE; rw [if_neg h, if_neg h']
  obtain ⟨L1, hL1⟩ : ∃ L1, listE L ⟨tick, k, kind, a, b⟩ = L1 := ⟨_, rfl⟩
  rw [hL1] at set0 set2 set3 fin
  refine CwpE.vc ?_
  have hk : kind = 0 ∨ kind = 2 ∨ kind = 3 ∨ kind = 1 ∨ kind = 4 ∨ kind = 5 ∨ kind = 6 := by omega
  rcases hk with rfl | rfl | rfl | rfl | rfl | rfl | rfl
  rotate_left 2
  · have e := set2 (by omega)
    simp only [objsH, oH, go_sem, List.replicate_succ, Nat.reducePow, Nat.reduceLeDiff, ↓reduceIte, reduceCtorEq, Nat.reduceLT, Nat.reduceEqDiff, Nat.reduceAdd, Nat.reduceSub, Nat.reduceMul, Int.reduceToNat, Int.reduceLT, Int.reduceLE, Int.reduceEq, Int.reduceNe, Int.reduceNeg, Int.reduceToNat, Int.lt_irrefl, Int.le_refl, g0, g1, hget, List.length_map, s0, s2, hgL, m1, m2, e, envM]
    exact fin _ _ rfl (by simp [lk])
  iterate 3
    · have e := set3 (by omega) (by omega)
      rw [e] at m1
      simp only [objsH, oH, go_sem, List.replicate_succ, Nat.reducePow, Nat.reduceLeDiff, ↓reduceIte, reduceCtorEq, Nat.reduceLT, Nat.reduceEqDiff, Nat.reduceAdd, Nat.reduceSub, Nat.reduceMul, Int.reduceToNat, Int.reduceLT, Int.reduceLE, Int.reduceEq, Int.reduceNe, Int.reduceNeg, Int.reduceToNat, Int.lt_irrefl, Int.le_refl, g0, g1, hget, List.length_map, s0, s2, hgL, m1, m2]
      exact fin _ _ e (by simp [lk])
  · have e := set3 (by omega) (by omega)
    cases late with
    | false =>
      simp only [objsH, oH, go_sem, List.replicate_succ, Nat.reducePow, Nat.reduceLeDiff, ↓reduceIte, reduceCtorEq, Nat.reduceLT, Nat.reduceEqDiff, Nat.reduceAdd, Nat.reduceSub, Nat.reduceMul, Int.reduceToNat, Int.reduceLT, Int.reduceLE, Int.reduceEq, Int.reduceNe, Int.reduceNeg, Int.reduceToNat, Int.lt_irrefl, Int.le_refl, g0, g1, hget, List.length_map, s0, s2, hgL]
      exact fin _ _ e (by simp [lk])
    | true =>
      have hv := hans' rfl rfl
      simp only [objsH, oH, go_sem, List.replicate_succ, Nat.reducePow, Nat.reduceLeDiff, ↓reduceIte, reduceCtorEq, Nat.reduceLT, Nat.reduceEqDiff, Nat.reduceAdd, Nat.reduceSub, Nat.reduceMul, Int.reduceToNat, Int.reduceLT, Int.reduceLE, Int.reduceEq, Int.reduceNe, Int.reduceNeg, Int.reduceToNat, Int.lt_irrefl, Int.le_refl, g0, g1, hget, List.length_map, s0, s2, hgL, hv]
      exact fin _ _ e (by simp [lk])
  all_goals
    by_cases a0 : a = 0
    · have e := set0 (by omega)
      subst a0
      simp only [objsH, oH, go_sem, List.replicate_succ, Nat.reducePow, Nat.reduceLeDiff, ↓reduceIte, reduceCtorEq, Nat.reduceLT, Nat.reduceEqDiff, Nat.reduceAdd, Nat.reduceSub, Nat.reduceMul, Int.reduceToNat, Int.reduceLT, Int.reduceLE, Int.reduceEq, Int.reduceNe, Int.reduceNeg, Int.reduceToNat, Int.lt_irrefl, Int.le_refl, g0, g1, hget, List.length_map, s0, s2, hgL, m1, m2, e]
      exact fin _ _ rfl (by simp [lk])
    by_cases a2 : a = 2
    · have e := set2 (by omega)
      subst a2
      simp only [objsH, oH, go_sem, List.replicate_succ, Nat.reducePow, Nat.reduceLeDiff, ↓reduceIte, reduceCtorEq, Nat.reduceLT, Nat.reduceEqDiff, Nat.reduceAdd, Nat.reduceSub, Nat.reduceMul, Int.reduceToNat, Int.reduceLT, Int.reduceLE, Int.reduceEq, Int.reduceNe, Int.reduceNeg, Int.reduceToNat, Int.lt_irrefl, Int.le_refl, g0, g1, hget, List.length_map, s0, s2, hgL, m1, m2, e]
      exact fin _ _ rfl (by simp [lk])
    have e := set3 (by omega) (by omega)
    simp only [objsH, oH, go_sem, List.replicate_succ, Nat.reducePow, Nat.reduceLeDiff, ↓reduceIte, reduceCtorEq, Nat.reduceLT, Nat.reduceEqDiff, Nat.reduceAdd, Nat.reduceSub, Nat.reduceMul, Int.reduceToNat, Int.reduceLT, Int.reduceLE, Int.reduceEq, Int.reduceNe, Int.reduceNeg, Int.reduceToNat, Int.lt_irrefl, Int.le_refl, g0, g1, hget, List.length_map, s0, s2, hgL, a0, a2]
    exact fin _ _ e (by simp [lk])
end Go.Proofs.Ytjpknjicfoiheaa
