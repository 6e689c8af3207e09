/- The law Facts. -/
import Derived.Test.YtjpknjicfoiheaaPm
set_option linter.unusedSimpArgs false
set_option linter.unusedVariables false
set_option linter.unusedSectionVars false
namespace Go.Proofs.Ytjpknjicfoiheaa
open Go.RowKit Dak
theorem shown_take {s : Hs} (ok : OkH s) (x : Int) : ∃ m, m ≤ s.dec.length ∧ shownE s x = s.dec.take m := by
  unfold shownE
  split
  · exact ⟨0, by omega, by simp⟩
  · split
    · rename_i d hd
      split
      · exact ⟨0, by omega, by simp⟩
      · obtain ⟨m0, m1⟩ := ok.2.2.2 d (List.mem_of_getElem? hd)
        exact ⟨d.mom.toNat, by omega, rfl⟩
    · exact ⟨0, by omega, by simp⟩
theorem begins_take (l : List Int) {a b : Nat} (h : a ≤ b) (hb : b ≤ l.length) : beginsL (l.take a) (l.take b) = true := by
  unfold beginsL
  simp only [List.length_take, List.take_take, Bool.and_eq_true, decide_eq_true_eq]
  refine ⟨by omega, ?_⟩
  congr 1; omega
theorem begins_tot (s : Hs) {a : Nat} (h : a ≤ s.dec.length) : beginsL (s.dec.take a) (tot s) = true := by
  unfold beginsL tot
  simp only [List.length_take, Bool.and_eq_true, decide_eq_true_eq, List.length_append]
  refine ⟨by omega, ?_⟩
  rw [List.take_append_of_le_length (by omega)]
  congr 1; omega
theorem pre_take {a b : List Int} {p : Nat} (h : a <+: b) (hp : p ≤ a.length) : a.take p = b.take p ∧ p ≤ b.length := by
  obtain ⟨c, rfl⟩ := h
  exact ⟨by rw [List.take_append_of_le_length hp], by simp; omega⟩
abbrev envF (n : Nat) (acts : List Act') (i : Nat) (g : Nat) (lo : List Int) : List (Nat × AV) := [(5, vi n), (6, .ref 2 1 0 0), (8, .own 5 g 0 g), (9, vints lo), (10, .list 6 (acts.map vact)), (11, vi i)]
abbrev objF (s : Hs) (T : List Int) : List AObj := objsH s ++ [.arr T.length 1 3 (T.map vi)]
theorem objF_inn (s : Hs) (T : List Int) : (objF s T).all (fun o => o.innO 6) = true := by
  rw [List.all_append, objsH_inn s _ (by omega)]
  simp [AObj.innO, AV.inn, AV.inn1]
set_option maxHeartbeats 4000000 in
set_option maxRecDepth 100000 in
theorem Facts_law (l : List Int) (seats : Int) (hl : ∀ x ∈ l, I64 x) (hs : I64 seats) : Ctr Try.prog 3 [vints l, vi seats] (vb true) := by
  refine specC f3 (by simp) fun F0 w0 => ?_
  obtain ⟨n, hn, n1, n5⟩ := k50 seats
  have hA := Around_s seats 5 hs ⟨by omega, by omega⟩
  have bA := aroundL_bd seats 5 (by omega)
  have w1 : IntKind.i64.wrap (1 + aroundL seats 5) = (n : Int) := by rw [wrap_id (by omega) (by omega)]; exact hn
  unfold c3
  refine CwpE.cut (st := ⟨[(0, vints l), (1, vi seats)], []⟩) ?_ ?_
  · simp only [go_sem, List.replicate_succ, Nat.reducePow, Nat.reduceLeDiff, ↓reduceIte, reduceCtorEq, Nat.reduceLT, Nat.reduceEqDiff, Nat.reduceAdd, Nat.reduceSub, Nat.reduceMul, Int.reduceToNat]
    exact ⟨_, WkE.keep (by simp only [go_sem, List.replicate_succ, Nat.reducePow, Nat.reduceLeDiff, ↓reduceIte, reduceCtorEq, Nat.reduceLT, Nat.reduceEqDiff, Nat.reduceAdd, Nat.reduceSub, Nat.reduceMul, Int.reduceToNat]), rfl⟩
  refine CwpE.cut (st := ⟨[(0, vints l), (5, vi n)], []⟩) ?_ ?_
  · simp only [go_sem, List.replicate_succ, Nat.reducePow, Nat.reduceLeDiff, ↓reduceIte, reduceCtorEq, Nat.reduceLT, Nat.reduceEqDiff, Nat.reduceAdd, Nat.reduceSub, Nat.reduceMul, Int.reduceToNat]
    refine callT hA rfl ?_
    simp only [go_sem, List.replicate_succ, Nat.reducePow, Nat.reduceLeDiff, ↓reduceIte, reduceCtorEq, Nat.reduceLT, Nat.reduceEqDiff, Nat.reduceAdd, Nat.reduceSub, Nat.reduceMul, Int.reduceToNat, w1]
    exact ⟨_, WkE.keep (by simp only [go_sem, List.replicate_succ, Nat.reducePow, Nat.reduceLeDiff, ↓reduceIte, reduceCtorEq, Nat.reduceLT, Nat.reduceEqDiff, Nat.reduceAdd, Nat.reduceSub, Nat.reduceMul, Int.reduceToNat]), rfl⟩
  refine CwpE.cut (st := ⟨[(0, vints l), (5, vi n), (6, .ref 2 1 0 0), (7, vi 0)], objsH (newH n)⟩) ?_ ?_
  · simp only [go_sem, List.replicate_succ, Nat.reducePow, Nat.reduceLeDiff, ↓reduceIte, reduceCtorEq, Nat.reduceLT, Nat.reduceEqDiff, Nat.reduceAdd, Nat.reduceSub, Nat.reduceMul, Int.reduceToNat, Int.reduceLT, Int.reduceLE, Int.reduceEq, Int.reduceNe, Int.reduceNeg, Int.reduceToNat, Int.lt_irrefl, Int.le_refl]
    refine callNew (New_s n n1 (by omega)) (.cons (.tree _ rfl) .nil) ?_
    have e1 : (objsH (newH n)).map (AObj.shiftO 0) = objsH (newH n) := by simp [newH, objsH, oH, AObj.shiftO, AV.shift, AV.shift1]
    have e2 : AV.shift 0 (.tup [.ref 2 1 0 0, vi 0]) = .tup [.ref 2 1 0 0, vi 0] := rfl
    simp only [List.length_nil, List.nil_append, e1, e2]
    simp only [go_sem, List.replicate_succ, Nat.reducePow, Nat.reduceLeDiff, ↓reduceIte, reduceCtorEq, Nat.reduceLT, Nat.reduceEqDiff, Nat.reduceAdd, Nat.reduceSub, Nat.reduceMul, Int.reduceToNat, Int.reduceLT, Int.reduceLE, Int.reduceEq, Int.reduceNe, Int.reduceNeg, Int.reduceToNat, Int.lt_irrefl, Int.le_refl]
    exact ⟨_, WkE.keep (by simp only [go_sem, List.replicate_succ, Nat.reducePow, Nat.reduceLeDiff, ↓reduceIte, reduceCtorEq, Nat.reduceLT, Nat.reduceEqDiff, Nat.reduceAdd, Nat.reduceSub, Nat.reduceMul, Int.reduceToNat]), rfl⟩
  refine CwpE.cut (st := ⟨[(0, vints l), (5, vi n), (6, .ref 2 1 0 0)], objsH (newH n)⟩) ?_ ?_
  · simp only [go_sem, List.replicate_succ, Nat.reducePow, Nat.reduceLeDiff, ↓reduceIte, reduceCtorEq, Nat.reduceLT, Nat.reduceEqDiff, Nat.reduceAdd, Nat.reduceSub, Nat.reduceMul, Int.reduceToNat, Int.reduceLT, Int.reduceLE, Int.reduceEq, Int.reduceNe, Int.reduceNeg, Int.reduceToNat, Int.lt_irrefl, Int.le_refl]
    exact ⟨_, WkE.keep (by simp only [go_sem, List.replicate_succ, Nat.reducePow, Nat.reduceLeDiff, ↓reduceIte, reduceCtorEq, Nat.reduceLT, Nat.reduceEqDiff, Nat.reduceAdd, Nat.reduceSub, Nat.reduceMul, Int.reduceToNat]), rfl⟩
  refine CwpE.cut (st := ⟨[(0, vints l), (5, vi n), (6, .ref 2 1 0 0), (8, .own 5 0 0 0)], objF (newH n) []⟩) ?_ ?_
  · simp only [objF, objsH, oH, go_sem, List.replicate_succ, Nat.reducePow, Nat.reduceLeDiff, ↓reduceIte, reduceCtorEq, Nat.reduceLT, Nat.reduceEqDiff, Nat.reduceAdd, Nat.reduceSub, Nat.reduceMul, Int.reduceToNat, Int.reduceLT, Int.reduceLE, Int.reduceEq, Int.reduceNe, Int.reduceNeg, Int.reduceToNat, Int.lt_irrefl, Int.le_refl]
    refine ⟨_, ?_, rfl⟩
    exact (WkE.nil 8 1 3 (by omega) rfl).trans (WkE.keep (by simp only [go_sem, List.replicate_succ, Nat.reducePow, Nat.reduceLeDiff, ↓reduceIte, reduceCtorEq, Nat.reduceLT, Nat.reduceEqDiff, Nat.reduceAdd, Nat.reduceSub, Nat.reduceMul, Int.reduceToNat]))
  refine CwpE.cut (st := ⟨[(0, vints l), (5, vi n), (6, .ref 2 1 0 0), (8, .own 5 0 0 0), (9, vints [])], objF (newH n) []⟩) ?_ ?_
  · simp only [objF, objsH, oH, go_sem, List.replicate_succ, Nat.reducePow, Nat.reduceLeDiff, ↓reduceIte, reduceCtorEq, Nat.reduceLT, Nat.reduceEqDiff, Nat.reduceAdd, Nat.reduceSub, Nat.reduceMul, Int.reduceToNat, Int.reduceLT, Int.reduceLE, Int.reduceEq, Int.reduceNe, Int.reduceNeg, Int.reduceToNat, Int.lt_irrefl, Int.le_refl]
    refine ⟨_, ?_, rfl⟩
    exact (WkE.nil 9 1 3 (by omega) rfl).trans ((WkE.freeze 9 6 0 0 0 1 3 [] (by omega) rfl rfl (by simp) rfl).trans (WkE.round ⟨rfl, rfl, rfl, rfl, rfl, trivial⟩ rfl (objF_inn (newH n) []) rfl))
  obtain ⟨acts, ha⟩ : ∃ acts, scriptL l n = acts := ⟨_, rfl⟩
  have hS := Script_s l n hl (by omega)
  rw [ha] at hS
  have hal : acts.length ≤ 40 := by rw [← ha]; unfold scriptL; rw [scriptK_len]; unfold roundsL; omega
  clear ha hA bA w1 hn
  refine CwpE.cut (st := ⟨[(5, vi n), (6, .ref 2 1 0 0), (8, .own 5 0 0 0), (9, vints []), (10, .list 6 (acts.map vact))], objF (newH n) []⟩) ?_ ?_
  · simp only [objF, objsH, oH, go_sem, List.replicate_succ, Nat.reducePow, Nat.reduceLeDiff, ↓reduceIte, reduceCtorEq, Nat.reduceLT, Nat.reduceEqDiff, Nat.reduceAdd, Nat.reduceSub, Nat.reduceMul, Int.reduceToNat, Int.reduceLT, Int.reduceLE, Int.reduceEq, Int.reduceNe, Int.reduceNeg, Int.reduceToNat, Int.lt_irrefl, Int.le_refl]
    refine callT hS rfl ?_
    simp only [go_sem, List.replicate_succ, Nat.reducePow, Nat.reduceLeDiff, ↓reduceIte, reduceCtorEq, Nat.reduceLT, Nat.reduceEqDiff, Nat.reduceAdd, Nat.reduceSub, Nat.reduceMul, Int.reduceToNat, Int.reduceLT, Int.reduceLE, Int.reduceEq, Int.reduceNe, Int.reduceNeg, Int.reduceToNat, Int.lt_irrefl, Int.le_refl]
    exact ⟨_, WkE.keep (by simp only [go_sem, List.replicate_succ, Nat.reducePow, Nat.reduceLeDiff, ↓reduceIte, reduceCtorEq, Nat.reduceLT, Nat.reduceEqDiff, Nat.reduceAdd, Nat.reduceSub, Nat.reduceMul, Int.reduceToNat]), rfl⟩
  refine CwpE.seqJ (fun st => st = ⟨[], []⟩) ?_ ?_
  rotate_left
  · rintro st rfl
    refine CwpE.vc ?_
    simp only [go_sem, List.replicate_succ, Nat.reducePow, Nat.reduceLeDiff, ↓reduceIte, reduceCtorEq, Nat.reduceLT, Nat.reduceEqDiff, Nat.reduceAdd, Nat.reduceSub, Nat.reduceMul, Int.reduceToNat, Int.reduceLT, Int.reduceLE, Int.reduceEq, Int.reduceNe, Int.reduceNeg, Int.reduceToNat, Int.lt_irrefl, Int.le_refl]
    refine callT lives_s rfl ?_
    simp only [go_sem, List.replicate_succ, Nat.reducePow, Nat.reduceLeDiff, ↓reduceIte, reduceCtorEq, Nat.reduceLT, Nat.reduceEqDiff, Nat.reduceAdd, Nat.reduceSub, Nat.reduceMul, Int.reduceToNat, Int.reduceLT, Int.reduceLE, Int.reduceEq, Int.reduceNe, Int.reduceNeg, Int.reduceToNat, Int.lt_irrefl, Int.le_refl]
    exact .tree _ rfl
  refine CwpE.cut (st := ⟨envF n acts 0 0 [], objF (newH n) []⟩) ?_ (CwpE.block ?_)
  · simp only [objF, objsH, oH, go_sem, List.replicate_succ, Nat.reducePow, Nat.reduceLeDiff, ↓reduceIte, reduceCtorEq, Nat.reduceLT, Nat.reduceEqDiff, Nat.reduceAdd, Nat.reduceSub, Nat.reduceMul, Int.reduceToNat, Int.reduceLT, Int.reduceLE, Int.reduceEq, Int.reduceNe, Int.reduceNeg, Int.reduceToNat, Int.lt_irrefl, Int.le_refl]
    exact ⟨_, WkE.keep (by simp only [go_sem, List.replicate_succ, Nat.reducePow, Nat.reduceLeDiff, ↓reduceIte, reduceCtorEq, Nat.reduceLT, Nat.reduceEqDiff, Nat.reduceAdd, Nat.reduceSub, Nat.reduceMul, Int.reduceToNat]; rfl), rfl⟩
  refine loopXC 0 (fun m st => ∃ (i : Nat) (s : Hs) (p : Nat), m = acts.length - i ∧ i ≤ acts.length ∧ Inv n i s ∧ p ≤ s.dec.length ∧ st = ⟨envF n acts i (tot s).length (s.dec.take p), objF s (tot s)⟩)
    (fun st => st = ⟨[], []⟩) acts.length
    ⟨envF n acts 0 0 [], objF (newH n) []⟩ (.refl _ _) ⟨0, newH n, 0, rfl, by omega, inv_new n, by omega, rfl⟩ ?_ ?_
  rotate_left
  · rintro st rfl
    simp only [go_sem, List.replicate_succ, Nat.reducePow, Nat.reduceLeDiff, ↓reduceIte, reduceCtorEq, Nat.reduceLT, Nat.reduceEqDiff, Nat.reduceAdd, Nat.reduceSub, Nat.reduceMul, Int.reduceToNat]
    exact ⟨_, .refl _ _, rfl⟩
  rintro m st ⟨i, s, p, rfl, hi, inv, hp, rfl⟩
  have htl := inv.tl
  by_cases hlt : i < acts.length
  rotate_left
  · have g1 : ¬ (i : Int) < (acts.length : Int) := by omega
    refine CwpE.vc ?_
    simp only [objF, objsH, oH, go_sem, List.replicate_succ, Nat.reducePow, Nat.reduceLeDiff, ↓reduceIte, reduceCtorEq, Nat.reduceLT, Nat.reduceEqDiff, Nat.reduceAdd, Nat.reduceSub, Nat.reduceMul, Int.reduceToNat, Int.reduceLT, Int.reduceLE, Int.reduceEq, Int.reduceNe, Int.reduceNeg, Int.reduceToNat, Int.lt_irrefl, Int.le_refl, g1, List.length_map]
    exact ⟨⟨[], []⟩, WkE.round (by simp only [go_sem, List.replicate_succ, Nat.reducePow, Nat.reduceLeDiff, ↓reduceIte, reduceCtorEq, Nat.reduceLT, Nat.reduceEqDiff, Nat.reduceAdd, Nat.reduceSub, Nat.reduceMul, Int.reduceToNat]) rfl rfl rfl, rfl⟩
  have g1 : (i : Int) < (acts.length : Int) := by omega
  have g0 : (0 : Int) ≤ (i : Int) := by omega
  have w4 : IntKind.i64.wrap ((i : Int) + 1) = ((i + 1 : Nat) : Int) := by rw [wrap_id (by omega) (by omega)]; omega
  refine CwpE.cut (st := ⟨envF n acts i (tot s).length (s.dec.take p), objF s (tot s)⟩) ?_ ?_
  · simp only [objF, objsH, oH, go_sem, List.replicate_succ, Nat.reducePow, Nat.reduceLeDiff, ↓reduceIte, reduceCtorEq, Nat.reduceLT, Nat.reduceEqDiff, Nat.reduceAdd, Nat.reduceSub, Nat.reduceMul, Int.reduceToNat, Int.reduceLT, Int.reduceLE, Int.reduceEq, Int.reduceNe, Int.reduceNeg, Int.reduceToNat, Int.lt_irrefl, Int.le_refl, g1, List.length_map]
    exact ⟨_, WkE.keep (by simp only [go_sem, List.replicate_succ, Nat.reducePow, Nat.reduceLeDiff, ↓reduceIte, reduceCtorEq, Nat.reduceLT, Nat.reduceEqDiff, Nat.reduceAdd, Nat.reduceSub, Nat.reduceMul, Int.reduceToNat]), rfl⟩
  refine CwpE.seqJ (fun st => ∃ (s' : Hs) (p : Nat), Inv n (i + 1) s' ∧ p ≤ s'.dec.length ∧ st = ⟨envF n acts i (tot s').length (s'.dec.take p), objF s' (tot s')⟩) (CwpE.block ?_) ?_
  rotate_left
  · rintro st ⟨s', p', inv', hp', rfl⟩
    refine CwpE.vc ?_
    simp only [objF, objsH, oH, go_sem, List.replicate_succ, Nat.reducePow, Nat.reduceLeDiff, ↓reduceIte, reduceCtorEq, Nat.reduceLT, Nat.reduceEqDiff, Nat.reduceAdd, Nat.reduceSub, Nat.reduceMul, Int.reduceToNat, w4]
    exact ⟨acts.length - (i + 1), ⟨envF n acts (i + 1) (tot s').length (s'.dec.take p'), objF s' (tot s')⟩, by omega, WkE.keep (by simp only [go_sem, List.replicate_succ, Nat.reducePow, Nat.reduceLeDiff, ↓reduceIte, reduceCtorEq, Nat.reduceLT, Nat.reduceEqDiff, Nat.reduceAdd, Nat.reduceSub, Nat.reduceMul, Int.reduceToNat]), i + 1, s', p', rfl, by omega, inv', hp', rfl⟩
  have hget : (acts.map vact)[i]? = some (vact acts[i]) := by rw [List.getElem?_map, List.getElem?_eq_getElem hlt]; rfl
  generalize acts[i] = x at *
  obtain ⟨num, tick, seat, kind, a, b⟩ := x
  have ok := inv.okH (by omega) (by omega)
  generalize hlo : s.dec.take p = lo
  generalize hT : tot s = T
  refine CwpE.cut (st := ⟨(12, vints (shownE s seat)) :: envF n acts i T.length lo, objF s T⟩) ?_ ?_
  · simp only [objF, objsH, oH, go_sem, List.replicate_succ, Nat.reducePow, Nat.reduceLeDiff, ↓reduceIte, reduceCtorEq, Nat.reduceLT, Nat.reduceEqDiff, Nat.reduceAdd, Nat.reduceSub, Nat.reduceMul, Int.reduceToNat, Int.reduceLT, Int.reduceLE, Int.reduceEq, Int.reduceNe, Int.reduceNeg, Int.reduceToNat, Int.lt_irrefl, Int.le_refl, g0, g1, hget, List.length_map]
    refine callM (objsH s) [.arr T.length 1 3 (T.map vi)] _ (Shown_s s ok seat) rfl (objsH_inn _ 5 (by omega)) rfl ?_
    simp only [objF, objsH, oH, go_sem, List.replicate_succ, Nat.reducePow, Nat.reduceLeDiff, ↓reduceIte, reduceCtorEq, Nat.reduceLT, Nat.reduceEqDiff, Nat.reduceAdd, Nat.reduceSub, Nat.reduceMul, Int.reduceToNat, Int.reduceLT, Int.reduceLE, Int.reduceEq, Int.reduceNe, Int.reduceNeg, Int.reduceToNat, Int.lt_irrefl, Int.le_refl]
    exact ⟨_, WkE.keep (by simp only [go_sem, List.replicate_succ, Nat.reducePow, Nat.reduceLeDiff, ↓reduceIte, reduceCtorEq, Nat.reduceLT, Nat.reduceEqDiff, Nat.reduceAdd, Nat.reduceSub, Nat.reduceMul, Int.reduceToNat]), rfl⟩
  refine CwpE.cut (st := ⟨(13, vi s.ans.length) :: (12, vints (shownE s seat)) :: envF n acts i T.length lo, objF s T⟩) ?_ ?_
  · simp only [objF, objsH, oH, go_sem, List.replicate_succ, Nat.reducePow, Nat.reduceLeDiff, ↓reduceIte, reduceCtorEq, Nat.reduceLT, Nat.reduceEqDiff, Nat.reduceAdd, Nat.reduceSub, Nat.reduceMul, Int.reduceToNat, Int.reduceLT, Int.reduceLE, Int.reduceEq, Int.reduceNe, Int.reduceNeg, Int.reduceToNat, Int.lt_irrefl, Int.le_refl]
    refine callM (objsH s) [.arr T.length 1 3 (T.map vi)] _ (Answers_s s (by have := inv.al; omega)) rfl (objsH_inn _ 5 (by omega)) rfl ?_
    simp only [objF, objsH, oH, go_sem, List.replicate_succ, Nat.reducePow, Nat.reduceLeDiff, ↓reduceIte, reduceCtorEq, Nat.reduceLT, Nat.reduceEqDiff, Nat.reduceAdd, Nat.reduceSub, Nat.reduceMul, Int.reduceToNat, Int.reduceLT, Int.reduceLE, Int.reduceEq, Int.reduceNe, Int.reduceNeg, Int.reduceToNat, Int.lt_irrefl, Int.le_refl, List.length_map]
    exact ⟨_, WkE.keep (by simp only [go_sem, List.replicate_succ, Nat.reducePow, Nat.reduceLeDiff, ↓reduceIte, reduceCtorEq, Nat.reduceLT, Nat.reduceEqDiff, Nat.reduceAdd, Nat.reduceSub, Nat.reduceMul, Int.reduceToNat]), rfl⟩
  obtain ⟨x, hx⟩ : ∃ x : Act', (⟨num, ⟨tick, seat, kind, a, b⟩⟩ : Act') = x := ⟨_, rfl⟩
  have dinv := does_inv inv x
  have dans := does_ans s x
  have dtot := does_tot s x
  have dpre := does_pre s x
  have hcall := does_s s (inv.bd (by omega) (by omega)) x
  obtain ⟨f, hf⟩ : ∃ f, doesE s x = f := ⟨_, rfl⟩
  obtain ⟨s', hs'⟩ : ∃ s', doesH s x = s' := ⟨_, rfl⟩
  rw [hf, hs'] at hcall dans dtot
  rw [hs'] at dinv dpre
  refine CwpE.cut (st := ⟨(14, vi f) :: (13, vi s.ans.length) :: (12, vints (shownE s seat)) :: envF n acts i T.length lo, objF s' T⟩) ?_ ?_
  · simp only [objF, objsH, oH, go_sem, List.replicate_succ, Nat.reducePow, Nat.reduceLeDiff, ↓reduceIte, reduceCtorEq, Nat.reduceLT, Nat.reduceEqDiff, Nat.reduceAdd, Nat.reduceSub, Nat.reduceMul, Int.reduceToNat, Int.reduceLT, Int.reduceLE, Int.reduceEq, Int.reduceNe, Int.reduceNeg, Int.reduceToNat, Int.lt_irrefl, Int.le_refl, g0, g1, hget, List.length_map]
    rw [← hx] at hcall
    refine callM (objsH s) [.arr T.length 1 3 (T.map vi)] _ hcall rfl (objsH_inn _ 5 (by omega)) rfl ?_
    simp only [objF, objsH, oH, go_sem, List.replicate_succ, Nat.reducePow, Nat.reduceLeDiff, ↓reduceIte, reduceCtorEq, Nat.reduceLT, Nat.reduceEqDiff, Nat.reduceAdd, Nat.reduceSub, Nat.reduceMul, Int.reduceToNat, Int.reduceLT, Int.reduceLE, Int.reduceEq, Int.reduceNe, Int.reduceNeg, Int.reduceToNat, Int.lt_irrefl, Int.le_refl]
    exact ⟨_, WkE.keep (by simp only [go_sem, List.replicate_succ, Nat.reducePow, Nat.reduceLeDiff, ↓reduceIte, reduceCtorEq, Nat.reduceLT, Nat.reduceEqDiff, Nat.reduceAdd, Nat.reduceSub, Nat.reduceMul, Int.reduceToNat]), rfl⟩
  subst hx
  simp only at dans dtot
  rw [hT] at dtot htl
  refine CwpE.cut (st := ⟨(14, vi f) :: (13, vi s.ans.length) :: (12, vints (shownE s seat)) :: envF n acts i (tot s').length lo, objF s' (tot s')⟩) ?_ ?_
  · rw [dtot]
    by_cases z : f = 0
    rotate_left
    · rw [if_neg (show ¬ (f = 0 ∧ num ≠ 0) from fun c => z c.1)]
      simp only [objF, objsH, oH, go_sem, List.replicate_succ, Nat.reducePow, Nat.reduceLeDiff, ↓reduceIte, reduceCtorEq, Nat.reduceLT, Nat.reduceEqDiff, Nat.reduceAdd, Nat.reduceSub, Nat.reduceMul, Int.reduceToNat, Int.reduceLT, Int.reduceLE, Int.reduceEq, Int.reduceNe, Int.reduceNeg, Int.reduceToNat, Int.lt_irrefl, Int.le_refl, g0, g1, hget, List.length_map, z]
      exact ⟨_, WkE.keep (by simp only [go_sem, List.replicate_succ, Nat.reducePow, Nat.reduceLeDiff, ↓reduceIte, reduceCtorEq, Nat.reduceLT, Nat.reduceEqDiff, Nat.reduceAdd, Nat.reduceSub, Nat.reduceMul, Int.reduceToNat]), rfl⟩
    by_cases y : num = 0
    · rw [if_neg (show ¬ (f = 0 ∧ num ≠ 0) from fun c => c.2 y)]
      simp only [objF, objsH, oH, go_sem, List.replicate_succ, Nat.reducePow, Nat.reduceLeDiff, ↓reduceIte, reduceCtorEq, Nat.reduceLT, Nat.reduceEqDiff, Nat.reduceAdd, Nat.reduceSub, Nat.reduceMul, Int.reduceToNat, Int.reduceLT, Int.reduceLE, Int.reduceEq, Int.reduceNe, Int.reduceNeg, Int.reduceToNat, Int.lt_irrefl, Int.le_refl, g0, g1, hget, List.length_map, z, y]
      exact ⟨_, WkE.keep (by simp only [go_sem, List.replicate_succ, Nat.reducePow, Nat.reduceLeDiff, ↓reduceIte, reduceCtorEq, Nat.reduceLT, Nat.reduceEqDiff, Nat.reduceAdd, Nat.reduceSub, Nat.reduceMul, Int.reduceToNat]), rfl⟩
    · rw [if_pos (show f = 0 ∧ num ≠ 0 from ⟨z, y⟩)]
      have q1 : (T.length + 1) * 8 ≤ 140737488355328 := by omega
      simp only [objF, objsH, oH, go_sem, List.replicate_succ, Nat.reducePow, Nat.reduceLeDiff, ↓reduceIte, reduceCtorEq, Nat.reduceLT, Nat.reduceEqDiff, Nat.reduceAdd, Nat.reduceSub, Nat.reduceMul, Int.reduceToNat, Int.reduceLT, Int.reduceLE, Int.reduceEq, Int.reduceNe, Int.reduceNeg, Int.reduceToNat, Int.lt_irrefl, Int.le_refl, g0, g1, hget, List.length_map, z, y, q1]
      refine ⟨_, ?_, rfl⟩
      try simp only [List.map_append, List.map_cons, List.map_nil]
      exact WkE.keep (by simp only [go_sem, List.replicate_succ, Nat.reducePow, Nat.reduceLeDiff, ↓reduceIte, reduceCtorEq, Nat.reduceLT, Nat.reduceEqDiff, Nat.reduceAdd, Nat.reduceSub, Nat.reduceMul, Int.reduceToNat])
  refine CwpE.cut (st := ⟨(15, .list 3 (s'.ans.map vans)) :: (14, vi f) :: (13, vi s.ans.length) :: (12, vints (shownE s seat)) :: envF n acts i (tot s').length lo, objF s' (tot s')⟩) ?_ ?_
  · simp only [objF, objsH, oH, go_sem, List.replicate_succ, Nat.reducePow, Nat.reduceLeDiff, ↓reduceIte, reduceCtorEq, Nat.reduceLT, Nat.reduceEqDiff, Nat.reduceAdd, Nat.reduceSub, Nat.reduceMul, Int.reduceToNat, Int.reduceLT, Int.reduceLE, Int.reduceEq, Int.reduceNe, Int.reduceNeg, Int.reduceToNat, Int.lt_irrefl, Int.le_refl]
    refine callM (objsH s') [.arr (tot s').length 1 3 ((tot s').map vi)] _ (Answers_s s' (by have := dinv.al; omega)) rfl (objsH_inn _ 5 (by omega)) rfl ?_
    simp only [objF, objsH, oH, go_sem, List.replicate_succ, Nat.reducePow, Nat.reduceLeDiff, ↓reduceIte, reduceCtorEq, Nat.reduceLT, Nat.reduceEqDiff, Nat.reduceAdd, Nat.reduceSub, Nat.reduceMul, Int.reduceToNat, Int.reduceLT, Int.reduceLE, Int.reduceEq, Int.reduceNe, Int.reduceNeg, Int.reduceToNat, Int.lt_irrefl, Int.le_refl]
    exact ⟨_, WkE.keep (by simp only [go_sem, List.replicate_succ, Nat.reducePow, Nat.reduceLeDiff, ↓reduceIte, reduceCtorEq, Nat.reduceLT, Nat.reduceEqDiff, Nat.reduceAdd, Nat.reduceSub, Nat.reduceMul, Int.reduceToNat]), rfl⟩
  have hal1 := inv.al
  have wa : IntKind.i64.wrap ((s.ans.length : Int) + 1) = ((s.ans.length + 1 : Nat) : Int) := by rw [wrap_id (by omega) (by omega)]; omega
  refine CwpE.cut (st := ⟨envF n acts i (tot s').length lo, objF s' (tot s')⟩) ?_ ?_
  · rcases dans with ⟨e1, e2, e3, d, hd, t0, t1, lv, up, e4⟩ | ⟨e1, e2⟩
    · obtain ⟨k, hk⟩ : ∃ k : Nat, seat = (k : Int) := ⟨seat.toNat, by omega⟩
      subst hk
      obtain ⟨m0, m1⟩ := ok.2.2.2 d (List.mem_of_getElem? hd)
      have q := (shown_live (k := k) hd lv m1).1
      have qm : ((shownE s k).length : Int) = d.mom := by rw [q]; omega
      have hl4 : s'.ans.length = s.ans.length + 1 := by rw [e4]; simp
      have hg4 : (s'.ans.map vans)[s.ans.length]? = some (vans (k, a, d.mom)) := by rw [e4]; simp
      have z0 : (0 : Int) ≤ (s.ans.length : Int) := by omega
      have z1 : ((s.ans.length : Int) < ((s.ans.length + 1 : Nat) : Int)) := by omega
      subst e1 e2 e3
      simp only [objF, objsH, oH, go_sem, List.replicate_succ, Nat.reducePow, Nat.reduceLeDiff, ↓reduceIte, reduceCtorEq, Nat.reduceLT, Nat.reduceEqDiff, Nat.reduceAdd, Nat.reduceSub, Nat.reduceMul, Int.reduceToNat, Int.reduceLT, Int.reduceLE, Int.reduceEq, Int.reduceNe, Int.reduceNeg, Int.reduceToNat, Int.lt_irrefl, Int.le_refl, g0, g1, hget, List.length_map, hl4, hg4, wa, z0, z1, qm]
      exact ⟨_, WkE.keep (by simp only [go_sem, List.replicate_succ, Nat.reducePow, Nat.reduceLeDiff, ↓reduceIte, reduceCtorEq, Nat.reduceLT, Nat.reduceEqDiff, Nat.reduceAdd, Nat.reduceSub, Nat.reduceMul, Int.reduceToNat]), rfl⟩
    · have hl4 : s'.ans.length = s.ans.length := by rw [e2]
      by_cases y : num = 0
      rotate_left
      · simp only [objF, objsH, oH, go_sem, List.replicate_succ, Nat.reducePow, Nat.reduceLeDiff, ↓reduceIte, reduceCtorEq, Nat.reduceLT, Nat.reduceEqDiff, Nat.reduceAdd, Nat.reduceSub, Nat.reduceMul, Int.reduceToNat, Int.reduceLT, Int.reduceLE, Int.reduceEq, Int.reduceNe, Int.reduceNeg, Int.reduceToNat, Int.lt_irrefl, Int.le_refl, g0, g1, hget, List.length_map, y, hl4]
        exact ⟨_, WkE.keep (by simp only [go_sem, List.replicate_succ, Nat.reducePow, Nat.reduceLeDiff, ↓reduceIte, reduceCtorEq, Nat.reduceLT, Nat.reduceEqDiff, Nat.reduceAdd, Nat.reduceSub, Nat.reduceMul, Int.reduceToNat]), rfl⟩
      by_cases y2 : kind = 6
      rotate_left
      · simp only [objF, objsH, oH, go_sem, List.replicate_succ, Nat.reducePow, Nat.reduceLeDiff, ↓reduceIte, reduceCtorEq, Nat.reduceLT, Nat.reduceEqDiff, Nat.reduceAdd, Nat.reduceSub, Nat.reduceMul, Int.reduceToNat, Int.reduceLT, Int.reduceLE, Int.reduceEq, Int.reduceNe, Int.reduceNeg, Int.reduceToNat, Int.lt_irrefl, Int.le_refl, g0, g1, hget, List.length_map, y, y2, hl4]
        exact ⟨_, WkE.keep (by simp only [go_sem, List.replicate_succ, Nat.reducePow, Nat.reduceLeDiff, ↓reduceIte, reduceCtorEq, Nat.reduceLT, Nat.reduceEqDiff, Nat.reduceAdd, Nat.reduceSub, Nat.reduceMul, Int.reduceToNat]), rfl⟩
      have y3 : ¬ f = 0 := fun c => e1 ⟨y, y2, c⟩
      simp only [objF, objsH, oH, go_sem, List.replicate_succ, Nat.reducePow, Nat.reduceLeDiff, ↓reduceIte, reduceCtorEq, Nat.reduceLT, Nat.reduceEqDiff, Nat.reduceAdd, Nat.reduceSub, Nat.reduceMul, Int.reduceToNat, Int.reduceLT, Int.reduceLE, Int.reduceEq, Int.reduceNe, Int.reduceNeg, Int.reduceToNat, Int.lt_irrefl, Int.le_refl, g0, g1, hget, List.length_map, y, y2, y3, hl4]
      exact ⟨_, WkE.keep (by simp only [go_sem, List.replicate_succ, Nat.reducePow, Nat.reduceLeDiff, ↓reduceIte, reduceCtorEq, Nat.reduceLT, Nat.reduceEqDiff, Nat.reduceAdd, Nat.reduceSub, Nat.reduceMul, Int.reduceToNat]), rfl⟩
  have ok' := dinv.okH (by omega) (by omega)
  obtain ⟨hlo', hp'⟩ := pre_take dpre hp
  rw [hlo'] at hlo
  subst hlo
  have htl' := dinv.tl
  have htd : s'.dec.length ≤ (tot s').length := by unfold tot; simp
  generalize hT' : tot s' = T' at *
  clear dans dtot dpre hcall hget hf hs' hlo'
  refine CwpE.seqJ (fun st => ∃ p, p ≤ s'.dec.length ∧ st = ⟨envF n acts i T'.length (s'.dec.take p), objF s' T'⟩) ?_ ?_
  rotate_left
  · rintro st ⟨p, hp, rfl⟩
    refine CwpE.vc ?_
    have hm : ((T'.length : Int) < (s'.dec.length : Int)) = False := eq_false (by omega)
    simp only [objF, objsH, oH, go_sem, List.replicate_succ, Nat.reducePow, Nat.reduceLeDiff, ↓reduceIte, reduceCtorEq, Nat.reduceLT, Nat.reduceEqDiff, Nat.reduceAdd, Nat.reduceSub, Nat.reduceMul, Int.reduceToNat, Int.reduceLT, Int.reduceLE, Int.reduceEq, Int.reduceNe, Int.reduceNeg, Int.reduceToNat, Int.lt_irrefl, Int.le_refl]
    refine callM (objsH s') [.arr T'.length 1 3 (T'.map vi)] _ (Moment_s s') rfl (objsH_inn _ 5 (by omega)) rfl ?_
    simp only [objF, objsH, oH, go_sem, List.replicate_succ, Nat.reducePow, Nat.reduceLeDiff, ↓reduceIte, reduceCtorEq, Nat.reduceLT, Nat.reduceEqDiff, Nat.reduceAdd, Nat.reduceSub, Nat.reduceMul, Int.reduceToNat, Int.reduceLT, Int.reduceLE, Int.reduceEq, Int.reduceNe, Int.reduceNeg, Int.reduceToNat, Int.lt_irrefl, Int.le_refl, hm]
    exact ⟨⟨envF n acts i T'.length (s'.dec.take p), objF s' T'⟩, WkE.keep (by simp only [go_sem, List.replicate_succ, Nat.reducePow, Nat.reduceLeDiff, ↓reduceIte, reduceCtorEq, Nat.reduceLT, Nat.reduceEqDiff, Nat.reduceAdd, Nat.reduceSub, Nat.reduceMul, Int.reduceToNat]), s', p, dinv, hp, by rw [hT']; rfl⟩
  refine CwpE.cut (st := ⟨(16, vi (0 : Nat)) :: envF n acts i T'.length (s'.dec.take p), objF s' T'⟩) ?_ (CwpE.block ?_)
  · simp only [objF, objsH, oH, go_sem, List.replicate_succ, Nat.reducePow, Nat.reduceLeDiff, ↓reduceIte, reduceCtorEq, Nat.reduceLT, Nat.reduceEqDiff, Nat.reduceAdd, Nat.reduceSub, Nat.reduceMul, Int.reduceToNat, Int.reduceLT, Int.reduceLE, Int.reduceEq, Int.reduceNe, Int.reduceNeg, Int.reduceToNat, Int.lt_irrefl, Int.le_refl]
    exact ⟨_, WkE.keep (by simp only [go_sem, List.replicate_succ, Nat.reducePow, Nat.reduceLeDiff, ↓reduceIte, reduceCtorEq, Nat.reduceLT, Nat.reduceEqDiff, Nat.reduceAdd, Nat.reduceSub, Nat.reduceMul, Int.reduceToNat]; rfl), rfl⟩
  refine loopXC 2 (fun m st => ∃ (k : Nat) (p : Nat), m = n - k ∧ k ≤ n ∧ p ≤ s'.dec.length ∧ st = ⟨(16, vi k) :: envF n acts i T'.length (s'.dec.take p), objF s' T'⟩)
    (fun st => ∃ p, p ≤ s'.dec.length ∧ st = ⟨envF n acts i T'.length (s'.dec.take p), objF s' T'⟩) n
    ⟨(16, vi (0 : Nat)) :: envF n acts i T'.length (s'.dec.take p), objF s' T'⟩ (.refl _ _) ⟨0, p, rfl, by omega, hp', rfl⟩ ?_ ?_
  rotate_left
  · rintro st ⟨p, hp, rfl⟩
    simp only [objF, objsH, oH, go_sem, List.replicate_succ, Nat.reducePow, Nat.reduceLeDiff, ↓reduceIte, reduceCtorEq, Nat.reduceLT, Nat.reduceEqDiff, Nat.reduceAdd, Nat.reduceSub, Nat.reduceMul, Int.reduceToNat]
    exact ⟨_, .refl _ _, p, hp, rfl⟩
  clear hp hp' p
  rintro m st ⟨k, p, rfl, hk, hp, rfl⟩
  by_cases hkn : k < n
  rotate_left
  · have g2 : ¬ (k : Int) < (n : Int) := by omega
    refine CwpE.vc ?_
    simp only [objF, objsH, oH, go_sem, List.replicate_succ, Nat.reducePow, Nat.reduceLeDiff, ↓reduceIte, reduceCtorEq, Nat.reduceLT, Nat.reduceEqDiff, Nat.reduceAdd, Nat.reduceSub, Nat.reduceMul, Int.reduceToNat, Int.reduceLT, Int.reduceLE, Int.reduceEq, Int.reduceNe, Int.reduceNeg, Int.reduceToNat, Int.lt_irrefl, Int.le_refl, g2]
    exact ⟨_, WkE.keep (by simp only [go_sem, List.replicate_succ, Nat.reducePow, Nat.reduceLeDiff, ↓reduceIte, reduceCtorEq, Nat.reduceLT, Nat.reduceEqDiff, Nat.reduceAdd, Nat.reduceSub, Nat.reduceMul, Int.reduceToNat]), p, hp, rfl⟩
  have g2 : (k : Int) < (n : Int) := by omega
  have w5 : IntKind.i64.wrap ((k : Int) + 1) = ((k + 1 : Nat) : Int) := by rw [wrap_id (by omega) (by omega)]; omega
  obtain ⟨q, hq, hsh⟩ := shown_take ok' k
  have hShown := Shown_s s' ok' k
  rw [hsh] at hShown
  clear hsh
  have lp : (s'.dec.take p).length = p := by simp; omega
  have lq : (s'.dec.take q).length = q := by simp; omega
  have hb1 := begins_s (s'.dec.take q) (s'.dec.take p) (by omega) (by omega)
  have hb2 := begins_s (s'.dec.take p) (s'.dec.take q) (by omega) (by omega)
  have hb3 := begins_s (s'.dec.take q) T' (by omega) (by omega)
  have bt : beginsL (s'.dec.take q) T' = true := by rw [← hT']; exact begins_tot s' hq
  rw [bt] at hb3
  have hmq : ((s'.dec.length : Int) < (q : Int)) = False := eq_false (by omega)
  refine CwpE.cut (st := ⟨(16, vi k) :: envF n acts i T'.length (s'.dec.take p), objF s' T'⟩) ?_ ?_
  · simp only [objF, objsH, oH, go_sem, List.replicate_succ, Nat.reducePow, Nat.reduceLeDiff, ↓reduceIte, reduceCtorEq, Nat.reduceLT, Nat.reduceEqDiff, Nat.reduceAdd, Nat.reduceSub, Nat.reduceMul, Int.reduceToNat, Int.reduceLT, Int.reduceLE, Int.reduceEq, Int.reduceNe, Int.reduceNeg, Int.reduceToNat, Int.lt_irrefl, Int.le_refl, g2]
    exact ⟨_, WkE.keep (by simp only [go_sem, List.replicate_succ, Nat.reducePow, Nat.reduceLeDiff, ↓reduceIte, reduceCtorEq, Nat.reduceLT, Nat.reduceEqDiff, Nat.reduceAdd, Nat.reduceSub, Nat.reduceMul, Int.reduceToNat]), rfl⟩
  refine CwpE.seqJ (fun st => ∃ p, p ≤ s'.dec.length ∧ st = ⟨(16, vi k) :: envF n acts i T'.length (s'.dec.take p), objF s' T'⟩) (CwpE.block ?_) ?_
  rotate_left
  · rintro st ⟨p, hp, rfl⟩
    refine CwpE.vc ?_
    simp only [objF, objsH, oH, go_sem, List.replicate_succ, Nat.reducePow, Nat.reduceLeDiff, ↓reduceIte, reduceCtorEq, Nat.reduceLT, Nat.reduceEqDiff, Nat.reduceAdd, Nat.reduceSub, Nat.reduceMul, Int.reduceToNat, w5]
    exact ⟨n - (k + 1), ⟨(16, vi (k + 1 : Nat)) :: envF n acts i T'.length (s'.dec.take p), objF s' T'⟩, by omega, WkE.keep (by simp only [go_sem, List.replicate_succ, Nat.reducePow, Nat.reduceLeDiff, ↓reduceIte, reduceCtorEq, Nat.reduceLT, Nat.reduceEqDiff, Nat.reduceAdd, Nat.reduceSub, Nat.reduceMul, Int.reduceToNat]), k + 1, p, rfl, by omega, hp, rfl⟩
  refine CwpE.cut (st := ⟨(17, vints (s'.dec.take q)) :: (16, vi k) :: envF n acts i T'.length (s'.dec.take p), objF s' T'⟩) ?_ ?_
  · simp only [objF, objsH, oH, go_sem, List.replicate_succ, Nat.reducePow, Nat.reduceLeDiff, ↓reduceIte, reduceCtorEq, Nat.reduceLT, Nat.reduceEqDiff, Nat.reduceAdd, Nat.reduceSub, Nat.reduceMul, Int.reduceToNat, Int.reduceLT, Int.reduceLE, Int.reduceEq, Int.reduceNe, Int.reduceNeg, Int.reduceToNat, Int.lt_irrefl, Int.le_refl]
    refine callM (objsH s') [.arr T'.length 1 3 (T'.map vi)] _ hShown rfl (objsH_inn _ 5 (by omega)) rfl ?_
    simp only [objF, objsH, oH, go_sem, List.replicate_succ, Nat.reducePow, Nat.reduceLeDiff, ↓reduceIte, reduceCtorEq, Nat.reduceLT, Nat.reduceEqDiff, Nat.reduceAdd, Nat.reduceSub, Nat.reduceMul, Int.reduceToNat, Int.reduceLT, Int.reduceLE, Int.reduceEq, Int.reduceNe, Int.reduceNeg, Int.reduceToNat, Int.lt_irrefl, Int.le_refl]
    exact ⟨_, WkE.keep (by simp only [go_sem, List.replicate_succ, Nat.reducePow, Nat.reduceLeDiff, ↓reduceIte, reduceCtorEq, Nat.reduceLT, Nat.reduceEqDiff, Nat.reduceAdd, Nat.reduceSub, Nat.reduceMul, Int.reduceToNat]), rfl⟩
  have snT : Dak.Snaps (objF s' T') [vints (s'.dec.take q), .own 5 T'.length 0 T'.length] [vints (s'.dec.take q), vints T'] := by
    refine .cons (.tree _ (by simp [AV.isT, AV.isT1])) (.cons (.own 5 T'.length 0 T'.length 1 3 (T'.map vi) (T'.map vi) rfl (by simp) (by simp) fun i h => by simp only [Nat.zero_add]; exact .tree _ (by simp; rfl)) .nil)
  refine CwpE.cut (st := ⟨(17, vints (s'.dec.take q)) :: (16, vi k) :: envF n acts i T'.length (s'.dec.take p), objF s' T'⟩) ?_ ?_
  · by_cases c : q ≤ p
    · rw [begins_take _ c hp] at hb1
      simp only [objF, objsH, oH, go_sem, List.replicate_succ, Nat.reducePow, Nat.reduceLeDiff, ↓reduceIte, reduceCtorEq, Nat.reduceLT, Nat.reduceEqDiff, Nat.reduceAdd, Nat.reduceSub, Nat.reduceMul, Int.reduceToNat, Int.reduceLT, Int.reduceLE, Int.reduceEq, Int.reduceNe, Int.reduceNeg, Int.reduceToNat, Int.lt_irrefl, Int.le_refl]
      refine callT hb1 rfl ?_
      simp only [go_sem, List.replicate_succ, Nat.reducePow, Nat.reduceLeDiff, ↓reduceIte, reduceCtorEq, Nat.reduceLT, Nat.reduceEqDiff, Nat.reduceAdd, Nat.reduceSub, Nat.reduceMul, Int.reduceToNat, Int.reduceLT, Int.reduceLE, Int.reduceEq, Int.reduceNe, Int.reduceNeg, Int.reduceToNat, Int.lt_irrefl, Int.le_refl]
      refine callF hb3 snT rfl ?_
      simp only [go_sem, List.replicate_succ, Nat.reducePow, Nat.reduceLeDiff, ↓reduceIte, reduceCtorEq, Nat.reduceLT, Nat.reduceEqDiff, Nat.reduceAdd, Nat.reduceSub, Nat.reduceMul, Int.reduceToNat, Int.reduceLT, Int.reduceLE, Int.reduceEq, Int.reduceNe, Int.reduceNeg, Int.reduceToNat, Int.lt_irrefl, Int.le_refl, List.length_map, lq]
      refine callM (objsH s') [.arr T'.length 1 3 (T'.map vi)] _ (Moment_s s') rfl (objsH_inn _ 5 (by omega)) rfl ?_
      simp only [objF, objsH, oH, go_sem, List.replicate_succ, Nat.reducePow, Nat.reduceLeDiff, ↓reduceIte, reduceCtorEq, Nat.reduceLT, Nat.reduceEqDiff, Nat.reduceAdd, Nat.reduceSub, Nat.reduceMul, Int.reduceToNat, Int.reduceLT, Int.reduceLE, Int.reduceEq, Int.reduceNe, Int.reduceNeg, Int.reduceToNat, Int.lt_irrefl, Int.le_refl, hmq]
      exact ⟨_, WkE.keep (by simp only [go_sem, List.replicate_succ, Nat.reducePow, Nat.reduceLeDiff, ↓reduceIte, reduceCtorEq, Nat.reduceLT, Nat.reduceEqDiff, Nat.reduceAdd, Nat.reduceSub, Nat.reduceMul, Int.reduceToNat]), rfl⟩
    · have c1 : beginsL (s'.dec.take q) (s'.dec.take p) = false := by
        unfold beginsL
        rw [lq, lp, decide_eq_false c]; rfl
      rw [c1] at hb1
      rw [begins_take _ (by omega) hq] at hb2
      simp only [objF, objsH, oH, go_sem, List.replicate_succ, Nat.reducePow, Nat.reduceLeDiff, ↓reduceIte, reduceCtorEq, Nat.reduceLT, Nat.reduceEqDiff, Nat.reduceAdd, Nat.reduceSub, Nat.reduceMul, Int.reduceToNat, Int.reduceLT, Int.reduceLE, Int.reduceEq, Int.reduceNe, Int.reduceNeg, Int.reduceToNat, Int.lt_irrefl, Int.le_refl]
      refine callT hb1 rfl ?_
      simp only [go_sem, List.replicate_succ, Nat.reducePow, Nat.reduceLeDiff, ↓reduceIte, reduceCtorEq, Nat.reduceLT, Nat.reduceEqDiff, Nat.reduceAdd, Nat.reduceSub, Nat.reduceMul, Int.reduceToNat, Int.reduceLT, Int.reduceLE, Int.reduceEq, Int.reduceNe, Int.reduceNeg, Int.reduceToNat, Int.lt_irrefl, Int.le_refl]
      refine callT hb2 rfl ?_
      simp only [go_sem, List.replicate_succ, Nat.reducePow, Nat.reduceLeDiff, ↓reduceIte, reduceCtorEq, Nat.reduceLT, Nat.reduceEqDiff, Nat.reduceAdd, Nat.reduceSub, Nat.reduceMul, Int.reduceToNat, Int.reduceLT, Int.reduceLE, Int.reduceEq, Int.reduceNe, Int.reduceNeg, Int.reduceToNat, Int.lt_irrefl, Int.le_refl]
      refine callF hb3 snT rfl ?_
      simp only [go_sem, List.replicate_succ, Nat.reducePow, Nat.reduceLeDiff, ↓reduceIte, reduceCtorEq, Nat.reduceLT, Nat.reduceEqDiff, Nat.reduceAdd, Nat.reduceSub, Nat.reduceMul, Int.reduceToNat, Int.reduceLT, Int.reduceLE, Int.reduceEq, Int.reduceNe, Int.reduceNeg, Int.reduceToNat, Int.lt_irrefl, Int.le_refl, List.length_map, lq]
      refine callM (objsH s') [.arr T'.length 1 3 (T'.map vi)] _ (Moment_s s') rfl (objsH_inn _ 5 (by omega)) rfl ?_
      simp only [objF, objsH, oH, go_sem, List.replicate_succ, Nat.reducePow, Nat.reduceLeDiff, ↓reduceIte, reduceCtorEq, Nat.reduceLT, Nat.reduceEqDiff, Nat.reduceAdd, Nat.reduceSub, Nat.reduceMul, Int.reduceToNat, Int.reduceLT, Int.reduceLE, Int.reduceEq, Int.reduceNe, Int.reduceNeg, Int.reduceToNat, Int.lt_irrefl, Int.le_refl, hmq]
      exact ⟨_, WkE.keep (by simp only [go_sem, List.replicate_succ, Nat.reducePow, Nat.reduceLeDiff, ↓reduceIte, reduceCtorEq, Nat.reduceLT, Nat.reduceEqDiff, Nat.reduceAdd, Nat.reduceSub, Nat.reduceMul, Int.reduceToNat]), rfl⟩
  refine CwpE.vc ?_
  by_cases c : p < q
  · have c' : (p : Int) < (q : Int) := by omega
    simp only [objF, objsH, oH, go_sem, List.replicate_succ, Nat.reducePow, Nat.reduceLeDiff, ↓reduceIte, reduceCtorEq, Nat.reduceLT, Nat.reduceEqDiff, Nat.reduceAdd, Nat.reduceSub, Nat.reduceMul, Int.reduceToNat, Int.reduceLT, Int.reduceLE, Int.reduceEq, Int.reduceNe, Int.reduceNeg, Int.reduceToNat, Int.lt_irrefl, Int.le_refl, List.length_map, lp, lq, c']
    exact ⟨_, WkE.keep (by simp only [go_sem, List.replicate_succ, Nat.reducePow, Nat.reduceLeDiff, ↓reduceIte, reduceCtorEq, Nat.reduceLT, Nat.reduceEqDiff, Nat.reduceAdd, Nat.reduceSub, Nat.reduceMul, Int.reduceToNat]), q, hq, rfl⟩
  · have c' : ((p : Int) < (q : Int)) = False := eq_false (by omega)
    simp only [objF, objsH, oH, go_sem, List.replicate_succ, Nat.reducePow, Nat.reduceLeDiff, ↓reduceIte, reduceCtorEq, Nat.reduceLT, Nat.reduceEqDiff, Nat.reduceAdd, Nat.reduceSub, Nat.reduceMul, Int.reduceToNat, Int.reduceLT, Int.reduceLE, Int.reduceEq, Int.reduceNe, Int.reduceNeg, Int.reduceToNat, Int.lt_irrefl, Int.le_refl, List.length_map, lp, lq, c']
    exact ⟨_, WkE.keep (by simp only [go_sem, List.replicate_succ, Nat.reducePow, Nat.reduceLeDiff, ↓reduceIte, reduceCtorEq, Nat.reduceLT, Nat.reduceEqDiff, Nat.reduceAdd, Nat.reduceSub, Nat.reduceMul, Int.reduceToNat]), p, hp, rfl⟩
end Go.Proofs.Ytjpknjicfoiheaa
