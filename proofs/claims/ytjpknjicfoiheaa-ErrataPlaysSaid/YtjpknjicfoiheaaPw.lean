/- A new hall of the reference; agree. -/
import Derived.Test.YtjpknjicfoiheaaPv
set_option linter.unusedSimpArgs false
set_option linter.unusedVariables false
set_option linter.unusedSectionVars false
namespace Go.Proofs.Ytjpknjicfoiheaa
open Go.RowKit Dak
abbrev newsR (n : Nat) : List AObj := [.arr 1 4 76 [.agg [.own 1 n 0 n, .own 2 0 0 0, vi 0, .own 3 0 0 0]], .arr n 8 78 (List.replicate n (vdv dev1)), .arr 0 1 3 [], .arr 0 3 38 []]
theorem newsR_inn (n k : Nat) (h : 4 ≤ k) : (newsR n).all (fun o => o.innO k) = true := by
  have e : (List.replicate n (vdv dev1)).all (AV.inn k) = true := by
    refine List.all_eq_true.2 fun y hy => ?_
    rw [(List.mem_replicate.1 hy).2]; rfl
  simp only [newsR, List.all_cons, List.all_nil, AObj.innO, e, AV.inn, AV.inn1, Bool.true_and, Bool.and_true, Bool.and_eq_true, decide_eq_true_eq]
  omega
theorem newsR_plain (n : Nat) : (newsR n).all AObj.plain = true := rfl
set_option maxHeartbeats 4000000 in
set_option maxRecDepth 100000 in
theorem NewR_s (n : Nat) (h1 : 1 ≤ n) (h8 : n ≤ 8) : CtrN Try.prog 20 [vi n] (.tup [.ref 0 1 0 0, vi 0]) (newsR n) := by
  refine specN f20 (by simp) (newsR_plain n) (newsR_inn n _ (by simp)) rfl fun F0 w0 => ?_
  have a1 : ((n : Int) < 1) = False := eq_false (by omega)
  have a2 : ((8 : Int) < (n : Int)) = False := eq_false (by omega)
  unfold c20
  refine CwpE.cut (st := ⟨[(0, vi n)], []⟩) ?_ ?_
  · simp only [go_sem, List.replicate_succ, Nat.reducePow, Nat.reduceLeDiff, ↓reduceIte, reduceCtorEq, Nat.reduceLT, Nat.reduceEqDiff, Nat.reduceAdd, Nat.reduceSub, Nat.reduceMul, Int.reduceToNat]
    exact ⟨_, WkE.keep (by simp only [go_sem, List.replicate_succ, Nat.reducePow, Nat.reduceLeDiff, ↓reduceIte, reduceCtorEq, Nat.reduceLT, Nat.reduceEqDiff, Nat.reduceAdd, Nat.reduceSub, Nat.reduceMul, Int.reduceToNat]), rfl⟩
  refine CwpE.cut (st := ⟨[(0, vi n)], []⟩) ?_ ?_
  · simp only [go_sem, List.replicate_succ, Nat.reducePow, Nat.reduceLeDiff, ↓reduceIte, reduceCtorEq, Nat.reduceLT, Nat.reduceEqDiff, Nat.reduceAdd, Nat.reduceSub, Nat.reduceMul, Int.reduceToNat, a1, a2]
    exact ⟨_, WkE.keep (by simp only [go_sem, List.replicate_succ, Nat.reducePow, Nat.reduceLeDiff, ↓reduceIte, reduceCtorEq, Nat.reduceLT, Nat.reduceEqDiff, Nat.reduceAdd, Nat.reduceSub, Nat.reduceMul, Int.reduceToNat]), rfl⟩
  refine CwpE.cut (st := ⟨[(0, vi n), (4, .ref 0 1 0 0)], newsR 0⟩) ?_ ?_
  · simp only [go_sem, List.replicate_succ, Nat.reducePow, Nat.reduceLeDiff, ↓reduceIte, reduceCtorEq, Nat.reduceLT, Nat.reduceEqDiff, Nat.reduceAdd, Nat.reduceSub, Nat.reduceMul, Int.reduceToNat, Int.reduceLT, Int.reduceLE, Int.reduceEq, Int.reduceNe, Int.reduceNeg, Int.reduceToNat, Int.lt_irrefl, Int.le_refl]
    refine ⟨_, ?_, rfl⟩
    refine (WkE.nilCell 0 1 4 0 0 8 78 76 _ _ rfl rfl rfl).trans ?_
    refine (WkE.nilCell 0 1 4 0 1 1 3 76 _ _ rfl rfl rfl).trans ?_
    refine (WkE.nilCell 0 1 4 0 3 3 38 76 _ _ rfl rfl rfl).trans ?_
    exact WkE.keep (by simp only [go_sem, List.replicate_succ, Nat.reducePow, Nat.reduceLeDiff, ↓reduceIte, reduceCtorEq, Nat.reduceLT, Nat.reduceEqDiff, Nat.reduceAdd, Nat.reduceSub, Nat.reduceMul, Int.reduceToNat])
  refine CwpE.seqJ (fun st => st = ⟨[(4, .ref 0 1 0 0)], newsR n⟩) ?_ ?_
  rotate_left
  · rintro st rfl
    refine CwpE.vc ?_
    simp only [go_sem, List.replicate_succ, Nat.reducePow, Nat.reduceLeDiff, ↓reduceIte, reduceCtorEq, Nat.reduceLT, Nat.reduceEqDiff, Nat.reduceAdd, Nat.reduceSub, Nat.reduceMul, Int.reduceToNat, Int.reduceLT, Int.reduceLE, Int.reduceEq, Int.reduceNe, Int.reduceNeg, Int.reduceToNat, Int.lt_irrefl, Int.le_refl]
    exact ⟨_, rfl, .refl _ _⟩
  refine CwpE.cut (st := ⟨[(0, vi n), (4, .ref 0 1 0 0), (5, vi (0 : Nat))], newsR 0⟩) ?_ (CwpE.block ?_)
  · simp only [go_sem, List.replicate_succ, Nat.reducePow, Nat.reduceLeDiff, ↓reduceIte, reduceCtorEq, Nat.reduceLT, Nat.reduceEqDiff, Nat.reduceAdd, Nat.reduceSub, Nat.reduceMul, Int.reduceToNat, Int.reduceLT, Int.reduceLE, Int.reduceEq, Int.reduceNe, Int.reduceNeg, Int.reduceToNat, Int.lt_irrefl, Int.le_refl]
    exact ⟨_, WkE.keep (by simp only [go_sem, List.replicate_succ, Nat.reducePow, Nat.reduceLeDiff, ↓reduceIte, reduceCtorEq, Nat.reduceLT, Nat.reduceEqDiff, Nat.reduceAdd, Nat.reduceSub, Nat.reduceMul, Int.reduceToNat]; rfl), rfl⟩
  refine loopXC 0 (fun m st => ∃ k : Nat, m = n - k ∧ k ≤ n ∧ st = ⟨[(0, vi n), (4, .ref 0 1 0 0), (5, vi k)], newsR k⟩)
    (fun st => st = ⟨[(4, .ref 0 1 0 0)], newsR n⟩) n
    ⟨[(0, vi n), (4, .ref 0 1 0 0), (5, vi (0 : Nat))], newsR 0⟩ (.refl _ _) ⟨0, rfl, by omega, rfl⟩ ?_ ?_
  rotate_left
  · rintro st rfl
    simp only [go_sem, List.replicate_succ, Nat.reducePow, Nat.reduceLeDiff, ↓reduceIte, reduceCtorEq, Nat.reduceLT, Nat.reduceEqDiff, Nat.reduceAdd, Nat.reduceSub, Nat.reduceMul, Int.reduceToNat]
    exact ⟨_, .refl _ _, rfl⟩
  rintro m st ⟨k, rfl, hk, rfl⟩
  by_cases hlt : k < n
  rotate_left
  · have e : k = n := by omega
    subst e
    have g1 : ¬ (k : Int) < (k : Int) := by omega
    refine CwpE.vc ?_
    simp only [go_sem, List.replicate_succ, Nat.reducePow, Nat.reduceLeDiff, ↓reduceIte, reduceCtorEq, Nat.reduceLT, Nat.reduceEqDiff, Nat.reduceAdd, Nat.reduceSub, Nat.reduceMul, Int.reduceToNat, Int.reduceLT, Int.reduceLE, Int.reduceEq, Int.reduceNe, Int.reduceNeg, Int.reduceToNat, Int.lt_irrefl, Int.le_refl, g1]
    exact ⟨_, WkE.keep (by simp only [go_sem, List.replicate_succ, Nat.reducePow, Nat.reduceLeDiff, ↓reduceIte, reduceCtorEq, Nat.reduceLT, Nat.reduceEqDiff, Nat.reduceAdd, Nat.reduceSub, Nat.reduceMul, Int.reduceToNat]), rfl⟩
  have g1 : (k : Int) < (n : Int) := by omega
  have w1 : IntKind.i64.wrap ((k : Int) + 1) = ((k + 1 : Nat) : Int) := by rw [wrap_id (by omega) (by omega)]; omega
  have q1 : (k + 1) * 24 ≤ 140737488355328 := by omega
  have hl : (List.replicate k (vdv dev1)).length = k := by simp
  have e1 : List.replicate k (vdv dev1) ++ [vdv dev1] = List.replicate (k + 1) (vdv dev1) := by rw [List.replicate_succ']
  have hd1 : vdv dev1 = .agg [vb true, vb true, vi 0, vb false, vb false, vb false, vb false, vb false] := rfl
  rw [hd1] at e1 hl
  refine CwpE.vc ?_
  simp only [newsR, hd1, go_sem, List.replicate_succ, Nat.reducePow, Nat.reduceLeDiff, ↓reduceIte, reduceCtorEq, Nat.reduceLT, Nat.reduceEqDiff, Nat.reduceAdd, Nat.reduceSub, Nat.reduceMul, Int.reduceToNat, Int.reduceLT, Int.reduceLE, Int.reduceEq, Int.reduceNe, Int.reduceNeg, Int.reduceToNat, Int.lt_irrefl, Int.le_refl, g1, w1, q1, hl]
  refine ⟨n - (k + 1), ⟨[(0, vi n), (4, .ref 0 1 0 0), (5, vi (k + 1 : Nat))], newsR (k + 1)⟩, by omega, ?_, k + 1, rfl, by omega, rfl⟩
  unfold newsR
  rw [hd1, ← e1]
  exact WkE.keep (by simp only [go_sem, List.replicate_succ, Nat.reducePow, Nat.reduceLeDiff, ↓reduceIte, reduceCtorEq, Nat.reduceLT, Nat.reduceEqDiff, Nat.reduceAdd, Nat.reduceSub, Nat.reduceMul, Int.reduceToNat])
abbrev tlR (s : Hs) : List AObj := [.arr 1 4 76 [.agg [.own 6 s.devs.length 0 s.devs.length, .own 7 s.dec.length 0 s.dec.length, vi s.now, .own 8 s.ans.length 0 s.ans.length]], .arr s.devs.length 8 78 (s.devs.map vdv), .arr s.dec.length 1 3 (s.dec.map vi), .arr s.ans.length 3 38 (s.ans.map vans)]
/-- Both halls. -/
def preH (s : Hs) : Pre := ⟨.void, .arr s.devs.length 8 60 (s.devs.map vdv), .arr 1 4 62 [.agg [.own 1 s.devs.length 0 s.devs.length, .own 3 s.dec.length 0 s.dec.length, vi s.now, .own 4 s.ans.length 0 s.ans.length]], .arr s.dec.length 1 3 (s.dec.map vi), .arr s.ans.length 3 38 (s.ans.map vans), fun k hk => objsH_inn s k hk⟩
theorem both_objs (s t : Hs) : objsR (preH s) t = objsH s ++ tlR t := rfl
theorem tlR_new (n : Nat) : (newsR n).map (AObj.shiftO 5) = tlR (newH n) := by
  simp [newsR, tlR, newH, AObj.shiftO, AV.shift, AV.shift1]
theorem snapA (p : Pre) (s : Hs) (ok : OkH s) (X : List AObj) (x : Int) : Snap (objsR p s ++ X) (shownA s x) (vints (shownE s x)) := by
  unfold shownA shownE
  by_cases c : x < 0 ∨ (s.devs.length : Int) ≤ x
  · rw [if_pos c, if_pos c]; exact .tree _ (by simp [AV.isT, AV.isT1])
  rw [if_neg c, if_neg c]
  cases hd : s.devs[x.toNat]? with
  | none => exact .tree _ (by simp [AV.isT, AV.isT1])
  | some d =>
  show Snap _ (if d.live = false then vints [] else .own 7 s.dec.length 0 d.mom.toNat) (vints (if d.live = false then [] else s.dec.take d.mom.toNat))
  by_cases l : d.live = false
  · rw [if_pos l, if_pos l]; exact .tree _ (by simp [AV.isT, AV.isT1])
  rw [if_neg l, if_neg l]
  obtain ⟨m0, m1⟩ := ok.2.2.2 d (List.mem_of_getElem? hd)
  refine .own 7 s.dec.length 0 d.mom.toNat 1 3 (s.dec.map vi) _ rfl (by simp; omega) (by simp; omega) fun i h => ?_
  have hl : i < s.dec.length := by simp at h; omega
  have e1 : (s.dec.map vi)[0 + i]'(by simp; omega) = vi s.dec[i] := by simp
  have e2 : ((s.dec.take d.mom.toNat).map vi)[i]'h = vi s.dec[i] := by simp
  rw [e1, e2]
  exact .tree _ rfl
theorem snapG (p : Pre) (s : Hs) (X : List AObj) : Snap (objsR p s ++ X) (.own 8 s.ans.length 0 s.ans.length) (.list 3 (s.ans.map vans)) := by
  refine .own 8 s.ans.length 0 s.ans.length 3 38 (s.ans.map vans) (s.ans.map vans) rfl (by simp) (by simp) fun i h => ?_
  simp only [Nat.zero_add]
  exact .tree _ (by simp; rfl)
theorem shown_len_le (s : Hs) (ok : OkH s) (x : Int) : (shownE s x).length ≤ 100000 := by
  obtain ⟨m, hm, e⟩ := shown_take ok x
  rw [e]
  have := ok.2.1
  simp; omega
set_option maxHeartbeats 4000000 in
set_option maxRecDepth 100000 in
theorem agree_s (s t : Hs) (ok1 : OkH s) (ok2 : OkH t) (hd : s.dec.length = t.dec.length) (ha : s.ans = t.ans) (hs : ∀ x, shownE s x = shownE t x) : CtrM Try.prog 21 [.ref 2 1 0 0, .ref 5 1 0 0] (objsR (preH s) t) (vb true) (objsR (preH s) t) := by
  refine specR t f21 (by simp) (fun _ _ => rfl) fun F0 w0 G B eB hBl hBi hG => ?_
  have hal := ok1.2.2.1
  have hsa := SameAnswers_s s.ans t.ans (by omega)
  rw [decide_eq_true ha] at hsa
  unfold c21
  refine CwpE.cut (st := ⟨[(0, .ref 2 1 0 0), (1, .ref 5 1 0 0)], objsR (preH s) t ++ [G]⟩) ?_ ?_
  · simp only [go_sem, List.replicate_succ, Nat.reducePow, Nat.reduceLeDiff, ↓reduceIte, reduceCtorEq, Nat.reduceLT, Nat.reduceEqDiff, Nat.reduceAdd, Nat.reduceSub, Nat.reduceMul, Int.reduceToNat, Int.reduceLT, Int.reduceLE, Int.reduceEq, Int.reduceNe, Int.reduceNeg, Int.reduceToNat, Int.lt_irrefl, Int.le_refl]
    exact ⟨_, WkE.keep (by simp only [go_sem, List.replicate_succ, Nat.reducePow, Nat.reduceLeDiff, ↓reduceIte, reduceCtorEq, Nat.reduceLT, Nat.reduceEqDiff, Nat.reduceAdd, Nat.reduceSub, Nat.reduceMul, Int.reduceToNat]), rfl⟩
  refine CwpE.cut (st := ⟨[(0, .ref 2 1 0 0), (1, .ref 5 1 0 0)], objsR (preH s) t ++ [G]⟩) ?_ ?_
  · have hm := Moment_s s
    rw [hd] at hm
    simp only [objsR, oR, go_sem, List.replicate_succ, Nat.reducePow, Nat.reduceLeDiff, ↓reduceIte, reduceCtorEq, Nat.reduceLT, Nat.reduceEqDiff, Nat.reduceAdd, Nat.reduceSub, Nat.reduceMul, Int.reduceToNat, Int.reduceLT, Int.reduceLE, Int.reduceEq, Int.reduceNe, Int.reduceNeg, Int.reduceToNat, Int.lt_irrefl, Int.le_refl]
    refine callR (objsH s) (tlR t ++ [G]) hm rfl (objsH_inn _ 5 (by omega)) rfl ?_
    simp only [objsR, oR, go_sem, List.replicate_succ, Nat.reducePow, Nat.reduceLeDiff, ↓reduceIte, reduceCtorEq, Nat.reduceLT, Nat.reduceEqDiff, Nat.reduceAdd, Nat.reduceSub, Nat.reduceMul, Int.reduceToNat, Int.reduceLT, Int.reduceLE, Int.reduceEq, Int.reduceNe, Int.reduceNeg, Int.reduceToNat, Int.lt_irrefl, Int.le_refl]
    refine callR (objsH s) (tlR t ++ [G]) (Answers_s s (by omega)) rfl (objsH_inn _ 5 (by omega)) rfl ?_
    simp only [objsR, oR, go_sem, List.replicate_succ, Nat.reducePow, Nat.reduceLeDiff, ↓reduceIte, reduceCtorEq, Nat.reduceLT, Nat.reduceEqDiff, Nat.reduceAdd, Nat.reduceSub, Nat.reduceMul, Int.reduceToNat, Int.reduceLT, Int.reduceLE, Int.reduceEq, Int.reduceNe, Int.reduceNeg, Int.reduceToNat, Int.lt_irrefl, Int.le_refl]
    refine callF hsa (.cons (.tree _ (by simp [AV.isT, AV.isT1])) (.cons (snapG (preH s) t [G]) .nil)) rfl ?_
    simp only [objsR, oR, go_sem, List.replicate_succ, Nat.reducePow, Nat.reduceLeDiff, ↓reduceIte, reduceCtorEq, Nat.reduceLT, Nat.reduceEqDiff, Nat.reduceAdd, Nat.reduceSub, Nat.reduceMul, Int.reduceToNat, Int.reduceLT, Int.reduceLE, Int.reduceEq, Int.reduceNe, Int.reduceNeg, Int.reduceToNat, Int.lt_irrefl, Int.le_refl]
    exact ⟨_, WkE.keep (by simp only [go_sem, List.replicate_succ, Nat.reducePow, Nat.reduceLeDiff, ↓reduceIte, reduceCtorEq, Nat.reduceLT, Nat.reduceEqDiff, Nat.reduceAdd, Nat.reduceSub, Nat.reduceMul, Int.reduceToNat]), rfl⟩
  refine CwpE.seqJ (fun st => st = ⟨[], B⟩) ?_ ?_
  rotate_left
  · rintro st rfl
    refine CwpE.vc ?_
    simp only [go_sem, List.replicate_succ, Nat.reducePow, Nat.reduceLeDiff, ↓reduceIte, reduceCtorEq, Nat.reduceLT, Nat.reduceEqDiff, Nat.reduceAdd, Nat.reduceSub, Nat.reduceMul, Int.reduceToNat, Int.reduceLT, Int.reduceLE, Int.reduceEq, Int.reduceNe, Int.reduceNeg, Int.reduceToNat, Int.lt_irrefl, Int.le_refl]
    exact endR hBl hBi rfl rfl (List.take_of_length_le (by omega))
  refine CwpE.cut (st := ⟨[(0, .ref 2 1 0 0), (1, .ref 5 1 0 0), (5, vi (((0 : Nat) : Int) - 1))], objsR (preH s) t ++ [G]⟩) ?_ (CwpE.block ?_)
  · simp only [objsR, oR, go_sem, List.replicate_succ, Nat.reducePow, Nat.reduceLeDiff, ↓reduceIte, reduceCtorEq, Nat.reduceLT, Nat.reduceEqDiff, Nat.reduceAdd, Nat.reduceSub, Nat.reduceMul, Int.reduceToNat, Int.reduceLT, Int.reduceLE, Int.reduceEq, Int.reduceNe, Int.reduceNeg, Int.reduceToNat, Int.lt_irrefl, Int.le_refl]
    exact ⟨_, WkE.keep (by simp only [go_sem, List.replicate_succ, Nat.reducePow, Nat.reduceLeDiff, ↓reduceIte, reduceCtorEq, Nat.reduceLT, Nat.reduceEqDiff, Nat.reduceAdd, Nat.reduceSub, Nat.reduceMul, Int.reduceToNat]; rfl), rfl⟩
  refine loopXC 0 (fun m st => ∃ k : Nat, m = t.devs.length + 2 - k ∧ k ≤ t.devs.length + 2 ∧ st = ⟨[(0, .ref 2 1 0 0), (1, .ref 5 1 0 0), (5, vi ((k : Int) - 1))], objsR (preH s) t ++ [G]⟩)
    (fun st => st = ⟨[], B⟩) (t.devs.length + 2)
    ⟨[(0, .ref 2 1 0 0), (1, .ref 5 1 0 0), (5, vi (((0 : Nat) : Int) - 1))], objsR (preH s) t ++ [G]⟩ (.refl _ _) ⟨0, rfl, by omega, rfl⟩ ?_ ?_
  rotate_left
  · rintro st rfl
    simp only [go_sem, List.replicate_succ, Nat.reducePow, Nat.reduceLeDiff, ↓reduceIte, reduceCtorEq, Nat.reduceLT, Nat.reduceEqDiff, Nat.reduceAdd, Nat.reduceSub, Nat.reduceMul, Int.reduceToNat]
    exact ⟨_, .refl _ _, rfl⟩
  rintro m st ⟨k, rfl, hk, rfl⟩
  obtain ⟨x, hx⟩ : ∃ x : Int, (k : Int) - 1 = x := ⟨_, rfl⟩
  have hw : IntKind.i64.wrap (x + 1) = ((k + 1 : Nat) : Int) - 1 := by
    have := ok2.1
    rw [wrap_id (by omega) (by omega)]; omega
  rw [hx]
  by_cases hlt : x ≤ (t.devs.length : Int)
  rotate_left
  · refine CwpE.vc ?_
    simp only [objsR, oR, go_sem, List.replicate_succ, Nat.reducePow, Nat.reduceLeDiff, ↓reduceIte, reduceCtorEq, Nat.reduceLT, Nat.reduceEqDiff, Nat.reduceAdd, Nat.reduceSub, Nat.reduceMul, Int.reduceToNat, Int.reduceLT, Int.reduceLE, Int.reduceEq, Int.reduceNe, Int.reduceNeg, Int.reduceToNat, Int.lt_irrefl, Int.le_refl, hlt]
    exact ⟨⟨[], B⟩, by rw [eB]; exact WkE.keep (by simp only [go_sem, List.replicate_succ, Nat.reducePow, Nat.reduceLeDiff, ↓reduceIte, reduceCtorEq, Nat.reduceLT, Nat.reduceEqDiff, Nat.reduceAdd, Nat.reduceSub, Nat.reduceMul, Int.reduceToNat]), rfl⟩
  have hsi := SameInts_s (shownE s x) (shownE t x) (by have := shown_len_le s ok1 x; omega)
  rw [decide_eq_true (hs x)] at hsi
  have hA := Shown_s s ok1 x
  have hB := ShownR_s (preH s) t ok2 x
  have hSn := snapA (preH s) t ok2 [G] x
  have hinn := shownA_inn t x
  generalize shownA t x = av at *
  generalize shownE s x = l1 at *
  generalize shownE t x = l2 at *
  refine CwpE.vc ?_
  simp only [objsR, oR, go_sem, List.replicate_succ, Nat.reducePow, Nat.reduceLeDiff, ↓reduceIte, reduceCtorEq, Nat.reduceLT, Nat.reduceEqDiff, Nat.reduceAdd, Nat.reduceSub, Nat.reduceMul, Int.reduceToNat, Int.reduceLT, Int.reduceLE, Int.reduceEq, Int.reduceNe, Int.reduceNeg, Int.reduceToNat, Int.lt_irrefl, Int.le_refl, hlt]
  refine callM (objsH s) (tlR t ++ [G]) _ hA rfl (objsH_inn _ 5 (by omega)) rfl ?_
  simp only [objsH, oH, go_sem, List.replicate_succ, Nat.reducePow, Nat.reduceLeDiff, ↓reduceIte, reduceCtorEq, Nat.reduceLT, Nat.reduceEqDiff, Nat.reduceAdd, Nat.reduceSub, Nat.reduceMul, Int.reduceToNat, Int.reduceLT, Int.reduceLE, Int.reduceEq, Int.reduceNe, Int.reduceNeg, Int.reduceToNat, Int.lt_irrefl, Int.le_refl]
  refine callM (objsR (preH s) t) [G] _ hB rfl (objsR_inn _ _ 9 (by omega)) rfl ?_
  simp only [objsR, oR, go_sem, List.replicate_succ, Nat.reducePow, Nat.reduceLeDiff, ↓reduceIte, reduceCtorEq, Nat.reduceLT, Nat.reduceEqDiff, Nat.reduceAdd, Nat.reduceSub, Nat.reduceMul, Int.reduceToNat, Int.reduceLT, Int.reduceLE, Int.reduceEq, Int.reduceNe, Int.reduceNeg, Int.reduceToNat, Int.lt_irrefl, Int.le_refl]
  refine callF hsi (.cons (.tree _ (by simp [AV.isT, AV.isT1])) (.cons hSn .nil)) rfl ?_
  simp only [objsR, oR, go_sem, List.replicate_succ, Nat.reducePow, Nat.reduceLeDiff, ↓reduceIte, reduceCtorEq, Nat.reduceLT, Nat.reduceEqDiff, Nat.reduceAdd, Nat.reduceSub, Nat.reduceMul, Int.reduceToNat, Int.reduceLT, Int.reduceLE, Int.reduceEq, Int.reduceNe, Int.reduceNeg, Int.reduceToNat, Int.lt_irrefl, Int.le_refl, hw]
  exact ⟨t.devs.length + 2 - (k + 1), ⟨[(0, .ref 2 1 0 0), (1, .ref 5 1 0 0), (5, vi (((k + 1 : Nat) : Int) - 1))], objsR (preH s) t ++ [G]⟩, by omega, WkE.keep (by simp only [go_sem, List.replicate_succ, Nat.reducePow, Nat.reduceLeDiff, ↓reduceIte, reduceCtorEq, Nat.reduceLT, Nat.reduceEqDiff, Nat.reduceAdd, Nat.reduceSub, Nat.reduceMul, Int.reduceToNat]), k + 1, rfl, by omega, rfl⟩
end Go.Proofs.Ytjpknjicfoiheaa
