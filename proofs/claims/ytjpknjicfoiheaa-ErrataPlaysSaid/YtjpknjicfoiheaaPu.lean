/- The hall of the reference: messages, Step, and what an act does. -/
import Derived.Test.YtjpknjicfoiheaaPt
set_option linter.unusedSimpArgs false
set_option linter.unusedVariables false
set_option linter.unusedSectionVars false
namespace Go.Proofs.Ytjpknjicfoiheaa
open Go.RowKit Dak
theorem com4_len (s : Hs) (i : Nat) (k : Int) (d : Dv) : (com4 s i k d).devs.length = s.devs.length := by
  unfold com4
  split
  · rw [decideH_len, put_len]
  · rw [put_len]
theorem comesH_len (s : Hs) (i : Nat) (d : Dv) (k : Int) : (comesH s i d k).devs.length = s.devs.length := by
  unfold comesH
  split
  · rfl
  · exact com4_len _ _ _ _
/-- What follows when a message has come. -/
def aftH (s t : Hs) (i : Nat) (e : Ev) : Hs := if e.kind = 2 ∧ t.dec.length = s.dec.length then match t.devs[i]? with
    | some x => t.put i (x.setf e.a true)
    | none => t
  else t
def msgH (s : Hs) (i : Nat) (d : Dv) (e : Ev) : Hs := if hasE d e.a ≠ 0 then s else
  if e.kind = 1 then s.put i (d.setf e.a false) else aftH s (comesH (s.put i (d.setf e.a false)) i (d.setf e.a false) e.a) i e
abbrev objE (p : Pre) (s : Hs) (G : AObj) (e : Ev) : List AObj := objsR p s ++ [G, .arr 1 5 32 [vev e]]
set_option maxHeartbeats 4000000 in
set_option maxRecDepth 100000 in
theorem MessageR_s (p : Pre) (s : Hs) (i : Nat) (d : Dv) (h : s.devs[i]? = some d) (hn : s.devs.length ≤ 1000) (hd : s.dec.length ≤ 100000) (e : Ev) (hse : e.seat = (i : Int)) :
    CtrM Try.prog 48 [.ref 5 1 0 0, vev e] (objsR p s) (vi (hasE d e.a)) (objsR p (msgH s i d e)) := by
  refine specR (msgH s i d e) f48 (by simp) (fun _ _ => rfl) fun F0 w0 G B eB hBl hBi hG => ?_
  have h1 := gdv h
  have h2 := setv h1
  have hil : i < s.devs.length := (List.getElem?_eq_some_iff.1 h).1
  have g0 : (0 : Int) ≤ (i : Int) := by omega
  have g1 : (i : Int) < (s.devs.length : Int) := by omega
  obtain ⟨tick, seat, kind, a, b⟩ := e
  simp only at hse
  subst hse
  unfold msgH at eB
  simp only at eB ⊢
  unfold c48
  refine CwpE.cut (st := ⟨[(0, .ref 5 1 0 0), (3, .ref 10 1 0 0)], objE p s G ⟨tick, i, kind, a, b⟩⟩) ?_ ?_
  · simp only [objE, objsR, oR, vev, go_sem, List.replicate_succ, Nat.reducePow, Nat.reduceLeDiff, ↓reduceIte, reduceCtorEq, Nat.reduceLT, Nat.reduceEqDiff, Nat.reduceAdd, Nat.reduceSub, Nat.reduceMul, Int.reduceToNat, Int.reduceLT, Int.reduceLE, Int.reduceEq, Int.reduceNe, Int.reduceNeg, Int.reduceToNat, Int.lt_irrefl, Int.le_refl]
    exact ⟨_, WkE.keep (by simp only [go_sem, List.replicate_succ, Nat.reducePow, Nat.reduceLeDiff, ↓reduceIte, reduceCtorEq, Nat.reduceLT, Nat.reduceEqDiff, Nat.reduceAdd, Nat.reduceSub, Nat.reduceMul, Int.reduceToNat]), rfl⟩
  by_cases a1 : a < 0
  · have e : hasE d a = 1 := if_pos (.inl a1)
    rw [e, if_pos (by decide)] at eB
    refine CwpE.vc ?_
    simp only [objE, objsR, oR, vev, go_sem, List.replicate_succ, Nat.reducePow, Nat.reduceLeDiff, ↓reduceIte, reduceCtorEq, Nat.reduceLT, Nat.reduceEqDiff, Nat.reduceAdd, Nat.reduceSub, Nat.reduceMul, Int.reduceToNat, Int.reduceLT, Int.reduceLE, Int.reduceEq, Int.reduceNe, Int.reduceNeg, Int.reduceToNat, Int.lt_irrefl, Int.le_refl, a1, e]
    exact endR hBl hBi rfl rfl eB.symm
  by_cases a2 : 2 < a
  · have e : hasE d a = 1 := if_pos (.inr (by omega))
    rw [e, if_pos (by decide)] at eB
    refine CwpE.vc ?_
    simp only [objE, objsR, oR, vev, go_sem, List.replicate_succ, Nat.reducePow, Nat.reduceLeDiff, ↓reduceIte, reduceCtorEq, Nat.reduceLT, Nat.reduceEqDiff, Nat.reduceAdd, Nat.reduceSub, Nat.reduceMul, Int.reduceToNat, Int.reduceLT, Int.reduceLE, Int.reduceEq, Int.reduceNe, Int.reduceNeg, Int.reduceToNat, Int.lt_irrefl, Int.le_refl, a1, a2, e]
    exact endR hBl hBi rfl rfl eB.symm
  have ak : a = 0 ∨ a = 1 ∨ a = 2 := by omega
  have he : hasE d a = if d.fl a = false then 6 else 0 := if_neg (by omega)
  refine CwpE.cut (st := ⟨[(0, .ref 5 1 0 0), (3, .ref 10 1 0 0)], objE p s G ⟨tick, i, kind, a, b⟩⟩) ?_ ?_
  · simp only [objE, objsR, oR, vev, go_sem, List.replicate_succ, Nat.reducePow, Nat.reduceLeDiff, ↓reduceIte, reduceCtorEq, Nat.reduceLT, Nat.reduceEqDiff, Nat.reduceAdd, Nat.reduceSub, Nat.reduceMul, Int.reduceToNat, Int.reduceLT, Int.reduceLE, Int.reduceEq, Int.reduceNe, Int.reduceNeg, Int.reduceToNat, Int.lt_irrefl, Int.le_refl, a1, a2]
    exact ⟨_, WkE.keep (by simp only [go_sem, List.replicate_succ, Nat.reducePow, Nat.reduceLeDiff, ↓reduceIte, reduceCtorEq, Nat.reduceLT, Nat.reduceEqDiff, Nat.reduceAdd, Nat.reduceSub, Nat.reduceMul, Int.reduceToNat]), rfl⟩
  by_cases hf : d.fl a = false
  · rw [if_pos hf] at he
    rw [he, if_pos (by decide)] at eB
    rw [he]
    refine CwpE.vc ?_
    unfold Dv.fl at hf
    rcases ak with rfl | rfl | rfl
    · rw [if_pos rfl] at hf
      simp only [objE, objsR, oR, vdv, vev, go_sem, List.replicate_succ, Nat.reducePow, Nat.reduceLeDiff, ↓reduceIte, reduceCtorEq, Nat.reduceLT, Nat.reduceEqDiff, Nat.reduceAdd, Nat.reduceSub, Nat.reduceMul, Int.reduceToNat, Int.reduceLT, Int.reduceLE, Int.reduceEq, Int.reduceNe, Int.reduceNeg, Int.reduceToNat, Int.lt_irrefl, Int.le_refl, h1, g0, g1, hf]
      exact endR hBl hBi rfl rfl eB.symm
    · rw [if_neg (by decide), if_pos rfl] at hf
      simp only [objE, objsR, oR, vdv, vev, go_sem, List.replicate_succ, Nat.reducePow, Nat.reduceLeDiff, ↓reduceIte, reduceCtorEq, Nat.reduceLT, Nat.reduceEqDiff, Nat.reduceAdd, Nat.reduceSub, Nat.reduceMul, Int.reduceToNat, Int.reduceLT, Int.reduceLE, Int.reduceEq, Int.reduceNe, Int.reduceNeg, Int.reduceToNat, Int.lt_irrefl, Int.le_refl, h1, g0, g1, hf]
      exact endR hBl hBi rfl rfl eB.symm
    · rw [if_neg (by decide), if_neg (by decide)] at hf
      simp only [objE, objsR, oR, vdv, vev, go_sem, List.replicate_succ, Nat.reducePow, Nat.reduceLeDiff, ↓reduceIte, reduceCtorEq, Nat.reduceLT, Nat.reduceEqDiff, Nat.reduceAdd, Nat.reduceSub, Nat.reduceMul, Int.reduceToNat, Int.reduceLT, Int.reduceLE, Int.reduceEq, Int.reduceNe, Int.reduceNeg, Int.reduceToNat, Int.lt_irrefl, Int.le_refl, h1, g0, g1, hf]
      exact endR hBl hBi rfl rfl eB.symm
  rw [if_neg hf] at he
  rw [he, if_neg (by decide)] at eB
  rw [he]
  refine CwpE.cut (st := ⟨[(0, .ref 5 1 0 0), (3, .ref 10 1 0 0)], objE p s G ⟨tick, i, kind, a, b⟩⟩) ?_ ?_
  · rw [Bool.not_eq_false] at hf
    unfold Dv.fl at hf
    rcases ak with rfl | rfl | rfl
    · rw [if_pos rfl] at hf
      simp only [objE, objsR, oR, vdv, vev, go_sem, List.replicate_succ, Nat.reducePow, Nat.reduceLeDiff, ↓reduceIte, reduceCtorEq, Nat.reduceLT, Nat.reduceEqDiff, Nat.reduceAdd, Nat.reduceSub, Nat.reduceMul, Int.reduceToNat, Int.reduceLT, Int.reduceLE, Int.reduceEq, Int.reduceNe, Int.reduceNeg, Int.reduceToNat, Int.lt_irrefl, Int.le_refl, h1, g0, g1, hf]
      exact ⟨_, WkE.keep (by simp only [go_sem, List.replicate_succ, Nat.reducePow, Nat.reduceLeDiff, ↓reduceIte, reduceCtorEq, Nat.reduceLT, Nat.reduceEqDiff, Nat.reduceAdd, Nat.reduceSub, Nat.reduceMul, Int.reduceToNat]), rfl⟩
    · rw [if_neg (by decide), if_pos rfl] at hf
      simp only [objE, objsR, oR, vdv, vev, go_sem, List.replicate_succ, Nat.reducePow, Nat.reduceLeDiff, ↓reduceIte, reduceCtorEq, Nat.reduceLT, Nat.reduceEqDiff, Nat.reduceAdd, Nat.reduceSub, Nat.reduceMul, Int.reduceToNat, Int.reduceLT, Int.reduceLE, Int.reduceEq, Int.reduceNe, Int.reduceNeg, Int.reduceToNat, Int.lt_irrefl, Int.le_refl, h1, g0, g1, hf]
      exact ⟨_, WkE.keep (by simp only [go_sem, List.replicate_succ, Nat.reducePow, Nat.reduceLeDiff, ↓reduceIte, reduceCtorEq, Nat.reduceLT, Nat.reduceEqDiff, Nat.reduceAdd, Nat.reduceSub, Nat.reduceMul, Int.reduceToNat]), rfl⟩
    · rw [if_neg (by decide), if_neg (by decide)] at hf
      simp only [objE, objsR, oR, vdv, vev, go_sem, List.replicate_succ, Nat.reducePow, Nat.reduceLeDiff, ↓reduceIte, reduceCtorEq, Nat.reduceLT, Nat.reduceEqDiff, Nat.reduceAdd, Nat.reduceSub, Nat.reduceMul, Int.reduceToNat, Int.reduceLT, Int.reduceLE, Int.reduceEq, Int.reduceNe, Int.reduceNeg, Int.reduceToNat, Int.lt_irrefl, Int.le_refl, h1, g0, g1, hf]
      exact ⟨_, WkE.keep (by simp only [go_sem, List.replicate_succ, Nat.reducePow, Nat.reduceLeDiff, ↓reduceIte, reduceCtorEq, Nat.reduceLT, Nat.reduceEqDiff, Nat.reduceAdd, Nat.reduceSub, Nat.reduceMul, Int.reduceToNat]), rfl⟩
  clear he hf a1 a2
  have hget := put_get h (d.setf a false)
  have hcl := comesH_len (s.put i (d.setf a false)) i (d.setf a false) a
  have hcom := ComesR_s p (s.put i (d.setf a false)) i _ hget (by rw [put_len]; exact hn) hd a
  rw [put_len] at hcl
  refine CwpE.cut (st := ⟨[(0, .ref 5 1 0 0), (3, .ref 10 1 0 0)], objE p (s.put i (d.setf a false)) G ⟨tick, i, kind, a, b⟩⟩) ?_ ?_
  · have e : ∀ d' X, objsR p (s.put i d') ++ X = oR p s.devs.length s.dec.length s.ans.length ((s.devs.map vdv).set i (vdv d')) s.now (s.dec.map vi) (s.ans.map vans) ++ X := fun d' X => by rw [putR_objs]
    unfold objE
    rw [e]
    rcases ak with rfl | rfl | rfl
    all_goals
      simp only [objsR, oR, Dv.setf, vdv, vev, go_sem, List.replicate_succ, Nat.reducePow, Nat.reduceLeDiff, ↓reduceIte, reduceCtorEq, Nat.reduceLT, Nat.reduceEqDiff, Nat.reduceAdd, Nat.reduceSub, Nat.reduceMul, Int.reduceToNat, Int.reduceLT, Int.reduceLE, Int.reduceEq, Int.reduceNe, Int.reduceNeg, Int.reduceToNat, Int.lt_irrefl, Int.le_refl, h1, h2, g0, g1]
      exact ⟨_, WkE.keep (by simp only [go_sem, List.replicate_succ, Nat.reducePow, Nat.reduceLeDiff, ↓reduceIte, reduceCtorEq, Nat.reduceLT, Nat.reduceEqDiff, Nat.reduceAdd, Nat.reduceSub, Nat.reduceMul, Int.reduceToNat]; try rfl), rfl⟩
  have hdl : (s.put i (d.setf a false)).dec = s.dec := rfl
  generalize comesH (s.put i (d.setf a false)) i (d.setf a false) a = t at *
  generalize s.put i (d.setf a false) = v at *
  by_cases k1 : kind = 1
  · rw [if_pos k1] at eB
    refine CwpE.vc ?_
    simp only [objE, objsR, oR, vev, go_sem, List.replicate_succ, Nat.reducePow, Nat.reduceLeDiff, ↓reduceIte, reduceCtorEq, Nat.reduceLT, Nat.reduceEqDiff, Nat.reduceAdd, Nat.reduceSub, Nat.reduceMul, Int.reduceToNat, Int.reduceLT, Int.reduceLE, Int.reduceEq, Int.reduceNe, Int.reduceNeg, Int.reduceToNat, Int.lt_irrefl, Int.le_refl, k1]
    exact endR hBl hBi rfl rfl eB.symm
  rw [if_neg k1] at eB
  refine CwpE.cut (st := ⟨[(0, .ref 5 1 0 0), (3, .ref 10 1 0 0)], objE p v G ⟨tick, i, kind, a, b⟩⟩) ?_ ?_
  · simp only [objE, objsR, oR, vev, go_sem, List.replicate_succ, Nat.reducePow, Nat.reduceLeDiff, ↓reduceIte, reduceCtorEq, Nat.reduceLT, Nat.reduceEqDiff, Nat.reduceAdd, Nat.reduceSub, Nat.reduceMul, Int.reduceToNat, Int.reduceLT, Int.reduceLE, Int.reduceEq, Int.reduceNe, Int.reduceNeg, Int.reduceToNat, Int.lt_irrefl, Int.le_refl, k1]
    exact ⟨_, WkE.keep (by simp only [go_sem, List.replicate_succ, Nat.reducePow, Nat.reduceLeDiff, ↓reduceIte, reduceCtorEq, Nat.reduceLT, Nat.reduceEqDiff, Nat.reduceAdd, Nat.reduceSub, Nat.reduceMul, Int.reduceToNat]), rfl⟩
  refine CwpE.cut (st := ⟨[(0, .ref 5 1 0 0), (3, .ref 10 1 0 0), (5, vi s.dec.length)], objE p v G ⟨tick, i, kind, a, b⟩⟩) ?_ ?_
  · rw [← hdl]
    simp only [objE, objsR, oR, vev, go_sem, List.replicate_succ, Nat.reducePow, Nat.reduceLeDiff, ↓reduceIte, reduceCtorEq, Nat.reduceLT, Nat.reduceEqDiff, Nat.reduceAdd, Nat.reduceSub, Nat.reduceMul, Int.reduceToNat, Int.reduceLT, Int.reduceLE, Int.reduceEq, Int.reduceNe, Int.reduceNeg, Int.reduceToNat, Int.lt_irrefl, Int.le_refl]
    exact ⟨_, WkE.keep (by simp only [go_sem, List.replicate_succ, Nat.reducePow, Nat.reduceLeDiff, ↓reduceIte, reduceCtorEq, Nat.reduceLT, Nat.reduceEqDiff, Nat.reduceAdd, Nat.reduceSub, Nat.reduceMul, Int.reduceToNat]), rfl⟩
  refine CwpE.cut (st := ⟨[(0, .ref 5 1 0 0), (3, .ref 10 1 0 0), (5, vi s.dec.length)], objE p t G ⟨tick, i, kind, a, b⟩⟩) ?_ ?_
  · simp only [objE, objsR, oR, vev, go_sem, List.replicate_succ, Nat.reducePow, Nat.reduceLeDiff, ↓reduceIte, reduceCtorEq, Nat.reduceLT, Nat.reduceEqDiff, Nat.reduceAdd, Nat.reduceSub, Nat.reduceMul, Int.reduceToNat, Int.reduceLT, Int.reduceLE, Int.reduceEq, Int.reduceNe, Int.reduceNeg, Int.reduceToNat, Int.lt_irrefl, Int.le_refl]
    refine callM (objsR p v) [G, .arr 1 5 32 [vev ⟨tick, i, kind, a, b⟩]] _ hcom rfl (objsR_inn _ _ 9 (by omega)) rfl ?_
    simp only [objsR, oR, vev, go_sem, List.replicate_succ, Nat.reducePow, Nat.reduceLeDiff, ↓reduceIte, reduceCtorEq, Nat.reduceLT, Nat.reduceEqDiff, Nat.reduceAdd, Nat.reduceSub, Nat.reduceMul, Int.reduceToNat, Int.reduceLT, Int.reduceLE, Int.reduceEq, Int.reduceNe, Int.reduceNeg, Int.reduceToNat, Int.lt_irrefl, Int.le_refl]
    exact ⟨_, WkE.keep (by simp only [go_sem, List.replicate_succ, Nat.reducePow, Nat.reduceLeDiff, ↓reduceIte, reduceCtorEq, Nat.reduceLT, Nat.reduceEqDiff, Nat.reduceAdd, Nat.reduceSub, Nat.reduceMul, Int.reduceToNat]), rfl⟩
  clear hcom hget
  have hit : i < t.devs.length := by omega
  have ht : t.devs[i]? = some t.devs[i] := List.getElem?_eq_getElem hit
  unfold aftH at eB
  rw [ht] at eB
  simp only at eB
  generalize t.devs[i] = x at *
  have h3 := gdv ht
  have h4 := setv h3
  have g3 : (i : Int) < (t.devs.length : Int) := by omega
  refine CwpE.vc ?_
  by_cases k2 : kind = 2
  rotate_left
  · rw [if_neg (fun c => k2 c.1)] at eB
    simp only [objE, objsR, oR, vev, go_sem, List.replicate_succ, Nat.reducePow, Nat.reduceLeDiff, ↓reduceIte, reduceCtorEq, Nat.reduceLT, Nat.reduceEqDiff, Nat.reduceAdd, Nat.reduceSub, Nat.reduceMul, Int.reduceToNat, Int.reduceLT, Int.reduceLE, Int.reduceEq, Int.reduceNe, Int.reduceNeg, Int.reduceToNat, Int.lt_irrefl, Int.le_refl, k2]
    exact endR hBl hBi rfl rfl eB.symm
  by_cases ql : t.dec.length = s.dec.length
  rotate_left
  · rw [if_neg (fun c => ql c.2)] at eB
    have ql' : ((t.dec.length : Int) = (s.dec.length : Int)) = False := eq_false (by omega)
    simp only [objE, objsR, oR, vev, go_sem, List.replicate_succ, Nat.reducePow, Nat.reduceLeDiff, ↓reduceIte, reduceCtorEq, Nat.reduceLT, Nat.reduceEqDiff, Nat.reduceAdd, Nat.reduceSub, Nat.reduceMul, Int.reduceToNat, Int.reduceLT, Int.reduceLE, Int.reduceEq, Int.reduceNe, Int.reduceNeg, Int.reduceToNat, Int.lt_irrefl, Int.le_refl, k2, ql']
    exact endR hBl hBi rfl rfl eB.symm
  rw [if_pos ⟨k2, ql⟩, putR_objs] at eB
  have ql' : ((t.dec.length : Int) = (s.dec.length : Int)) = True := eq_true (by omega)
  rcases ak with rfl | rfl | rfl
  all_goals
    simp only [objE, objsR, oR, vdv, vev, go_sem, List.replicate_succ, Nat.reducePow, Nat.reduceLeDiff, ↓reduceIte, reduceCtorEq, Nat.reduceLT, Nat.reduceEqDiff, Nat.reduceAdd, Nat.reduceSub, Nat.reduceMul, Int.reduceToNat, Int.reduceLT, Int.reduceLE, Int.reduceEq, Int.reduceNe, Int.reduceNeg, Int.reduceToNat, Int.lt_irrefl, Int.le_refl, k2, ql', h3, h4, g0, g3]
    exact endR hBl hBi rfl rfl eB.symm
def evR (s : Hs) (i : Nat) (d : Dv) (e : Ev) : Hs := if e.kind = 3 then failH s i d else if e.kind = 4 then backH s i d else if e.kind = 5 then resendH s else if e.kind = 6 then ansH s d e else msgH s i d e
def stepR (s : Hs) (e : Ev) : Hs := if badE s e then s else match s.devs[e.seat.toNat]? with
  | some d => evR s e.seat.toNat d e
  | none => s
set_option maxHeartbeats 4000000 in
set_option maxRecDepth 100000 in
theorem StepR_s (p : Pre) (s : Hs) (hn : s.devs.length ≤ 1000) (hd : s.dec.length ≤ 100000) (ha : s.ans.length ≤ 100000) (e : Ev) : CtrM Try.prog 22 [.ref 5 1 0 0, vev e] (objsR p s) (vi (stepE s e)) (objsR p (stepR s e)) := by
  refine specR (stepR s e) f22 (by simp) (fun _ _ => rfl) fun F0 w0 G B eB hBl hBi hG => ?_
  have bad : badE s e → stepE s e = 1 ∧ B = objsR p s ++ [G] := fun hb => ⟨if_pos hb, by rw [eB]; unfold stepR; rw [if_pos hb]⟩
  unfold c22
  refine CwpE.cut (st := ⟨[(0, .ref 5 1 0 0), (3, .ref 10 1 0 0)], objE p s G e⟩) ?_ ?_
  · simp only [objE, objsR, oR, vev, go_sem, List.replicate_succ, Nat.reducePow, Nat.reduceLeDiff, ↓reduceIte, reduceCtorEq, Nat.reduceLT, Nat.reduceEqDiff, Nat.reduceAdd, Nat.reduceSub, Nat.reduceMul, Int.reduceToNat, Int.reduceLT, Int.reduceLE, Int.reduceEq, Int.reduceNe, Int.reduceNeg, Int.reduceToNat, Int.lt_irrefl, Int.le_refl]
    exact ⟨_, WkE.keep (by simp only [go_sem, List.replicate_succ, Nat.reducePow, Nat.reduceLeDiff, ↓reduceIte, reduceCtorEq, Nat.reduceLT, Nat.reduceEqDiff, Nat.reduceAdd, Nat.reduceSub, Nat.reduceMul, Int.reduceToNat]), rfl⟩
  by_cases a1 : e.kind < 0
  · obtain ⟨e1, eB⟩ := bad (.inl a1)
    refine CwpE.vc ?_
    simp only [objE, objsR, oR, vev, go_sem, List.replicate_succ, Nat.reducePow, Nat.reduceLeDiff, ↓reduceIte, reduceCtorEq, Nat.reduceLT, Nat.reduceEqDiff, Nat.reduceAdd, Nat.reduceSub, Nat.reduceMul, Int.reduceToNat, Int.reduceLT, Int.reduceLE, Int.reduceEq, Int.reduceNe, Int.reduceNeg, Int.reduceToNat, Int.lt_irrefl, Int.le_refl, a1, e1]
    exact endR hBl hBi rfl rfl eB.symm
  by_cases a2 : 6 < e.kind
  · obtain ⟨e1, eB⟩ := bad (.inr (.inl (by omega)))
    refine CwpE.vc ?_
    simp only [objE, objsR, oR, vev, go_sem, List.replicate_succ, Nat.reducePow, Nat.reduceLeDiff, ↓reduceIte, reduceCtorEq, Nat.reduceLT, Nat.reduceEqDiff, Nat.reduceAdd, Nat.reduceSub, Nat.reduceMul, Int.reduceToNat, Int.reduceLT, Int.reduceLE, Int.reduceEq, Int.reduceNe, Int.reduceNeg, Int.reduceToNat, Int.lt_irrefl, Int.le_refl, a1, a2, e1]
    exact endR hBl hBi rfl rfl eB.symm
  by_cases a3 : e.seat < 0
  · obtain ⟨e1, eB⟩ := bad (.inr (.inr (.inl a3)))
    refine CwpE.vc ?_
    simp only [objE, objsR, oR, vev, go_sem, List.replicate_succ, Nat.reducePow, Nat.reduceLeDiff, ↓reduceIte, reduceCtorEq, Nat.reduceLT, Nat.reduceEqDiff, Nat.reduceAdd, Nat.reduceSub, Nat.reduceMul, Int.reduceToNat, Int.reduceLT, Int.reduceLE, Int.reduceEq, Int.reduceNe, Int.reduceNeg, Int.reduceToNat, Int.lt_irrefl, Int.le_refl, a1, a2, a3, e1]
    exact endR hBl hBi rfl rfl eB.symm
  by_cases a4 : (s.devs.length : Int) ≤ e.seat
  · obtain ⟨e1, eB⟩ := bad (.inr (.inr (.inr a4)))
    refine CwpE.vc ?_
    simp only [objE, objsR, oR, vev, go_sem, List.replicate_succ, Nat.reducePow, Nat.reduceLeDiff, ↓reduceIte, reduceCtorEq, Nat.reduceLT, Nat.reduceEqDiff, Nat.reduceAdd, Nat.reduceSub, Nat.reduceMul, Int.reduceToNat, Int.reduceLT, Int.reduceLE, Int.reduceEq, Int.reduceNe, Int.reduceNeg, Int.reduceToNat, Int.lt_irrefl, Int.le_refl, a1, a2, a3, a4, e1]
    exact endR hBl hBi rfl rfl eB.symm
  have nb : ¬ badE s e := by unfold badE; omega
  obtain ⟨i, hi⟩ : ∃ i : Nat, e.seat.toNat = i := ⟨_, rfl⟩
  have hie : e.seat = (i : Int) := by omega
  have hil : i < s.devs.length := by omega
  obtain ⟨d, h⟩ : ∃ d, s.devs[i]? = some d := ⟨_, List.getElem?_eq_getElem hil⟩
  have e1 : stepE s e = evE s d e := by unfold stepE; rw [if_neg nb, hi, h]
  have e2 : stepR s e = evR s i d e := by unfold stepR; rw [if_neg nb, hi, h]
  rw [e2] at eB
  rw [e1]
  clear bad e1 e2
  refine CwpE.cut (st := ⟨[(0, .ref 5 1 0 0), (3, .ref 10 1 0 0)], objE p s G e⟩) ?_ ?_
  · simp only [objE, objsR, oR, vev, go_sem, List.replicate_succ, Nat.reducePow, Nat.reduceLeDiff, ↓reduceIte, reduceCtorEq, Nat.reduceLT, Nat.reduceEqDiff, Nat.reduceAdd, Nat.reduceSub, Nat.reduceMul, Int.reduceToNat, Int.reduceLT, Int.reduceLE, Int.reduceEq, Int.reduceNe, Int.reduceNeg, Int.reduceToNat, Int.lt_irrefl, Int.le_refl, a1, a2, a3, a4]
    exact ⟨_, WkE.keep (by simp only [go_sem, List.replicate_succ, Nat.reducePow, Nat.reduceLeDiff, ↓reduceIte, reduceCtorEq, Nat.reduceLT, Nat.reduceEqDiff, Nat.reduceAdd, Nat.reduceSub, Nat.reduceMul, Int.reduceToNat]), rfl⟩
  clear a3 a4
  have h1 := gdv h
  have h2 := setv h1
  have g0 : (0 : Int) ≤ (i : Int) := by omega
  have g1 : (i : Int) < (s.devs.length : Int) := by omega
  obtain ⟨tick, seat, kind, ea, eb⟩ := e
  simp only at hie a1 a2
  subst hie
  refine CwpE.cut (st := ⟨[(0, .ref 5 1 0 0), (3, .ref 10 1 0 0), (5, .ref 11 1 0 0)], objE p s G ⟨tick, i, kind, ea, eb⟩ ++ [.arr 1 8 78 [vdv d]]⟩) ?_ ?_
  · simp only [objE, objsR, oR, vdv, vev, go_sem, List.replicate_succ, Nat.reducePow, Nat.reduceLeDiff, ↓reduceIte, reduceCtorEq, Nat.reduceLT, Nat.reduceEqDiff, Nat.reduceAdd, Nat.reduceSub, Nat.reduceMul, Int.reduceToNat, Int.reduceLT, Int.reduceLE, Int.reduceEq, Int.reduceNe, Int.reduceNeg, Int.reduceToNat, Int.lt_irrefl, Int.le_refl, h1, g0, g1]
    exact ⟨_, WkE.keep (by simp only [go_sem, List.replicate_succ, Nat.reducePow, Nat.reduceLeDiff, ↓reduceIte, reduceCtorEq, Nat.reduceLT, Nat.reduceEqDiff, Nat.reduceAdd, Nat.reduceSub, Nat.reduceMul, Int.reduceToNat]), rfl⟩
  have hk : kind = 0 ∨ kind = 1 ∨ kind = 2 ∨ kind = 3 ∨ kind = 4 ∨ kind = 5 ∨ kind = 6 := by omega
  have msg : (kind = 0 ∨ kind = 1 ∨ kind = 2) → evE s d ⟨tick, i, kind, ea, eb⟩ = hasE d ea ∧ B = objsR p (msgH s i d ⟨tick, i, kind, ea, eb⟩) ++ [G] := by
    intro c
    refine ⟨by unfold evE; rcases c with rfl | rfl | rfl <;> rfl, ?_⟩
    rw [eB]; unfold evR
    rw [if_neg (by simp only; omega), if_neg (by simp only; omega), if_neg (by simp only; omega), if_neg (by simp only; omega)]
  have hmsg := MessageR_s p s i d h hn hd ⟨tick, i, kind, ea, eb⟩ rfl
  by_cases km : kind = 0 ∨ kind = 1 ∨ kind = 2
  · obtain ⟨m1, eB⟩ := msg km
    rw [m1]
    have n3 : ¬ kind = 3 := by omega
    have n4 : ¬ kind = 4 := by omega
    have n5 : ¬ kind = 5 := by omega
    have n6 : ¬ kind = 6 := by omega
    simp only at hmsg
    generalize msgH s i d ⟨tick, i, kind, ea, eb⟩ = t at *
    refine CwpE.vc ?_
    simp only [objE, objsR, oR, vdv, vev, go_sem, List.replicate_succ, Nat.reducePow, Nat.reduceLeDiff, ↓reduceIte, reduceCtorEq, Nat.reduceLT, Nat.reduceEqDiff, Nat.reduceAdd, Nat.reduceSub, Nat.reduceMul, Int.reduceToNat, Int.reduceLT, Int.reduceLE, Int.reduceEq, Int.reduceNe, Int.reduceNeg, Int.reduceToNat, Int.lt_irrefl, Int.le_refl, n3, n4, n5, n6]
    refine callM (objsR p s) [G, .arr 1 5 32 [vev ⟨tick, i, kind, ea, eb⟩], .arr 1 8 78 [vdv d]] _ hmsg rfl (objsR_inn _ _ 9 (by omega)) rfl ?_
    simp only [objsR, oR, vdv, vev, go_sem, List.replicate_succ, Nat.reducePow, Nat.reduceLeDiff, ↓reduceIte, reduceCtorEq, Nat.reduceLT, Nat.reduceEqDiff, Nat.reduceAdd, Nat.reduceSub, Nat.reduceMul, Int.reduceToNat, Int.reduceLT, Int.reduceLE, Int.reduceEq, Int.reduceNe, Int.reduceNeg, Int.reduceToNat, Int.lt_irrefl, Int.le_refl]
    exact endR hBl hBi rfl rfl eB.symm
  clear msg hmsg
  refine CwpE.vc ?_
  have hk : kind = 3 ∨ kind = 4 ∨ kind = 5 ∨ kind = 6 := by omega
  rcases hk with rfl | rfl | rfl | rfl
  · have e1 : evE s d ⟨tick, i, 3, ea, eb⟩ = failE d := rfl
    have e2 : evR s i d ⟨tick, i, 3, ea, eb⟩ = failH s i d := rfl
    rw [e2] at eB
    rw [e1]
    unfold failH at eB
    unfold failE
    cases u : d.up with
    | false =>
      rw [if_pos u] at eB
      rw [if_pos rfl]
      simp only [objE, objsR, oR, vdv, vev, go_sem, List.replicate_succ, Nat.reducePow, Nat.reduceLeDiff, ↓reduceIte, reduceCtorEq, Nat.reduceLT, Nat.reduceEqDiff, Nat.reduceAdd, Nat.reduceSub, Nat.reduceMul, Int.reduceToNat, Int.reduceLT, Int.reduceLE, Int.reduceEq, Int.reduceNe, Int.reduceNeg, Int.reduceToNat, Int.lt_irrefl, Int.le_refl, u]
      exact endR hBl hBi rfl rfl eB.symm
    | true =>
      rw [if_neg (by simp [u])] at eB
      rw [if_neg (by simp)]
      have hde := DecideR_s p (s.put i d.down) (by rw [put_len]; exact hn) hd
      simp only [objE, objsR, oR, vdv, vev, go_sem, List.replicate_succ, Nat.reducePow, Nat.reduceLeDiff, ↓reduceIte, reduceCtorEq, Nat.reduceLT, Nat.reduceEqDiff, Nat.reduceAdd, Nat.reduceSub, Nat.reduceMul, Int.reduceToNat, Int.reduceLT, Int.reduceLE, Int.reduceEq, Int.reduceNe, Int.reduceNeg, Int.reduceToNat, Int.lt_irrefl, Int.le_refl, u, h1, g0, g1]
      refine callM (objsR p (s.put i d.down)) _ _ hde (by rw [putR_objs]; rfl) (objsR_inn _ _ 9 (by omega)) rfl ?_
      generalize decideH (s.put i d.down) = t at *
      simp only [objsR, oR, go_sem, List.replicate_succ, Nat.reducePow, Nat.reduceLeDiff, ↓reduceIte, reduceCtorEq, Nat.reduceLT, Nat.reduceEqDiff, Nat.reduceAdd, Nat.reduceSub, Nat.reduceMul, Int.reduceToNat, Int.reduceLT, Int.reduceLE, Int.reduceEq, Int.reduceNe, Int.reduceNeg, Int.reduceToNat, Int.lt_irrefl, Int.le_refl]
      exact endR hBl hBi rfl rfl eB.symm
  · have e1 : evE s d ⟨tick, i, 4, ea, eb⟩ = backE d := rfl
    have e2 : evR s i d ⟨tick, i, 4, ea, eb⟩ = backH s i d := rfl
    rw [e2] at eB
    rw [e1]
    unfold backH at eB
    unfold backE
    cases u : d.up with
    | true =>
      rw [if_neg (by simp [u])] at eB
      rw [if_neg (by simp)]
      simp only [objE, objsR, oR, vdv, vev, go_sem, List.replicate_succ, Nat.reducePow, Nat.reduceLeDiff, ↓reduceIte, reduceCtorEq, Nat.reduceLT, Nat.reduceEqDiff, Nat.reduceAdd, Nat.reduceSub, Nat.reduceMul, Int.reduceToNat, Int.reduceLT, Int.reduceLE, Int.reduceEq, Int.reduceNe, Int.reduceNeg, Int.reduceToNat, Int.lt_irrefl, Int.le_refl, u]
      exact endR hBl hBi rfl rfl eB.symm
    | false =>
      rw [if_pos u, putR_objs] at eB
      rw [if_pos rfl]
      simp only [objE, objsR, oR, vdv, vev, go_sem, List.replicate_succ, Nat.reducePow, Nat.reduceLeDiff, ↓reduceIte, reduceCtorEq, Nat.reduceLT, Nat.reduceEqDiff, Nat.reduceAdd, Nat.reduceSub, Nat.reduceMul, Int.reduceToNat, Int.reduceLT, Int.reduceLE, Int.reduceEq, Int.reduceNe, Int.reduceNeg, Int.reduceToNat, Int.lt_irrefl, Int.le_refl, u, h1, g0, g1]
      exact endR hBl hBi rfl rfl eB.symm
  · have e1 : evE s d ⟨tick, i, 5, ea, eb⟩ = 0 := rfl
    have e2 : evR s i d ⟨tick, i, 5, ea, eb⟩ = resendH s := rfl
    rw [e2] at eB
    rw [e1]
    have hag := againR_s p s hn
    generalize resendH s = t at *
    simp only [objE, objsR, oR, vdv, vev, go_sem, List.replicate_succ, Nat.reducePow, Nat.reduceLeDiff, ↓reduceIte, reduceCtorEq, Nat.reduceLT, Nat.reduceEqDiff, Nat.reduceAdd, Nat.reduceSub, Nat.reduceMul, Int.reduceToNat, Int.reduceLT, Int.reduceLE, Int.reduceEq, Int.reduceNe, Int.reduceNeg, Int.reduceToNat, Int.lt_irrefl, Int.le_refl]
    refine callM (objsR p s) [G, .arr 1 5 32 [vev ⟨tick, i, 5, ea, eb⟩], .arr 1 8 78 [vdv d]] _ hag rfl (objsR_inn _ _ 9 (by omega)) rfl ?_
    simp only [objsR, oR, vdv, vev, go_sem, List.replicate_succ, Nat.reducePow, Nat.reduceLeDiff, ↓reduceIte, reduceCtorEq, Nat.reduceLT, Nat.reduceEqDiff, Nat.reduceAdd, Nat.reduceSub, Nat.reduceMul, Int.reduceToNat, Int.reduceLT, Int.reduceLE, Int.reduceEq, Int.reduceNe, Int.reduceNeg, Int.reduceToNat, Int.lt_irrefl, Int.le_refl]
    exact endR hBl hBi rfl rfl eB.symm
  · have e1 : evE s d ⟨tick, i, 6, ea, eb⟩ = ansE d := rfl
    have e2 : evR s i d ⟨tick, i, 6, ea, eb⟩ = ansH s d ⟨tick, i, 6, ea, eb⟩ := rfl
    rw [e2] at eB
    rw [e1]
    unfold ansH at eB
    unfold ansE
    have q1 : (s.ans.length + 1) * 24 ≤ 140737488355328 := by omega
    cases u : d.up with
    | false =>
      rw [if_pos u] at eB
      rw [if_pos rfl]
      simp only [objE, objsR, oR, vdv, vev, go_sem, List.replicate_succ, Nat.reducePow, Nat.reduceLeDiff, ↓reduceIte, reduceCtorEq, Nat.reduceLT, Nat.reduceEqDiff, Nat.reduceAdd, Nat.reduceSub, Nat.reduceMul, Int.reduceToNat, Int.reduceLT, Int.reduceLE, Int.reduceEq, Int.reduceNe, Int.reduceNeg, Int.reduceToNat, Int.lt_irrefl, Int.le_refl, u]
      exact endR hBl hBi rfl rfl eB.symm
    | true =>
    rw [if_neg (by simp [u])] at eB
    rw [if_neg (by simp)]
    cases l : d.live with
    | false =>
      rw [if_pos l] at eB
      rw [if_pos rfl]
      simp only [objE, objsR, oR, vdv, vev, go_sem, List.replicate_succ, Nat.reducePow, Nat.reduceLeDiff, ↓reduceIte, reduceCtorEq, Nat.reduceLT, Nat.reduceEqDiff, Nat.reduceAdd, Nat.reduceSub, Nat.reduceMul, Int.reduceToNat, Int.reduceLT, Int.reduceLE, Int.reduceEq, Int.reduceNe, Int.reduceNeg, Int.reduceToNat, Int.lt_irrefl, Int.le_refl, u, l]
      exact endR hBl hBi rfl rfl eB.symm
    | true =>
    rw [if_neg (by simp [l])] at eB
    rw [if_neg (by simp)]
    simp only [objE, objsR, oR, vdv, vev, go_sem, List.replicate_succ, Nat.reducePow, Nat.reduceLeDiff, ↓reduceIte, reduceCtorEq, Nat.reduceLT, Nat.reduceEqDiff, Nat.reduceAdd, Nat.reduceSub, Nat.reduceMul, Int.reduceToNat, Int.reduceLT, Int.reduceLE, Int.reduceEq, Int.reduceNe, Int.reduceNeg, Int.reduceToNat, Int.lt_irrefl, Int.le_refl, u, l, q1]
    exact endR hBl hBi rfl rfl (by rw [eB]; simp only [objsR, oR, List.length_append, List.length_cons, List.length_nil, List.map_append, List.map_cons, List.map_nil, Nat.zero_add]; rfl)
end Go.Proofs.Ytjpknjicfoiheaa
