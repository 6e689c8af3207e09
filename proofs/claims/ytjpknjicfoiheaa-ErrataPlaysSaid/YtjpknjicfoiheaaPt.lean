/- The hall of the reference: what comes. -/
import Derived.Test.YtjpknjicfoiheaaPs
set_option linter.unusedSimpArgs false
set_option linter.unusedVariables false
set_option linter.unusedSectionVars false
namespace Go.Proofs.Ytjpknjicfoiheaa
open Go.RowKit Dak
theorem wt_same {s : Hs} (w : Wt s) : decideH s = s := by
  unfold decideH
  split
  · rfl
  · rename_i h
    by_cases z : s.now = 0
    · exact absurd (.inl z) h
    · exact absurd (.inr (w z)) h
theorem set_vdv {s : Hs} {i : Nat} {d : Dv} (h : s.devs[i]? = some d) : (s.devs.map vdv).set i (vdv d) = s.devs.map vdv := set_same (gdv h)
def shw (s : Hs) (d : Dv) : Bool := d.live && decide (d.mom = (s.dec.length : Int))
def com1 (s : Hs) (k : Int) (b : Bool) (d : Dv) : Dv := if k = 0 ∧ s.now ≠ 0 ∧ b = true then d.prep else d
def com2 (s : Hs) (k : Int) (b : Bool) (d : Dv) : Dv := if k = 1 ∧ s.now ≠ 0 ∧ b = true ∧ d.holds = true then d.tell else d
def com3 (s : Hs) (k : Int) (d : Dv) : Dv := if k = 2 then d.show s else d
def com4 (s : Hs) (i : Nat) (k : Int) (d : Dv) : Hs := if k = 1 ∧ d.done = true then decideH (s.put i d) else s.put i d
def comesH (s : Hs) (i : Nat) (d : Dv) (k : Int) : Hs := if d.up = false then s else com4 s i k (com3 s k (com2 s k (shw s d) (com1 s k (shw s d) d)))
abbrev envC (i : Nat) (k : Int) : List (Nat × AV) := [(0, .ref 5 1 0 0), (1, vi i), (2, vi k), (6, .ref 10 1 0 0)]
abbrev objC (p : Pre) (s : Hs) (G : AObj) (d : Dv) : List AObj := objsR p s ++ [G, .arr 1 8 78 [vdv d]]
set_option maxHeartbeats 4000000 in
set_option maxRecDepth 100000 in
theorem ComesR_s (p : Pre) (s : Hs) (i : Nat) (d : Dv) (h : s.devs[i]? = some d) (hn : s.devs.length ≤ 1000) (hd : s.dec.length ≤ 100000) (k : Int) :
    CtrM Try.prog 61 [.ref 5 1 0 0, vi i, vi k] (objsR p s) (.tup []) (objsR p (comesH s i d k)) := by
  refine specR (comesH s i d k) f61 (by simp) (fun _ _ => rfl) fun F0 w0 G B eB hBl hBi hG => ?_
  have h1 := gdv h
  have hil : i < s.devs.length := (List.getElem?_eq_some_iff.1 h).1
  have g0 : (0 : Int) ≤ (i : Int) := by omega
  have g1 : (i : Int) < (s.devs.length : Int) := by omega
  unfold c61
  refine CwpE.cut (st := ⟨envC i k, objC p s G d⟩) ?_ ?_
  · simp only [objC, objsR, oR, vdv, go_sem, List.replicate_succ, Nat.reducePow, Nat.reduceLeDiff, ↓reduceIte, reduceCtorEq, Nat.reduceLT, Nat.reduceEqDiff, Nat.reduceAdd, Nat.reduceSub, Nat.reduceMul, Int.reduceToNat, Int.reduceLT, Int.reduceLE, Int.reduceEq, Int.reduceNe, Int.reduceNeg, Int.reduceToNat, Int.lt_irrefl, Int.le_refl, g0, g1, h1]
    exact ⟨_, WkE.keep (by simp only [go_sem, List.replicate_succ, Nat.reducePow, Nat.reduceLeDiff, ↓reduceIte, reduceCtorEq, Nat.reduceLT, Nat.reduceEqDiff, Nat.reduceAdd, Nat.reduceSub, Nat.reduceMul, Int.reduceToNat]), rfl⟩
  by_cases u : d.up = false
  · have e : comesH s i d k = s := if_pos u
    rw [e] at eB
    refine CwpE.vc ?_
    simp only [objC, objsR, oR, vdv, go_sem, List.replicate_succ, Nat.reducePow, Nat.reduceLeDiff, ↓reduceIte, reduceCtorEq, Nat.reduceLT, Nat.reduceEqDiff, Nat.reduceAdd, Nat.reduceSub, Nat.reduceMul, Int.reduceToNat, Int.reduceLT, Int.reduceLE, Int.reduceEq, Int.reduceNe, Int.reduceNeg, Int.reduceToNat, Int.lt_irrefl, Int.le_refl, u]
    exact endR hBl hBi rfl rfl eB.symm
  have e : comesH s i d k = com4 s i k (com3 s k (com2 s k (shw s d) (com1 s k (shw s d) d))) := if_neg u
  rw [Bool.not_eq_false] at u
  rw [e] at eB
  clear e
  refine CwpE.cut (st := ⟨envC i k, objC p s G d⟩) ?_ ?_
  · simp only [objC, objsR, oR, vdv, go_sem, List.replicate_succ, Nat.reducePow, Nat.reduceLeDiff, ↓reduceIte, reduceCtorEq, Nat.reduceLT, Nat.reduceEqDiff, Nat.reduceAdd, Nat.reduceSub, Nat.reduceMul, Int.reduceToNat, Int.reduceLT, Int.reduceLE, Int.reduceEq, Int.reduceNe, Int.reduceNeg, Int.reduceToNat, Int.lt_irrefl, Int.le_refl, u]
    exact ⟨_, WkE.keep (by simp only [go_sem, List.replicate_succ, Nat.reducePow, Nat.reduceLeDiff, ↓reduceIte, reduceCtorEq, Nat.reduceLT, Nat.reduceEqDiff, Nat.reduceAdd, Nat.reduceSub, Nat.reduceMul, Int.reduceToNat]), rfl⟩
  obtain ⟨b, hb⟩ : ∃ b, shw s d = b := ⟨_, rfl⟩
  refine CwpE.cut (st := ⟨(7, vb b) :: envC i k, objC p s G d⟩) ?_ ?_
  · cases l : d.live with
    | false =>
      have e : b = false := by rw [← hb]; unfold shw; rw [l]; rfl
      subst e
      simp only [objC, objsR, oR, vdv, go_sem, List.replicate_succ, Nat.reducePow, Nat.reduceLeDiff, ↓reduceIte, reduceCtorEq, Nat.reduceLT, Nat.reduceEqDiff, Nat.reduceAdd, Nat.reduceSub, Nat.reduceMul, Int.reduceToNat, Int.reduceLT, Int.reduceLE, Int.reduceEq, Int.reduceNe, Int.reduceNeg, Int.reduceToNat, Int.lt_irrefl, Int.le_refl, l]
      exact ⟨_, WkE.keep (by simp only [go_sem, List.replicate_succ, Nat.reducePow, Nat.reduceLeDiff, ↓reduceIte, reduceCtorEq, Nat.reduceLT, Nat.reduceEqDiff, Nat.reduceAdd, Nat.reduceSub, Nat.reduceMul, Int.reduceToNat]), rfl⟩
    | true =>
      have e : decide (d.mom = (s.dec.length : Int)) = b := by rw [← hb]; unfold shw; rw [l]; rfl
      simp only [objC, objsR, oR, vdv, go_sem, List.replicate_succ, Nat.reducePow, Nat.reduceLeDiff, ↓reduceIte, reduceCtorEq, Nat.reduceLT, Nat.reduceEqDiff, Nat.reduceAdd, Nat.reduceSub, Nat.reduceMul, Int.reduceToNat, Int.reduceLT, Int.reduceLE, Int.reduceEq, Int.reduceNe, Int.reduceNeg, Int.reduceToNat, Int.lt_irrefl, Int.le_refl, l, e]
      exact ⟨_, WkE.keep (by simp only [go_sem, List.replicate_succ, Nat.reducePow, Nat.reduceLeDiff, ↓reduceIte, reduceCtorEq, Nat.reduceLT, Nat.reduceEqDiff, Nat.reduceAdd, Nat.reduceSub, Nat.reduceMul, Int.reduceToNat]), rfl⟩
  rw [hb] at eB
  clear hb u h1 h g0 g1
  obtain ⟨d1, hd1⟩ : ∃ d1, com1 s k b d = d1 := ⟨_, rfl⟩
  rw [hd1] at eB
  refine CwpE.cut (st := ⟨(7, vb b) :: envC i k, objC p s G d1⟩) ?_ ?_
  · unfold com1 at hd1
    by_cases k0 : k = 0
    rotate_left
    · rw [if_neg (fun c => k0 c.1)] at hd1
      subst hd1
      simp only [objC, objsR, oR, vdv, go_sem, List.replicate_succ, Nat.reducePow, Nat.reduceLeDiff, ↓reduceIte, reduceCtorEq, Nat.reduceLT, Nat.reduceEqDiff, Nat.reduceAdd, Nat.reduceSub, Nat.reduceMul, Int.reduceToNat, Int.reduceLT, Int.reduceLE, Int.reduceEq, Int.reduceNe, Int.reduceNeg, Int.reduceToNat, Int.lt_irrefl, Int.le_refl, k0]
      exact ⟨_, WkE.keep (by simp only [go_sem, List.replicate_succ, Nat.reducePow, Nat.reduceLeDiff, ↓reduceIte, reduceCtorEq, Nat.reduceLT, Nat.reduceEqDiff, Nat.reduceAdd, Nat.reduceSub, Nat.reduceMul, Int.reduceToNat]), rfl⟩
    by_cases z : s.now = 0
    · rw [if_neg (fun c => c.2.1 z)] at hd1
      subst hd1
      have zt := eq_true z
      simp only [objC, objsR, oR, vdv, go_sem, List.replicate_succ, Nat.reducePow, Nat.reduceLeDiff, ↓reduceIte, reduceCtorEq, Nat.reduceLT, Nat.reduceEqDiff, Nat.reduceAdd, Nat.reduceSub, Nat.reduceMul, Int.reduceToNat, Int.reduceLT, Int.reduceLE, Int.reduceEq, Int.reduceNe, Int.reduceNeg, Int.reduceToNat, Int.lt_irrefl, Int.le_refl, k0, zt]
      exact ⟨_, WkE.keep (by simp only [go_sem, List.replicate_succ, Nat.reducePow, Nat.reduceLeDiff, ↓reduceIte, reduceCtorEq, Nat.reduceLT, Nat.reduceEqDiff, Nat.reduceAdd, Nat.reduceSub, Nat.reduceMul, Int.reduceToNat]), rfl⟩
    cases b
    · rw [if_neg (by simp)] at hd1
      subst hd1
      simp only [objC, objsR, oR, vdv, go_sem, List.replicate_succ, Nat.reducePow, Nat.reduceLeDiff, ↓reduceIte, reduceCtorEq, Nat.reduceLT, Nat.reduceEqDiff, Nat.reduceAdd, Nat.reduceSub, Nat.reduceMul, Int.reduceToNat, Int.reduceLT, Int.reduceLE, Int.reduceEq, Int.reduceNe, Int.reduceNeg, Int.reduceToNat, Int.lt_irrefl, Int.le_refl, k0, z]
      exact ⟨_, WkE.keep (by simp only [go_sem, List.replicate_succ, Nat.reducePow, Nat.reduceLeDiff, ↓reduceIte, reduceCtorEq, Nat.reduceLT, Nat.reduceEqDiff, Nat.reduceAdd, Nat.reduceSub, Nat.reduceMul, Int.reduceToNat]), rfl⟩
    · rw [if_pos ⟨k0, z, rfl⟩] at hd1
      subst hd1
      simp only [objC, objsR, oR, Dv.prep, vdv, go_sem, List.replicate_succ, Nat.reducePow, Nat.reduceLeDiff, ↓reduceIte, reduceCtorEq, Nat.reduceLT, Nat.reduceEqDiff, Nat.reduceAdd, Nat.reduceSub, Nat.reduceMul, Int.reduceToNat, Int.reduceLT, Int.reduceLE, Int.reduceEq, Int.reduceNe, Int.reduceNeg, Int.reduceToNat, Int.lt_irrefl, Int.le_refl, k0, z]
      exact ⟨_, WkE.keep (by simp only [go_sem, List.replicate_succ, Nat.reducePow, Nat.reduceLeDiff, ↓reduceIte, reduceCtorEq, Nat.reduceLT, Nat.reduceEqDiff, Nat.reduceAdd, Nat.reduceSub, Nat.reduceMul, Int.reduceToNat]), rfl⟩
  clear hd1 d
  obtain ⟨d2, hd2⟩ : ∃ d2, com2 s k b d1 = d2 := ⟨_, rfl⟩
  rw [hd2] at eB
  refine CwpE.cut (st := ⟨envC i k, objC p s G d2⟩) ?_ ?_
  · unfold com2 at hd2
    by_cases k0 : k = 1
    rotate_left
    · rw [if_neg (fun c => k0 c.1)] at hd2
      subst hd2
      simp only [objC, objsR, oR, vdv, go_sem, List.replicate_succ, Nat.reducePow, Nat.reduceLeDiff, ↓reduceIte, reduceCtorEq, Nat.reduceLT, Nat.reduceEqDiff, Nat.reduceAdd, Nat.reduceSub, Nat.reduceMul, Int.reduceToNat, Int.reduceLT, Int.reduceLE, Int.reduceEq, Int.reduceNe, Int.reduceNeg, Int.reduceToNat, Int.lt_irrefl, Int.le_refl, k0]
      exact ⟨_, WkE.keep (by simp only [go_sem, List.replicate_succ, Nat.reducePow, Nat.reduceLeDiff, ↓reduceIte, reduceCtorEq, Nat.reduceLT, Nat.reduceEqDiff, Nat.reduceAdd, Nat.reduceSub, Nat.reduceMul, Int.reduceToNat]), rfl⟩
    by_cases z : s.now = 0
    · rw [if_neg (fun c => c.2.1 z)] at hd2
      subst hd2
      have zt := eq_true z
      simp only [objC, objsR, oR, vdv, go_sem, List.replicate_succ, Nat.reducePow, Nat.reduceLeDiff, ↓reduceIte, reduceCtorEq, Nat.reduceLT, Nat.reduceEqDiff, Nat.reduceAdd, Nat.reduceSub, Nat.reduceMul, Int.reduceToNat, Int.reduceLT, Int.reduceLE, Int.reduceEq, Int.reduceNe, Int.reduceNeg, Int.reduceToNat, Int.lt_irrefl, Int.le_refl, k0, zt]
      exact ⟨_, WkE.keep (by simp only [go_sem, List.replicate_succ, Nat.reducePow, Nat.reduceLeDiff, ↓reduceIte, reduceCtorEq, Nat.reduceLT, Nat.reduceEqDiff, Nat.reduceAdd, Nat.reduceSub, Nat.reduceMul, Int.reduceToNat]), rfl⟩
    cases b
    · rw [if_neg (by simp)] at hd2
      subst hd2
      simp only [objC, objsR, oR, vdv, go_sem, List.replicate_succ, Nat.reducePow, Nat.reduceLeDiff, ↓reduceIte, reduceCtorEq, Nat.reduceLT, Nat.reduceEqDiff, Nat.reduceAdd, Nat.reduceSub, Nat.reduceMul, Int.reduceToNat, Int.reduceLT, Int.reduceLE, Int.reduceEq, Int.reduceNe, Int.reduceNeg, Int.reduceToNat, Int.lt_irrefl, Int.le_refl, k0, z]
      exact ⟨_, WkE.keep (by simp only [go_sem, List.replicate_succ, Nat.reducePow, Nat.reduceLeDiff, ↓reduceIte, reduceCtorEq, Nat.reduceLT, Nat.reduceEqDiff, Nat.reduceAdd, Nat.reduceSub, Nat.reduceMul, Int.reduceToNat]), rfl⟩
    cases o : d1.holds with
    | false =>
      rw [if_neg (by simp [o])] at hd2
      subst hd2
      simp only [objC, objsR, oR, vdv, go_sem, List.replicate_succ, Nat.reducePow, Nat.reduceLeDiff, ↓reduceIte, reduceCtorEq, Nat.reduceLT, Nat.reduceEqDiff, Nat.reduceAdd, Nat.reduceSub, Nat.reduceMul, Int.reduceToNat, Int.reduceLT, Int.reduceLE, Int.reduceEq, Int.reduceNe, Int.reduceNeg, Int.reduceToNat, Int.lt_irrefl, Int.le_refl, k0, z, o]
      exact ⟨_, WkE.keep (by simp only [go_sem, List.replicate_succ, Nat.reducePow, Nat.reduceLeDiff, ↓reduceIte, reduceCtorEq, Nat.reduceLT, Nat.reduceEqDiff, Nat.reduceAdd, Nat.reduceSub, Nat.reduceMul, Int.reduceToNat]), rfl⟩
    | true =>
      rw [if_pos ⟨k0, z, rfl, o⟩] at hd2
      subst hd2
      simp only [objC, objsR, oR, Dv.tell, vdv, go_sem, List.replicate_succ, Nat.reducePow, Nat.reduceLeDiff, ↓reduceIte, reduceCtorEq, Nat.reduceLT, Nat.reduceEqDiff, Nat.reduceAdd, Nat.reduceSub, Nat.reduceMul, Int.reduceToNat, Int.reduceLT, Int.reduceLE, Int.reduceEq, Int.reduceNe, Int.reduceNeg, Int.reduceToNat, Int.lt_irrefl, Int.le_refl, k0, z, o]
      exact ⟨_, WkE.keep (by simp only [go_sem, List.replicate_succ, Nat.reducePow, Nat.reduceLeDiff, ↓reduceIte, reduceCtorEq, Nat.reduceLT, Nat.reduceEqDiff, Nat.reduceAdd, Nat.reduceSub, Nat.reduceMul, Int.reduceToNat]), rfl⟩
  clear hd2 d1 b
  obtain ⟨d3, hd3⟩ : ∃ d3, com3 s k d2 = d3 := ⟨_, rfl⟩
  rw [hd3] at eB
  refine CwpE.cut (st := ⟨envC i k, objC p s G d3⟩) ?_ ?_
  · unfold com3 at hd3
    by_cases k0 : k = 2
    rotate_left
    · rw [if_neg k0] at hd3
      subst hd3
      simp only [objC, objsR, oR, vdv, go_sem, List.replicate_succ, Nat.reducePow, Nat.reduceLeDiff, ↓reduceIte, reduceCtorEq, Nat.reduceLT, Nat.reduceEqDiff, Nat.reduceAdd, Nat.reduceSub, Nat.reduceMul, Int.reduceToNat, Int.reduceLT, Int.reduceLE, Int.reduceEq, Int.reduceNe, Int.reduceNeg, Int.reduceToNat, Int.lt_irrefl, Int.le_refl, k0]
      exact ⟨_, WkE.keep (by simp only [go_sem, List.replicate_succ, Nat.reducePow, Nat.reduceLeDiff, ↓reduceIte, reduceCtorEq, Nat.reduceLT, Nat.reduceEqDiff, Nat.reduceAdd, Nat.reduceSub, Nat.reduceMul, Int.reduceToNat]), rfl⟩
    rw [if_pos k0] at hd3
    subst hd3
    by_cases z : s.now = 0
    · have zt := eq_true z
      have e : decide (s.now ≠ 0) = false := by simp [z]
      simp only [objC, objsR, oR, Dv.show, e, Bool.or_false, vdv, go_sem, List.replicate_succ, Nat.reducePow, Nat.reduceLeDiff, ↓reduceIte, reduceCtorEq, Nat.reduceLT, Nat.reduceEqDiff, Nat.reduceAdd, Nat.reduceSub, Nat.reduceMul, Int.reduceToNat, Int.reduceLT, Int.reduceLE, Int.reduceEq, Int.reduceNe, Int.reduceNeg, Int.reduceToNat, Int.lt_irrefl, Int.le_refl, k0, zt]
      exact ⟨_, WkE.keep (by simp only [go_sem, List.replicate_succ, Nat.reducePow, Nat.reduceLeDiff, ↓reduceIte, reduceCtorEq, Nat.reduceLT, Nat.reduceEqDiff, Nat.reduceAdd, Nat.reduceSub, Nat.reduceMul, Int.reduceToNat]), rfl⟩
    · have e : decide (s.now ≠ 0) = true := by simp [z]
      simp only [objC, objsR, oR, Dv.show, e, Bool.or_true, vdv, go_sem, List.replicate_succ, Nat.reducePow, Nat.reduceLeDiff, ↓reduceIte, reduceCtorEq, Nat.reduceLT, Nat.reduceEqDiff, Nat.reduceAdd, Nat.reduceSub, Nat.reduceMul, Int.reduceToNat, Int.reduceLT, Int.reduceLE, Int.reduceEq, Int.reduceNe, Int.reduceNeg, Int.reduceToNat, Int.lt_irrefl, Int.le_refl, k0, z]
      exact ⟨_, WkE.keep (by simp only [go_sem, List.replicate_succ, Nat.reducePow, Nat.reduceLeDiff, ↓reduceIte, reduceCtorEq, Nat.reduceLT, Nat.reduceEqDiff, Nat.reduceAdd, Nat.reduceSub, Nat.reduceMul, Int.reduceToNat]), rfl⟩
  clear hd3 d2
  have g0 : (0 : Int) ≤ (i : Int) := by omega
  have g1 : (i : Int) < (s.devs.length : Int) := by omega
  have gl : i < (s.devs.map vdv).length := by rw [List.length_map]; exact hil
  have h1 : (s.devs.map vdv)[i]? = some (s.devs.map vdv)[i] := List.getElem?_eq_getElem gl
  have h1a : (s.devs.map vdv)[i]? = some (vdv s.devs[i]) := by rw [List.getElem?_map, List.getElem?_eq_getElem hil]; rfl
  refine CwpE.cut (st := ⟨[(0, .ref 5 1 0 0), (2, vi k), (6, .ref 10 1 0 0)], objC p (s.put i d3) G d3⟩) ?_ ?_
  · have e : ∀ X, objsR p (s.put i d3) ++ X = oR p s.devs.length s.dec.length s.ans.length ((s.devs.map vdv).set i (vdv d3)) s.now (s.dec.map vi) (s.ans.map vans) ++ X := fun X => by rw [putR_objs]
    unfold objC
    rw [e]
    simp only [objsR, oR, vdv, go_sem, List.replicate_succ, Nat.reducePow, Nat.reduceLeDiff, ↓reduceIte, reduceCtorEq, Nat.reduceLT, Nat.reduceEqDiff, Nat.reduceAdd, Nat.reduceSub, Nat.reduceMul, Int.reduceToNat, Int.reduceLT, Int.reduceLE, Int.reduceEq, Int.reduceNe, Int.reduceNeg, Int.reduceToNat, Int.lt_irrefl, Int.le_refl, g0, g1, h1a]
    exact ⟨_, WkE.keep (by simp only [go_sem, List.replicate_succ, Nat.reducePow, Nat.reduceLeDiff, ↓reduceIte, reduceCtorEq, Nat.reduceLT, Nat.reduceEqDiff, Nat.reduceAdd, Nat.reduceSub, Nat.reduceMul, Int.reduceToNat]), rfl⟩
  have hde := DecideR_s p (s.put i d3) (by simpa [Hs.put] using hn) hd
  refine CwpE.vc ?_
  unfold com4 at eB
  generalize s.put i d3 = t at *
  by_cases k0 : k = 1
  rotate_left
  · rw [if_neg (fun c => k0 c.1)] at eB
    simp only [objC, objsR, oR, vdv, go_sem, List.replicate_succ, Nat.reducePow, Nat.reduceLeDiff, ↓reduceIte, reduceCtorEq, Nat.reduceLT, Nat.reduceEqDiff, Nat.reduceAdd, Nat.reduceSub, Nat.reduceMul, Int.reduceToNat, Int.reduceLT, Int.reduceLE, Int.reduceEq, Int.reduceNe, Int.reduceNeg, Int.reduceToNat, Int.lt_irrefl, Int.le_refl, k0]
    exact endN hBl hBi rfl rfl eB.symm
  cases o : d3.done with
  | false =>
    rw [if_neg (by simp [o])] at eB
    simp only [objC, objsR, oR, vdv, go_sem, List.replicate_succ, Nat.reducePow, Nat.reduceLeDiff, ↓reduceIte, reduceCtorEq, Nat.reduceLT, Nat.reduceEqDiff, Nat.reduceAdd, Nat.reduceSub, Nat.reduceMul, Int.reduceToNat, Int.reduceLT, Int.reduceLE, Int.reduceEq, Int.reduceNe, Int.reduceNeg, Int.reduceToNat, Int.lt_irrefl, Int.le_refl, k0, o]
    exact endN hBl hBi rfl rfl eB.symm
  | true =>
    rw [if_pos ⟨k0, o⟩] at eB
    simp only [objC, objsR, oR, vdv, go_sem, List.replicate_succ, Nat.reducePow, Nat.reduceLeDiff, ↓reduceIte, reduceCtorEq, Nat.reduceLT, Nat.reduceEqDiff, Nat.reduceAdd, Nat.reduceSub, Nat.reduceMul, Int.reduceToNat, Int.reduceLT, Int.reduceLE, Int.reduceEq, Int.reduceNe, Int.reduceNeg, Int.reduceToNat, Int.lt_irrefl, Int.le_refl, k0, o]
    refine callM (objsR p t) _ _ hde rfl (objsR_inn _ _ 9 (by omega)) rfl ?_
    simp only [go_sem, List.replicate_succ, Nat.reducePow, Nat.reduceLeDiff, ↓reduceIte, reduceCtorEq, Nat.reduceLT, Nat.reduceEqDiff, Nat.reduceAdd, Nat.reduceSub, Nat.reduceMul, Int.reduceToNat, Int.reduceLT, Int.reduceLE, Int.reduceEq, Int.reduceNe, Int.reduceNeg, Int.reduceToNat, Int.lt_irrefl, Int.le_refl]
    exact endN hBl hBi rfl rfl eB.symm
end Go.Proofs.Ytjpknjicfoiheaa
