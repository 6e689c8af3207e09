/- What arrives; what is announced. -/
import Derived.Test.YtjpknjicfoiheaaPb
set_option linter.unusedSimpArgs false
set_option linter.unusedVariables false
set_option linter.unusedSectionVars false
namespace Go.Proofs.Ytjpknjicfoiheaa
open Go.RowKit Dak
def Dv.prep (d : Dv) : Dv := { d with holds := true, f1 := true }
def Dv.tell (d : Dv) : Dv := { d with done := true }
def Dv.show (d : Dv) (s : Hs) : Dv := { d with live := true, mom := s.dec.length, holds := false, done := false, f0 := d.f0 || decide (s.now ≠ 0) }
def arrivesH (s : Hs) (i : Nat) (d : Dv) (k : Int) : Hs :=
  if d.up = false then s else
  if k = 0 then if s.now ≠ 0 ∧ d.live = true ∧ ¬ d.mom < s.dec.length then s.put i d.prep else s else
  if k = 1 then if s.now ≠ 0 ∧ d.live = true ∧ d.holds = true ∧ ¬ d.mom < s.dec.length then decideH (s.put i d.tell) else s else
  s.put i (d.show s)
set_option maxRecDepth 100000 in
theorem arrives_s (s : Hs) (i : Nat) (d : Dv) (h : s.devs[i]? = some d) (hn : s.devs.length ≤ 1000) (hd : s.dec.length ≤ 100000) (k : Int) : CtrM Try.prog 53 [.ref 2 1 0 0, .ref 1 s.devs.length i 0, vi k] (objsH s) (.tup []) (objsH (arrivesH s i d k)) := by
  refine spec0 (arrivesH s i d k) f53 (by simp) (fun _ _ => rfl) fun F0 w0 G B eB hBl hBi hG => CwpE.vc ?_
  have h1 := gdv h
  have h2 := setv h1
  have hl := late_s s i d h
  have hde := decide_s (s.put i d.tell) (by simpa [Hs.put] using hn) hd
  have hput : ∀ d', objsH (s.put i d') = _ := put_objs s i
  -- nothing is changed, or a device
  have same : arrivesH s i d k = s → B = oH s.devs.length s.dec.length s.ans.length (s.devs.map vdv) s.now (s.dec.map vi) (s.ans.map vans) ++ [G] := fun e => by rw [eB, e]; rfl
  have one : ∀ d', arrivesH s i d k = s.put i d' → B = oH s.devs.length s.dec.length s.ans.length ((s.devs.map vdv).set i (vdv d')) s.now (s.dec.map vi) (s.ans.map vans) ++ [G] := fun d' e => by rw [eB, e, hput]
  have two : arrivesH s i d k = decideH (s.put i d.tell) → B = objsH (decideH (s.put i d.tell)) ++ [G] := fun e => by rw [eB, e]
  clear eB
  by_cases u : d.up = false
  · have eB := same (if_pos u)
    simp only [c53, objsH, oH, vdv, go_sem, List.replicate_succ, Nat.reducePow, Nat.reduceLeDiff, ↓reduceIte, reduceCtorEq, Nat.reduceLT, Nat.reduceEqDiff, Nat.reduceAdd, Nat.reduceSub, Nat.reduceMul, Int.reduceToNat, Int.reduceLT, Int.reduceLE, Int.reduceEq, Int.reduceNe, Int.reduceNeg, Int.reduceToNat, Int.lt_irrefl, Int.le_refl, h1, u]
    exact endR hBl hBi rfl rfl eB.symm
  rw [Bool.not_eq_false] at u
  have r0 : arrivesH s i d k = if k = 0 then if s.now ≠ 0 ∧ d.live = true ∧ ¬ d.mom < s.dec.length then s.put i d.prep else s else
      if k = 1 then if s.now ≠ 0 ∧ d.live = true ∧ d.holds = true ∧ ¬ d.mom < s.dec.length then decideH (s.put i d.tell) else s else s.put i (d.show s) := if_neg (by simp [u])
  by_cases k0 : k = 0
  · rw [if_pos k0] at r0
    by_cases z : s.now = 0
    · have eB := same (by rw [r0]; exact if_neg (by simp [z]))
      simp only [c53, objsH, oH, vdv, go_sem, List.replicate_succ, Nat.reducePow, Nat.reduceLeDiff, ↓reduceIte, reduceCtorEq, Nat.reduceLT, Nat.reduceEqDiff, Nat.reduceAdd, Nat.reduceSub, Nat.reduceMul, Int.reduceToNat, Int.reduceLT, Int.reduceLE, Int.reduceEq, Int.reduceNe, Int.reduceNeg, Int.reduceToNat, Int.lt_irrefl, Int.le_refl, h1, u, k0, z]
      exact endN hBl hBi rfl rfl (by rw [eB, z]; rfl)
    cases l : d.live with
    | false =>
      have eB := same (by rw [r0]; exact if_neg (by simp [l]))
      simp only [c53, objsH, oH, vdv, go_sem, List.replicate_succ, Nat.reducePow, Nat.reduceLeDiff, ↓reduceIte, reduceCtorEq, Nat.reduceLT, Nat.reduceEqDiff, Nat.reduceAdd, Nat.reduceSub, Nat.reduceMul, Int.reduceToNat, Int.reduceLT, Int.reduceLE, Int.reduceEq, Int.reduceNe, Int.reduceNeg, Int.reduceToNat, Int.lt_irrefl, Int.le_refl, h1, u, k0, z, l]
      exact endN hBl hBi rfl rfl eB.symm
    | true =>
      simp only [c53, objsH, oH, vdv, go_sem, List.replicate_succ, Nat.reducePow, Nat.reduceLeDiff, ↓reduceIte, reduceCtorEq, Nat.reduceLT, Nat.reduceEqDiff, Nat.reduceAdd, Nat.reduceSub, Nat.reduceMul, Int.reduceToNat, Int.reduceLT, Int.reduceLE, Int.reduceEq, Int.reduceNe, Int.reduceNeg, Int.reduceToNat, Int.lt_irrefl, Int.le_refl, h1, u, k0, z, l]
      refine callM (objsH s) [G] (objsH s) hl rfl (objsH_inn s 5 (by omega)) rfl ?_
      by_cases b : d.mom < s.dec.length
      · have eB := same (by rw [r0]; exact if_neg (by simp [b]))
        simp only [objsH, oH, go_sem, List.replicate_succ, Nat.reducePow, Nat.reduceLeDiff, ↓reduceIte, reduceCtorEq, Nat.reduceLT, Nat.reduceEqDiff, Nat.reduceAdd, Nat.reduceSub, Nat.reduceMul, Int.reduceToNat, Int.reduceLT, Int.reduceLE, Int.reduceEq, Int.reduceNe, Int.reduceNeg, Int.reduceToNat, Int.lt_irrefl, Int.le_refl, b]
        exact endN hBl hBi rfl rfl eB.symm
      · have eB := one _ (by rw [r0]; exact if_pos ⟨z, l, b⟩)
        simp only [objsH, oH, vdv, go_sem, List.replicate_succ, Nat.reducePow, Nat.reduceLeDiff, ↓reduceIte, reduceCtorEq, Nat.reduceLT, Nat.reduceEqDiff, Nat.reduceAdd, Nat.reduceSub, Nat.reduceMul, Int.reduceToNat, Int.reduceLT, Int.reduceLE, Int.reduceEq, Int.reduceNe, Int.reduceNeg, Int.reduceToNat, Int.lt_irrefl, Int.le_refl, b, h1, h2, List.set_set]
        exact endN hBl hBi rfl rfl (by rw [eB]; simp only [Dv.prep, vdv, u, l]; rfl)
  rw [if_neg k0] at r0
  by_cases k1 : k = 1
  · rw [if_pos k1] at r0
    have k10 : ((1 : Int) = 0) = False := eq_false (by omega)
    by_cases z : s.now = 0
    · have eB := same (by rw [r0]; exact if_neg (by simp [z]))
      simp only [c53, objsH, oH, vdv, go_sem, List.replicate_succ, Nat.reducePow, Nat.reduceLeDiff, ↓reduceIte, reduceCtorEq, Nat.reduceLT, Nat.reduceEqDiff, Nat.reduceAdd, Nat.reduceSub, Nat.reduceMul, Int.reduceToNat, Int.reduceLT, Int.reduceLE, Int.reduceEq, Int.reduceNe, Int.reduceNeg, Int.reduceToNat, Int.lt_irrefl, Int.le_refl, h1, u, k1, k10, z]
      exact endN hBl hBi rfl rfl (by rw [eB, z]; rfl)
    cases l : d.live with
    | false =>
      have eB := same (by rw [r0]; exact if_neg (by simp [l]))
      simp only [c53, objsH, oH, vdv, go_sem, List.replicate_succ, Nat.reducePow, Nat.reduceLeDiff, ↓reduceIte, reduceCtorEq, Nat.reduceLT, Nat.reduceEqDiff, Nat.reduceAdd, Nat.reduceSub, Nat.reduceMul, Int.reduceToNat, Int.reduceLT, Int.reduceLE, Int.reduceEq, Int.reduceNe, Int.reduceNeg, Int.reduceToNat, Int.lt_irrefl, Int.le_refl, h1, u, k1, k10, z, l]
      exact endN hBl hBi rfl rfl eB.symm
    | true =>
      cases o : d.holds with
      | false =>
        have eB := same (by rw [r0]; exact if_neg (by simp [o]))
        simp only [c53, objsH, oH, vdv, go_sem, List.replicate_succ, Nat.reducePow, Nat.reduceLeDiff, ↓reduceIte, reduceCtorEq, Nat.reduceLT, Nat.reduceEqDiff, Nat.reduceAdd, Nat.reduceSub, Nat.reduceMul, Int.reduceToNat, Int.reduceLT, Int.reduceLE, Int.reduceEq, Int.reduceNe, Int.reduceNeg, Int.reduceToNat, Int.lt_irrefl, Int.le_refl, h1, u, k1, k10, z, l, o]
        exact endN hBl hBi rfl rfl eB.symm
      | true =>
        simp only [c53, objsH, oH, vdv, go_sem, List.replicate_succ, Nat.reducePow, Nat.reduceLeDiff, ↓reduceIte, reduceCtorEq, Nat.reduceLT, Nat.reduceEqDiff, Nat.reduceAdd, Nat.reduceSub, Nat.reduceMul, Int.reduceToNat, Int.reduceLT, Int.reduceLE, Int.reduceEq, Int.reduceNe, Int.reduceNeg, Int.reduceToNat, Int.lt_irrefl, Int.le_refl, h1, u, k1, k10, z, l, o]
        refine callM (objsH s) [G] (objsH s) hl rfl (objsH_inn s 5 (by omega)) rfl ?_
        by_cases b : d.mom < s.dec.length
        · have eB := same (by rw [r0]; exact if_neg (by simp [b]))
          simp only [objsH, oH, go_sem, List.replicate_succ, Nat.reducePow, Nat.reduceLeDiff, ↓reduceIte, reduceCtorEq, Nat.reduceLT, Nat.reduceEqDiff, Nat.reduceAdd, Nat.reduceSub, Nat.reduceMul, Int.reduceToNat, Int.reduceLT, Int.reduceLE, Int.reduceEq, Int.reduceNe, Int.reduceNeg, Int.reduceToNat, Int.lt_irrefl, Int.le_refl, b]
          exact endN hBl hBi rfl rfl eB.symm
        · have eB := two (by rw [r0]; exact if_pos ⟨z, l, o, b⟩)
          simp only [objsH, oH, vdv, go_sem, List.replicate_succ, Nat.reducePow, Nat.reduceLeDiff, ↓reduceIte, reduceCtorEq, Nat.reduceLT, Nat.reduceEqDiff, Nat.reduceAdd, Nat.reduceSub, Nat.reduceMul, Int.reduceToNat, Int.reduceLT, Int.reduceLE, Int.reduceEq, Int.reduceNe, Int.reduceNeg, Int.reduceToNat, Int.lt_irrefl, Int.le_refl, b, h1, h2, List.set_set]
          refine callM (objsH (s.put i d.tell)) [G] _ hde (by rw [hput]; simp only [Dv.tell, vdv, u, l, o]; rfl) (objsH_inn _ 5 (by omega)) rfl ?_
          simp only [go_sem, List.replicate_succ, Nat.reducePow, Nat.reduceLeDiff, ↓reduceIte, reduceCtorEq, Nat.reduceLT, Nat.reduceEqDiff, Nat.reduceAdd, Nat.reduceSub, Nat.reduceMul, Int.reduceToNat, Int.reduceLT, Int.reduceLE, Int.reduceEq, Int.reduceNe, Int.reduceNeg, Int.reduceToNat, Int.lt_irrefl, Int.le_refl]
          exact endN hBl hBi rfl rfl (by rw [eB]; rfl)
  rw [if_neg k1] at r0
  have eB := one _ r0
  by_cases z : s.now = 0
  · simp only [c53, objsH, oH, vdv, go_sem, List.replicate_succ, Nat.reducePow, Nat.reduceLeDiff, ↓reduceIte, reduceCtorEq, Nat.reduceLT, Nat.reduceEqDiff, Nat.reduceAdd, Nat.reduceSub, Nat.reduceMul, Int.reduceToNat, Int.reduceLT, Int.reduceLE, Int.reduceEq, Int.reduceNe, Int.reduceNeg, Int.reduceToNat, Int.lt_irrefl, Int.le_refl, h1, h2, u, k0, k1, z, List.set_set]
    exact endN hBl hBi rfl rfl (by rw [eB]; simp only [Dv.show, vdv, u, z]; simp)
  · simp only [c53, objsH, oH, vdv, go_sem, List.replicate_succ, Nat.reducePow, Nat.reduceLeDiff, ↓reduceIte, reduceCtorEq, Nat.reduceLT, Nat.reduceEqDiff, Nat.reduceAdd, Nat.reduceSub, Nat.reduceMul, Int.reduceToNat, Int.reduceLT, Int.reduceLE, Int.reduceEq, Int.reduceNe, Int.reduceNeg, Int.reduceToNat, Int.lt_irrefl, Int.le_refl, h1, h2, u, k0, k1, z, List.set_set]
    exact endN hBl hBi rfl rfl (by rw [eB]; simp only [Dv.show, vdv, u]; simp [z])
end Go.Proofs.Ytjpknjicfoiheaa
