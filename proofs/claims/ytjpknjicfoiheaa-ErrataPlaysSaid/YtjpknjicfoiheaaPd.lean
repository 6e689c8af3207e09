/- Announce, and what an event does. -/
import Derived.Test.YtjpknjicfoiheaaPc
set_option linter.unusedSimpArgs false
set_option linter.unusedVariables false
set_option linter.unusedSectionVars false
namespace Go.Proofs.Ytjpknjicfoiheaa
open Go.RowKit Dak
def announceE (s : Hs) (n : Int) : Int := if n < 1 ∨ 1000 < n then 1 else if n = s.now ∨ n ∈ s.dec then 7 else if s.now ≠ 0 then 8 else 0
def beginH (s : Hs) (n : Int) : Hs := { s with now := n, devs := s.devs.map (stepD (fun d => !decide (d.mom < s.dec.length)) Dv.ann) }
def announceH (s : Hs) (n : Int) : Hs := if announceE s n ≠ 0 then s else decideH (beginH s n)
set_option maxRecDepth 100000 in
theorem Announce_s (s : Hs) (n : Int) (hn : s.devs.length ≤ 1000) (hd : s.dec.length ≤ 100000) : CtrM Try.prog 19 [.ref 2 1 0 0, vi n] (objsH s) (vi (announceE s n)) (objsH (announceH s n)) := by
  refine spec0 (announceH s n) f19 (by simp) (fun _ _ => rfl) fun F0 w0 G B eB hBl hBi hG => CwpE.vc ?_
  have same : announceE s n ≠ 0 → B = objsH s ++ [G] := fun e => by rw [eB]; unfold announceH; rw [if_pos e]
  have two : announceE s n = 0 → B = objsH (decideH (beginH s n)) ++ [G] := fun e => by rw [eB]; unfold announceH; rw [if_neg (by simp [e])]
  clear eB
  by_cases a : n < 1
  · have e : announceE s n = 1 := if_pos (.inl a)
    have eB := same (by rw [e]; decide)
    simp only [c19, objsH, oH, go_sem, List.replicate_succ, Nat.reducePow, Nat.reduceLeDiff, ↓reduceIte, reduceCtorEq, Nat.reduceLT, Nat.reduceEqDiff, Nat.reduceAdd, Nat.reduceSub, Nat.reduceMul, Int.reduceToNat, Int.reduceLT, Int.reduceLE, Int.reduceEq, Int.reduceNe, Int.reduceNeg, Int.reduceToNat, Int.lt_irrefl, Int.le_refl, a, e]
    exact endR hBl hBi rfl rfl eB.symm
  by_cases b : 1000 < n
  · have e : announceE s n = 1 := if_pos (.inr b)
    have eB := same (by rw [e]; decide)
    simp only [c19, objsH, oH, go_sem, List.replicate_succ, Nat.reducePow, Nat.reduceLeDiff, ↓reduceIte, reduceCtorEq, Nat.reduceLT, Nat.reduceEqDiff, Nat.reduceAdd, Nat.reduceSub, Nat.reduceMul, Int.reduceToNat, Int.reduceLT, Int.reduceLE, Int.reduceEq, Int.reduceNe, Int.reduceNeg, Int.reduceToNat, Int.lt_irrefl, Int.le_refl, a, b, e]
    exact endR hBl hBi rfl rfl eB.symm
  have r : announceE s n = if n = s.now ∨ n ∈ s.dec then 7 else if s.now ≠ 0 then 8 else 0 := if_neg (by omega)
  by_cases c : n = s.now
  · have e : announceE s n = 7 := by rw [r]; exact if_pos (.inl c)
    have eB := same (by rw [e]; decide)
    subst c
    simp only [c19, objsH, oH, go_sem, List.replicate_succ, Nat.reducePow, Nat.reduceLeDiff, ↓reduceIte, reduceCtorEq, Nat.reduceLT, Nat.reduceEqDiff, Nat.reduceAdd, Nat.reduceSub, Nat.reduceMul, Int.reduceToNat, Int.reduceLT, Int.reduceLE, Int.reduceEq, Int.reduceNe, Int.reduceNeg, Int.reduceToNat, Int.lt_irrefl, Int.le_refl, a, b, e]
    exact endR hBl hBi rfl rfl eB.symm
  simp only [c19, objsH, oH, go_sem, List.replicate_succ, Nat.reducePow, Nat.reduceLeDiff, ↓reduceIte, reduceCtorEq, Nat.reduceLT, Nat.reduceEqDiff, Nat.reduceAdd, Nat.reduceSub, Nat.reduceMul, Int.reduceToNat, Int.reduceLT, Int.reduceLE, Int.reduceEq, Int.reduceNe, Int.reduceNeg, Int.reduceToNat, Int.lt_irrefl, Int.le_refl, a, b, c]
  refine callF (Contains_s s.dec n (by omega)) (.cons (.own 3 s.dec.length 0 s.dec.length 1 3 (s.dec.map vi) (s.dec.map vi) rfl (by simp) (by simp) fun i h => by simp only [Nat.zero_add]; exact .tree _ (by simp; rfl)) (.cons (.tree _ rfl) .nil)) rfl ?_
  by_cases m : n ∈ s.dec
  · have e : announceE s n = 7 := by rw [r]; exact if_pos (.inr m)
    have eB := same (by rw [e]; decide)
    simp only [objsH, oH, go_sem, List.replicate_succ, Nat.reducePow, Nat.reduceLeDiff, ↓reduceIte, reduceCtorEq, Nat.reduceLT, Nat.reduceEqDiff, Nat.reduceAdd, Nat.reduceSub, Nat.reduceMul, Int.reduceToNat, Int.reduceLT, Int.reduceLE, Int.reduceEq, Int.reduceNe, Int.reduceNeg, Int.reduceToNat, Int.lt_irrefl, Int.le_refl, m, e]
    exact endR hBl hBi rfl rfl eB.symm
  by_cases z : s.now = 0
  rotate_left
  · have e : announceE s n = 8 := by rw [r, if_neg (by simp [c, m]), if_pos z]
    have eB := same (by rw [e]; decide)
    simp only [objsH, oH, go_sem, List.replicate_succ, Nat.reducePow, Nat.reduceLeDiff, ↓reduceIte, reduceCtorEq, Nat.reduceLT, Nat.reduceEqDiff, Nat.reduceAdd, Nat.reduceSub, Nat.reduceMul, Int.reduceToNat, Int.reduceLT, Int.reduceLE, Int.reduceEq, Int.reduceNe, Int.reduceNeg, Int.reduceToNat, Int.lt_irrefl, Int.le_refl, m, e, z]
    exact endR hBl hBi rfl rfl eB.symm
  have e : announceE s n = 0 := by rw [r, if_neg (by simp [c, m]), if_neg (by simp [z])]
  have eB := two e
  simp only [objsH, oH, go_sem, List.replicate_succ, Nat.reducePow, Nat.reduceLeDiff, ↓reduceIte, reduceCtorEq, Nat.reduceLT, Nat.reduceEqDiff, Nat.reduceAdd, Nat.reduceSub, Nat.reduceMul, Int.reduceToNat, Int.reduceLT, Int.reduceLE, Int.reduceEq, Int.reduceNe, Int.reduceNeg, Int.reduceToNat, Int.lt_irrefl, Int.le_refl, m, e, z]
  have hG6 : ∀ m, 6 ≤ m → G.innO m = true := fun m hm => hG m (by omega)
  have he := each_s { s with now := n } (capH G) (capH_inn hG6) hn 41 43 [.ref 6 1 0 0] [] (fun d => !decide (d.mom < s.dec.length)) Dv.ann rfl rfl (fun ds i d h => announce1_s _ G hG6 i d h) (fun ds i d h => announce2_s _ (capH G) (capH_inn hG6) i d h)
  refine callM (objsH { s with now := n } ++ capH G) [] _ he rfl ?_ rfl ?_
  · rw [List.all_append, objsH_inn _ _ (by simp [objsH_len]), capH_inn hG6 _ (by simp [objsH_len])]; rfl
  simp only [objsH, oH, go_sem, List.replicate_succ, Nat.reducePow, Nat.reduceLeDiff, ↓reduceIte, reduceCtorEq, Nat.reduceLT, Nat.reduceEqDiff, Nat.reduceAdd, Nat.reduceSub, Nat.reduceMul, Int.reduceToNat, Int.reduceLT, Int.reduceLE, Int.reduceEq, Int.reduceNe, Int.reduceNeg, Int.reduceToNat, Int.lt_irrefl, Int.le_refl]
  have hde := decide_s (beginH s n) (by simpa [beginH] using hn) hd
  refine callM (objsH (beginH s n)) (capH G) _ hde ?_ (objsH_inn _ 5 (by omega)) rfl ?_
  · simp only [beginH, objsH, oH, List.length_map, List.cons_append, List.nil_append]
  simp only [go_sem, List.replicate_succ, Nat.reducePow, Nat.reduceLeDiff, ↓reduceIte, reduceCtorEq, Nat.reduceLT, Nat.reduceEqDiff, Nat.reduceAdd, Nat.reduceSub, Nat.reduceMul, Int.reduceToNat, Int.reduceLT, Int.reduceLE, Int.reduceEq, Int.reduceNe, Int.reduceNeg, Int.reduceToNat, Int.lt_irrefl, Int.le_refl]
  exact endR hBl hBi rfl rfl (by rw [eB]; rfl)

structure Ev where
  tick : Int
  seat : Int
  kind : Int
  a : Int
  b : Int
abbrev vev (e : Ev) : AV := .agg [vi e.tick, vi e.seat, vi e.kind, vi e.a, vi e.b]
def Dv.setf (d : Dv) (k : Int) (b : Bool) : Dv := if k = 0 then { d with f0 := b } else if k = 1 then { d with f1 := b } else { d with f2 := b }
theorem put_len (s : Hs) (i : Nat) (d : Dv) : (s.put i d).devs.length = s.devs.length := by simp [Hs.put]
theorem put_get {s : Hs} {i : Nat} {d : Dv} (h : s.devs[i]? = some d) (d' : Dv) : (s.put i d').devs[i]? = some d' := by
  simp only [Hs.put]; exact List.getElem?_set_self (List.getElem?_eq_some_iff.1 h).1
theorem hasE_ok {d : Dv} {k : Int} (h : hasE d k = 0) : (k = 0 ∨ k = 1 ∨ k = 2) ∧ d.fl k = true := by
  unfold hasE at h
  split at h
  · cases h
  · split at h
    · cases h
    · refine ⟨by omega, ?_⟩
      cases hf : d.fl k with
      | true => rfl
      | false => rename_i h2; exact absurd hf h2
def loseE (d : Dv) (a : Int) : Int := hasE d a
def loseH (s : Hs) (i : Nat) (d : Dv) (a : Int) : Hs := if hasE d a ≠ 0 then s else s.put i (d.setf a false)
def arriveH (s : Hs) (i : Nat) (d : Dv) (a : Int) : Hs := if hasE d a ≠ 0 then s else arrivesH (s.put i (d.setf a false)) i (d.setf a false) a
theorem b_map {α : Type} (f : α → AV) (l : List α) (i : Nat) : (l.map f)[i]? = (l[i]?).map f := by simp
set_option maxRecDepth 100000 in
theorem lose_s (s : Hs) (i : Nat) (d : Dv) (h : s.devs[i]? = some d) (e : Ev) : CtrM Try.prog 33 [.ref 2 1 0 0, .ref 1 s.devs.length i 0, vev e] (objsH s) (vi (hasE d e.a)) (objsH (loseH s i d e.a)) := by
  refine spec0 (loseH s i d e.a) f33 (by simp) (fun _ _ => rfl) fun F0 w0 G B eB hBl hBi hG => CwpE.vc ?_
  have h1 := gdv h
  have h2 := setv h1
  have hh := has_s s i d h e.a
  simp only [c33, objsH, oH, vdv, vev, go_sem, List.replicate_succ, Nat.reducePow, Nat.reduceLeDiff, ↓reduceIte, reduceCtorEq, Nat.reduceLT, Nat.reduceEqDiff, Nat.reduceAdd, Nat.reduceSub, Nat.reduceMul, Int.reduceToNat, Int.reduceLT, Int.reduceLE, Int.reduceEq, Int.reduceNe, Int.reduceNeg, Int.reduceToNat, Int.lt_irrefl, Int.le_refl, h1]
  refine callM (objsH s) [G, .arr 1 5 32 [vev e]] (objsH s) hh rfl (objsH_inn s 5 (by omega)) rfl ?_
  by_cases z : hasE d e.a = 0
  rotate_left
  · have : loseH s i d e.a = s := if_pos z
    rw [this] at eB
    simp only [objsH, oH, go_sem, List.replicate_succ, Nat.reducePow, Nat.reduceLeDiff, ↓reduceIte, reduceCtorEq, Nat.reduceLT, Nat.reduceEqDiff, Nat.reduceAdd, Nat.reduceSub, Nat.reduceMul, Int.reduceToNat, Int.reduceLT, Int.reduceLE, Int.reduceEq, Int.reduceNe, Int.reduceNeg, Int.reduceToNat, Int.lt_irrefl, Int.le_refl, z]
    exact endR hBl hBi rfl rfl eB.symm
  have : loseH s i d e.a = s.put i (d.setf e.a false) := if_neg (by simp [z])
  rw [this, put_objs] at eB
  obtain ⟨k, hf⟩ := hasE_ok z
  rcases k with k | k | k
  all_goals
    rw [k] at z
    simp only [objsH, oH, vdv, vev, go_sem, List.replicate_succ, Nat.reducePow, Nat.reduceLeDiff, ↓reduceIte, reduceCtorEq, Nat.reduceLT, Nat.reduceEqDiff, Nat.reduceAdd, Nat.reduceSub, Nat.reduceMul, Int.reduceToNat, Int.reduceLT, Int.reduceLE, Int.reduceEq, Int.reduceNe, Int.reduceNeg, Int.reduceToNat, Int.lt_irrefl, Int.le_refl, z, k, h1, h2]
    exact endR hBl hBi rfl rfl (by rw [eB, k]; rfl)
set_option maxRecDepth 100000 in
theorem arrive_s (s : Hs) (i : Nat) (d : Dv) (h : s.devs[i]? = some d) (hn : s.devs.length ≤ 1000) (hd : s.dec.length ≤ 100000) (e : Ev) : CtrM Try.prog 32 [.ref 2 1 0 0, .ref 1 s.devs.length i 0, vev e] (objsH s) (vi (hasE d e.a)) (objsH (arriveH s i d e.a)) := by
  refine spec0 (arriveH s i d e.a) f32 (by simp) (fun _ _ => rfl) fun F0 w0 G B eB hBl hBi hG => CwpE.vc ?_
  have h1 := gdv h
  have h2 := setv h1
  have hh := has_s s i d h e.a
  simp only [c32, objsH, oH, vdv, vev, go_sem, List.replicate_succ, Nat.reducePow, Nat.reduceLeDiff, ↓reduceIte, reduceCtorEq, Nat.reduceLT, Nat.reduceEqDiff, Nat.reduceAdd, Nat.reduceSub, Nat.reduceMul, Int.reduceToNat, Int.reduceLT, Int.reduceLE, Int.reduceEq, Int.reduceNe, Int.reduceNeg, Int.reduceToNat, Int.lt_irrefl, Int.le_refl, h1]
  refine callM (objsH s) [G, .arr 1 5 32 [vev e]] (objsH s) hh rfl (objsH_inn s 5 (by omega)) rfl ?_
  by_cases z : hasE d e.a = 0
  rotate_left
  · have : arriveH s i d e.a = s := if_pos z
    rw [this] at eB
    simp only [objsH, oH, go_sem, List.replicate_succ, Nat.reducePow, Nat.reduceLeDiff, ↓reduceIte, reduceCtorEq, Nat.reduceLT, Nat.reduceEqDiff, Nat.reduceAdd, Nat.reduceSub, Nat.reduceMul, Int.reduceToNat, Int.reduceLT, Int.reduceLE, Int.reduceEq, Int.reduceNe, Int.reduceNeg, Int.reduceToNat, Int.lt_irrefl, Int.le_refl, z]
    exact endR hBl hBi rfl rfl eB.symm
  have : arriveH s i d e.a = arrivesH (s.put i (d.setf e.a false)) i (d.setf e.a false) e.a := if_neg (by simp [z])
  rw [this] at eB
  have ha := arrives_s (s.put i (d.setf e.a false)) i _ (put_get h _) (by rw [put_len]; exact hn) hd e.a
  rw [put_len] at ha
  obtain ⟨k, hf⟩ := hasE_ok z
  rcases k with k | k | k
  all_goals
    rw [k] at z
    simp only [objsH, oH, vdv, vev, go_sem, List.replicate_succ, Nat.reducePow, Nat.reduceLeDiff, ↓reduceIte, reduceCtorEq, Nat.reduceLT, Nat.reduceEqDiff, Nat.reduceAdd, Nat.reduceSub, Nat.reduceMul, Int.reduceToNat, Int.reduceLT, Int.reduceLE, Int.reduceEq, Int.reduceNe, Int.reduceNeg, Int.reduceToNat, Int.lt_irrefl, Int.le_refl, z, k, h1, h2]
    rw [k] at ha eB
    refine callM (objsH (s.put i (d.setf _ false))) [G, .arr 1 5 32 [vev e]] _ ha (by rw [put_objs]; simp only [vev, k]; rfl) (objsH_inn _ 5 (by omega)) rfl ?_
    simp only [go_sem, List.replicate_succ, Nat.reducePow, Nat.reduceLeDiff, ↓reduceIte, reduceCtorEq, Nat.reduceLT, Nat.reduceEqDiff, Nat.reduceAdd, Nat.reduceSub, Nat.reduceMul, Int.reduceToNat, Int.reduceLT, Int.reduceLE, Int.reduceEq, Int.reduceNe, Int.reduceNeg, Int.reduceToNat, Int.lt_irrefl, Int.le_refl]
    exact endR hBl hBi rfl (by simp only [go_sem, List.replicate_succ, Nat.reducePow, Nat.reduceLeDiff, ↓reduceIte, reduceCtorEq, Nat.reduceLT, Nat.reduceEqDiff, Nat.reduceAdd, Nat.reduceSub, Nat.reduceMul, Int.reduceToNat, Int.reduceLT, Int.reduceLE, Int.reduceEq, Int.reduceNe, Int.reduceNeg, Int.reduceToNat, Int.lt_irrefl, Int.le_refl]) (by rw [eB]; rfl)
end Go.Proofs.Ytjpknjicfoiheaa
