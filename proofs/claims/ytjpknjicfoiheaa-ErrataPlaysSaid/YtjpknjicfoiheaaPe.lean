/- The other events; Step. -/
import Derived.Test.YtjpknjicfoiheaaPd
set_option linter.unusedSimpArgs false
set_option linter.unusedVariables false
set_option linter.unusedSectionVars false
namespace Go.Proofs.Ytjpknjicfoiheaa
open Go.RowKit Dak
theorem decideH_len (s : Hs) : (decideH s).devs.length = s.devs.length := by unfold decideH; split <;> simp
theorem arrivesH_len (s : Hs) (i : Nat) (d : Dv) (k : Int) : (arrivesH s i d k).devs.length = s.devs.length := by
  unfold arrivesH
  split
  · rfl
  · split
    · split
      · exact put_len _ _ _
      · rfl
    · split
      · split
        · rw [decideH_len, put_len]
        · rfl
      · exact put_len _ _ _
def repeatH (s : Hs) (i : Nat) (d : Dv) (a : Int) : Hs :=
  if hasE d a ≠ 0 then s else
  if s.dec.length = (arrivesH s i d a).dec.length then match (arrivesH s i d a).devs[i]? with
    | some d' => (arrivesH s i d a).put i (d'.setf a true)
    | none => arrivesH s i d a
  else arrivesH s i d a
set_option maxRecDepth 100000 in
theorem repeat_s (s : Hs) (i : Nat) (d : Dv) (h : s.devs[i]? = some d) (hn : s.devs.length ≤ 1000) (hd : s.dec.length ≤ 100000) (e : Ev) : CtrM Try.prog 34 [.ref 2 1 0 0, .ref 1 s.devs.length i 0, vev e] (objsH s) (vi (hasE d e.a)) (objsH (repeatH s i d e.a)) := by
  refine spec0 (repeatH s i d e.a) f34 (by simp) (fun _ _ => rfl) fun F0 w0 G B eB hBl hBi hG => CwpE.vc ?_
  have h1 := gdv h
  have hh := has_s s i d h e.a
  simp only [c34, objsH, oH, vdv, vev, go_sem, List.replicate_succ, Nat.reducePow, Nat.reduceLeDiff, ↓reduceIte, reduceCtorEq, Nat.reduceLT, Nat.reduceEqDiff, Nat.reduceAdd, Nat.reduceSub, Nat.reduceMul, Int.reduceToNat, Int.reduceLT, Int.reduceLE, Int.reduceEq, Int.reduceNe, Int.reduceNeg, Int.reduceToNat, Int.lt_irrefl, Int.le_refl, h1]
  refine callM (objsH s) [G, .arr 1 5 32 [vev e]] (objsH s) hh rfl (objsH_inn s 5 (by omega)) rfl ?_
  by_cases z : hasE d e.a = 0
  rotate_left
  · have : repeatH s i d e.a = s := if_pos z
    rw [this] at eB
    simp only [objsH, oH, go_sem, List.replicate_succ, Nat.reducePow, Nat.reduceLeDiff, ↓reduceIte, reduceCtorEq, Nat.reduceLT, Nat.reduceEqDiff, Nat.reduceAdd, Nat.reduceSub, Nat.reduceMul, Int.reduceToNat, Int.reduceLT, Int.reduceLE, Int.reduceEq, Int.reduceNe, Int.reduceNeg, Int.reduceToNat, Int.lt_irrefl, Int.le_refl, z]
    exact endR hBl hBi rfl rfl eB.symm
  have ha := arrives_s s i d h hn hd e.a
  have hlen := arrivesH_len s i d e.a
  unfold repeatH at eB
  rw [if_neg (by simp [z])] at eB
  obtain ⟨k, hf⟩ := hasE_ok z
  have hil : i < (arrivesH s i d e.a).devs.length := by rw [hlen]; exact (List.getElem?_eq_some_iff.1 h).1
  rw [List.getElem?_eq_getElem hil] at eB
  simp only [objsH, oH, vdv, vev, go_sem, List.replicate_succ, Nat.reducePow, Nat.reduceLeDiff, ↓reduceIte, reduceCtorEq, Nat.reduceLT, Nat.reduceEqDiff, Nat.reduceAdd, Nat.reduceSub, Nat.reduceMul, Int.reduceToNat, Int.reduceLT, Int.reduceLE, Int.reduceEq, Int.reduceNe, Int.reduceNeg, Int.reduceToNat, Int.lt_irrefl, Int.le_refl, z]
  refine callM (objsH s) [G, .arr 1 5 32 [vev e]] _ ha rfl (objsH_inn _ 5 (by omega)) rfl ?_
  have ht1 : (arrivesH s i d e.a).devs[i]? = some (arrivesH s i d e.a).devs[i] := List.getElem?_eq_getElem hil
  generalize (arrivesH s i d e.a).devs[i] = d' at *
  generalize arrivesH s i d e.a = t at *
  have h1' := gdv ht1
  have h2' := setv h1'
  by_cases c : s.dec.length = t.dec.length
  · rw [if_pos c] at eB
    simp only at eB
    rw [put_objs] at eB
    have c' : ((s.dec.length : Int) = (t.dec.length : Int)) = True := eq_true (by omega)
    rw [← hlen]
    rcases k with k | k | k
    all_goals
      rw [k] at z
      simp only [objsH, oH, vdv, vev, go_sem, List.replicate_succ, Nat.reducePow, Nat.reduceLeDiff, ↓reduceIte, reduceCtorEq, Nat.reduceLT, Nat.reduceEqDiff, Nat.reduceAdd, Nat.reduceSub, Nat.reduceMul, Int.reduceToNat, Int.reduceLT, Int.reduceLE, Int.reduceEq, Int.reduceNe, Int.reduceNeg, Int.reduceToNat, Int.lt_irrefl, Int.le_refl, c', k, h1', h2', z]
      exact endR hBl hBi rfl rfl (by rw [eB, k]; rfl)
  · rw [if_neg c] at eB
    have c' : ((s.dec.length : Int) = (t.dec.length : Int)) = False := eq_false (by omega)
    simp only [objsH, oH, vev, go_sem, List.replicate_succ, Nat.reducePow, Nat.reduceLeDiff, ↓reduceIte, reduceCtorEq, Nat.reduceLT, Nat.reduceEqDiff, Nat.reduceAdd, Nat.reduceSub, Nat.reduceMul, Int.reduceToNat, Int.reduceLT, Int.reduceLE, Int.reduceEq, Int.reduceNe, Int.reduceNeg, Int.reduceToNat, Int.lt_irrefl, Int.le_refl, c']
    exact endR hBl hBi rfl rfl eB.symm
def Dv.down (d : Dv) : Dv := ⟨false, false, d.mom, false, false, false, false, false⟩
def failE (d : Dv) : Int := if d.up = false then 25 else 0
def failH (s : Hs) (i : Nat) (d : Dv) : Hs := if d.up = false then s else decideH (s.put i d.down)
set_option maxRecDepth 100000 in
theorem fail_s (s : Hs) (i : Nat) (d : Dv) (h : s.devs[i]? = some d) (hn : s.devs.length ≤ 1000) (hd : s.dec.length ≤ 100000) (e : Ev) : CtrM Try.prog 35 [.ref 2 1 0 0, .ref 1 s.devs.length i 0, vev e] (objsH s) (vi (failE d)) (objsH (failH s i d)) := by
  refine spec0 (failH s i d) f35 (by simp) (fun _ _ => rfl) fun F0 w0 G B eB hBl hBi hG => CwpE.vc ?_
  have h1 := gdv h
  have h2 := setv h1
  unfold failH at eB
  unfold failE
  by_cases u : d.up = false
  · rw [if_pos u] at eB
    rw [if_pos u]
    simp only [c35, objsH, oH, vdv, vev, go_sem, List.replicate_succ, Nat.reducePow, Nat.reduceLeDiff, ↓reduceIte, reduceCtorEq, Nat.reduceLT, Nat.reduceEqDiff, Nat.reduceAdd, Nat.reduceSub, Nat.reduceMul, Int.reduceToNat, Int.reduceLT, Int.reduceLE, Int.reduceEq, Int.reduceNe, Int.reduceNeg, Int.reduceToNat, Int.lt_irrefl, Int.le_refl, h1, u]
    exact endR hBl hBi rfl rfl eB.symm
  rw [if_neg u] at eB
  rw [if_neg u]
  rw [Bool.not_eq_false] at u
  simp only [c35, objsH, oH, vdv, vev, go_sem, List.replicate_succ, Nat.reducePow, Nat.reduceLeDiff, ↓reduceIte, reduceCtorEq, Nat.reduceLT, Nat.reduceEqDiff, Nat.reduceAdd, Nat.reduceSub, Nat.reduceMul, Int.reduceToNat, Int.reduceLT, Int.reduceLE, Int.reduceEq, Int.reduceNe, Int.reduceNeg, Int.reduceToNat, Int.lt_irrefl, Int.le_refl, h1, h2, u]
  have hde := decide_s (s.put i d.down) (by rw [put_len]; exact hn) hd
  refine callM (objsH (s.put i d.down)) [G, .arr 1 5 32 [vev e]] _ hde (by rw [put_objs]; rfl) (objsH_inn _ 5 (by omega)) rfl ?_
  simp only [go_sem, List.replicate_succ, Nat.reducePow, Nat.reduceLeDiff, ↓reduceIte, reduceCtorEq, Nat.reduceLT, Nat.reduceEqDiff, Nat.reduceAdd, Nat.reduceSub, Nat.reduceMul, Int.reduceToNat, Int.reduceLT, Int.reduceLE, Int.reduceEq, Int.reduceNe, Int.reduceNeg, Int.reduceToNat, Int.lt_irrefl, Int.le_refl]
  exact endR hBl hBi rfl rfl eB.symm
def Dv.come (d : Dv) : Dv := { d with up := true, f2 := true }
def backE (d : Dv) : Int := if d.up = false then 0 else 8
def backH (s : Hs) (i : Nat) (d : Dv) : Hs := if d.up = false then s.put i d.come else s
set_option maxRecDepth 100000 in
theorem back_s (s : Hs) (i : Nat) (d : Dv) (h : s.devs[i]? = some d) (e : Ev) : CtrM Try.prog 36 [.ref 2 1 0 0, .ref 1 s.devs.length i 0, vev e] (objsH s) (vi (backE d)) (objsH (backH s i d)) := by
  refine spec0 (backH s i d) f36 (by simp) (fun _ _ => rfl) fun F0 w0 G B eB hBl hBi hG => CwpE.vc ?_
  have h1 := gdv h
  have h2 := setv h1
  unfold backH at eB
  unfold backE
  by_cases u : d.up = false
  · rw [if_pos u, put_objs] at eB
    rw [if_pos u]
    simp only [c36, objsH, oH, vdv, vev, go_sem, List.replicate_succ, Nat.reducePow, Nat.reduceLeDiff, ↓reduceIte, reduceCtorEq, Nat.reduceLT, Nat.reduceEqDiff, Nat.reduceAdd, Nat.reduceSub, Nat.reduceMul, Int.reduceToNat, Int.reduceLT, Int.reduceLE, Int.reduceEq, Int.reduceNe, Int.reduceNeg, Int.reduceToNat, Int.lt_irrefl, Int.le_refl, h1, h2, u, List.set_set]
    exact endR hBl hBi rfl rfl eB.symm
  rw [if_neg u] at eB
  rw [if_neg u]
  rw [Bool.not_eq_false] at u
  simp only [c36, objsH, oH, vdv, vev, go_sem, List.replicate_succ, Nat.reducePow, Nat.reduceLeDiff, ↓reduceIte, reduceCtorEq, Nat.reduceLT, Nat.reduceEqDiff, Nat.reduceAdd, Nat.reduceSub, Nat.reduceMul, Int.reduceToNat, Int.reduceLT, Int.reduceLE, Int.reduceEq, Int.reduceNe, Int.reduceNeg, Int.reduceToNat, Int.lt_irrefl, Int.le_refl, h1, h2, u]
  exact endR hBl hBi rfl rfl eB.symm
def resendH (s : Hs) : Hs := { s with devs := s.devs.map (stepD (fun d => d.up) s.res) }
theorem resend_s (s : Hs) (hn : s.devs.length ≤ 1000) (x : AV) (hx : ∀ m, 5 ≤ m → x.inn m = true) (e : Ev) : CtrM Try.prog 37 [.ref 2 1 0 0, x, vev e] (objsH s) (vi 0) (objsH (resendH s)) := by
  refine spec0 (resendH s) f37 (by simp) (fun _ _ => rfl) fun F0 w0 G B eB hBl hBi hG => CwpE.vc ?_
  have hG6 : ∀ m, 6 ≤ m → G.innO m = true := fun m hm => hG m (by omega)
  simp only [c37, objsH, oH, vdv, vev, go_sem, List.replicate_succ, Nat.reducePow, Nat.reduceLeDiff, ↓reduceIte, reduceCtorEq, Nat.reduceLT, Nat.reduceEqDiff, Nat.reduceAdd, Nat.reduceSub, Nat.reduceMul, Int.reduceToNat, Int.reduceLT, Int.reduceLE, Int.reduceEq, Int.reduceNe, Int.reduceNeg, Int.reduceToNat, Int.lt_irrefl, Int.le_refl]
  have he := each_s s (capH G) (capH_inn hG6) hn 54 55 [] [.ref 6 1 0 0] (fun d => d.up) s.res rfl rfl (fun ds i d h => resend1_s _ (capH G) (capH_inn hG6) i d h) (fun ds i d h => resend2_s _ G hG6 i d h)
  refine callM (objsH s ++ capH G) [.arr 1 5 32 [vev e]] _ he rfl ?_ rfl ?_
  · rw [List.all_append, objsH_inn _ _ (by simp [objsH_len]), capH_inn hG6 _ (by simp [objsH_len])]; rfl
  simp only [go_sem, List.replicate_succ, Nat.reducePow, Nat.reduceLeDiff, ↓reduceIte, reduceCtorEq, Nat.reduceLT, Nat.reduceEqDiff, Nat.reduceAdd, Nat.reduceSub, Nat.reduceMul, Int.reduceToNat, Int.reduceLT, Int.reduceLE, Int.reduceEq, Int.reduceNe, Int.reduceNeg, Int.reduceToNat, Int.lt_irrefl, Int.le_refl]
  exact endR hBl hBi rfl rfl (by rw [eB]; rfl)
def ansE (d : Dv) : Int := if d.up = false then 25 else if d.live = false then 21 else 0
def ansH (s : Hs) (d : Dv) (e : Ev) : Hs := if d.up = false then s else if d.live = false then s else { s with ans := s.ans ++ [(e.seat, e.a, d.mom)] }
set_option maxRecDepth 100000 in
theorem answer_s (s : Hs) (i : Nat) (d : Dv) (h : s.devs[i]? = some d) (hd : s.ans.length ≤ 100000) (e : Ev) : CtrM Try.prog 38 [.ref 2 1 0 0, .ref 1 s.devs.length i 0, vev e] (objsH s) (vi (ansE d)) (objsH (ansH s d e)) := by
  refine spec0 (ansH s d e) f38 (by simp) (fun _ _ => rfl) fun F0 w0 G B eB hBl hBi hG => CwpE.vc ?_
  have h1 := gdv h
  unfold ansH at eB
  unfold ansE
  have q1 : (s.ans.length + 1) * 24 ≤ 140737488355328 := by omega
  cases u : d.up with
  | false =>
    rw [if_pos u] at eB
    simp only [c38, objsH, oH, vdv, vev, go_sem, List.replicate_succ, Nat.reducePow, Nat.reduceLeDiff, ↓reduceIte, reduceCtorEq, Nat.reduceLT, Nat.reduceEqDiff, Nat.reduceAdd, Nat.reduceSub, Nat.reduceMul, Int.reduceToNat, Int.reduceLT, Int.reduceLE, Int.reduceEq, Int.reduceNe, Int.reduceNeg, Int.reduceToNat, Int.lt_irrefl, Int.le_refl, h1, u]
    exact endR hBl hBi rfl rfl eB.symm
  | true =>
  rw [if_neg (by simp [u])] at eB
  cases l : d.live with
  | false =>
    rw [if_pos l] at eB
    simp only [c38, objsH, oH, vdv, vev, go_sem, List.replicate_succ, Nat.reducePow, Nat.reduceLeDiff, ↓reduceIte, reduceCtorEq, Nat.reduceLT, Nat.reduceEqDiff, Nat.reduceAdd, Nat.reduceSub, Nat.reduceMul, Int.reduceToNat, Int.reduceLT, Int.reduceLE, Int.reduceEq, Int.reduceNe, Int.reduceNeg, Int.reduceToNat, Int.lt_irrefl, Int.le_refl, h1, u, l]
    exact endR hBl hBi rfl rfl eB.symm
  | true =>
  rw [if_neg (by simp [l])] at eB
  simp only [c38, objsH, oH, vdv, vev, go_sem, List.replicate_succ, Nat.reducePow, Nat.reduceLeDiff, ↓reduceIte, reduceCtorEq, Nat.reduceLT, Nat.reduceEqDiff, Nat.reduceAdd, Nat.reduceSub, Nat.reduceMul, Int.reduceToNat, Int.reduceLT, Int.reduceLE, Int.reduceEq, Int.reduceNe, Int.reduceNeg, Int.reduceToNat, Int.lt_irrefl, Int.le_refl, h1, u, l, q1]
  exact endR hBl hBi rfl rfl (by rw [eB]; simp only [objsH, oH, List.length_append, List.length_cons, List.length_nil, List.map_append, List.map_cons, List.map_nil, Nat.zero_add]; rfl)
/-- Step -/
def evE (s : Hs) (d : Dv) (e : Ev) : Int := if e.kind = 0 then hasE d e.a else if e.kind = 1 then hasE d e.a else if e.kind = 2 then hasE d e.a else if e.kind = 3 then failE d else if e.kind = 4 then backE d else if e.kind = 5 then 0 else ansE d
def evH (s : Hs) (i : Nat) (d : Dv) (e : Ev) : Hs := if e.kind = 0 then arriveH s i d e.a else if e.kind = 1 then loseH s i d e.a else if e.kind = 2 then repeatH s i d e.a else if e.kind = 3 then failH s i d else if e.kind = 4 then backH s i d else if e.kind = 5 then resendH s else ansH s d e
def badE (s : Hs) (e : Ev) : Prop := e.kind < 0 ∨ 7 ≤ e.kind ∨ e.seat < 0 ∨ (s.devs.length : Int) ≤ e.seat
instance (s : Hs) (e : Ev) : Decidable (badE s e) := by unfold badE; infer_instance
def stepE (s : Hs) (e : Ev) : Int := if badE s e then 1 else match s.devs[e.seat.toNat]? with
  | some d => evE s d e
  | none => 1
def stepH (s : Hs) (e : Ev) : Hs := if badE s e then s else match s.devs[e.seat.toNat]? with
  | some d => evH s e.seat.toNat d e
  | none => s
theorem k7 : (0 : Int) < ((7 : Nat) : Int) ∧ (1 : Int) < ((7 : Nat) : Int) ∧ (2 : Int) < ((7 : Nat) : Int) ∧ (3 : Int) < ((7 : Nat) : Int) ∧ (4 : Int) < ((7 : Nat) : Int) ∧ (5 : Int) < ((7 : Nat) : Int) ∧ (6 : Int) < ((7 : Nat) : Int) := by omega
set_option maxRecDepth 100000 in
theorem Step_s (s : Hs) (hn : s.devs.length ≤ 1000) (hd : s.dec.length ≤ 100000) (ha : s.ans.length ≤ 100000) (e : Ev) : CtrM Try.prog 18 [.ref 2 1 0 0, vev e] (objsH s) (vi (stepE s e)) (objsH (stepH s e)) := by
  refine spec0 (stepH s e) f18 (by simp) (fun _ _ => rfl) fun F0 w0 G B eB hBl hBi hG => CwpE.vc ?_
  have bad : badE s e → stepE s e = 1 ∧ B = objsH s ++ [G] := fun hb => ⟨if_pos hb, by rw [eB]; unfold stepH; rw [if_pos hb]⟩
  by_cases a1 : e.kind < 0
  · obtain ⟨e1, eB⟩ := bad (.inl a1)
    simp only [c18, objsH, oH, vev, go_sem, List.replicate_succ, Nat.reducePow, Nat.reduceLeDiff, ↓reduceIte, reduceCtorEq, Nat.reduceLT, Nat.reduceEqDiff, Nat.reduceAdd, Nat.reduceSub, Nat.reduceMul, Int.reduceToNat, Int.reduceLT, Int.reduceLE, Int.reduceEq, Int.reduceNe, Int.reduceNeg, Int.reduceToNat, Int.lt_irrefl, Int.le_refl, a1, e1]
    exact endR hBl hBi rfl rfl eB.symm
  by_cases a2 : 7 ≤ e.kind
  · obtain ⟨e1, eB⟩ := bad (.inr (.inl a2))
    simp only [c18, objsH, oH, vev, go_sem, List.replicate_succ, Nat.reducePow, Nat.reduceLeDiff, ↓reduceIte, reduceCtorEq, Nat.reduceLT, Nat.reduceEqDiff, Nat.reduceAdd, Nat.reduceSub, Nat.reduceMul, Int.reduceToNat, Int.reduceLT, Int.reduceLE, Int.reduceEq, Int.reduceNe, Int.reduceNeg, Int.reduceToNat, Int.lt_irrefl, Int.le_refl, a1, a2, e1]
    exact endR hBl hBi rfl rfl eB.symm
  by_cases a3 : e.seat < 0
  · obtain ⟨e1, eB⟩ := bad (.inr (.inr (.inl a3)))
    simp only [c18, objsH, oH, vev, go_sem, List.replicate_succ, Nat.reducePow, Nat.reduceLeDiff, ↓reduceIte, reduceCtorEq, Nat.reduceLT, Nat.reduceEqDiff, Nat.reduceAdd, Nat.reduceSub, Nat.reduceMul, Int.reduceToNat, Int.reduceLT, Int.reduceLE, Int.reduceEq, Int.reduceNe, Int.reduceNeg, Int.reduceToNat, Int.lt_irrefl, Int.le_refl, a1, a2, a3, e1]
    exact endR hBl hBi rfl rfl eB.symm
  by_cases a4 : (s.devs.length : Int) ≤ e.seat
  · obtain ⟨e1, eB⟩ := bad (.inr (.inr (.inr a4)))
    simp only [c18, objsH, oH, vev, go_sem, List.replicate_succ, Nat.reducePow, Nat.reduceLeDiff, ↓reduceIte, reduceCtorEq, Nat.reduceLT, Nat.reduceEqDiff, Nat.reduceAdd, Nat.reduceSub, Nat.reduceMul, Int.reduceToNat, Int.reduceLT, Int.reduceLE, Int.reduceEq, Int.reduceNe, Int.reduceNeg, Int.reduceToNat, Int.lt_irrefl, Int.le_refl, a1, a2, a3, a4, e1]
    exact endR hBl hBi rfl rfl eB.symm
  have nb : ¬ badE s e := by unfold badE; omega
  obtain ⟨i, hi⟩ : ∃ i : Nat, e.seat.toNat = i := ⟨_, rfl⟩
  have hie : e.seat = (i : Int) := by omega
  have hil : i < s.devs.length := by omega
  obtain ⟨d, h⟩ : ∃ d, s.devs[i]? = some d := ⟨_, List.getElem?_eq_getElem hil⟩
  have e1 : stepE s e = evE s d e := by unfold stepE; rw [if_neg nb, hi, h]
  have e2 : stepH s e = evH s i d e := by unfold stepH; rw [if_neg nb, hi, h]
  rw [e2] at eB
  rw [e1]
  clear bad e1 e2
  have a3 : ((i : Int) < 0) = False := eq_false (by omega)
  have a4 : ((s.devs.length : Int) ≤ (i : Int)) = False := eq_false (by omega)
  have g0 : (0 : Int) ≤ (i : Int) := by omega
  have g1 : (i : Int) < (s.devs.length : Int) := by omega
  obtain ⟨x0, x1, x2, x3, x4, x5, x6⟩ := k7
  obtain ⟨tick, seat, kind, ea, eb⟩ := e
  simp only at hie a1 a2
  subst hie
  have hk : kind = 0 ∨ kind = 1 ∨ kind = 2 ∨ kind = 3 ∨ kind = 4 ∨ kind = 5 ∨ kind = 6 := by omega
  rcases hk with rfl | rfl | rfl | rfl | rfl | rfl | rfl
  all_goals simp only [c18, objsH, oH, vev, go_sem, List.replicate_succ, Nat.reducePow, Nat.reduceLeDiff, ↓reduceIte, reduceCtorEq, Nat.reduceLT, Nat.reduceEqDiff, Nat.reduceAdd, Nat.reduceSub, Nat.reduceMul, Int.reduceToNat, Int.reduceLT, Int.reduceLE, Int.reduceEq, Int.reduceNe, Int.reduceNeg, Int.reduceToNat, Int.lt_irrefl, Int.le_refl, a3, a4, g0, g1, x0, x1, x2, x3, x4, x5, x6]
  · refine callM (objsH s) [G, .arr 1 5 32 [vev ⟨tick, i, 0, ea, eb⟩], .arr 1 7 69 [.agg [.clo (.func 32) [], .clo (.func 33) [], .clo (.func 34) [], .clo (.func 35) [], .clo (.func 36) [], .clo (.func 37) [], .clo (.func 38) []]]] _ (arrive_s s i d h hn hd ⟨tick, i, 0, ea, eb⟩) rfl (objsH_inn _ 5 (by omega)) rfl ?_
    simp only [go_sem, List.replicate_succ, Nat.reducePow, Nat.reduceLeDiff, ↓reduceIte, reduceCtorEq, Nat.reduceLT, Nat.reduceEqDiff, Nat.reduceAdd, Nat.reduceSub, Nat.reduceMul, Int.reduceToNat, Int.reduceLT, Int.reduceLE, Int.reduceEq, Int.reduceNe, Int.reduceNeg, Int.reduceToNat, Int.lt_irrefl, Int.le_refl]
    exact endR hBl hBi rfl rfl (by rw [eB]; rfl)
  · refine callM (objsH s) [G, .arr 1 5 32 [vev ⟨tick, i, 1, ea, eb⟩], .arr 1 7 69 [.agg [.clo (.func 32) [], .clo (.func 33) [], .clo (.func 34) [], .clo (.func 35) [], .clo (.func 36) [], .clo (.func 37) [], .clo (.func 38) []]]] _ (lose_s s i d h ⟨tick, i, 1, ea, eb⟩) rfl (objsH_inn _ 5 (by omega)) rfl ?_
    simp only [go_sem, List.replicate_succ, Nat.reducePow, Nat.reduceLeDiff, ↓reduceIte, reduceCtorEq, Nat.reduceLT, Nat.reduceEqDiff, Nat.reduceAdd, Nat.reduceSub, Nat.reduceMul, Int.reduceToNat, Int.reduceLT, Int.reduceLE, Int.reduceEq, Int.reduceNe, Int.reduceNeg, Int.reduceToNat, Int.lt_irrefl, Int.le_refl]
    exact endR hBl hBi rfl rfl (by rw [eB]; rfl)
  · refine callM (objsH s) [G, .arr 1 5 32 [vev ⟨tick, i, 2, ea, eb⟩], .arr 1 7 69 [.agg [.clo (.func 32) [], .clo (.func 33) [], .clo (.func 34) [], .clo (.func 35) [], .clo (.func 36) [], .clo (.func 37) [], .clo (.func 38) []]]] _ (repeat_s s i d h hn hd ⟨tick, i, 2, ea, eb⟩) rfl (objsH_inn _ 5 (by omega)) rfl ?_
    simp only [go_sem, List.replicate_succ, Nat.reducePow, Nat.reduceLeDiff, ↓reduceIte, reduceCtorEq, Nat.reduceLT, Nat.reduceEqDiff, Nat.reduceAdd, Nat.reduceSub, Nat.reduceMul, Int.reduceToNat, Int.reduceLT, Int.reduceLE, Int.reduceEq, Int.reduceNe, Int.reduceNeg, Int.reduceToNat, Int.lt_irrefl, Int.le_refl]
    exact endR hBl hBi rfl rfl (by rw [eB]; rfl)
  · refine callM (objsH s) [G, .arr 1 5 32 [vev ⟨tick, i, 3, ea, eb⟩], .arr 1 7 69 [.agg [.clo (.func 32) [], .clo (.func 33) [], .clo (.func 34) [], .clo (.func 35) [], .clo (.func 36) [], .clo (.func 37) [], .clo (.func 38) []]]] _ (fail_s s i d h hn hd ⟨tick, i, 3, ea, eb⟩) rfl (objsH_inn _ 5 (by omega)) rfl ?_
    simp only [go_sem, List.replicate_succ, Nat.reducePow, Nat.reduceLeDiff, ↓reduceIte, reduceCtorEq, Nat.reduceLT, Nat.reduceEqDiff, Nat.reduceAdd, Nat.reduceSub, Nat.reduceMul, Int.reduceToNat, Int.reduceLT, Int.reduceLE, Int.reduceEq, Int.reduceNe, Int.reduceNeg, Int.reduceToNat, Int.lt_irrefl, Int.le_refl]
    exact endR hBl hBi rfl rfl (by rw [eB]; rfl)
  · refine callM (objsH s) [G, .arr 1 5 32 [vev ⟨tick, i, 4, ea, eb⟩], .arr 1 7 69 [.agg [.clo (.func 32) [], .clo (.func 33) [], .clo (.func 34) [], .clo (.func 35) [], .clo (.func 36) [], .clo (.func 37) [], .clo (.func 38) []]]] _ (back_s s i d h ⟨tick, i, 4, ea, eb⟩) rfl (objsH_inn _ 5 (by omega)) rfl ?_
    simp only [go_sem, List.replicate_succ, Nat.reducePow, Nat.reduceLeDiff, ↓reduceIte, reduceCtorEq, Nat.reduceLT, Nat.reduceEqDiff, Nat.reduceAdd, Nat.reduceSub, Nat.reduceMul, Int.reduceToNat, Int.reduceLT, Int.reduceLE, Int.reduceEq, Int.reduceNe, Int.reduceNeg, Int.reduceToNat, Int.lt_irrefl, Int.le_refl]
    exact endR hBl hBi rfl rfl (by rw [eB]; rfl)
  · refine callM (objsH s) [G, .arr 1 5 32 [vev ⟨tick, i, 5, ea, eb⟩], .arr 1 7 69 [.agg [.clo (.func 32) [], .clo (.func 33) [], .clo (.func 34) [], .clo (.func 35) [], .clo (.func 36) [], .clo (.func 37) [], .clo (.func 38) []]]] _ (resend_s s hn (.ref 1 s.devs.length i 0) (fun m hm => by simp only [AV.inn, AV.inn1, decide_eq_true_eq]; omega) ⟨tick, i, 5, ea, eb⟩) rfl (objsH_inn _ 5 (by omega)) rfl ?_
    simp only [go_sem, List.replicate_succ, Nat.reducePow, Nat.reduceLeDiff, ↓reduceIte, reduceCtorEq, Nat.reduceLT, Nat.reduceEqDiff, Nat.reduceAdd, Nat.reduceSub, Nat.reduceMul, Int.reduceToNat, Int.reduceLT, Int.reduceLE, Int.reduceEq, Int.reduceNe, Int.reduceNeg, Int.reduceToNat, Int.lt_irrefl, Int.le_refl]
    exact endR hBl hBi rfl rfl (by rw [eB]; rfl)
  · refine callM (objsH s) [G, .arr 1 5 32 [vev ⟨tick, i, 6, ea, eb⟩], .arr 1 7 69 [.agg [.clo (.func 32) [], .clo (.func 33) [], .clo (.func 34) [], .clo (.func 35) [], .clo (.func 36) [], .clo (.func 37) [], .clo (.func 38) []]]] _ (answer_s s i d h ha ⟨tick, i, 6, ea, eb⟩) rfl (objsH_inn _ 5 (by omega)) rfl ?_
    simp only [go_sem, List.replicate_succ, Nat.reducePow, Nat.reduceLeDiff, ↓reduceIte, reduceCtorEq, Nat.reduceLT, Nat.reduceEqDiff, Nat.reduceAdd, Nat.reduceSub, Nat.reduceMul, Int.reduceToNat, Int.reduceLT, Int.reduceLE, Int.reduceEq, Int.reduceNe, Int.reduceNeg, Int.reduceToNat, Int.lt_irrefl, Int.le_refl]
    exact endR hBl hBi rfl rfl (by rw [eB]; rfl)
end Go.Proofs.Ytjpknjicfoiheaa
