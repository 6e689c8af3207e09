/- The hall of the reference does what the hall does. -/
import Derived.Test.YtjpknjicfoiheaaPu
set_option linter.unusedSimpArgs false
set_option linter.unusedVariables false
set_option linter.unusedSectionVars false
namespace Go.Proofs.Ytjpknjicfoiheaa
open Go.RowKit Dak
theorem comes_eq {s : Hs} {i : Nat} {d : Dv} (h : s.devs[i]? = some d) (m1 : d.mom ≤ s.dec.length) (w : Wt s) {k : Int} (hk : k = 0 ∨ k = 1 ∨ k = 2) : comesH s i d k = arrivesH s i d k := by
  unfold comesH arrivesH
  by_cases u : d.up = false
  · rw [if_pos u, if_pos u]
  rw [if_neg u, if_neg u]
  have hsh : shw s d = true ↔ d.live = true ∧ ¬ d.mom < s.dec.length := by
    unfold shw
    rw [Bool.and_eq_true, decide_eq_true_eq]
    constructor
    · rintro ⟨a, b⟩; exact ⟨a, by omega⟩
    · rintro ⟨a, b⟩; exact ⟨a, by omega⟩
  rcases hk with rfl | rfl | rfl
  · rw [if_pos rfl]
    unfold com4 com3 com2 com1
    rw [if_neg (fun c : (0 : Int) = 1 ∧ _ => absurd c.1 (by decide)), if_neg (by decide), if_neg (fun c : (0 : Int) = 1 ∧ _ => absurd c.1 (by decide))]
    by_cases c : s.now ≠ 0 ∧ d.live = true ∧ ¬ d.mom < s.dec.length
    · rw [if_pos c, if_pos ⟨rfl, c.1, hsh.2 c.2⟩]
    · rw [if_neg c, if_neg (fun e => c ⟨e.2.1, hsh.1 e.2.2⟩), put_same h]
  · rw [if_neg (by decide), if_pos rfl]
    have e1 : com1 s 1 (shw s d) d = d := if_neg (fun c => absurd c.1 (by decide))
    rw [e1]
    unfold com4 com3 com2
    rw [if_neg (show ¬ (1 : Int) = 2 by decide)]
    by_cases c : s.now ≠ 0 ∧ d.live = true ∧ d.holds = true ∧ ¬ d.mom < s.dec.length
    · rw [if_pos c, if_pos (show (1 : Int) = 1 ∧ s.now ≠ 0 ∧ shw s d = true ∧ d.holds = true from ⟨rfl, c.1, hsh.2 ⟨c.2.1, c.2.2.2⟩, c.2.2.1⟩), if_pos ⟨rfl, rfl⟩]
    · rw [if_neg c, if_neg (show ¬ ((1 : Int) = 1 ∧ s.now ≠ 0 ∧ shw s d = true ∧ d.holds = true) from fun e => c ⟨e.2.1, (hsh.1 e.2.2.1).1, e.2.2.2, (hsh.1 e.2.2.1).2⟩), put_same h, wt_same w, ite_self]
  · rw [if_neg (by decide), if_neg (by decide)]
    have e1 : com1 s 2 (shw s d) d = d := if_neg (fun c => absurd c.1 (by decide))
    have e2 : com2 s 2 (shw s d) d = d := if_neg (fun c => absurd c.1 (by decide))
    rw [e1, e2]
    unfold com4 com3
    rw [if_pos rfl, if_neg (fun c : (2 : Int) = 1 ∧ _ => absurd c.1 (by decide))]
def setM (t : Hs) (i : Nat) (a : Int) : Hs := match t.devs[i]? with
  | some x => t.put i (x.setf a true)
  | none => t
theorem setM_put {s : Hs} {i : Nat} {d : Dv} (h : s.devs[i]? = some d) (x : Dv) (a : Int) : setM (s.put i x) i a = s.put i (x.setf a true) := by
  unfold setM
  rw [put_get h x]
  exact put_put _ _ _ _
theorem rep_put {s : Hs} {i : Nat} {d : Dv} (h : s.devs[i]? = some d) {x y : Dv} {a : Int} (e : x.setf a true = y.setf a true) :
    (if (s.put i x).dec.length = s.dec.length then setM (s.put i x) i a else s.put i x) = (if s.dec.length = (s.put i y).dec.length then setM (s.put i y) i a else s.put i y) := by
  have e1 : (s.put i x).dec = s.dec := rfl
  have e2 : (s.put i y).dec = s.dec := rfl
  rw [e1, e2, if_pos rfl, if_pos rfl, setM_put h, setM_put h, e]
theorem any_waits {l : List Dv} {i : Nat} {x y : Dv} (e : waitsD x = waitsD y) : (l.set i x).any waitsD = (l.set i y).any waitsD := by
  have h : ∀ z, (l.set i z).any waitsD = ((l.map waitsD).set i (waitsD z)).any id := fun z => by rw [← List.map_set, List.any_map]; rfl
  rw [h, h, e]
theorem rep_dec {s : Hs} {i : Nat} {d : Dv} (h : s.devs[i]? = some d) {x y : Dv} {a : Int} (e : x.setf a true = y.setf a true) (ew : waitsD x = waitsD y) (ec : x.cut = y.cut) :
    (if (decideH (s.put i x)).dec.length = s.dec.length then setM (decideH (s.put i x)) i a else decideH (s.put i x)) = (if s.dec.length = (decideH (s.put i y)).dec.length then setM (decideH (s.put i y)) i a else decideH (s.put i y)) := by
  have hw : (s.put i x).devs.any waitsD = (s.put i y).devs.any waitsD := any_waits ew
  by_cases c : (s.put i x).now = 0 ∨ (s.put i x).devs.any waitsD = true
  · have c' : (s.put i y).now = 0 ∨ (s.put i y).devs.any waitsD = true := by rw [← hw]; exact c
    have e1 : decideH (s.put i x) = s.put i x := if_pos c
    have e2 : decideH (s.put i y) = s.put i y := if_pos c'
    rw [e1, e2]; exact rep_put h e
  · have c' : ¬ ((s.put i y).now = 0 ∨ (s.put i y).devs.any waitsD = true) := by rw [← hw]; exact c
    have e1 : decideH (s.put i x) = { s.put i x with dec := s.dec ++ [s.now], now := 0, devs := (s.put i x).devs.map Dv.cut } := if_neg c
    have e2 : decideH (s.put i y) = { s.put i y with dec := s.dec ++ [s.now], now := 0, devs := (s.put i y).devs.map Dv.cut } := if_neg c'
    rw [e1, e2]
    rw [if_neg (by simp), if_neg (by simp)]
    simp only [Hs.put, List.map_set, ec]
theorem setf_setf (d : Dv) (a : Int) (b c : Bool) : (d.setf a b).setf a c = d.setf a c := by
  unfold Dv.setf
  by_cases h0 : a = 0
  · simp only [h0, if_true]
  · by_cases h1 : a = 1
    · simp only [h1, if_true]; rfl
    · simp only [h0, h1, if_false]
theorem repeat_eq {s : Hs} {i : Nat} {d : Dv} (h : s.devs[i]? = some d) {a : Int} (ha : a = 0 ∨ a = 1 ∨ a = 2) :
    (if (arrivesH (s.put i (d.setf a false)) i (d.setf a false) a).dec.length = s.dec.length then setM (arrivesH (s.put i (d.setf a false)) i (d.setf a false) a) i a else arrivesH (s.put i (d.setf a false)) i (d.setf a false) a) =
    (if s.dec.length = (arrivesH s i d a).dec.length then setM (arrivesH s i d a) i a else arrivesH s i d a) := by
  obtain ⟨u1, u2, u3, u4, u5⟩ := setf_keeps d a false
  have hsm : s = s.put i d := (put_same h).symm
  have base : (if (s.put i (d.setf a false)).dec.length = s.dec.length then setM (s.put i (d.setf a false)) i a else s.put i (d.setf a false)) = (if s.dec.length = s.dec.length then setM s i a else s) := by
    have := rep_put h (x := d.setf a false) (y := d) (setf_setf d a false true)
    rw [← hsm] at this; exact this
  have A : ∀ (s' : Hs) (d' : Dv), d'.up = d.up → d'.live = d.live → d'.mom = d.mom → d'.holds = d.holds → s'.now = s.now → s'.dec = s.dec → arrivesH s' i d' a = if d.up = false then s' else
      if a = 0 then if s.now ≠ 0 ∧ d.live = true ∧ ¬ d.mom < s.dec.length then s'.put i d'.prep else s' else
      if a = 1 then if s.now ≠ 0 ∧ d.live = true ∧ d.holds = true ∧ ¬ d.mom < s.dec.length then decideH (s'.put i d'.tell) else s' else s'.put i (d'.show s') := by
    intro s' d' h1 h2 h3 h4 h5 h6
    unfold arrivesH
    rw [h1, h2, h3, h4, h5, h6]
  have A1 := A (s.put i (d.setf a false)) (d.setf a false) u1 u2 u3 u4 rfl rfl
  have A2 := A s d rfl rfl rfl rfl rfl rfl
  clear A
  by_cases u : d.up = false
  · rw [if_pos u] at A1 A2
    rw [A1, A2]; exact base
  rw [if_neg u] at A1 A2
  rcases ha with rfl | rfl | rfl
  · rw [if_pos rfl] at A1 A2
    by_cases c : s.now ≠ 0 ∧ d.live = true ∧ ¬ d.mom < s.dec.length
    · rw [if_pos c] at A1 A2
      rw [put_put] at A1
      rw [A1, A2]; exact rep_put h rfl
    · rw [if_neg c] at A1 A2
      rw [A1, A2]; exact base
  · rw [if_neg (by decide), if_pos rfl] at A1 A2
    by_cases c : s.now ≠ 0 ∧ d.live = true ∧ d.holds = true ∧ ¬ d.mom < s.dec.length
    · rw [if_pos c] at A1 A2
      rw [put_put] at A1
      rw [A1, A2]; exact rep_dec h rfl rfl rfl
    · rw [if_neg c] at A1 A2
      rw [A1, A2]; exact base
  · rw [if_neg (by decide), if_neg (by decide)] at A1 A2
    rw [put_put] at A1
    rw [A1, A2]; exact rep_put h rfl
/-- The reference's step is the hall's. -/
theorem step_eq {s : Hs} (w : Wt s) (hm : ∀ d ∈ s.devs, d.mom ≤ s.dec.length) (e : Ev) : stepR s e = stepH s e := by
  unfold stepR stepH
  by_cases nb : badE s e
  · rw [if_pos nb, if_pos nb]
  rw [if_neg nb, if_neg nb]
  generalize e.seat.toNat = i at *
  cases h : s.devs[i]? with
  | none => rfl
  | some d =>
  show evR s i d e = evH s i d e
  have hd := hm d (List.mem_of_getElem? h)
  have k0 : 0 ≤ e.kind := by unfold badE at nb; omega
  have k6 : e.kind ≤ 6 := by unfold badE at nb; omega
  unfold evR evH
  by_cases c3 : e.kind = 3
  · rw [if_pos c3, if_neg (by omega), if_neg (by omega), if_neg (by omega), if_pos c3]
  by_cases c4 : e.kind = 4
  · rw [if_neg c3, if_pos c4, if_neg (by omega), if_neg (by omega), if_neg (by omega), if_neg c3, if_pos c4]
  by_cases c5 : e.kind = 5
  · rw [if_neg c3, if_neg c4, if_pos c5, if_neg (by omega), if_neg (by omega), if_neg (by omega), if_neg c3, if_neg c4, if_pos c5]
  by_cases c6 : e.kind = 6
  · rw [if_neg c3, if_neg c4, if_neg c5, if_pos c6, if_neg (by omega), if_neg (by omega), if_neg (by omega), if_neg c3, if_neg c4, if_neg c5]
  rw [if_neg c3, if_neg c4, if_neg c5, if_neg c6]
  have hcm : hasE d e.a = 0 → comesH (s.put i (d.setf e.a false)) i (d.setf e.a false) e.a = arrivesH (s.put i (d.setf e.a false)) i (d.setf e.a false) e.a := fun z =>
    comes_eq (put_get h _) (by rw [(setf_keeps d e.a false).2.2.1]; exact hd) (wt_put h (by rw [waits_setf]; exact id) w) (hasE_ok z).1
  unfold msgH
  by_cases z : hasE d e.a = 0
  rotate_left
  · rw [if_pos z]
    have q1 : arriveH s i d e.a = s := if_pos z
    have q2 : loseH s i d e.a = s := if_pos z
    have q3 : repeatH s i d e.a = s := if_pos z
    rw [q1, q2, q3, if_neg c3, if_neg c4, if_neg c5]
    split
    · rfl
    · split
      · rfl
      · split
        · rfl
        · omega
  rw [if_neg (by simp [z]), hcm z]
  have hk : e.kind = 0 ∨ e.kind = 1 ∨ e.kind = 2 := by omega
  rcases hk with c | c | c
  · rw [if_neg (by omega), if_pos c]
    unfold aftH arriveH
    rw [if_neg (fun q => by omega), if_neg (by simp [z])]
  · rw [if_pos c, if_neg (by omega), if_pos c]
    unfold loseH
    rw [if_neg (by simp [z])]
  · rw [if_neg (by omega), if_neg (by omega), if_neg (by omega), if_pos c]
    have := repeat_eq h (hasE_ok z).1
    unfold aftH repeatH
    rw [if_neg (show ¬ hasE d e.a ≠ 0 by simp [z])]
    by_cases q : (arrivesH (s.put i (d.setf e.a false)) i (d.setf e.a false) e.a).dec.length = s.dec.length
    · rw [if_pos ⟨c, q⟩]
      rw [if_pos q] at this
      exact this
    · rw [if_neg (fun x => q x.2)]
      rw [if_neg q] at this
      exact this
theorem inv_mom {n k : Nat} {s : Hs} (inv : Inv n k s) : ∀ d ∈ s.devs, d.mom ≤ s.dec.length := by
  intro d hd
  obtain ⟨H, a⟩ := inv.ex
  obtain ⟨i, hi⟩ := List.mem_iff_getElem?.1 hd
  exact (a i d hi).m1
/-- plays -/
theorem plays_s (p : Pre) {n k : Nat} {s : Hs} (inv : Inv n k s) (hn : n ≤ 1000) (hk : k ≤ 100000) (a : Act') : CtrM Try.prog 23 [.ref 5 1 0 0, vact a] (objsR p s) (vi (doesE s a)) (objsR p (doesH s a)) := by
  have bd := inv.bd hn hk
  refine specR (doesH s a) f23 (by simp) (fun _ _ => rfl) fun F0 w0 G B eB hBl hBi hG => CwpE.vc ?_
  have hst := StepR_s p s bd.1 bd.2.1 bd.2.2 a.ev
  rw [step_eq inv.wt (inv_mom inv)] at hst
  have han := AnnounceR_s p s a.num bd.1 bd.2.1
  by_cases z : a.num = 0
  · rw [doesH_ev z] at eB
    rw [doesE_ev z]
    generalize stepH s a.ev = t at *
    simp only [c23, objsR, oR, go_sem, List.replicate_succ, Nat.reducePow, Nat.reduceLeDiff, ↓reduceIte, reduceCtorEq, Nat.reduceLT, Nat.reduceEqDiff, Nat.reduceAdd, Nat.reduceSub, Nat.reduceMul, Int.reduceToNat, Int.reduceLT, Int.reduceLE, Int.reduceEq, Int.reduceNe, Int.reduceNeg, Int.reduceToNat, Int.lt_irrefl, Int.le_refl, z]
    refine callM (objsR p s) _ _ hst rfl (objsR_inn _ _ 9 (by omega)) rfl ?_
    simp only [go_sem, List.replicate_succ, Nat.reducePow, Nat.reduceLeDiff, ↓reduceIte, reduceCtorEq, Nat.reduceLT, Nat.reduceEqDiff, Nat.reduceAdd, Nat.reduceSub, Nat.reduceMul, Int.reduceToNat, Int.reduceLT, Int.reduceLE, Int.reduceEq, Int.reduceNe, Int.reduceNeg, Int.reduceToNat, Int.lt_irrefl, Int.le_refl]
    exact endR hBl hBi rfl rfl eB.symm
  · rw [doesH_an z] at eB
    rw [doesE_an z]
    generalize announceH s a.num = t at *
    simp only [c23, objsR, oR, go_sem, List.replicate_succ, Nat.reducePow, Nat.reduceLeDiff, ↓reduceIte, reduceCtorEq, Nat.reduceLT, Nat.reduceEqDiff, Nat.reduceAdd, Nat.reduceSub, Nat.reduceMul, Int.reduceToNat, Int.reduceLT, Int.reduceLE, Int.reduceEq, Int.reduceNe, Int.reduceNeg, Int.reduceToNat, Int.lt_irrefl, Int.le_refl, z]
    refine callM (objsR p s) _ _ han rfl (objsR_inn _ _ 9 (by omega)) rfl ?_
    simp only [go_sem, List.replicate_succ, Nat.reducePow, Nat.reduceLeDiff, ↓reduceIte, reduceCtorEq, Nat.reduceLT, Nat.reduceEqDiff, Nat.reduceAdd, Nat.reduceSub, Nat.reduceMul, Int.reduceToNat, Int.reduceLT, Int.reduceLE, Int.reduceEq, Int.reduceNe, Int.reduceNeg, Int.reduceToNat, Int.lt_irrefl, Int.le_refl]
    exact endR hBl hBi rfl rfl eB.symm
end Go.Proofs.Ytjpknjicfoiheaa
