/- A message that is lost; one that arrives twice. -/
import Derived.Test.YtjpknjicfoiheaaPw
set_option linter.unusedSimpArgs false
set_option linter.unusedVariables false
set_option linter.unusedSectionVars false
namespace Go.Proofs.Ytjpknjicfoiheaa
open Go.RowKit Dak
theorem setf_fl (d : Dv) {a : Int} (ha : a = 0 ∨ a = 1 ∨ a = 2) (b : Bool) : (d.setf a b).fl a = b := by
  rcases ha with rfl | rfl | rfl <;> rfl
theorem setf_id {d : Dv} {a : Int} (ha : a = 0 ∨ a = 1 ∨ a = 2) {b : Bool} (h : d.fl a = b) : d.setf a b = d := by
  subst h
  obtain ⟨u, l, m, o, n, p, q, r⟩ := d
  rcases ha with rfl | rfl | rfl <;> rfl
theorem hasE_fl {d : Dv} {a : Int} (ha : a = 0 ∨ a = 1 ∨ a = 2) : hasE d a = if d.fl a = false then 6 else 0 := if_neg (by omega)
/-- What arrives after it has been repeated. -/
theorem twice_put {s : Hs} {i : Nat} {d : Dv} (h : s.devs[i]? = some d) {a : Int} (z : hasE d a = 0) {x : Dv} (hT : arrivesH (s.put i (d.setf a false)) i (d.setf a false) a = s.put i x) (hf : x.fl a = false)
    (hid : arrivesH (s.put i x) i x a = s.put i x) : ∃ d1, (repeatH s i d a).devs[i]? = some d1 ∧ arriveH (repeatH s i d a) i d1 a = arriveH s i d a ∧ (hasE d1 a = 0 ∨ hasE d1 a = 6) := by
  have ha := (hasE_ok z).1
  have e1 : arriveH s i d a = s.put i x := by unfold arriveH; rw [if_neg (by simp [z]), hT]
  have e2 : repeatH s i d a = s.put i (x.setf a true) := by
    have := repeat_eq h ha
    rw [hT] at this
    have q : (s.put i x).dec = s.dec := rfl
    rw [q, if_pos rfl, setM_put h] at this
    rw [this]
    unfold repeatH
    rw [if_neg (by simp [z])]; rfl
  have hx : (x.setf a true).setf a false = x := by rw [setf_setf, setf_id ha hf]
  have hz : hasE (x.setf a true) a = 0 := by rw [hasE_fl ha, setf_fl _ ha]; rfl
  rw [e1, e2]
  refine ⟨x.setf a true, put_get h _, ?_, .inl hz⟩
  unfold arriveH
  rw [if_neg (by simp [hz]), hx, put_put, hid]
theorem twice_dec {s : Hs} {i : Nat} {d : Dv} (h : s.devs[i]? = some d) {a : Int} (z : hasE d a = 0) {T : Hs} {x : Dv} (hT : arrivesH (s.put i (d.setf a false)) i (d.setf a false) a = T) (hx : T.devs[i]? = some x) (hl : T.dec.length ≠ s.dec.length) (hf : x.fl a = false) :
    ∃ d1, (repeatH s i d a).devs[i]? = some d1 ∧ arriveH (repeatH s i d a) i d1 a = arriveH s i d a ∧ (hasE d1 a = 0 ∨ hasE d1 a = 6) := by
  have ha := (hasE_ok z).1
  have e1 : arriveH s i d a = T := by unfold arriveH; rw [if_neg (by simp [z]), hT]
  have e2 : repeatH s i d a = T := by
    have := repeat_eq h ha
    rw [hT, if_neg hl] at this
    rw [this]
    unfold repeatH
    rw [if_neg (by simp [z])]; rfl
  have hz : hasE x a = 6 := by rw [hasE_fl ha, if_pos hf]
  rw [e1, e2]
  refine ⟨x, hx, ?_, .inr hz⟩
  unfold arriveH
  rw [if_pos (by rw [hz]; decide)]
theorem twice {s : Hs} {i : Nat} {d : Dv} (h : s.devs[i]? = some d) {a : Int} (z : hasE d a = 0) : ∃ d1, (repeatH s i d a).devs[i]? = some d1 ∧ arriveH (repeatH s i d a) i d1 a = arriveH s i d a ∧ (hasE d1 a = 0 ∨ hasE d1 a = 6) := by
  have ha := (hasE_ok z).1
  obtain ⟨u1, u2, u3, u4, u5⟩ := setf_keeps d a false
  have A : ∀ (s' : Hs) (d' : Dv), arrivesH s' i d' a = if d'.up = false then s' else
      if a = 0 then if s'.now ≠ 0 ∧ d'.live = true ∧ ¬ d'.mom < s'.dec.length then s'.put i d'.prep else s' else
      if a = 1 then if s'.now ≠ 0 ∧ d'.live = true ∧ d'.holds = true ∧ ¬ d'.mom < s'.dec.length then decideH (s'.put i d'.tell) else s' else s'.put i (d'.show s') := fun _ _ => rfl
  have hf := setf_fl d ha false
  have hn : ∀ y, (s.put i y).now = s.now := fun _ => rfl
  have hl : ∀ y, (s.put i y).dec = s.dec := fun _ => rfl
  by_cases u : d.up = false
  · refine twice_put h z (x := d.setf a false) (by rw [A, u1, if_pos u]) hf (by rw [A, u1, if_pos u])
  rcases ha with rfl | rfl | rfl
  · by_cases c : s.now ≠ 0 ∧ d.live = true ∧ ¬ d.mom < s.dec.length
    · refine twice_put h z (x := (d.setf 0 false).prep) (by rw [A, u1, if_neg u, if_pos rfl, hn, hl, u2, u3, if_pos c, put_put]) rfl ?_
      rw [A, if_neg (show ¬ (d.setf 0 false).prep.up = false from u), if_pos rfl, hn, hl, if_pos (show s.now ≠ 0 ∧ (d.setf 0 false).prep.live = true ∧ ¬ (d.setf 0 false).prep.mom < s.dec.length from c), put_put]; rfl
    · refine twice_put h z (x := d.setf 0 false) (by rw [A, u1, if_neg u, if_pos rfl, hn, hl, u2, u3, if_neg c]) hf ?_
      rw [A, u1, if_neg u, if_pos rfl, hn, hl, u2, u3, if_neg c]
  · have n10 : ¬ (1 : Int) = 0 := by decide
    by_cases c : s.now ≠ 0 ∧ d.live = true ∧ d.holds = true ∧ ¬ d.mom < s.dec.length
    · have e0 : arrivesH (s.put i (d.setf 1 false)) i (d.setf 1 false) 1 = decideH (s.put i (d.setf 1 false).tell) := by
        rw [A, u1, if_neg u, if_neg n10, if_pos rfl, hn, hl, u2, u3, u4, if_pos c, put_put]
      by_cases q : (s.put i (d.setf 1 false).tell).now = 0 ∨ (s.put i (d.setf 1 false).tell).devs.any waitsD = true
      · have e1 : decideH (s.put i (d.setf 1 false).tell) = s.put i (d.setf 1 false).tell := if_pos q
        refine twice_put h z (x := (d.setf 1 false).tell) (by rw [e0, e1]) rfl ?_
        rw [A, if_neg (show ¬ (d.setf 1 false).tell.up = false from u), if_neg n10, if_pos rfl, hn, hl, if_pos (show s.now ≠ 0 ∧ (d.setf 1 false).tell.live = true ∧ (d.setf 1 false).tell.holds = true ∧ ¬ (d.setf 1 false).tell.mom < s.dec.length from c), put_put]
        exact e1
      · have e1 : decideH (s.put i (d.setf 1 false).tell) = { s.put i (d.setf 1 false).tell with dec := s.dec ++ [s.now], now := 0, devs := (s.put i (d.setf 1 false).tell).devs.map Dv.cut } := if_neg q
        refine twice_dec h z (x := (d.setf 1 false).tell.cut) e0 ?_ ?_ rfl
        · rw [e1]
          show ((s.put i (d.setf 1 false).tell).devs.map Dv.cut)[i]? = _
          rw [List.getElem?_map, put_get h]; rfl
        · rw [e1]; simp
    · refine twice_put h z (x := d.setf 1 false) (by rw [A, u1, if_neg u, if_neg n10, if_pos rfl, hn, hl, u2, u3, u4, if_neg c]) hf ?_
      rw [A, u1, if_neg u, if_neg n10, if_pos rfl, hn, hl, u2, u3, u4, if_neg c]
  · have n20 : ¬ (2 : Int) = 0 := by decide
    have n21 : ¬ (2 : Int) = 1 := by decide
    refine twice_put h z (x := (d.setf 2 false).show s) (by rw [A, u1, if_neg u, if_neg n20, if_neg n21, put_put]; rfl) rfl ?_
    rw [A, if_neg (show ¬ ((d.setf 2 false).show s).up = false from u), if_neg n20, if_neg n21, put_put]
    congr 1
    show Dv.mk _ _ _ _ _ ((_ || _) || _) _ _ = Dv.mk _ _ _ _ _ (_ || _) _ _
    rw [Bool.or_assoc]
    simp only [hn, Bool.or_self]; rfl
/-- In terms of events. -/
theorem step_twice (s : Hs) (t x a b : Int) : (stepE s ⟨t, x, 2, a, b⟩ = stepE s ⟨t, x, 0, a, b⟩) ∧ stepH (stepH s ⟨t, x, 2, a, b⟩) ⟨t, x, 0, a, b⟩ = stepH s ⟨t, x, 0, a, b⟩ ∧
    (stepE s ⟨t, x, 2, a, b⟩ = 0 → stepE (stepH s ⟨t, x, 2, a, b⟩) ⟨t, x, 0, a, b⟩ = 0 ∨ stepE (stepH s ⟨t, x, 2, a, b⟩) ⟨t, x, 0, a, b⟩ = 6) := by
  have hb : ∀ u : Hs, badE u ⟨t, x, 2, a, b⟩ ↔ badE u ⟨t, x, 0, a, b⟩ := fun u => by unfold badE; simp only; omega
  by_cases nb : badE s ⟨t, x, 0, a, b⟩
  · have e1 : stepE s ⟨t, x, 2, a, b⟩ = 1 := if_pos ((hb s).2 nb)
    have e2 : stepH s ⟨t, x, 2, a, b⟩ = s := if_pos ((hb s).2 nb)
    rw [e1, e2]
    exact ⟨(if_pos nb : stepE s ⟨t, x, 0, a, b⟩ = 1).symm, rfl, fun h => absurd h (by decide)⟩
  have nb2 : ¬ badE s ⟨t, x, 2, a, b⟩ := fun c => nb ((hb s).1 c)
  have hlt : x.toNat < s.devs.length := by unfold badE at nb; simp only at nb; omega
  have h : s.devs[x.toNat]? = some s.devs[x.toNat] := List.getElem?_eq_getElem hlt
  generalize s.devs[x.toNat] = d at *
  have E : ∀ k, ¬ badE s ⟨t, x, k, a, b⟩ → stepE s ⟨t, x, k, a, b⟩ = evE s d ⟨t, x, k, a, b⟩ ∧ stepH s ⟨t, x, k, a, b⟩ = evH s x.toNat d ⟨t, x, k, a, b⟩ := fun k hk => by
    unfold stepE stepH
    rw [if_neg hk, if_neg hk]
    show (match s.devs[x.toNat]? with | some d => evE s d ⟨t, x, k, a, b⟩ | none => 1) = _ ∧ (match s.devs[x.toNat]? with | some d => evH s x.toNat d ⟨t, x, k, a, b⟩ | none => s) = _
    rw [h]; exact ⟨rfl, rfl⟩
  obtain ⟨a1, a2⟩ := E 0 nb
  obtain ⟨b1, b2⟩ := E 2 nb2
  have a1 : stepE s ⟨t, x, 0, a, b⟩ = hasE d a := a1
  have b1 : stepE s ⟨t, x, 2, a, b⟩ = hasE d a := b1
  have a2 : stepH s ⟨t, x, 0, a, b⟩ = arriveH s x.toNat d a := a2
  have b2 : stepH s ⟨t, x, 2, a, b⟩ = repeatH s x.toNat d a := b2
  rw [a1, b1]
  refine ⟨rfl, ?_⟩
  by_cases z : hasE d a = 0
  rotate_left
  · have e : repeatH s x.toNat d a = s := if_pos z
    rw [b2, e]
    exact ⟨rfl, fun c => absurd c z⟩
  obtain ⟨d1, h1, h2, h3⟩ := twice h z
  rw [a2, b2]
  have hlen : (repeatH s x.toNat d a).devs.length = s.devs.length := by
    rw [← b2]
    exact (does_len s ⟨0, ⟨t, x, 2, a, b⟩⟩ : _)
  have nb' : ¬ badE (repeatH s x.toNat d a) ⟨t, x, 0, a, b⟩ := by unfold badE at nb ⊢; rw [hlen]; exact nb
  generalize repeatH s x.toNat d a = v at *
  unfold stepE stepH
  rw [if_neg nb', if_neg nb']
  show (match v.devs[x.toNat]? with | some d => evH v x.toNat d ⟨t, x, 0, a, b⟩ | none => v) = _ ∧ (_ → (match v.devs[x.toNat]? with | some d => evE v d ⟨t, x, 0, a, b⟩ | none => 1) = 0 ∨ (match v.devs[x.toNat]? with | some d => evE v d ⟨t, x, 0, a, b⟩ | none => 1) = 6)
  rw [h1]
  exact ⟨h2, fun _ => h3⟩
theorem shown_put {s : Hs} {i : Nat} {d : Dv} (h : s.devs[i]? = some d) {d' : Dv} (hl : d'.live = d.live) (hm : d'.mom = d.mom) (x : Int) : shownE (s.put i d') x = shownE s x := by
  unfold shownE
  rw [put_len]
  by_cases c : x < 0 ∨ (s.devs.length : Int) ≤ x
  · rw [if_pos c, if_pos c]
  rw [if_neg c, if_neg c]
  by_cases e : x.toNat = i
  · rw [e, put_get h, h]
    show (if d'.live = false then [] else s.dec.take d'.mom.toNat) = (if d.live = false then [] else s.dec.take d.mom.toNat)
    rw [hl, hm]
  · have : (s.put i d').devs[x.toNat]? = s.devs[x.toNat]? := List.getElem?_set_ne (Ne.symm e)
    rw [this]; rfl
/-- What is lost is not seen. -/
theorem lose_obs (s : Hs) (t x a b : Int) : (stepH s ⟨t, x, 1, a, b⟩).dec = s.dec ∧ (stepH s ⟨t, x, 1, a, b⟩).ans = s.ans ∧ ∀ y, shownE (stepH s ⟨t, x, 1, a, b⟩) y = shownE s y := by
  unfold stepH
  split
  · exact ⟨rfl, rfl, fun _ => rfl⟩
  · split
    · rename_i d h
      show (loseH s _ d a).dec = _ ∧ (loseH s _ d a).ans = _ ∧ ∀ y, shownE (loseH s _ d a) y = _
      unfold loseH
      split
      · exact ⟨rfl, rfl, fun _ => rfl⟩
      · obtain ⟨u1, u2, u3, u4, u5⟩ := setf_keeps d a false
        exact ⟨rfl, rfl, fun y => shown_put h u2 u3 y⟩
    · exact ⟨rfl, rfl, fun _ => rfl⟩
end Go.Proofs.Ytjpknjicfoiheaa
