/- What every act keeps, in plain terms. -/
import Derived.Test.YtjpknjicfoiheaaPj
set_option linter.unusedSimpArgs false
set_option linter.unusedVariables false
set_option linter.unusedSectionVars false
namespace Go.Proofs.Ytjpknjicfoiheaa
open Go.RowKit Dak
/-- What was announced: what is decided, and what is to be. -/
def tot (s : Hs) : List Int := s.dec ++ (if s.now = 0 then [] else [s.now])
structure Mv (s t : Hs) : Prop where
  len : t.devs.length = s.devs.length
  tot : tot t = tot s
  pre : s.dec <+: t.dec
  ans : t.ans = s.ans
theorem Mv.refl (s : Hs) : Mv s s := ⟨rfl, rfl, List.prefix_refl _, rfl⟩
theorem Mv.trans {s t u : Hs} (a : Mv s t) (b : Mv t u) : Mv s u := ⟨b.len.trans a.len, b.tot.trans a.tot, a.pre.trans b.pre, b.ans.trans a.ans⟩
theorem mv_put (s : Hs) (i : Nat) (d : Dv) : Mv s (s.put i d) := ⟨put_len _ _ _, rfl, List.prefix_refl _, rfl⟩
theorem mv_decide (s : Hs) : Mv s (decideH s) := by
  unfold decideH
  split
  · exact .refl s
  · rename_i h
    refine ⟨by simp, ?_, List.prefix_append _ _, rfl⟩
    have : ¬ s.now = 0 := fun e => h (.inl e)
    simp [Go.Proofs.Ytjpknjicfoiheaa.tot, this]
theorem mv_arrives (s : Hs) (i : Nat) (d : Dv) (k : Int) : Mv s (arrivesH s i d k) := by
  unfold arrivesH
  split
  · exact .refl s
  · split
    · split
      · exact mv_put _ _ _
      · exact .refl s
    · split
      · split
        · exact (mv_put _ _ _).trans (mv_decide _)
        · exact .refl s
      · exact mv_put _ _ _
theorem mv_arrive (s : Hs) (i : Nat) (d : Dv) (k : Int) : Mv s (arriveH s i d k) := by
  unfold arriveH
  split
  · exact .refl s
  · exact (mv_put _ _ _).trans (mv_arrives _ _ _ _)
theorem mv_lose (s : Hs) (i : Nat) (d : Dv) (k : Int) : Mv s (loseH s i d k) := by
  unfold loseH
  split
  · exact .refl s
  · exact mv_put _ _ _
theorem mv_repeat (s : Hs) (i : Nat) (d : Dv) (k : Int) : Mv s (repeatH s i d k) := by
  unfold repeatH
  split
  · exact .refl s
  · split
    · split
      · exact (mv_arrives _ _ _ _).trans (mv_put _ _ _)
      · exact mv_arrives _ _ _ _
    · exact mv_arrives _ _ _ _
theorem mv_fail (s : Hs) (i : Nat) (d : Dv) : Mv s (failH s i d) := by
  unfold failH
  split
  · exact .refl s
  · exact (mv_put _ _ _).trans (mv_decide _)
theorem mv_back (s : Hs) (i : Nat) (d : Dv) : Mv s (backH s i d) := by
  unfold backH
  split
  · exact mv_put _ _ _
  · exact .refl s
theorem mv_resend (s : Hs) : Mv s (resendH s) := ⟨by simp [resendH], rfl, List.prefix_refl _, rfl⟩
/-- A decision that can be made is made. -/
def Wt (s : Hs) : Prop := s.now ≠ 0 → s.devs.any waitsD = true
theorem wt_decide (s : Hs) : Wt (decideH s) := by
  unfold decideH
  split
  · rename_i h
    intro hn
    rcases h with h | h
    · exact absurd h hn
    · exact h
  · intro hn; exact absurd rfl hn
theorem any_set {α : Type} {p : α → Bool} {l : List α} {i : Nat} {a b : α} (h : l[i]? = some a) (hp : p a = true → p b = true) (hl : l.any p = true) : (l.set i b).any p = true := by
  obtain ⟨x, hx, hpx⟩ := List.any_eq_true.1 hl
  obtain ⟨j, hj⟩ := List.getElem?_of_mem hx
  have hil := (List.getElem?_eq_some_iff.1 h).1
  by_cases e : i = j
  · subst e
    rw [h] at hj; cases hj
    exact List.any_eq_true.2 ⟨b, List.mem_iff_getElem?.2 ⟨i, List.getElem?_set_self hil⟩, hp hpx⟩
  · exact List.any_eq_true.2 ⟨x, List.mem_iff_getElem?.2 ⟨j, by rw [List.getElem?_set_ne e]; exact hj⟩, hpx⟩
theorem wt_put {s : Hs} {i : Nat} {d d' : Dv} (h : s.devs[i]? = some d) (hw : waitsD d = true → waitsD d' = true) (w : Wt s) : Wt (s.put i d') := fun hn => any_set h hw (w hn)
theorem waits_setf (d : Dv) (k : Int) (b : Bool) : waitsD (d.setf k b) = waitsD d := by
  unfold Dv.setf
  split
  · rfl
  · split <;> rfl
theorem wt_arrives {s : Hs} {i : Nat} {d : Dv} (h : s.devs[i]? = some d) (k : Int) (w : Wt s) : Wt (arrivesH s i d k) := by
  unfold arrivesH
  split
  · exact w
  · split
    · split
      · exact wt_put h (fun x => x) w
      · exact w
    · split
      · split
        · exact wt_decide _
        · exact w
      · exact wt_put h (fun _ => rfl) w
theorem wt_arrive {s : Hs} {i : Nat} {d : Dv} (h : s.devs[i]? = some d) (k : Int) (w : Wt s) : Wt (arriveH s i d k) := by
  unfold arriveH
  split
  · exact w
  · exact wt_arrives (put_get h _) k (wt_put h (by rw [waits_setf]; exact id) w)
theorem wt_lose {s : Hs} {i : Nat} {d : Dv} (h : s.devs[i]? = some d) (k : Int) (w : Wt s) : Wt (loseH s i d k) := by
  unfold loseH
  split
  · exact w
  · exact wt_put h (by rw [waits_setf]; exact id) w
theorem wt_repeat {s : Hs} {i : Nat} {d : Dv} (h : s.devs[i]? = some d) (k : Int) (w : Wt s) : Wt (repeatH s i d k) := by
  unfold repeatH
  split
  · exact w
  · split
    · split
      · rename_i d' hd'
        exact wt_put hd' (by rw [waits_setf]; exact id) (wt_arrives h k w)
      · exact wt_arrives h k w
    · exact wt_arrives h k w
theorem wt_fail (s : Hs) (i : Nat) (d : Dv) (w : Wt s) : Wt (failH s i d) := by
  unfold failH
  split
  · exact w
  · exact wt_decide _
theorem wt_back {s : Hs} {i : Nat} {d : Dv} (h : s.devs[i]? = some d) (w : Wt s) : Wt (backH s i d) := by
  unfold backH
  split
  · exact wt_put h (fun x => x) w
  · exact w
theorem waits_res (s : Hs) (d : Dv) : waitsD (s.res d) = waitsD d := by
  unfold Hs.res
  split
  · rfl
  · split
    · rfl
    · split <;> rfl
theorem wt_resend {s : Hs} (w : Wt s) : Wt (resendH s) := by
  intro hn
  have := w hn
  unfold resendH
  rw [List.any_map]
  obtain ⟨x, hx, hpx⟩ := List.any_eq_true.1 this
  refine List.any_eq_true.2 ⟨x, hx, ?_⟩
  show waitsD (stepD (fun d => d.up) s.res x) = true
  unfold stepD
  split
  · rw [waits_res]; exact hpx
  · exact hpx
/-- Something holds of all devices. -/
def All (F : Nat → Nat → Dv → Prop) (s : Hs) : Prop := ∀ i d, s.devs[i]? = some d → F i s.dec.length d
theorem all_put {F F' : Nat → Nat → Dv → Prop} {s : Hs} {i : Nat} {d' : Dv} (a : All F s) (ho : ∀ j e, j ≠ i → F j s.dec.length e → F' j s.dec.length e) (hi : F' i s.dec.length d') : All F' (s.put i d') := by
  intro j e hj
  have hj : (s.devs.set i d')[j]? = some e := hj
  by_cases c : i = j
  · subst c
    rw [List.getElem?_set] at hj
    split at hj
    · split at hj
      · cases hj; exact hi
      · cases hj
    · rename_i c; exact absurd rfl c
  · rw [List.getElem?_set_ne c] at hj
    exact ho j e (Ne.symm c) (a j e hj)
theorem all_decide {F : Nat → Nat → Dv → Prop} {s : Hs} (a : All F s) (hc : ∀ j e, F j s.dec.length e → waitsD e = false → F j (s.dec.length + 1) e.cut) : All F (decideH s) := by
  unfold decideH
  split
  · exact a
  · rename_i h
    intro j e hj
    have hj : (s.devs.map Dv.cut)[j]? = some e := hj
    have hl : ({ s with dec := s.dec ++ [s.now], now := 0, devs := s.devs.map Dv.cut } : Hs).dec.length = s.dec.length + 1 := by simp
    rw [hl]
    rw [List.getElem?_map] at hj
    cases hx : s.devs[j]? with
    | none => rw [hx] at hj; cases hj
    | some x =>
      rw [hx] at hj; cases hj
      refine hc j x (a j x hx) ?_
      have : s.devs.any waitsD = false := by
        cases hb : s.devs.any waitsD with
        | false => rfl
        | true => exact absurd (.inr hb) h
      cases hw : waitsD x with
      | false => rfl
      | true =>
        have := List.any_eq_true.2 ⟨x, List.mem_of_getElem? hx, hw⟩
        simp_all
theorem all_map {F F' : Nat → Nat → Dv → Prop} {s t : Hs} (g : Dv → Dv) (a : All F s) (hd : t.devs = s.devs.map g) (hl : t.dec.length = s.dec.length) (hc : ∀ j e, F j s.dec.length e → F' j s.dec.length (g e)) : All F' t := by
  intro j e hj
  rw [hd, List.getElem?_map] at hj
  rw [hl]
  cases hx : s.devs[j]? with
  | none => rw [hx] at hj; cases hj
  | some x => rw [hx] at hj; cases hj; exact hc j x (a j x hx)
/-- A device, with whether it got the message about the next erratum. -/
structure PD (h : Bool) (len : Nat) (d : Dv) : Prop where
  m0 : 0 ≤ d.mom
  m1 : d.mom ≤ len
  up : d.up = false → d.live = false ∧ d.holds = false ∧ d.done = false
  ho : d.holds = true → h = true
  dn : d.done = true → h = true
  lt : d.live = true → d.mom < len → h = true
def PH (H : Nat → Bool) : Nat → Nat → Dv → Prop := fun i len d => PD (H i) len d
def upd (H : Nat → Bool) (i : Nat) (b : Bool) : Nat → Bool := fun j => if j = i then b else H j
theorem upd_self (H : Nat → Bool) (i : Nat) (b : Bool) : upd H i b i = b := if_pos rfl
theorem upd_ne (H : Nat → Bool) {i j : Nat} (b : Bool) (h : j ≠ i) : upd H i b j = H j := if_neg h
theorem pd_setf {h : Bool} {len : Nat} {d : Dv} (k : Int) (b : Bool) (p : PD h len d) : PD h len (d.setf k b) := by
  unfold Dv.setf
  split
  · exact ⟨p.m0, p.m1, p.up, p.ho, p.dn, p.lt⟩
  · split
    · exact ⟨p.m0, p.m1, p.up, p.ho, p.dn, p.lt⟩
    · exact ⟨p.m0, p.m1, p.up, p.ho, p.dn, p.lt⟩
theorem setf_up (d : Dv) (k : Int) (b : Bool) : (d.setf k b).up = d.up := by
  unfold Dv.setf
  split
  · rfl
  · split <;> rfl
theorem pd_true {h : Bool} {len : Nat} {d : Dv} (p : PD h len d) : PD true len d := ⟨p.m0, p.m1, p.up, fun _ => rfl, fun _ => rfl, fun _ _ => rfl⟩
theorem ph_decide {H : Nat → Bool} {s : Hs} (a : All (PH H) s) : All (PH H) (decideH s) := by
  refine all_decide a fun j e p hw => ?_
  have : e.live = true → e.done = true := by
    intro hl
    simp only [waitsD, hl, Bool.true_and] at hw
    cases hd : e.done with
    | true => rfl
    | false => rw [hd] at hw; cases hw
  refine ⟨p.m0, by have := p.m1; show e.mom ≤ ((s.dec.length + 1 : Nat) : Int); omega, fun u => ⟨(p.up u).1, (p.up u).2.1, rfl⟩, p.ho, fun h => (by cases h), fun hl _ => p.dn (this hl)⟩
def updK (H : Nat → Bool) (i : Nat) (k : Int) : Nat → Bool := if k = 0 then upd H i true else if k = 2 then upd H i false else H
theorem ph_same {H : Nat → Bool} {s : Hs} {i : Nat} {d : Dv} (h : s.devs[i]? = some d) (a : All (PH H) s) {H' : Nat → Bool} (ho : ∀ j, j ≠ i → H' j = H j) (hi : PD (H' i) s.dec.length d) : All (PH H') s := by
  intro j e hj
  by_cases c : j = i
  · subst c; rw [h] at hj; cases hj; exact hi
  · show PD (H' j) _ _
    rw [ho j c]; exact a j e hj
theorem updK_ne (H : Nat → Bool) {i j : Nat} (k : Int) (h : j ≠ i) : updK H i k j = H j := by
  unfold updK
  split
  · exact upd_ne _ _ h
  · split
    · exact upd_ne _ _ h
    · rfl
theorem ph_arrives {H : Nat → Bool} {s : Hs} {i : Nat} {d : Dv} (h : s.devs[i]? = some d) {k : Int} (hk : k = 0 ∨ k = 1 ∨ k = 2) (a : All (PH H) s) : All (PH (updK H i k)) (arrivesH s i d k) := by
  have p : PD (H i) s.dec.length d := a i d h
  unfold arrivesH
  split
  · rename_i u
    refine ph_same h a (fun j => updK_ne H k) ?_
    obtain ⟨l, o, n⟩ := p.up u
    exact ⟨p.m0, p.m1, p.up, fun x => (by rw [o] at x; cases x), fun x => (by rw [n] at x; cases x), fun x => (by rw [l] at x; cases x)⟩
  · rename_i u
    split
    · rename_i k0
      have e : updK H i k = upd H i true := if_pos k0
      rw [e]
      split
      · refine all_put a (fun j x hj q => by show PD _ _ _; rw [upd_ne _ _ hj]; exact q) ?_
        show PD _ _ _
        rw [upd_self]
        refine ⟨p.m0, p.m1, fun x => absurd x (by simpa [Dv.prep] using u), fun _ => rfl, fun _ => rfl, fun _ _ => rfl⟩
      · exact ph_same h a (fun j hj => upd_ne _ _ hj) (by rw [upd_self]; exact pd_true p)
    · rename_i k0
      split
      · rename_i k1
        have e : updK H i k = H := by unfold updK; rw [if_neg k0, if_neg (by omega)]
        rw [e]
        split
        · rename_i c
          refine ph_decide (all_put a (fun j x hj q => q) ?_)
          exact ⟨p.m0, p.m1, fun x => absurd x (by simpa [Dv.tell] using u), p.ho, fun _ => p.ho c.2.2.1, p.lt⟩
        · exact a
      · rename_i k1
        have e : updK H i k = upd H i false := by unfold updK; rw [if_neg k0, if_pos (by omega)]
        rw [e]
        refine all_put a (fun j x hj q => by show PD _ _ _; rw [upd_ne _ _ hj]; exact q) ?_
        show PD _ _ _
        rw [upd_self]
        refine ⟨by simp [Dv.show], by simp [Dv.show], fun x => absurd x (by simpa [Dv.show] using u), fun x => by simp [Dv.show] at x, fun x => by simp [Dv.show] at x, fun _ x => by simp [Dv.show] at x⟩
theorem ph_arrive {H : Nat → Bool} {s : Hs} {i : Nat} {d : Dv} (h : s.devs[i]? = some d) {k : Int} (hk : hasE d k = 0) (a : All (PH H) s) : All (PH (updK H i k)) (arriveH s i d k) := by
  unfold arriveH
  rw [if_neg (by simp [hk])]
  exact ph_arrives (put_get h _) (hasE_ok hk).1 (all_put a (fun j x hj q => q) (pd_setf _ _ (a i d h)))
theorem ph_setf {H : Nat → Bool} {s : Hs} {i : Nat} {d : Dv} (h : s.devs[i]? = some d) (k : Int) (b : Bool) (a : All (PH H) s) : All (PH H) (s.put i (d.setf k b)) := all_put a (fun j x hj q => q) (pd_setf _ _ (a i d h))
theorem ph_repeat {H : Nat → Bool} {s : Hs} {i : Nat} {d : Dv} (h : s.devs[i]? = some d) {k : Int} (hk : hasE d k = 0) (a : All (PH H) s) : All (PH (updK H i k)) (repeatH s i d k) := by
  have b := ph_arrives h (hasE_ok hk).1 a
  unfold repeatH
  rw [if_neg (by simp [hk])]
  split
  · split
    · rename_i d' hd'
      exact ph_setf hd' _ _ b
    · exact b
  · exact b
theorem ph_fail {H : Nat → Bool} {s : Hs} {i : Nat} {d : Dv} (h : s.devs[i]? = some d) (a : All (PH H) s) (hu : d.up = true) : All (PH (upd H i false)) (failH s i d) := by
  have p : PD (H i) s.dec.length d := a i d h
  unfold failH
  rw [if_neg (by simp [hu])]
  refine ph_decide (all_put a (fun j x hj q => by show PD _ _ _; rw [upd_ne _ _ hj]; exact q) ?_)
  exact ⟨p.m0, p.m1, fun _ => ⟨rfl, rfl, rfl⟩, fun x => (by cases x), fun x => (by cases x), fun x => (by cases x)⟩
theorem ph_back {H : Nat → Bool} {s : Hs} {i : Nat} {d : Dv} (h : s.devs[i]? = some d) (a : All (PH H) s) : All (PH H) (backH s i d) := by
  have p : PD (H i) s.dec.length d := a i d h
  unfold backH
  split
  · refine all_put a (fun j x hj q => q) ⟨p.m0, p.m1, fun x => (by cases x), p.ho, p.dn, p.lt⟩
  · exact a
theorem ph_map {H : Nat → Bool} {s t : Hs} (g : Dv → Dv) (a : All (PH H) s) (hd : t.devs = s.devs.map g) (hl : t.dec.length = s.dec.length) (hg : ∀ e, (g e).up = e.up ∧ (g e).live = e.live ∧ (g e).mom = e.mom ∧ ((g e).holds = true → e.holds = true) ∧ ((g e).done = true → e.done = true)) : All (PH H) t := by
  refine all_map g a hd hl fun j e p => ?_
  obtain ⟨g1, g2, g3, g4, g5⟩ := hg e
  refine ⟨by rw [g3]; exact p.m0, by rw [g3]; exact p.m1, fun u => ?_, fun x => p.ho (g4 x), fun x => p.dn (g5 x), fun x y => p.lt (by rw [← g2]; exact x) (by rw [← g3]; exact y)⟩
  rw [g1] at u
  obtain ⟨a1, a2, a3⟩ := p.up u
  refine ⟨by rw [g2]; exact a1, ?_, ?_⟩
  · cases hb : (g e).holds with
    | false => rfl
    | true => rw [g4 hb] at a2; cases a2
  · cases hb : (g e).done with
    | false => rfl
    | true => rw [g5 hb] at a3; cases a3
theorem res_keeps (s : Hs) (e : Dv) : (s.res e).up = e.up ∧ (s.res e).live = e.live ∧ (s.res e).mom = e.mom ∧ (s.res e).holds = e.holds ∧ (s.res e).done = e.done := by
  unfold Hs.res
  split
  · exact ⟨rfl, rfl, rfl, rfl, rfl⟩
  · split
    · exact ⟨rfl, rfl, rfl, rfl, rfl⟩
    · split
      · exact ⟨rfl, rfl, rfl, rfl, rfl⟩
      · exact ⟨rfl, rfl, rfl, rfl, rfl⟩
theorem ph_resend {H : Nat → Bool} {s : Hs} (a : All (PH H) s) : All (PH H) (resendH s) := by
  refine ph_map _ a (t := resendH s) rfl rfl fun e => ?_
  unfold stepD
  split
  · obtain ⟨r1, r2, r3, r4, r5⟩ := res_keeps s e
    exact ⟨r1, r2, r3, fun x => r4 ▸ x, fun x => r5 ▸ x⟩
  · exact ⟨rfl, rfl, rfl, id, id⟩
theorem ph_begin {H : Nat → Bool} {s : Hs} (n : Int) (a : All (PH H) s) : All (PH H) (beginH s n) := by
  refine ph_map _ a (t := beginH s n) rfl rfl fun e => ?_
  unfold stepD
  split
  · exact ⟨rfl, rfl, rfl, fun x => (by cases x), fun x => (by cases x)⟩
  · exact ⟨rfl, rfl, rfl, id, id⟩
end Go.Proofs.Ytjpknjicfoiheaa
