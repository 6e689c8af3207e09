/- Four rounds of messages, in plain terms. -/
import Derived.Test.YtjpknjicfoiheaaPn
set_option linter.unusedSimpArgs false
set_option linter.unusedVariables false
set_option linter.unusedSectionVars false
namespace Go.Proofs.Ytjpknjicfoiheaa
open Go.RowKit Dak
/-- What a message that arrives makes of its device. -/
def arrD (len : Nat) (b : Bool) (d : Dv) (a : Int) : Dv :=
  if d.fl a = false then d else if d.up = false then d.setf a false else
  if a = 0 then (if b = true ∧ d.live = true ∧ ¬ d.mom < len then (d.setf a false).prep else d.setf a false) else
  if a = 1 then (if b = true ∧ d.live = true ∧ d.holds = true ∧ ¬ d.mom < len then (d.setf a false).tell else d.setf a false) else
  { d.setf a false with live := true, mom := len, holds := false, done := false, f0 := d.f0 || b }
theorem put_put (s : Hs) (i : Nat) (d e : Dv) : (s.put i d).put i e = s.put i e := by simp [Hs.put]
theorem put_same {s : Hs} {i : Nat} {d : Dv} (h : s.devs[i]? = some d) : s.put i d = s := by
  unfold Hs.put; rw [set_same h]
theorem setf_keeps (d : Dv) (a : Int) (b : Bool) : (d.setf a b).up = d.up ∧ (d.setf a b).live = d.live ∧ (d.setf a b).mom = d.mom ∧ (d.setf a b).holds = d.holds ∧ (d.setf a b).done = d.done := by
  unfold Dv.setf
  split
  · exact ⟨rfl, rfl, rfl, rfl, rfl⟩
  · split
    · exact ⟨rfl, rfl, rfl, rfl, rfl⟩
    · exact ⟨rfl, rfl, rfl, rfl, rfl⟩
theorem decide_cases (s : Hs) : decideH s = s ∨ (decideH s).now = 0 := by
  unfold decideH
  split
  · exact .inl rfl
  · exact .inr rfl
theorem arr_cases {s : Hs} {i : Nat} {d : Dv} (h : s.devs[i]? = some d) {a : Int} (ha : a = 0 ∨ a = 1 ∨ a = 2) :
    arriveH s i d a = s.put i (arrD s.dec.length (decide (s.now ≠ 0)) d a) ∨ (s.now ≠ 0 ∧ (arriveH s i d a).now = 0) := by
  obtain ⟨u1, u2, u3, u4, u5⟩ := setf_keeps d a false
  by_cases hf : d.fl a = false
  · left
    have e1 : arriveH s i d a = s := if_pos (by unfold hasE; rw [if_neg (by omega), if_pos hf]; decide)
    have e2 : arrD s.dec.length (decide (s.now ≠ 0)) d a = d := if_pos hf
    rw [e1, e2, put_same h]
  have e1 : arriveH s i d a = arrivesH (s.put i (d.setf a false)) i (d.setf a false) a := if_neg (by unfold hasE; rw [if_neg (by omega), if_neg hf]; simp)
  rw [e1]
  unfold arrD
  rw [if_neg hf]
  unfold arrivesH
  rw [u1, u2, u3, u4]
  by_cases hu : d.up = false
  · rw [if_pos hu, if_pos hu]; exact .inl rfl
  rw [if_neg hu, if_neg hu]
  have hn : (s.put i (d.setf a false)).now = s.now := rfl
  have hl : (s.put i (d.setf a false)).dec = s.dec := rfl
  rw [hn, hl]
  by_cases a0 : a = 0
  · rw [if_pos a0, if_pos a0]
    left
    by_cases c : s.now ≠ 0 ∧ d.live = true ∧ ¬ d.mom < s.dec.length
    · rw [if_pos c, if_pos (by simpa using c), put_put]
    · rw [if_neg c, if_neg (by simpa using c)]
  rw [if_neg a0, if_neg a0]
  by_cases a1 : a = 1
  · rw [if_pos a1, if_pos a1]
    by_cases c : s.now ≠ 0 ∧ d.live = true ∧ d.holds = true ∧ ¬ d.mom < s.dec.length
    · rw [if_pos c, if_pos (by simpa using c), put_put]
      rcases decide_cases (s.put i (d.setf a false).tell) with e | e
      · left; rw [e]
      · right; exact ⟨c.1, e⟩
    · rw [if_neg c, if_neg (by simpa using c)]
      exact .inl rfl
  rw [if_neg a1, if_neg a1]
  left
  rw [put_put]
  have a2 : a = 2 := by omega
  subst a2
  rfl
/-- What is to hold of the devices from round to round. -/
def U (d : Dv) : Prop := d.up = false → d.live = false
def qq0 (len : Nat) (d : Dv) : Prop := U d ∧ (d.up = true → d.live = true ∧ ¬ d.mom < len ∧ d.f2 = false)
def pp0 (len : Nat) (d : Dv) : Prop := U d ∧ (d.up = true → (d.live = true ∧ ¬ d.mom < len) ∨ d.f2 = true)
def pp1 (len : Nat) (d : Dv) : Prop := qq0 len d ∧ (d.up = true → d.holds = true ∨ d.f0 = true)
def qq1 (len : Nat) (d : Dv) : Prop := qq0 len d ∧ (d.up = true → d.holds = true)
def pp2 (len : Nat) (d : Dv) : Prop := qq1 len d ∧ (d.up = true → d.done = true ∨ d.f1 = true)
def qq2 (len : Nat) (d : Dv) : Prop := qq1 len d ∧ (d.up = true → d.done = true)
set_option maxHeartbeats 4000000 in
theorem qq0_arr {len : Nat} {d : Dv} (b : Bool) {a : Int} (ha : a = 0 ∨ a = 1 ∨ a = 2) (h : qq0 len d) : qq0 len (arrD len b d a) := by
  obtain ⟨up, live, mom, holds, done, f0, f1, f2⟩ := d
  unfold qq0 U at *
  by_cases hm : mom < len <;> rcases ha with rfl | rfl | rfl <;> cases up <;> cases live <;> cases f0 <;> cases f1 <;> cases f2 <;> cases holds <;> cases b <;> simp_all [arrD, Dv.fl, Dv.setf, Dv.prep, Dv.tell]
set_option maxHeartbeats 4000000 in
theorem pp0_arr {len : Nat} {d : Dv} (b : Bool) {a : Int} (ha : a = 0 ∨ a = 1 ∨ a = 2) (h : pp0 len d) : pp0 len (arrD len b d a) := by
  obtain ⟨up, live, mom, holds, done, f0, f1, f2⟩ := d
  unfold pp0 U at *
  by_cases hm : mom < len <;> rcases ha with rfl | rfl | rfl <;> cases up <;> cases live <;> cases f0 <;> cases f1 <;> cases f2 <;> cases holds <;> cases b <;> simp_all [arrD, Dv.fl, Dv.setf, Dv.prep, Dv.tell]
set_option maxHeartbeats 4000000 in
theorem pp0_hit {len : Nat} {d : Dv} (b : Bool) (h : pp0 len d) : qq0 len (arrD len b d 2) := by
  obtain ⟨up, live, mom, holds, done, f0, f1, f2⟩ := d
  unfold pp0 U at h
  unfold qq0 U
  by_cases hm : mom < len <;> cases up <;> cases live <;> cases f2 <;> simp_all [arrD, Dv.fl, Dv.setf, Dv.prep, Dv.tell]
set_option maxHeartbeats 4000000 in
theorem qq1_arr {len : Nat} {d : Dv} {a : Int} (ha : a = 0 ∨ a = 1 ∨ a = 2) (h : qq1 len d) : qq1 len (arrD len true d a) := by
  obtain ⟨up, live, mom, holds, done, f0, f1, f2⟩ := d
  refine ⟨qq0_arr true ha h.1, ?_⟩
  cases up with
  | false => rcases ha with rfl | rfl | rfl <;> cases f0 <;> cases f1 <;> cases f2 <;> intro hu <;> simp [arrD, Dv.fl, Dv.setf] at hu
  | true =>
    obtain ⟨h2, h3, h4⟩ := h.1.2 rfl
    have hh := h.2 rfl
    simp only at h2 h3 h4 hh
    subst h2 h4
    clear h
    intro _
    rcases ha with rfl | rfl | rfl <;> cases f0 <;> cases f1 <;> cases done <;> cases holds <;> simp_all [arrD, Dv.fl, Dv.setf, Dv.prep, Dv.tell]
set_option maxHeartbeats 4000000 in
theorem pp1_arr {len : Nat} {d : Dv} {a : Int} (ha : a = 0 ∨ a = 1 ∨ a = 2) (h : pp1 len d) : pp1 len (arrD len true d a) := by
  obtain ⟨up, live, mom, holds, done, f0, f1, f2⟩ := d
  refine ⟨qq0_arr true ha h.1, ?_⟩
  cases up with
  | false => rcases ha with rfl | rfl | rfl <;> cases f0 <;> cases f1 <;> cases f2 <;> intro hu <;> simp [arrD, Dv.fl, Dv.setf] at hu
  | true =>
    obtain ⟨h2, h3, h4⟩ := h.1.2 rfl
    have hh := h.2 rfl
    simp only at h2 h3 h4 hh
    subst h2 h4
    clear h
    intro _
    rcases ha with rfl | rfl | rfl <;> cases f0 <;> cases f1 <;> cases done <;> cases holds <;> simp_all [arrD, Dv.fl, Dv.setf, Dv.prep, Dv.tell]
set_option maxHeartbeats 4000000 in
theorem pp1_hit {len : Nat} {d : Dv} (h : pp1 len d) : qq1 len (arrD len true d 0) := by
  obtain ⟨up, live, mom, holds, done, f0, f1, f2⟩ := d
  refine ⟨qq0_arr true (.inl rfl) h.1, ?_⟩
  cases up with
  | false => cases f0 <;> cases f1 <;> cases f2 <;> intro hu <;> simp [arrD, Dv.fl, Dv.setf] at hu
  | true =>
    obtain ⟨h2, h3, h4⟩ := h.1.2 rfl
    have hh := h.2 rfl
    simp only at h2 h3 h4 hh
    subst h2 h4
    clear h
    intro _
    cases f0 <;> cases f1 <;> cases done <;> cases holds <;> simp_all [arrD, Dv.fl, Dv.setf, Dv.prep, Dv.tell]
set_option maxHeartbeats 4000000 in
theorem qq2_arr {len : Nat} {d : Dv} {a : Int} (ha : a = 0 ∨ a = 1 ∨ a = 2) (h : qq2 len d) : qq2 len (arrD len true d a) := by
  obtain ⟨up, live, mom, holds, done, f0, f1, f2⟩ := d
  refine ⟨qq1_arr ha h.1, ?_⟩
  cases up with
  | false => rcases ha with rfl | rfl | rfl <;> cases f0 <;> cases f1 <;> cases f2 <;> intro hu <;> simp [arrD, Dv.fl, Dv.setf] at hu
  | true =>
    obtain ⟨h2, h3, h4⟩ := h.1.1.2 rfl
    have h5 := h.1.2 rfl
    have hh := h.2 rfl
    simp only at h2 h3 h4 h5 hh
    subst h2 h4 h5
    clear h
    intro _
    rcases ha with rfl | rfl | rfl <;> cases f0 <;> cases f1 <;> cases done <;> simp_all [arrD, Dv.fl, Dv.setf, Dv.prep, Dv.tell]
set_option maxHeartbeats 4000000 in
theorem pp2_arr {len : Nat} {d : Dv} {a : Int} (ha : a = 0 ∨ a = 1 ∨ a = 2) (h : pp2 len d) : pp2 len (arrD len true d a) := by
  obtain ⟨up, live, mom, holds, done, f0, f1, f2⟩ := d
  refine ⟨qq1_arr ha h.1, ?_⟩
  cases up with
  | false => rcases ha with rfl | rfl | rfl <;> cases f0 <;> cases f1 <;> cases f2 <;> intro hu <;> simp [arrD, Dv.fl, Dv.setf] at hu
  | true =>
    obtain ⟨h2, h3, h4⟩ := h.1.1.2 rfl
    have h5 := h.1.2 rfl
    have hh := h.2 rfl
    simp only at h2 h3 h4 h5 hh
    subst h2 h4 h5
    clear h
    intro _
    rcases ha with rfl | rfl | rfl <;> cases f0 <;> cases f1 <;> cases done <;> simp_all [arrD, Dv.fl, Dv.setf, Dv.prep, Dv.tell]
set_option maxHeartbeats 4000000 in
theorem pp2_hit {len : Nat} {d : Dv} (h : pp2 len d) : qq2 len (arrD len true d 1) := by
  obtain ⟨up, live, mom, holds, done, f0, f1, f2⟩ := d
  refine ⟨qq1_arr (.inr (.inl rfl)) h.1, ?_⟩
  cases up with
  | false => cases f0 <;> cases f1 <;> cases f2 <;> intro hu <;> simp [arrD, Dv.fl, Dv.setf] at hu
  | true =>
    obtain ⟨h2, h3, h4⟩ := h.1.1.2 rfl
    have h5 := h.1.2 rfl
    have hh := h.2 rfl
    simp only at h2 h3 h4 h5 hh
    subst h2 h4 h5
    clear h
    intro _
    cases f0 <;> cases f1 <;> cases done <;> simp_all [arrD, Dv.fl, Dv.setf, Dv.prep, Dv.tell]
/-- Resend. -/
theorem all_resend {p q : Nat → Dv → Prop} {s : Hs} (h : All (fun _ => p) s) (hr : ∀ d, p s.dec.length d → d.up = true → q s.dec.length (s.res d)) (hn : ∀ d, p s.dec.length d → d.up = false → q s.dec.length d) : All (fun _ => q) (resendH s) := by
  refine all_map _ h (t := resendH s) rfl rfl fun j e pe => ?_
  show q s.dec.length (if e.up = true then s.res e else e)
  by_cases hu : e.up = true
  · rw [if_pos hu]; exact hr e pe hu
  · rw [if_neg hu]; exact hn e pe (by simpa using hu)
theorem res_pp0 {s : Hs} {d : Dv} (h : U d) (hu : d.up = true) : pp0 s.dec.length (s.res d) := by
  unfold Hs.res
  by_cases c : d.live = false ∨ d.mom < s.dec.length
  · rw [if_pos c]; exact ⟨h, fun _ => .inr rfl⟩
  · rw [if_neg c]
    have l : d.live = true := by cases hl : d.live with | true => rfl | false => exact absurd (.inl hl) c
    have m : ¬ d.mom < s.dec.length := fun x => c (.inr x)
    split
    · exact ⟨h, fun _ => .inl ⟨l, m⟩⟩
    · split
      · exact ⟨h, fun _ => .inl ⟨l, m⟩⟩
      · exact ⟨h, fun _ => .inl ⟨l, m⟩⟩
theorem res_pp1 {s : Hs} {d : Dv} (h : qq0 s.dec.length d) (hu : d.up = true) (hn : s.now ≠ 0) : pp1 s.dec.length (s.res d) := by
  obtain ⟨l, m, _⟩ := h.2 hu
  unfold Hs.res
  rw [if_neg (show ¬ (d.live = false ∨ d.mom < s.dec.length) by simp [l]; omega)]
  by_cases c : d.holds = false
  · rw [if_pos (show s.now ≠ 0 ∧ d.holds = false from ⟨hn, c⟩)]
    exact ⟨h, fun _ => .inr rfl⟩
  · rw [if_neg (show ¬ (s.now ≠ 0 ∧ d.holds = false) from fun x => c x.2)]
    have c : d.holds = true := by simpa using c
    split
    · exact ⟨h, fun _ => .inl c⟩
    · exact ⟨h, fun _ => .inl c⟩
theorem res_pp2 {s : Hs} {d : Dv} (h : qq1 s.dec.length d) (hu : d.up = true) (hn : s.now ≠ 0) : pp2 s.dec.length (s.res d) := by
  obtain ⟨l, m, _⟩ := h.1.2 hu
  have c := h.2 hu
  unfold Hs.res
  rw [if_neg (show ¬ (d.live = false ∨ d.mom < s.dec.length) by simp [l]; omega), if_neg (show ¬ (s.now ≠ 0 ∧ d.holds = false) by simp [c])]
  by_cases e : d.done = false
  · rw [if_pos (show s.now ≠ 0 ∧ d.done = false from ⟨hn, e⟩)]
    exact ⟨h, fun _ => .inr rfl⟩
  · rw [if_neg (show ¬ (s.now ≠ 0 ∧ d.done = false) from fun x => e x.2)]
    exact ⟨h, fun _ => .inl (by simpa using e)⟩
/-- A round: messages in the order f. -/
def evA (j : Nat) : Ev := ⟨0, ((j / 3 : Nat) : Int), 0, ((j % 3 : Nat) : Int), 0⟩
def rndS (s : Hs) (f : Nat → Nat) : Nat → Hs
  | 0 => resendH s
  | i + 1 => stepH (rndS s f i) (evA (f i))
theorem step_arr {s : Hs} {j : Nat} (hj : j < 3 * s.devs.length) : ∃ d, s.devs[j / 3]? = some d ∧ stepH s (evA j) = arriveH s (j / 3) d ((j % 3 : Nat) : Int) := by
  have h1 : j / 3 < s.devs.length := by omega
  refine ⟨s.devs[j / 3], List.getElem?_eq_getElem h1, ?_⟩
  unfold stepH
  have nb : ¬ badE s (evA j) := by unfold badE evA; simp only; omega
  have e : (evA j).seat.toNat = j / 3 := by simp only [evA]; omega
  rw [if_neg nb, e, List.getElem?_eq_getElem h1]
  rfl
theorem m3 (j : Nat) : ((j % 3 : Nat) : Int) = 0 ∨ ((j % 3 : Nat) : Int) = 1 ∨ ((j % 3 : Nat) : Int) = 2 := by omega
theorem arr_mv {s : Hs} {j : Nat} (hj : j < 3 * s.devs.length) : Mv s (stepH s (evA j)) := by
  obtain ⟨d, _, e⟩ := step_arr hj
  rw [e]; exact mv_arrive _ _ _ _
theorem rnd_len {s : Hs} {f : Nat → Nat} {n : Nat} (hs : s.devs.length = n) (hf : ∀ i, i < 3 * n → f i < 3 * n) : ∀ i, i ≤ 3 * n → Mv s (rndS s f i)
  | 0, _ => mv_resend s
  | i + 1, h => by
    have := rnd_len hs hf i (by omega)
    exact this.trans (arr_mv (by rw [this.len, hs]; exact hf i (by omega)))
theorem rnd_zero {s : Hs} {f : Nat → Nat} {n : Nat} (hs : s.devs.length = n) (hf : ∀ i, i < 3 * n → f i < 3 * n) (h0 : s.now = 0) : ∀ i, i ≤ 3 * n → (rndS s f i).now = 0
  | 0, _ => h0
  | i + 1, h => by
    have ih := rnd_zero hs hf h0 i (by omega)
    obtain ⟨d, hd, e⟩ := step_arr (s := rndS s f i) (j := f i) (by rw [(rnd_len hs hf i (by omega)).len, hs]; exact hf i (by omega))
    rw [rndS, e]
    rcases arr_cases hd (m3 _) with e | ⟨_, e⟩
    · rw [e]; exact ih
    · exact e
/-- A phase: each device gets the message k0. -/
theorem phase {p q : Nat → Dv → Prop} {b : Bool} {k0 : Nat} (hk : k0 < 3) {s : Hs} {f : Nat → Nat} {n : Nat} (hs : s.devs.length = n) (hf : ∀ i, i < 3 * n → f i < 3 * n) (hb : decide (s.now ≠ 0) = b)
    (hsur : ∀ j, j < 3 * n → ∃ i, i < 3 * n ∧ f i = j)
    (hp : ∀ len d (a : Int), (a = 0 ∨ a = 1 ∨ a = 2) → p len d → p len (arrD len b d a)) (hq : ∀ len d (a : Int), (a = 0 ∨ a = 1 ∨ a = 2) → q len d → q len (arrD len b d a)) (hit : ∀ len d, p len d → q len (arrD len b d k0))
    (h0 : All (fun _ => p) (resendH s)) : (b = true ∧ (rndS s f (3 * n)).now = 0) ∨ ((rndS s f (3 * n)).now = s.now ∧ All (fun _ => q) (rndS s f (3 * n))) := by
  have main : ∀ i, i ≤ 3 * n → (b = true ∧ (rndS s f i).now = 0) ∨ ((rndS s f i).now = s.now ∧ All (fun j len d => q len d ∨ (p len d ∧ ∀ i', i' < i → f i' ≠ 3 * j + k0)) (rndS s f i)) := by
    intro i
    induction i with
    | zero => exact fun _ => .inr ⟨rfl, fun j d hd => .inr ⟨h0 j d hd, fun i' h => absurd h (by omega)⟩⟩
    | succ i ih =>
      intro hi
      have hm := rnd_len hs hf i (by omega)
      have hj : f i < 3 * (rndS s f i).devs.length := by rw [hm.len, hs]; exact hf i (by omega)
      obtain ⟨d, hd, e⟩ := step_arr hj
      rw [rndS, e]
      rcases ih (by omega) with ⟨hb1, hz⟩ | ⟨hnow, hA⟩
      · left
        refine ⟨hb1, ?_⟩
        rcases arr_cases hd (m3 (f i)) with e | ⟨_, e⟩
        · rw [e]; exact hz
        · exact e
      · have hb' : decide ((rndS s f i).now ≠ 0) = b := by rw [hnow]; exact hb
        rcases arr_cases hd (m3 (f i)) with e | ⟨hz, e⟩
        · right
          rw [e, hb']
          refine ⟨hnow, all_put hA (fun j x hj hx => ?_) ?_⟩
          · rcases hx with hx | ⟨hx, hx'⟩
            · exact .inl hx
            · refine .inr ⟨hx, fun i' h => ?_⟩
              by_cases c : i' = i
              · subst c; omega
              · exact hx' i' (by omega)
          · rcases hA _ d hd with hx | ⟨hx, hx'⟩
            · exact .inl (hq _ _ _ (m3 _) hx)
            · by_cases c : f i % 3 = k0
              · left; rw [c]; exact hit _ _ hx
              · refine .inr ⟨hp _ _ _ (m3 _) hx, fun i' h => ?_⟩
                by_cases c' : i' = i
                · subst c'; omega
                · exact hx' i' (by omega)
        · left
          exact ⟨by rw [← hb']; simp [hz], e⟩
  rcases main (3 * n) (Nat.le_refl _) with h | ⟨h, hA⟩
  · exact .inl h
  · refine .inr ⟨h, fun j d hd => ?_⟩
    rcases hA j d hd with hx | ⟨_, hx⟩
    · exact hx
    · have hjn : j < n := by
        have := (List.getElem?_eq_some_iff.1 hd).1
        rw [(rnd_len hs hf _ (Nat.le_refl _)).len, hs] at this; exact this
      obtain ⟨i, hi, hfi⟩ := hsur (3 * j + k0) (by omega)
      exact absurd hfi (hx i hi)
/-- What is known of all devices. -/
def AU (s : Hs) : Prop := ∀ (i : Nat) (d : Dv), s.devs[i]? = some d → U d
theorem au_of {H : Nat → Bool} {s : Hs} (a : All (PH H) s) : AU s := fun i d hd hu => ((a i d hd).up hu).1
theorem all_u {s : Hs} (a : AU s) : All (fun _ _ d => U d) s := a
theorem round0 {s : Hs} {f : Nat → Nat} {n : Nat} (hs : s.devs.length = n) (hf : ∀ i, i < 3 * n → f i < 3 * n) (hsur : ∀ j, j < 3 * n → ∃ i, i < 3 * n ∧ f i = j) (au : AU s) :
    (s.now ≠ 0 ∧ (rndS s f (3 * n)).now = 0) ∨ ((rndS s f (3 * n)).now = s.now ∧ All (fun _ => qq0) (rndS s f (3 * n))) := by
  have h := phase (p := pp0) (q := qq0) (b := decide (s.now ≠ 0)) (k0 := 2) (by omega) hs hf rfl hsur (fun _ _ _ ha h => pp0_arr _ ha h) (fun _ _ _ ha h => qq0_arr _ ha h) (fun _ _ h => pp0_hit _ h)
    (all_resend (p := fun _ d => U d) au (fun d h hu => res_pp0 h hu) fun d h hu => ⟨h, fun c => by rw [hu] at c; cases c⟩)
  rcases h with ⟨h1, h2⟩ | h
  · exact .inl ⟨by simpa using h1, h2⟩
  · exact .inr h
theorem round1 {s : Hs} {f : Nat → Nat} {n : Nat} (hs : s.devs.length = n) (hf : ∀ i, i < 3 * n → f i < 3 * n) (hsur : ∀ j, j < 3 * n → ∃ i, i < 3 * n ∧ f i = j) (hn : s.now ≠ 0) (h : All (fun _ => qq0) s) :
    (rndS s f (3 * n)).now = 0 ∨ All (fun _ => qq1) (rndS s f (3 * n)) := by
  have h := phase (p := pp1) (q := qq1) (b := true) (k0 := 0) (by omega) hs hf (by simp [hn]) hsur (fun _ _ _ ha h => pp1_arr ha h) (fun _ _ _ ha h => qq1_arr ha h) (fun _ _ h => pp1_hit h)
    (all_resend h (fun d h hu => res_pp1 h hu hn) fun d h hu => ⟨h, fun c => by rw [hu] at c; cases c⟩)
  rcases h with ⟨_, h⟩ | ⟨_, h⟩
  · exact .inl h
  · exact .inr h
theorem round2 {s : Hs} {f : Nat → Nat} {n : Nat} (hs : s.devs.length = n) (hf : ∀ i, i < 3 * n → f i < 3 * n) (hsur : ∀ j, j < 3 * n → ∃ i, i < 3 * n ∧ f i = j) (hn : s.now ≠ 0) (h : All (fun _ => qq1) s) :
    (rndS s f (3 * n)).now = 0 ∨ All (fun _ => qq2) (rndS s f (3 * n)) := by
  have h := phase (p := pp2) (q := qq2) (b := true) (k0 := 1) (by omega) hs hf (by simp [hn]) hsur (fun _ _ _ ha h => pp2_arr ha h) (fun _ _ _ ha h => qq2_arr ha h) (fun _ _ h => pp2_hit h)
    (all_resend h (fun d h hu => res_pp2 h hu hn) fun d h hu => ⟨h, fun c => by rw [hu] at c; cases c⟩)
  rcases h with ⟨_, h⟩ | ⟨_, h⟩
  · exact .inl h
  · exact .inr h
theorem qq2_done {s : Hs} (w : Wt s) (h : All (fun _ => qq2) s) : s.now = 0 := by
  by_cases z : s.now = 0
  · exact z
  obtain ⟨d, hd, hw⟩ := List.any_eq_true.1 (w z)
  obtain ⟨i, hi⟩ := List.mem_iff_getElem?.1 hd
  obtain ⟨⟨⟨h1, _⟩, _⟩, h4⟩ := h i d hi
  unfold waitsD at hw
  simp only [Bool.and_eq_true, Bool.not_eq_true'] at hw
  cases hu : d.up with
  | true => rw [h4 hu] at hw; cases hw.2
  | false => rw [h1 hu] at hw; cases hw.1
end Go.Proofs.Ytjpknjicfoiheaa
