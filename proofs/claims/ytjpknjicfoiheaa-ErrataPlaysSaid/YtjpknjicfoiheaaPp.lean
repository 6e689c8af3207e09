/- What stands after four rounds, in plain terms. -/
import Derived.Test.YtjpknjicfoiheaaPo
set_option linter.unusedSimpArgs false
set_option linter.unusedVariables false
set_option linter.unusedSectionVars false
namespace Go.Proofs.Ytjpknjicfoiheaa
open Go.RowKit Dak
/-- The order of the messages. -/
def jN (n t k i : Nat) : Nat := if k % 2 = 1 then 3 * n - 1 - (i + t) % (3 * n) else (i + t) % (3 * n)
theorem jN_lt {n t k i : Nat} (hn : 1 ≤ n) : jN n t k i < 3 * n := by
  have := Nat.mod_lt (i + t) (by omega : 0 < 3 * n)
  unfold jN
  split <;> omega
theorem mod_hit {m t j : Nat} (ht : t < m) (hj : j < m) : ∃ i, i < m ∧ (i + t) % m = j := by
  by_cases c : t ≤ j
  · exact ⟨j - t, by omega, by rw [Nat.sub_add_cancel c, Nat.mod_eq_of_lt hj]⟩
  · refine ⟨j + m - t, by omega, ?_⟩
    rw [Nat.sub_add_cancel (by omega), Nat.add_mod_right, Nat.mod_eq_of_lt hj]
theorem jN_sur {n t k : Nat} (ht : t < 3 * n) : ∀ j, j < 3 * n → ∃ i, i < 3 * n ∧ jN n t k i = j := by
  intro j hj
  unfold jN
  by_cases c : k % 2 = 1
  · obtain ⟨i, hi, e⟩ := mod_hit ht (by omega : 3 * n - 1 - j < 3 * n)
    exact ⟨i, hi, by rw [if_pos c, e]; omega⟩
  · obtain ⟨i, hi, e⟩ := mod_hit ht hj
    exact ⟨i, hi, by rw [if_neg c, e]⟩
def fourS (n t : Nat) (s : Hs) : Nat → Hs
  | 0 => s
  | k + 1 => rndS (fourS n t s k) (jN n t k) (3 * n)
/-- What the rounds keep. -/
structure Kp (n : Nat) (s t : Hs) : Prop where
  mv : Mv s t
  up : t.devs.map Dv.up = s.devs.map Dv.up
  wt : Wt t
  ph : ∃ H, All (PH H) t
theorem Kp.trans {n : Nat} {s t u : Hs} (a : Kp n s t) (b : Kp n t u) : Kp n s u := ⟨a.mv.trans b.mv, b.up.trans a.up, b.wt, b.ph⟩
theorem up_put {s : Hs} {i : Nat} {d d' : Dv} (h : s.devs[i]? = some d) (e : d'.up = d.up) : (s.put i d').devs.map Dv.up = s.devs.map Dv.up := by
  show (s.devs.set i d').map Dv.up = _
  rw [List.map_set, e]
  exact set_same (by rw [List.getElem?_map, h]; rfl)
theorem up_decide (s : Hs) : (decideH s).devs.map Dv.up = s.devs.map Dv.up := by
  unfold decideH
  split
  · rfl
  · show (s.devs.map Dv.cut).map Dv.up = _
    rw [List.map_map]; rfl
theorem up_arrives {s : Hs} {i : Nat} {d : Dv} (h : s.devs[i]? = some d) (k : Int) : (arrivesH s i d k).devs.map Dv.up = s.devs.map Dv.up := by
  unfold arrivesH
  split
  · rfl
  · split
    · split
      · exact up_put h rfl
      · rfl
    · split
      · split
        · rw [up_decide]; exact up_put h rfl
        · rfl
      · exact up_put h rfl
theorem up_arrive {s : Hs} {i : Nat} {d : Dv} (h : s.devs[i]? = some d) (k : Int) : (arriveH s i d k).devs.map Dv.up = s.devs.map Dv.up := by
  unfold arriveH
  split
  · rfl
  · rw [up_arrives (put_get h _)]; exact up_put h (setf_keeps d k false).1
theorem up_resend (s : Hs) : (resendH s).devs.map Dv.up = s.devs.map Dv.up := by
  show (s.devs.map (stepD (fun d => d.up) s.res)).map Dv.up = _
  rw [List.map_map]
  refine List.map_congr_left fun d _ => ?_
  show (stepD (fun d => d.up) s.res d).up = d.up
  unfold stepD
  split
  · exact (res_keeps s d).1
  · rfl
theorem kp_resend {n : Nat} {s : Hs} (w : Wt s) (p : ∃ H, All (PH H) s) : Kp n s (resendH s) := by
  obtain ⟨H, a⟩ := p
  exact ⟨mv_resend s, up_resend s, wt_resend w, H, ph_resend a⟩
theorem kp_step {n : Nat} {s : Hs} {j : Nat} (hj : j < 3 * s.devs.length) (w : Wt s) (p : ∃ H, All (PH H) s) : Kp n s (stepH s (evA j)) := by
  obtain ⟨d, hd, e⟩ := step_arr hj
  obtain ⟨H, a⟩ := p
  refine ⟨arr_mv hj, by rw [e]; exact up_arrive hd _, ?_, ?_⟩
  · rw [e]; exact wt_arrive hd _ w
  · have := does_ph ⟨0, evA j⟩ a
    rw [doesH_ev rfl] at this
    exact ⟨_, this⟩
theorem kp_rnd {n : Nat} {s : Hs} {f : Nat → Nat} (hs : s.devs.length = n) (hf : ∀ i, i < 3 * n → f i < 3 * n) (w : Wt s) (p : ∃ H, All (PH H) s) : ∀ i, i ≤ 3 * n → Kp n s (rndS s f i)
  | 0, _ => kp_resend w p
  | i + 1, h => by
    have ih := kp_rnd hs hf w p i (by omega)
    exact ih.trans (kp_step (by rw [ih.mv.len, hs]; exact hf i (by omega)) ih.wt ih.ph)
theorem kp_four {n t : Nat} {s : Hs} (hs : s.devs.length = n) (hn : 1 ≤ n) (w : Wt s) (p : ∃ H, All (PH H) s) : ∀ k, Kp n s (fourS n t s k)
  | 0 => ⟨Mv.refl s, rfl, w, p⟩
  | k + 1 => by
    have ih := kp_four (t := t) hs hn w p k
    exact ih.trans (kp_rnd (by rw [ih.mv.len, hs]) (fun i _ => jN_lt hn) ih.wt ih.ph _ (Nat.le_refl _))
theorem au_ex {s : Hs} (p : ∃ H, All (PH H) s) : AU s := by
  obtain ⟨H, a⟩ := p
  exact au_of a
/-- Comes through. -/
theorem four_done {n t : Nat} {s : Hs} (hs : s.devs.length = n) (hn : 1 ≤ n) (ht : t < 3 * n) (w : Wt s) (p : ∃ H, All (PH H) s) : (fourS n t s 4).now = 0 ∧ All (fun _ => qq0) (fourS n t s 4) := by
  have kp := kp_four (t := t) hs hn w p
  have hl : ∀ k, (fourS n t s k).devs.length = n := fun k => by rw [(kp k).mv.len, hs]
  have zz : ∀ k, (fourS n t s k).now = 0 → (fourS n t s (k + 1)).now = 0 := fun k h => rnd_zero (hl k) (fun i _ => jN_lt hn) h _ (Nat.le_refl _)
  have r0 := round0 (hl 0) (fun i _ => jN_lt hn) (jN_sur (k := 0) ht) (au_ex (kp 0).ph)
  have h3 : (fourS n t s 3).now = 0 := by
    by_cases z0 : (fourS n t s 0).now = 0
    · exact zz 2 (zz 1 (zz 0 z0))
    have h1 : (fourS n t s 1).now = 0 ∨ All (fun _ => qq0) (fourS n t s 1) := by
      rcases r0 with ⟨_, h⟩ | ⟨_, h⟩
      · exact .inl h
      · exact .inr h
    by_cases z1 : (fourS n t s 1).now = 0
    · exact zz 2 (zz 1 z1)
    have h1 := h1.resolve_left z1
    have h2 := round1 (hl 1) (fun i _ => jN_lt hn) (jN_sur (k := 1) ht) z1 h1
    by_cases z2 : (fourS n t s 2).now = 0
    · exact zz 2 z2
    have h2 : All (fun _ => qq1) (fourS n t s 2) := h2.resolve_left z2
    rcases round2 (hl 2) (fun i _ => jN_lt hn) (jN_sur (k := 2) ht) z2 h2 with h | h
    · exact h
    · exact qq2_done (kp 3).wt h
  rcases round0 (hl 3) (fun i _ => jN_lt hn) (jN_sur (k := 3) ht) (au_ex (kp 3).ph) with ⟨h, _⟩ | ⟨h, hA⟩
  · exact absurd h3 h
  · exact ⟨h.trans h3, hA⟩
/-- The numbers that are announced are small. -/
theorem four_ann {n t m : Nat} {s : Hs} (hs : s.devs.length = n) (hn : 1 ≤ n) (ht : t < 3 * n) (w : Wt s) (p : ∃ H, All (PH H) s) (hm : ∀ y ∈ tot s, y ≤ 900) (hT : (tot s).length = m) :
    (fourS n t s 4).dec.length = m ∧ announceE (fourS n t s 4) 999 = 0 := by
  obtain ⟨h0, _⟩ := four_done hs hn ht w p
  have kp := kp_four (t := t) hs hn w p 4
  have htot := kp.mv.tot
  have hd : (fourS n t s 4).dec = tot s := by
    rw [← htot]; unfold tot; rw [if_pos h0, List.append_nil]
  refine ⟨by rw [hd]; exact hT, ?_⟩
  unfold announceE
  rw [if_neg (by omega), h0, if_neg, if_neg (by simp)]
  rintro (c | c)
  · omega
  · rw [hd] at c
    have := hm 999 c
    omega
theorem shown_len {s : Hs} {i : Nat} {d : Dv} (h : s.devs[i]? = some d) : shownE s i = if d.live = false then [] else s.dec.take d.mom.toNat := by
  have hl := (List.getElem?_eq_some_iff.1 h).1
  unfold shownE
  rw [if_neg (by omega), Int.toNat_natCast, h]
theorem four_shown {n t m : Nat} {s : Hs} (hs : s.devs.length = n) (hn : 1 ≤ n) (ht : t < 3 * n) (w : Wt s) (p : ∃ H, All (PH H) s) (hm : ∀ y ∈ tot s, y ≤ 900) (hT : (tot s).length = m) (h0 : 0 < m) (i : Nat) (u : Bool) (hu : (s.devs.map Dv.up)[i]? = some u) :
    decide ((shownE (announceH (fourS n t s 4) 999) i).length = m) = u := by
  obtain ⟨z0, hA⟩ := four_done hs hn ht w p
  obtain ⟨hl, ha⟩ := four_ann hs hn ht w p hm hT
  have kp := kp_four (t := t) hs hn w p 4
  rw [← kp.up] at hu
  obtain ⟨H, ph⟩ := kp.ph
  rw [(ann_ok ha).2.2.2.2]
  generalize fourS n t s 4 = v at *
  rw [List.getElem?_map] at hu
  obtain ⟨d, hd, rfl⟩ := Option.map_eq_some_iff.1 hu
  obtain ⟨hU, hq⟩ := hA i d hd
  have pd := ph i d hd
  -- the device after the announcement
  have hb : (beginH v 999).devs[i]? = some (stepD (fun d => !decide (d.mom < v.dec.length)) Dv.ann d) := by
    show (v.devs.map _)[i]? = _
    rw [List.getElem?_map, hd]; rfl
  have e1 : (stepD (fun d => !decide (d.mom < v.dec.length)) Dv.ann d).live = d.live := by unfold stepD; split <;> rfl
  have e2 : (stepD (fun d => !decide (d.mom < v.dec.length)) Dv.ann d).mom = d.mom := by unfold stepD; split <;> rfl
  cases hup : d.up with
  | true =>
    obtain ⟨lv, nl, _⟩ := hq hup
    have hw : waitsD (stepD (fun d => !decide (d.mom < v.dec.length)) Dv.ann d) = true := by
      unfold stepD
      rw [if_pos (by simpa using nl)]
      simp [waitsD, Dv.ann, lv]
    have hdc : decideH (beginH v 999) = beginH v 999 := if_pos (.inr (List.any_eq_true.2 ⟨_, List.mem_of_getElem? hb, hw⟩))
    rw [hdc, shown_len hb, e1, e2, if_neg (by simp [lv])]
    have hdl : (beginH v 999).dec = v.dec := rfl
    rw [hdl, List.length_take]
    have := pd.m1
    simp only [decide_eq_true_eq]
    omega
  | false =>
    have lv : d.live = false := hU hup
    have : ∃ e, (decideH (beginH v 999)).devs[i]? = some e ∧ e.live = false := by
      unfold decideH
      split
      · exact ⟨_, hb, by rw [e1]; exact lv⟩
      · refine ⟨(stepD (fun d => !decide (d.mom < v.dec.length)) Dv.ann d).cut, ?_, ?_⟩
        · show ((beginH v 999).devs.map Dv.cut)[i]? = _
          rw [List.getElem?_map, hb]; rfl
        · show (stepD (fun d => !decide (d.mom < v.dec.length)) Dv.ann d).live = false
          rw [e1]; exact lv
    obtain ⟨e, he, hl⟩ := this
    rw [shown_len he, if_pos hl]
    simp only [List.length_nil, decide_eq_false_iff_not]
    omega
/-- Which devices are up, by the acts. -/
def upE (L : List Bool) (s : Hs) (x : Act') : List Bool := if doesE s x = 0 ∧ x.num = 0 ∧ (x.ev.kind = 3 ∨ x.ev.kind = 4) then L.set x.ev.seat.toNat (decide (x.ev.kind = 4)) else L
theorem does_up (s : Hs) (x : Act') : (doesH s x).devs.map Dv.up = upE (s.devs.map Dv.up) s x := by
  unfold upE
  by_cases z : x.num = 0
  · rw [doesE_ev z, doesH_ev z]
    by_cases h : stepE s x.ev = 0
    rotate_left
    · rw [step_err h, if_neg (fun c => h c.1)]
    obtain ⟨d, hd, _, _, k0, k6, he, hs⟩ := step_ok h
    rw [hs]
    unfold evE at he
    unfold evH
    by_cases c3 : x.ev.kind = 3
    · rw [if_pos (show stepE s x.ev = 0 ∧ x.num = 0 ∧ (x.ev.kind = 3 ∨ x.ev.kind = 4) from ⟨h, z, .inl c3⟩)]
      simp only [c3] at he ⊢
      have he : failE d = 0 := he
      show (failH s x.ev.seat.toNat d).devs.map Dv.up = _
      have hu : ¬ d.up = false := by
        intro u; unfold failE at he; rw [if_pos u] at he; cases he
      unfold failH
      rw [if_neg hu, up_decide]
      show (s.devs.set _ _).map Dv.up = _
      rw [List.map_set]; rfl
    by_cases c4 : x.ev.kind = 4
    · rw [if_pos (show stepE s x.ev = 0 ∧ x.num = 0 ∧ (x.ev.kind = 3 ∨ x.ev.kind = 4) from ⟨h, z, .inr c4⟩)]
      simp only [c4] at he ⊢
      have he : backE d = 0 := he
      show (backH s x.ev.seat.toNat d).devs.map Dv.up = _
      have hu : d.up = false := by
        unfold backE at he
        split at he
        · assumption
        · cases he
      unfold backH
      rw [if_pos hu]
      show (s.devs.set _ _).map Dv.up = _
      rw [List.map_set]; rfl
    rw [if_neg (show ¬ (stepE s x.ev = 0 ∧ x.num = 0 ∧ (x.ev.kind = 3 ∨ x.ev.kind = 4)) from fun c => c.2.2.elim c3 c4)]
    split
    · exact up_arrive hd _
    · split
      · unfold loseH
        split
        · rfl
        · exact up_put hd (setf_keeps d _ _).1
      · split
        · unfold repeatH
          split
          · rfl
          · split
            · split
              · rename_i d' hd'
                rw [up_put hd' (setf_keeps d' _ _).1]; exact up_arrives hd _
              · exact up_arrives hd _
            · exact up_arrives hd _
        · split
          · exact up_resend s
          · unfold ansH
            split
            · rfl
            · split <;> rfl
  · rw [doesE_an z, doesH_an z, if_neg (fun c => z c.2.1)]
    by_cases h : announceE s x.num = 0
    · rw [(ann_ok h).2.2.2.2, up_decide]
      show (s.devs.map _).map Dv.up = _
      rw [List.map_map]
      refine List.map_congr_left fun d _ => ?_
      show (stepD _ Dv.ann d).up = d.up
      unfold stepD
      split <;> rfl
    · rw [ann_err h]
theorem script_nums (l : List Int) (n : Int) : ∀ i, i ≤ 40 → ∀ x ∈ (scriptK l n i).1, x.num ≤ 41
  | 0, _ => by simp [scriptK]
  | i + 1, h => by
    intro x hx
    simp only [scriptK, List.mem_append, List.mem_singleton] at hx
    rcases hx with hx | rfl
    · exact script_nums l n i (by omega) x hx
    · have := (scriptK_next l n i).2
      unfold actL
      split
      · simp only; omega
      · show (0 : Int) ≤ 41; decide
end Go.Proofs.Ytjpknjicfoiheaa
