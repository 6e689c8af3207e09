/- What one act does, in plain terms. -/
import Derived.Test.YtjpknjicfoiheaaPk
set_option linter.unusedSimpArgs false
set_option linter.unusedVariables false
set_option linter.unusedSectionVars false
namespace Go.Proofs.Ytjpknjicfoiheaa
open Go.RowKit Dak
theorem step_ok {s : Hs} {e : Ev} (h : stepE s e = 0) : ∃ d, s.devs[e.seat.toNat]? = some d ∧ 0 ≤ e.seat ∧ e.seat < s.devs.length ∧ 0 ≤ e.kind ∧ e.kind ≤ 6 ∧ evE s d e = 0 ∧ stepH s e = evH s e.seat.toNat d e := by
  unfold stepE at h
  split at h
  · cases h
  · rename_i nb
    have nb' := nb
    unfold badE at nb'
    split at h
    · rename_i d hd
      refine ⟨d, hd, by omega, by omega, by omega, by omega, h, ?_⟩
      unfold stepH
      rw [if_neg nb, hd]
    · cases h
theorem step_err {s : Hs} {e : Ev} (h : stepE s e ≠ 0) : stepH s e = s := by
  unfold stepE at h
  unfold stepH
  split
  · rfl
  · rename_i nb
    rw [if_neg nb] at h
    split
    · rename_i d hd
      rw [hd] at h
      simp only [evE] at h
      unfold evH
      split
      · rename_i c; rw [if_pos c] at h; exact if_pos h
      · rename_i c0; rw [if_neg c0] at h
        split
        · rename_i c; rw [if_pos c] at h; exact if_pos h
        · rename_i c1; rw [if_neg c1] at h
          split
          · rename_i c; rw [if_pos c] at h; exact if_pos h
          · rename_i c2; rw [if_neg c2] at h
            split
            · rename_i c; rw [if_pos c] at h
              unfold failE at h
              split at h
              · rename_i u; exact if_pos u
              · exact absurd rfl h
            · rename_i c3; rw [if_neg c3] at h
              split
              · rename_i c; rw [if_pos c] at h
                unfold backE at h
                split at h
                · exact absurd rfl h
                · rename_i u; exact if_neg u
              · rename_i c4; rw [if_neg c4] at h
                split
                · rename_i c; rw [if_pos c] at h; exact absurd rfl h
                · rename_i c5; rw [if_neg c5] at h
                  unfold ansE at h
                  unfold ansH
                  split
                  · rfl
                  · rename_i u; rw [if_neg u] at h
                    split
                    · rfl
                    · rename_i l; rw [if_neg l] at h; exact absurd rfl h
    · rfl
theorem ann_ok {s : Hs} {n : Int} (h : announceE s n = 0) : 1 ≤ n ∧ n ≤ 1000 ∧ n ∉ s.dec ∧ s.now = 0 ∧ announceH s n = decideH (beginH s n) := by
  have hh : announceH s n = decideH (beginH s n) := if_neg (by simp [h])
  unfold announceE at h
  split at h
  · cases h
  · rename_i a
    split at h
    · cases h
    · rename_i b
      split at h
      · cases h
      · rename_i c
        refine ⟨by omega, by omega, fun m => b (.inr m), ?_, hh⟩
        by_cases z : s.now = 0
        · exact z
        · exact absurd z c
theorem ann_err {s : Hs} {n : Int} (h : announceE s n ≠ 0) : announceH s n = s := if_pos h
theorem mv_ev (s : Hs) (i : Nat) (d : Dv) (e : Ev) (h6 : e.kind ≠ 6) (k0 : 0 ≤ e.kind) (k6 : e.kind ≤ 6) : Mv s (evH s i d e) := by
  unfold evH
  split
  · exact mv_arrive _ _ _ _
  · split
    · exact mv_lose _ _ _ _
    · split
      · exact mv_repeat _ _ _ _
      · split
        · exact mv_fail _ _ _
        · split
          · exact mv_back _ _ _
          · split
            · exact mv_resend _
            · omega
theorem wt_ev {s : Hs} {i : Nat} {d : Dv} (h : s.devs[i]? = some d) (e : Ev) (w : Wt s) : Wt (evH s i d e) := by
  unfold evH
  split
  · exact wt_arrive h _ w
  · split
    · exact wt_lose h _ w
    · split
      · exact wt_repeat h _ w
      · split
        · exact wt_fail _ _ _ w
        · split
          · exact wt_back h w
          · split
            · exact wt_resend w
            · unfold ansH
              split
              · exact w
              · split
                · exact w
                · exact w
/-- How the list of the law goes on. -/
def updE (H : Nat → Bool) (e : Ev) : Nat → Bool :=
  if (e.kind = 0 ∨ e.kind = 2) ∧ e.a = 0 then upd H e.seat.toNat true
  else if (e.kind = 0 ∨ e.kind = 2) ∧ e.a = 2 ∨ e.kind = 3 then upd H e.seat.toNat false else H
theorem ph_ev {H : Nat → Bool} {s : Hs} {d : Dv} {e : Ev} (h : s.devs[e.seat.toNat]? = some d) (he : evE s d e = 0) (a : All (PH H) s) : All (PH (updE H e)) (evH s e.seat.toNat d e) := by
  unfold evE at he
  unfold evH
  split
  · rename_i c
    rw [if_pos c] at he
    have : updE H e = updK H e.seat.toNat e.a := by simp [updE, updK, c]
    rw [this]; exact ph_arrive h he a
  · rename_i c0
    rw [if_neg c0] at he
    split
    · rename_i c
      have : updE H e = H := by simp [updE, c]
      rw [this]
      unfold loseH
      split
      · exact a
      · exact ph_setf h _ _ a
    · rename_i c1
      rw [if_neg c1] at he
      split
      · rename_i c
        rw [if_pos c] at he
        have : updE H e = updK H e.seat.toNat e.a := by simp [updE, updK, c]
        rw [this]; exact ph_repeat h he a
      · rename_i c2
        rw [if_neg c2] at he
        split
        · rename_i c
          rw [if_pos c] at he
          have : updE H e = upd H e.seat.toNat false := by simp [updE, c]
          rw [this]
          refine ph_fail h a ?_
          unfold failE at he
          cases hu : d.up with
          | true => rfl
          | false => rw [if_pos hu] at he; cases he
        · rename_i c3
          have hu : updE H e = H := by simp [updE, c0, c2, c3]
          rw [hu]
          split
          · exact ph_back h a
          · split
            · exact ph_resend a
            · unfold ansH
              split
              · exact a
              · split
                · exact a
                · exact a
theorem doesE_ev {s : Hs} {x : Act'} (z : x.num = 0) : doesE s x = stepE s x.ev := if_neg (by simp [z])
theorem doesH_ev {s : Hs} {x : Act'} (z : x.num = 0) : doesH s x = stepH s x.ev := if_neg (by simp [z])
theorem doesE_an {s : Hs} {x : Act'} (z : ¬ x.num = 0) : doesE s x = announceE s x.num := if_pos z
theorem doesH_an {s : Hs} {x : Act'} (z : ¬ x.num = 0) : doesH s x = announceH s x.num := if_pos z
def updA (H : Nat → Bool) (s : Hs) (a : Act') : Nat → Bool := if doesE s a ≠ 0 ∨ a.num ≠ 0 then H else updE H a.ev
theorem does_ph {H : Nat → Bool} {s : Hs} (x : Act') (a : All (PH H) s) : All (PH (updA H s x)) (doesH s x) := by
  unfold updA
  by_cases z : x.num = 0
  · rw [doesE_ev z, doesH_ev z]
    by_cases h : stepE s x.ev = 0
    · rw [if_neg (show ¬ (stepE s x.ev ≠ 0 ∨ x.num ≠ 0) by simp [z, h])]
      obtain ⟨d, hd, _, _, _, _, he, hs⟩ := step_ok h
      rw [hs]
      exact ph_ev hd he a
    · rw [if_pos (show stepE s x.ev ≠ 0 ∨ x.num ≠ 0 from .inl h), step_err h]; exact a
  · rw [doesE_an z, doesH_an z, if_pos (show announceE s x.num ≠ 0 ∨ x.num ≠ 0 from .inr z)]
    by_cases h : announceE s x.num = 0
    · rw [(ann_ok h).2.2.2.2]
      exact ph_decide (ph_begin _ a)
    · rw [ann_err h]; exact a
theorem ev_ans {s : Hs} {i : Nat} {d : Dv} {e : Ev} (k6 : e.kind = 6) (he : evE s d e = 0) : d.live = true ∧ d.up = true ∧ evH s i d e = { s with ans := s.ans ++ [(e.seat, e.a, d.mom)] } := by
  unfold evE at he
  unfold evH
  simp only [k6] at he ⊢
  have he : ansE d = 0 := he
  show d.live = true ∧ d.up = true ∧ ansH s d e = _
  unfold ansE at he
  unfold ansH
  split at he
  · cases he
  · rename_i u
    split at he
    · cases he
    · rename_i l
      rw [if_neg u, if_neg l]
      exact ⟨by simpa using l, by simpa using u, rfl⟩
/-- What the acts keep. -/
structure Inv (n k : Nat) (s : Hs) : Prop where
  len : s.devs.length = n
  tl : (tot s).length ≤ k
  al : s.ans.length ≤ k
  wt : Wt s
  ex : ∃ H, All (PH H) s
theorem Inv.dec {n k : Nat} {s : Hs} (h : Inv n k s) : s.dec.length ≤ k := by
  have := h.tl
  unfold tot at this
  rw [List.length_append] at this
  omega
theorem Inv.okH {n k : Nat} {s : Hs} (h : Inv n k s) (hn : n ≤ 1000) (hk : k ≤ 100000) : OkH s := by
  have := h.dec
  have := h.al
  refine ⟨by rw [h.len]; exact hn, by omega, by omega, fun d hd => ?_⟩
  obtain ⟨H, a⟩ := h.ex
  obtain ⟨i, hi⟩ := List.mem_iff_getElem?.1 hd
  exact ⟨(a i d hi).m0, (a i d hi).m1⟩
theorem Inv.bd {n k : Nat} {s : Hs} (h : Inv n k s) (hn : n ≤ 1000) (hk : k ≤ 100000) : Bd s := ⟨(h.okH hn hk).1, (h.okH hn hk).2.1, (h.okH hn hk).2.2.1⟩
theorem ph_new (n : Nat) : All (PH fun _ => false) (newH n) := by
  intro i d hd
  simp only [newH] at hd
  rw [List.getElem?_replicate] at hd
  split at hd
  rotate_left
  · cases hd
  cases hd
  refine ⟨by decide, by show (0 : Int) ≤ ((0 : Nat) : Int); decide, fun h => (by cases h), fun h => (by cases h), fun h => (by cases h), fun _ h => absurd h (by show ¬ ((0 : Int) < ((0 : Nat) : Int)); decide)⟩
theorem inv_new (n : Nat) : Inv n 0 (newH n) := ⟨by simp [newH], by simp [tot, newH], by simp [newH], fun h => absurd rfl h, _, ph_new n⟩
theorem does_tot (s : Hs) (x : Act') : tot (doesH s x) = if doesE s x = 0 ∧ x.num ≠ 0 then tot s ++ [x.num] else tot s := by
  by_cases z : x.num = 0
  · rw [doesH_ev z, if_neg (show ¬ (doesE s x = 0 ∧ x.num ≠ 0) by simp [z])]
    by_cases h : stepE s x.ev = 0
    · obtain ⟨d, hd, _, _, k0, k6, he, hs⟩ := step_ok h
      rw [hs]
      by_cases c6 : x.ev.kind = 6
      · rw [(ev_ans c6 he).2.2]; rfl
      · exact (mv_ev _ _ _ _ c6 k0 k6).tot
    · rw [step_err h]
  · rw [doesE_an z, doesH_an z]
    by_cases h : announceE s x.num = 0
    · obtain ⟨_, _, _, h0, hh⟩ := ann_ok h
      rw [hh, (mv_decide _).tot, if_pos (show announceE s x.num = 0 ∧ x.num ≠ 0 from ⟨h, z⟩)]
      simp [tot, beginH, h0, z]
    · rw [ann_err h, if_neg (show ¬ (announceE s x.num = 0 ∧ x.num ≠ 0) from fun c => h c.1)]
theorem does_pre (s : Hs) (x : Act') : s.dec <+: (doesH s x).dec := by
  by_cases z : x.num = 0
  · rw [doesH_ev z]
    by_cases h : stepE s x.ev = 0
    · obtain ⟨d, hd, _, _, k0, k6, he, hs⟩ := step_ok h
      rw [hs]
      by_cases c6 : x.ev.kind = 6
      · rw [(ev_ans c6 he).2.2]; exact List.prefix_refl _
      · exact (mv_ev _ _ _ _ c6 k0 k6).pre
    · rw [step_err h]; exact List.prefix_refl _
  · rw [doesH_an z]
    by_cases h : announceE s x.num = 0
    · rw [(ann_ok h).2.2.2.2]
      exact (mv_decide (beginH s x.num)).pre
    · rw [ann_err h]; exact List.prefix_refl _
theorem does_ans (s : Hs) (x : Act') : (x.num = 0 ∧ x.ev.kind = 6 ∧ doesE s x = 0 ∧ ∃ d, s.devs[x.ev.seat.toNat]? = some d ∧ 0 ≤ x.ev.seat ∧ x.ev.seat < s.devs.length ∧ d.live = true ∧ d.up = true ∧ (doesH s x).ans = s.ans ++ [(x.ev.seat, x.ev.a, d.mom)]) ∨
    (¬ (x.num = 0 ∧ x.ev.kind = 6 ∧ doesE s x = 0) ∧ (doesH s x).ans = s.ans) := by
  by_cases z : x.num = 0
  · rw [doesE_ev z, doesH_ev z]
    by_cases h : stepE s x.ev = 0
    · obtain ⟨d, hd, s0, s1, k0, k6, he, hs⟩ := step_ok h
      rw [hs]
      by_cases c6 : x.ev.kind = 6
      · obtain ⟨a1, a2, a3⟩ := ev_ans (i := x.ev.seat.toNat) c6 he
        exact .inl ⟨z, c6, h, d, hd, s0, s1, a1, a2, by rw [a3]⟩
      · exact .inr ⟨fun c => c6 c.2.1, (mv_ev _ _ _ _ c6 k0 k6).ans⟩
    · exact .inr ⟨fun c => h c.2.2, by rw [step_err h]⟩
  · rw [doesE_an z, doesH_an z]
    refine .inr ⟨fun c => z c.1, ?_⟩
    by_cases h : announceE s x.num = 0
    · rw [(ann_ok h).2.2.2.2]
      exact (mv_decide (beginH s x.num)).ans
    · rw [ann_err h]
theorem does_len (s : Hs) (x : Act') : (doesH s x).devs.length = s.devs.length := by
  by_cases z : x.num = 0
  · rw [doesH_ev z]
    by_cases h : stepE s x.ev = 0
    · obtain ⟨d, hd, _, _, k0, k6, he, hs⟩ := step_ok h
      rw [hs]
      by_cases c6 : x.ev.kind = 6
      · rw [(ev_ans c6 he).2.2]
      · exact (mv_ev _ _ _ _ c6 k0 k6).len
    · rw [step_err h]
  · rw [doesH_an z]
    by_cases h : announceE s x.num = 0
    · rw [(ann_ok h).2.2.2.2, (mv_decide _).len]; simp [beginH]
    · rw [ann_err h]
theorem does_wt (s : Hs) (x : Act') (w : Wt s) : Wt (doesH s x) := by
  by_cases z : x.num = 0
  · rw [doesH_ev z]
    by_cases h : stepE s x.ev = 0
    · obtain ⟨d, hd, _, _, k0, k6, he, hs⟩ := step_ok h
      rw [hs]; exact wt_ev hd _ w
    · rw [step_err h]; exact w
  · rw [doesH_an z]
    by_cases h : announceE s x.num = 0
    · rw [(ann_ok h).2.2.2.2]; exact wt_decide _
    · rw [ann_err h]; exact w
theorem does_inv {n k : Nat} {s : Hs} (h : Inv n k s) (x : Act') : Inv n (k + 1) (doesH s x) := by
  refine ⟨by rw [does_len, h.len], ?_, ?_, does_wt s x h.wt, ?_⟩
  · rw [does_tot]
    have := h.tl
    split
    · simp; omega
    · omega
  · have := h.al
    rcases does_ans s x with ⟨_, _, _, d, _, _, _, _, _, e⟩ | ⟨_, e⟩
    · rw [e]; simp; omega
    · rw [e]; omega
  · obtain ⟨H, a⟩ := h.ex
    exact ⟨_, does_ph x a⟩
end Go.Proofs.Ytjpknjicfoiheaa
