/- Codes statement by statement, within loops and blocks too. -/
import Derived.Test.YtjpknjicfoiheaaDv
set_option linter.unusedSimpArgs false
set_option linter.unusedVariables false
set_option linter.unusedSectionVars false
namespace Dak
open Go Go.RowKit
variable {P : Program} {F0 : FD} {w0 : World} {n : Nat}
theorem CwpE.mono {c : CCode} {Q Q' : Exit → Est → Prop} {s : Est} (h : CwpE P F0 w0 n c Q s) (k : ∀ e s, Q e s → Q' e s) : CwpE P F0 w0 n c Q' s := h.post fun e s hq => ⟨s, .refl _ _, k e s hq⟩
theorem CwpE.block {id : Nat} {b : CCode} {Q : Exit → Est → Prop} {s : Est} (h : CwpE P F0 w0 n b (inBlockE id Q) s) : CwpE P F0 w0 n (.block id b) Q s := by
  intro hk code hc a w hs
  cases code with
  | block id' b' =>
    simp only [compC, Option.map_eq_some_iff, CCode.block.injEq] at hc
    obtain ⟨x', hx, rfl, rfl⟩ := hc
    refine wp_block (wp_mono (h hk _ hx a w hs) ?_)
    rintro e a1 w1 ⟨st', ⟨s1, hq, hk1, rfl⟩, hs'⟩
    cases e with
    | exit i =>
      simp only [Exit.inBlock, inBlockE] at hq ⊢
      split
      · rename_i hi; rw [if_pos hi] at hq; exact ⟨_, ⟨s1, hq, hk1, rfl⟩, hs'⟩
      · rename_i hi; rw [if_neg hi] at hq; exact ⟨_, ⟨s1, hq, hk1, rfl⟩, hs'⟩
    | _ => exact ⟨_, ⟨s1, hq, hk1, rfl⟩, hs'⟩
  | region id ops d => rcases compC_reg hc with ⟨_, _, h⟩ | ⟨_, _, h⟩ | ⟨_, _, _, h⟩ <;> cases h
  | _ => simp [compC, Option.bind_eq_some_iff] at hc
theorem CwpE.scope {b : CCode} {Q : Exit → Est → Prop} {s : Est} (h : CwpE P F0 w0 n b (noGotoE Q) s) : CwpE P F0 w0 n (.scope b) Q s := by
  intro hk code hc a w hs
  cases code with
  | scope b' =>
    simp only [compC, Option.map_eq_some_iff, CCode.scope.injEq] at hc
    obtain ⟨x', hx, rfl⟩ := hc
    refine wp_scope_straight (wp_mono (h hk _ hx a w hs) ?_)
    rintro e a1 w1 ⟨st', ⟨s1, hq, hk1, rfl⟩, hs'⟩
    cases e with
    | goto l => exact hq.elim
    | _ => exact ⟨_, ⟨s1, hq, hk1, rfl⟩, hs'⟩
  | region id ops d => rcases compC_reg hc with ⟨_, _, h⟩ | ⟨_, _, h⟩ | ⟨_, _, _, h⟩ <;> cases h
  | _ => simp [compC, Option.bind_eq_some_iff] at hc
theorem Cwp.loopC {b : CCode} {Q : Exit → St → Prop} {s s0 : St} (I : Nat → St → Prop) (n : Nat) (hw : Wk s s0) (h0 : I n s0) (round : ∀ n s, I n s → Cwp P F0 w0 b (Round I n Q) s) : Cwp P F0 w0 (.loop b) Q s := by
  intro code hc a w hs
  cases code with
  | loop b' =>
    simp only [compC, Option.map_eq_some_iff, CCode.loop.injEq] at hc
    obtain ⟨x', hx, rfl⟩ := hc
    refine wp_loop_ghost (fun n a w => ∃ s, I n s ∧ Sim F0 w0 s a w) n ⟨s0, h0, hw _ _ _ _ hs⟩ ?_
    rintro n a w ⟨s, hI, hs⟩
    refine wp_mono (round n s hI _ hx a w hs) ?_
    rintro e a1 w1 ⟨st', hq, hs'⟩
    cases e with
    | normal =>
      obtain ⟨m, s'', hm, hwk, hI'⟩ := hq
      first
        | exact ⟨m, hm, s'', hI', hwk _ _ _ _ hs'⟩
        | exact ⟨⟨m, hm, s'', hI', hwk _ _ _ _ hs'⟩⟩
    | _ => exact ⟨st', hq, hs'⟩
  | region id ops d => rcases compC_reg hc with ⟨_, _, h⟩ | ⟨_, _, h⟩ | ⟨_, _, _, h⟩ <;> cases h
  | _ => simp [compC, Option.bind_eq_some_iff] at hc
theorem loopEC {b : CCode} {Q : Exit → Est → Prop} {s : Est} (I : Nat → Est → Prop) (k : Nat) (s0 : Est) (hw : WkE n s s0) (h0 : I k s0) (round : ∀ k s, I k s → CwpE P F0 w0 n b (RoundE n I k Q) s) : CwpE P F0 w0 n (.loop b) Q s := by
  intro hk
  refine Cwp.loopC (fun k st => ∃ s, I k s ∧ KeysOk n s.env ∧ st = s.toSt n) k (hw hk).2 ⟨s0, h0, (hw hk).1, rfl⟩ ?_
  rintro k st ⟨s, hI, hk, rfl⟩
  refine Cwp.mono (round k s hI hk) ?_
  rintro e st ⟨s', hq, hk', rfl⟩
  cases e with
  | normal =>
    obtain ⟨m, s'', hm, hwk, hI'⟩ := hq
    exact ⟨m, _, hm, (hwk hk').2, s'', hI', (hwk hk').1, rfl⟩
  | _ => exact ⟨s', hq, hk', rfl⟩
/-- A loop that is left at one place, its round statement by statement. -/
theorem loopXC {b : CCode} {Q : Exit → Est → Prop} {s : Est} (x : Nat) (I : Nat → Est → Prop) (J : Est → Prop) (k : Nat) (s0 : Est) (hw : WkE n s s0) (h0 : I k s0) (round : ∀ k s, I k s → CwpE P F0 w0 n b (RoundX n I k x J Q) s) (post : ∀ s, J s → Q (.exit x) s) : CwpE P F0 w0 n (.loop b) Q s := by
  refine CwpE.post (Q := fun e s => match e with | .exit i => if i = x then ∃ s', WkE n s s' ∧ J s' else Q (.exit i) s | e => Q e s) ?_ ?_
  · refine loopEC I k s0 hw h0 fun k s hI => ?_
    have := round k s hI
    have e : RoundX n I k x J Q = RoundE n I k (fun e s => match e with | .exit i => if i = x then ∃ s', WkE n s s' ∧ J s' else Q (.exit i) s | e => Q e s) := by
      funext e s; cases e <;> rfl
    rw [e] at this; exact this
  · intro e s hq
    cases e with
    | exit i =>
      simp only at hq
      split at hq
      · rename_i hi; subst hi
        obtain ⟨s', h1, h2⟩ := hq
        exact ⟨s', h1, post s' h2⟩
      · exact ⟨s, .refl _ _, hq⟩
    | _ => exact ⟨s, .refl _ _, hq⟩
theorem agree_pick (env : List (Nat × AV)) : ∀ live : List Nat, Agree env (live.map fun t => (t, lk env t))
  | [] => trivial
  | _ :: l => ⟨rfl, agree_pick env l⟩
/-- Only these slots are kept. -/
theorem WkE.pick {env env' : List (Nat × AV)} {objs : List AObj} (live : List Nat) (h : (live.map fun t => (t, lk env t)) = env') : WkE n ⟨env, objs⟩ ⟨env', objs⟩ := WkE.keep (by subst h; exact agree_pick _ _)
/-- The first statement, then the rest in the state that is left. -/
theorem CwpE.cut {a b : CCode} {Q : Exit → Est → Prop} {s st : Est} (h : vcE P F0 w0 n a (thenE (fun s => ∃ s', WkE n s s' ∧ s' = st) Q) s) (k : CwpE P F0 w0 n b Q st) : CwpE P F0 w0 n (.seq a b) Q s := by
  refine CwpE.step (fun s => s = st) h ?_
  rintro s rfl; exact k
/-- The first statement is itself taken statement by statement. -/
theorem CwpE.seqJ {a b : CCode} {Q : Exit → Est → Prop} {s : Est} (J : Est → Prop) (h : CwpE P F0 w0 n a (thenE (fun s => ∃ s', WkE n s s' ∧ J s') Q) s) (k : ∀ s, J s → CwpE P F0 w0 n b Q s) : CwpE P F0 w0 n (.seq a b) Q s := by
  refine CwpE.seq (h.post ?_)
  rintro e s h
  cases e with
  | normal => obtain ⟨s', h1, h2⟩ := h; exact ⟨s, .refl _ _, (k s' h2).wk h1⟩
  | _ => exact ⟨s, .refl _ _, h⟩
end Dak
