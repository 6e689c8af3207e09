import Derived.Test.YtehelanfgepcmaaHe
import Derived.DataReads
import Derived.Defers
import Derived.RangeFuncFrom
import Derived.RangeFuncNested
set_option linter.unusedSimpArgs false
set_option linter.unusedVariables false
set_option linter.unusedSectionVars false
namespace Dak
open Go Go.RowKit
variable [Globs]
variable {P : Program} {F0 : FD} {w0 : World} {n : Nat}
theorem CwpE.vc {c : CCode} {Q : Exit → Est → Prop} {s : Est} (h : vcE P F0 w0 n c Q s) : CwpE P F0 w0 n c Q s := fun hk => vc_ok _ _ _ (vcE_ok c Q s hk h)
theorem CwpE.seq {a b : CCode} {Q : Exit → Est → Prop} {s : Est} (h : CwpE P F0 w0 n a (thenE (CwpE P F0 w0 n b Q) Q) s) : CwpE P F0 w0 n (.seq a b) Q s := by
  intro hk F1 w1 m r rn code hc hro a' w hs
  cases code with
  | seq x y =>
    simp only [compC, Option.bind_eq_some_iff, Option.map_eq_some_iff, CCode.seq.injEq] at hc
    obtain ⟨x', hx, y', hy, rfl, rfl⟩ := hc
    refine wpIn_seq (wpIn_mono (h hk F1 w1 m r rn _ hx (ro_l hro) _ w hs) ?_)
    rintro e a w ⟨F2, w2, hm, st, ⟨s1, hq, hk1, rfl⟩, hs1⟩
    cases e with
    | normal => exact wpIn_mono (hq hk1 F2 w2 (m.trans hm) r rn _ hy (ro_r hro) _ _ hs1) fun _ _ _ => LiftM.back hm
    | _ => exact ⟨F2, w2, hm, _, ⟨s1, hq, hk1, rfl⟩, hs1⟩
  | region id ops d => rcases compC_reg hc with ⟨_, _, h⟩ | ⟨_, _, h⟩ | ⟨_, _, _, h⟩ <;> cases h
  | _ => simp [compC, Option.bind_eq_some_iff] at hc
/-- The first statement by running it, the rest in a state that may say less. -/
theorem CwpE.step {a b : CCode} {Q : Exit → Est → Prop} {s : Est} (J : Est → Prop) (h : vcE P F0 w0 n a (thenE (fun s => ∃ s', WkE n s s' ∧ J s') Q) s) (k : ∀ s, J s → CwpE P F0 w0 n b Q s) : CwpE P F0 w0 n (.seq a b) Q s := by
  refine CwpE.seq ((CwpE.vc h).post ?_)
  rintro e s h
  cases e with
  | normal => obtain ⟨s', h1, h2⟩ := h; exact ⟨s, .refl _ _, (k s' h2).wk h1⟩
  | _ => exact ⟨s, .refl _ _, h⟩
theorem specC {f : FuncId} {c : CCode} {n : Nat} {rs : List CRes} (hf : fnC P f = some (c, n, rs)) {xs : List AV} (hn : xs.length ≤ n) {r : AV} (h : ∀ F0 w0, CwpE P F0 w0 n c (retE rs r) ⟨envOf 0 xs, []⟩) : Ctr P f xs r := by
  refine spec_ofC hf fun F0 w0 => ?_
  have hk : KeysOk n (envOf 0 xs) := by
    intro t ht
    rw [lk_envOf, if_pos (Nat.zero_le _), List.getD_eq_getElem?_getD, List.getElem?_eq_none (by omega)]; rfl
  have e : (⟨xs ++ List.replicate (n - xs.length) .junk, []⟩ : St) = (⟨envOf 0 xs, []⟩ : Est).toSt n := by
    unfold Est.toSt
    congr 1
    refine getD_ext (by simp [toT]; omega) fun t ht => ?_
    rw [toT_getD hk, lk_envOf, if_pos (Nat.zero_le _), Nat.sub_zero]
    rw [List.getD_eq_getElem?_getD, List.getD_eq_getElem?_getD, List.getElem?_append]
    split
    · rfl
    · rename_i h1
      rw [List.getElem?_replicate, List.getElem?_eq_none (by omega)]
      split <;> rfl
  rw [e]
  refine (h F0 w0 hk).mono ?_
  rintro e st ⟨s, hq, hk', rfl⟩
  have hr : ∀ x, resA (s.toSt n) x = resE s x := by
    intro x
    cases x with
    | tmp t => simp only [resA, resE]; rw [show (s.toSt n).tmps = toT n s.env from rfl, toT_getD hk']
    | cell a ag m => simp only [resA, resE]; rw [show (s.toSt n).tmps = toT n s.env from rfl, toT_getD hk']; rfl
  have hra : ∀ rs, resAll (s.toSt n) rs = resAllE s rs := by
    intro rs; unfold resAll resAllE; rw [show resA (s.toSt n) = resE s from funext hr]
    cases rs.mapM (resE s) with
    | none => rfl
    | some ys => cases ys with
      | nil => rfl
      | cons y ys => cases ys <;> rfl
  cases e with
  | normal => simp only [retQ]; rw [hra]; exact hq
  | ret => simp only [retQ]; rw [hra]; exact hq
  | _ => exact hq
/-- A slot holds a boolean that is not known: both must do. -/
theorem CwpE.split {c : CCode} {Q : Exit → Est → Prop} {env : List (Nat × AV)} {objs : List AObj} (k : Nat) (h : lk env k = .anyB) (ht : ∀ b, CwpE P F0 w0 n c Q ⟨(k, .val (.bool b)) :: env, objs⟩) : CwpE P F0 w0 n c Q ⟨env, objs⟩ := by
  intro hk F1 w1 m r rn code hc hro a w hs
  obtain ⟨hd, L, g, hsz, hslots⟩ := sim_slots hk hs
  have hkn : k < n := by
    rcases Nat.lt_or_ge k n with h1 | h1
    · exact h1
    · have := hk k h1; simp only [h] at this; cases this
  have hv := hslots k hkn
  simp only [h] at hv
  obtain ⟨b, hb⟩ := hv.anyB_inv
  have hk' : KeysOk n ((k, .val (.bool b)) :: env) := fun t ht' => by simp only [lk]; rw [if_neg (by omega)]; exact hk t ht'
  refine ht b hk' F1 w1 m r rn code hc hro a w (sim_mk (s := ⟨_, objs⟩) hd g hsz fun t ht' => ?_)
  simp only [lk]
  split
  · rename_i e; subst e; rw [hb]; exact .tree (.val _)
  · exact hslots t ht'
end Dak
set_option linter.unusedSimpArgs false
set_option linter.unusedVariables false
set_option linter.unusedSectionVars false
namespace Dak
open Go Go.RowKit
variable [Globs]
theorem tr_ofRow {k : IntKind} {w : World} {a : Option Addr} {len cap : Nat} {zs : List Int} (h : (a = none ∧ len = 0 ∧ cap = 0 ∧ zs = []) ∨
    ∃ x, a = some x ∧ len ≤ cap ∧ cap ≤ maxLen ∧ zs.length = cap ∧ (∀ i, i < zs.length → w.cell? (x.add i) = some (.int k (zs.getD i 0))) ∧ ∀ n ∈ zs, (Lit.int k n).wf = true) :
    TR w (fun _ => True) (.list 1 ((zs.take len).map fun n => .val (.int k n))) (.slice a len cap) := by
  rcases h with ⟨rfl, rfl, rfl, rfl⟩ | ⟨⟨b, o, sp⟩, rfl, hl, hm, hz, hc, _⟩
  · exact .nolist _ _ _ (Nat.zero_le _)
  · by_cases h0 : len = 0
    · subst h0; exact .nolist _ _ _ hm
    · have hsp : sp = none := World.cell?_spot (hc 0 (by omega))
      subst hsp
      have hlen : ((zs.take len).map fun n => AV.val (.int k n)).length = len := by simp; omega
      have := TR.list (w := w) (F := fun _ => True) 1 ((zs.take len).map fun n => AV.val (.int k n)) b o cap (fun i _ => .int k (zs.getD i 0)) trivial (isC.of_cell (hc 0 (by omega))) (by omega) hm
        (fun i hi => by simp [AV.cells]) (fun i j hi hj => by
          have : j = 0 := by omega
          subst this
          have := hc i (by omega)
          rw [Nat.mul_one, Nat.add_zero]
          by_cases hi0 : i = 0
          · subst hi0; simpa [Addr.add] using this
          · simpa [Addr.add, hi0] using this) (fun i j hi hj => rfl) (fun i hi j hj => by
          simp only [List.getElem_map, AV.cells, List.length_singleton] at hj ⊢
          have : j = 0 := by omega
          subst this
          have h1 : i < zs.length := by omega
          simp only [List.getElem_cons_zero, List.getElem_take, List.getD_eq_getElem?_getD, List.getElem?_eq_getElem h1, Option.getD_some]
          exact .val _)
      rw [hlen] at this
      exact this
theorem wf_i64 {n : Int} (h : (Lit.int .i64 n).wf = true) : -9223372036854775808 ≤ n ∧ n ≤ 9223372036854775807 := by
  simp [Lit.wf] at h
  have : IntKind.i64.min = -9223372036854775808 := by decide
  omega
end Dak
set_option linter.unusedSimpArgs false
set_option linter.unusedVariables false
set_option linter.unusedSectionVars false
namespace Dak
open Go Go.RowKit
variable [Globs]
variable {P : Program} {F0 : FD} {w0 : World} {n : Nat}
theorem CwpE.mono {c : CCode} {Q Q' : Exit → Est → Prop} {s : Est} (h : CwpE P F0 w0 n c Q s) (k : ∀ e s, Q e s → Q' e s) : CwpE P F0 w0 n c Q' s := h.post fun e s hq => ⟨s, .refl _ _, k e s hq⟩
theorem CwpE.block {id : Nat} {b : CCode} {Q : Exit → Est → Prop} {s : Est} (h : CwpE P F0 w0 n b (inBlockE id Q) s) : CwpE P F0 w0 n (.block id b) Q s := by
  intro hk F1 w1 m r rn code hc hro a w hs
  cases code with
  | block id' b' =>
    simp only [compC, Option.map_eq_some_iff, CCode.block.injEq] at hc
    obtain ⟨x', hx, rfl, rfl⟩ := hc
    refine wpIn_block (wpIn_mono (h hk F1 w1 m r rn _ hx hro a w hs) ?_)
    rintro e a1 w3 ⟨F2, w2, hm, st', ⟨s1, hq, hk1, rfl⟩, hs'⟩
    cases e with
    | exit i =>
      simp only [Exit.inBlock, inBlockE] at hq ⊢
      split
      · rename_i hi; rw [if_pos hi] at hq; exact ⟨F2, w2, hm, _, ⟨s1, hq, hk1, rfl⟩, hs'⟩
      · rename_i hi; rw [if_neg hi] at hq; exact ⟨F2, w2, hm, _, ⟨s1, hq, hk1, rfl⟩, hs'⟩
    | _ => exact ⟨F2, w2, hm, _, ⟨s1, hq, hk1, rfl⟩, hs'⟩
  | region id ops d => rcases compC_reg hc with ⟨_, _, h⟩ | ⟨_, _, h⟩ | ⟨_, _, _, h⟩ <;> cases h
  | _ => simp [compC, Option.bind_eq_some_iff] at hc
theorem CwpE.scope {b : CCode} {Q : Exit → Est → Prop} {s : Est} (h : CwpE P F0 w0 n b (noGotoE Q) s) : CwpE P F0 w0 n (.scope b) Q s := by
  intro hk F1 w1 m r rn code hc hro a w hs
  cases code with
  | scope b' =>
    simp only [compC, Option.map_eq_some_iff, CCode.scope.injEq] at hc
    obtain ⟨x', hx, rfl⟩ := hc
    refine wpIn_scope_straight (wpIn_mono (h hk F1 w1 m r rn _ hx hro a w hs) ?_)
    rintro e a1 w3 ⟨F2, w2, hm, st', ⟨s1, hq, hk1, rfl⟩, hs'⟩
    cases e with
    | goto l => exact hq.elim
    | _ => exact ⟨F2, w2, hm, _, ⟨s1, hq, hk1, rfl⟩, hs'⟩
  | region id ops d => rcases compC_reg hc with ⟨_, _, h⟩ | ⟨_, _, h⟩ | ⟨_, _, _, h⟩ <;> cases h
  | _ => simp [compC, Option.bind_eq_some_iff] at hc
theorem Cwp.loopC {b : CCode} {Q : Exit → St → Prop} {s s0 : St} (I : Nat → St → Prop) (n : Nat) (hw : Wk s s0) (h0 : I n s0) (round : ∀ n s, I n s → Cwp P F0 w0 b (Round I n Q) s) : Cwp P F0 w0 (.loop b) Q s := by
  intro F1 w1 hm1 r rn code hc hro a w hs
  cases code with
  | loop b' =>
    simp only [compC, Option.map_eq_some_iff, CCode.loop.injEq] at hc
    obtain ⟨x', hx, rfl⟩ := hc
    refine wpIn_loop_ghost (fun n a w => ∃ F2 w2, Mk F1 w1 F2 w2 ∧ ∃ s, I n s ∧ Sim F2 w2 s a w) n ⟨F1, w1, Mk.refl hs.lt, s0, h0, hw _ _ _ _ hs⟩ ?_
    rintro n a w ⟨F2, w2, hm2, s, hI, hs⟩
    refine wpIn_mono (round n s hI F2 w2 (hm1.trans hm2) r rn _ hx hro a w hs) ?_
    rintro e a1 w3 ⟨F3, w3', hm3, st', hq, hs'⟩
    cases e with
    | normal =>
      obtain ⟨m, s'', hm, hwk, hI'⟩ := hq
      first
        | exact ⟨m, hm, F3, w3', hm2.trans hm3, s'', hI', hwk _ _ _ _ hs'⟩
        | exact ⟨⟨m, hm, F3, w3', hm2.trans hm3, s'', hI', hwk _ _ _ _ hs'⟩⟩
    | _ => exact ⟨F3, w3', hm2.trans hm3, st', hq, hs'⟩
  | region id ops d => rcases compC_reg hc with ⟨_, _, h⟩ | ⟨_, _, h⟩ | ⟨_, _, _, h⟩ <;> cases h
  | _ => simp [compC, Option.bind_eq_some_iff] at hc
theorem loopEC {b : CCode} {Q : Exit → Est → Prop} {s : Est} (I : Nat → Est → Prop) (k : Nat) (s0 : Est) (hw : WkE n s s0) (h0 : I k s0) (round : ∀ k s, I k s → CwpE P F0 w0 n b (RoundE n I k Q) s) : CwpE P F0 w0 n (.loop b) Q s := by
  intro hk
  refine Cwp.loopC (fun k st => ∃ s, I k s ∧ KeysOk n s.env ∧ st = s.toSt n) k (hw hk).2 ⟨s0, h0, (hw hk).1, rfl⟩ ?_
  rintro k st ⟨s, hI, hk, rfl⟩
  refine Cwp.mono (round k s hI hk) ?_
  rintro e st ⟨s', hq, hk', rfl⟩
  cases e with
  | normal =>
    obtain ⟨m, s'', hm, hwk, hI'⟩ := hq
    exact ⟨m, _, hm, (hwk hk').2, s'', hI', (hwk hk').1, rfl⟩
  | _ => exact ⟨s', hq, hk', rfl⟩
/-- A loop that is left at one place, its round statement by statement. -/
theorem loopXC {b : CCode} {Q : Exit → Est → Prop} {s : Est} (x : Nat) (I : Nat → Est → Prop) (J : Est → Prop) (k : Nat) (s0 : Est) (hw : WkE n s s0) (h0 : I k s0) (round : ∀ k s, I k s → CwpE P F0 w0 n b (RoundX n I k x J Q) s) (post : ∀ s, J s → Q (.exit x) s) : CwpE P F0 w0 n (.loop b) Q s := by
  refine CwpE.post (Q := fun e s => match e with | .exit i => if i = x then ∃ s', WkE n s s' ∧ J s' else Q (.exit i) s | e => Q e s) ?_ ?_
  · refine loopEC I k s0 hw h0 fun k s hI => ?_
    have := round k s hI
    have e : RoundX n I k x J Q = RoundE n I k (fun e s => match e with | .exit i => if i = x then ∃ s', WkE n s s' ∧ J s' else Q (.exit i) s | e => Q e s) := by
      funext e s; cases e <;> rfl
    rw [e] at this; exact this
  · intro e s hq
    cases e with
    | exit i =>
      simp only at hq
      split at hq
      · rename_i hi; subst hi
        obtain ⟨s', h1, h2⟩ := hq
        exact ⟨s', h1, post s' h2⟩
      · exact ⟨s, .refl _ _, hq⟩
    | _ => exact ⟨s, .refl _ _, hq⟩
theorem agree_pick (env : List (Nat × AV)) : ∀ live : List Nat, Agree env (live.map fun t => (t, lk env t))
  | [] => trivial
  | _ :: l => ⟨rfl, agree_pick env l⟩
/-- Only these slots are kept. -/
theorem WkE.pick {env env' : List (Nat × AV)} {objs : List AObj} (live : List Nat) (h : (live.map fun t => (t, lk env t)) = env') : WkE n ⟨env, objs⟩ ⟨env', objs⟩ := WkE.keep (by subst h; exact agree_pick _ _)
/-- The first statement, then the rest in the state that is left. -/
theorem CwpE.cut {a b : CCode} {Q : Exit → Est → Prop} {s st : Est} (h : vcE P F0 w0 n a (thenE (fun s => ∃ s', WkE n s s' ∧ s' = st) Q) s) (k : CwpE P F0 w0 n b Q st) : CwpE P F0 w0 n (.seq a b) Q s := by
  refine CwpE.step (fun s => s = st) h ?_
  rintro s rfl; exact k
/-- The first statement is itself taken statement by statement. -/
theorem CwpE.seqJ {a b : CCode} {Q : Exit → Est → Prop} {s : Est} (J : Est → Prop) (h : CwpE P F0 w0 n a (thenE (fun s => ∃ s', WkE n s s' ∧ J s') Q) s) (k : ∀ s, J s → CwpE P F0 w0 n b Q s) : CwpE P F0 w0 n (.seq a b) Q s := by
  refine CwpE.seq (h.post ?_)
  rintro e s h
  cases e with
  | normal => obtain ⟨s', h1, h2⟩ := h; exact ⟨s, .refl _ _, (k s' h2).wk h1⟩
  | _ => exact ⟨s, .refl _ _, h⟩
end Dak
set_option linter.unusedSimpArgs false
set_option linter.unusedVariables false
set_option linter.unusedSectionVars false
namespace Dak
open Go Go.RowKit
variable [Globs]
variable {P : Program} {F0 : FD} {w0 : World} {n : Nat}
theorem CwpE.cond_b {c : Operand} {a b : CCode} {Q : Exit → Est → Prop} {s : Est} (t : Bool) (hc : asB (evE s.env c) = some t) (h : CwpE P F0 w0 n (if t then a else b) Q s) : CwpE P F0 w0 n (.cond c a b) Q s := by
  intro hk F1 w1 m r rn code hcode hro a' w hs
  cases code with
  | cond c' a'' b'' =>
    simp only [compC, Option.bind_eq_some_iff, Option.map_eq_some_iff, CCode.cond.injEq] at hcode
    obtain ⟨x', hx, y', hy, rfl, rfl, rfl⟩ := hcode
    have hv : a'.eval c' = .bool t := by
      obtain ⟨hd, L, g, hs1, ht1⟩ := hs
      refine asB_ok (ev_ok (objs := s.objs) g.gl hs1 ht1 c') ?_
      show asB (St.ev (toT n s.env) c') = some t
      rw [ev_toT hk]; exact hc
    refine wpIn_cond hv ?_
    cases t with
    | true => exact h hk F1 w1 m r rn _ hx (ro_l hro) a' w hs
    | false => exact h hk F1 w1 m r rn _ hy (ro_r hro) a' w hs
  | region id ops d => rcases compC_reg hcode with ⟨_, _, h⟩ | ⟨_, _, h⟩ | ⟨_, _, _, h⟩ <;> cases h
  | _ => simp [compC, Option.bind_eq_some_iff] at hcode
theorem CwpE.cond_t {c : Operand} {a b : CCode} {Q : Exit → Est → Prop} {s : Est} (hc : asB (evE s.env c) = some true) (h : CwpE P F0 w0 n a Q s) : CwpE P F0 w0 n (.cond c a b) Q s := CwpE.cond_b true hc h
theorem CwpE.cond_f {c : Operand} {a b : CCode} {Q : Exit → Est → Prop} {s : Est} (hc : asB (evE s.env c) = some false) (h : CwpE P F0 w0 n b Q s) : CwpE P F0 w0 n (.cond c a b) Q s := CwpE.cond_b false hc h
theorem CwpE.skip {Q : Exit → Est → Prop} {s : Est} (h : Q .normal s) : CwpE P F0 w0 n .skip Q s := CwpE.vc h
end Dak
set_option linter.unusedSimpArgs false
set_option linter.unusedVariables false
set_option linter.unusedSectionVars false
namespace Dak
open Go Go.RowKit
variable [Globs]
variable {P : Program} {F0 : FD} {w0 : World} {n : Nat}
theorem rops_ok2 (ops : Array Oper) {K : St → Prop} (csb : List COper) : ∀ (l : List Oper) (csa : List COper) (k : Nat), (∀ j, l[j]? = ops[k + j]?) → l.mapM (compO P ops) = some (csa ++ csb) → ∀ (st : St) (a : Act) (w : World), Sim F0 w0 st a w → Rops P csa (fun st1 => ∃ st2, Wk st1 st2 ∧ Rops P csb K st2) st →
    wpOps P ops (Lift F0 w0 fun e st => e = .normal ∧ K st) (List.range' k l.length) a w
  | l, [], k, hl, hm, st, a, w, hsim, h => by
    obtain ⟨st2, hwk, h⟩ := h
    exact rops_ok ops l csb k hl hm st2 a w (hwk _ _ _ _ hsim) h
  | [], c :: csa, k, hl, hm, st, a, w, hsim, h => by simp at hm
  | o :: l, c :: csa, k, hl, hm, st, a, w, hsim, h => by
    simp only [List.mapM_cons, Option.bind_eq_bind, Option.bind_eq_some_iff, Option.pure_def, Option.some.injEq, List.cons_append, List.cons.injEq] at hm
    obtain ⟨c, hc, cs', hcs, rfl, rfl⟩ := hm
    have h0 : ops[k]? = some o := by simpa using (hl 0).symm
    have hl' : ∀ j, l[j]? = ops[k + 1 + j]? := fun j => by have := hl (j + 1); simpa [Nat.add_assoc, Nat.add_comm 1 j] using this
    have ih := rops_ok2 ops (K := K) csb l csa (k + 1) hl' hcs
    simp only [List.length_cons, List.range'_succ, wpOps, h0]
    simp only [compO, Option.bind_eq_some_iff] at hc
    obtain ⟨op, hop, hc⟩ := hc
    cases hg : o.guard with
    | none =>
      rw [hg] at hc
      simp only [Option.some.injEq] at hc
      subst hc
      have hw : Region.wanted o (yielded ops a.tmps) = true := by unfold Region.wanted; rw [hg]
      rw [hw, if_pos rfl]
      simp only [Rops] at h
      exact .inl (rstep_ok (P := P) (c := ⟨o.dst, none, op⟩) (.ofB hop) rfl hsim h fun st' a' w' hK hs => ih st' a' w' hs hK)
    | some q =>
      obtain ⟨j, want⟩ := q
      rw [hg] at hc
      simp only [Option.map_eq_some_iff] at hc
      obtain ⟨t, htt, rfl⟩ := hc
      simp only [Rops] at h
      split at h
      · rename_i b hb
        have hbv : boolOf (a.tmps.getD t undef) = b := by
          obtain ⟨hd, L, g, hs, ht⟩ := hsim
          exact gdB_ok (ev_ok (objs := st.objs) g.gl hs ht (.tmp t)) hb
        have hw := wanted_of hg htt hbv
        by_cases e : b = some want
        · subst e
          rw [hw]; simp only [beq_self_eq_true, if_true]
          exact .inl (rstep_ok (P := P) (c := ⟨o.dst, some (t, want), op⟩) (.ofB hop) rfl hsim (h.1 rfl) fun st' a' w' hK hs => ih st' a' w' hs hK)
        · rw [hw, if_neg (by simpa using e)]
          refine ih _ _ _ ?_ (h.2 e)
          obtain ⟨hd, L, g, hs, ht⟩ := hsim
          exact sim_put hd hs ht g (.refl _ _ _) _ (.tree (.val _))
      · exact h.elim
/-- A region whose first k operations are run, then the state is weakened, then the rest is run. -/
theorem CwpE.regionW (k : Nat) {cs : List COper} {Q : Exit → Est → Prop} {s : Est} (h : RopsE P n (cs.take k) (fun s1 => ∃ s2, WkE n s1 s2 ∧ RopsE P n (cs.drop k) (Q .normal) s2) s) : CwpE P F0 w0 n (.region cs) Q s := by
  intro hk F1 w1 m r rn code hc hro a w hs
  cases code with
  | region id ops d =>
    cases d with
    | false =>
      simp only [compC, Option.map_eq_some_iff, CCode.region.injEq] at hc
      obtain ⟨cs', hcs, rfl⟩ := hc
      refine wpIn_mono (wpIn_region (ops_in (calm_of hcs) lift_in _ _ _ ?_)) (Q := Lift F1 w1 fun e st => e = .normal ∧ LiftE n (Q .normal) st) ?_
      · have := rops_ok2 (F0 := F1) (w0 := w1) (K := LiftE n (Q .normal)) ops (cs'.drop k) ops.toList (cs'.take k) 0 (fun j => by simp) (by rw [List.take_append_drop]; exact hcs) (s.toSt n) a w hs ?_
        · rw [← List.range_eq_range'] at this
          simpa using this
        · have h1 := ropsE_ok (P := P) (cs'.take k) s hk h
          refine vc_mono (F0 := F0) (w0 := w0) (.region (cs'.take k)) (Q := fun _ => LiftE n (fun s1 => ∃ s2, WkE n s1 s2 ∧ RopsE P n (cs'.drop k) (Q .normal) s2)) (Q' := fun _ st1 => ∃ st2, Wk st1 st2 ∧ Rops P (cs'.drop k) (LiftE n (Q .normal)) st2) _ ?_ h1
          rintro _ st ⟨s1, ⟨s2, hwk, h2⟩, hk1, rfl⟩
          exact ⟨s2.toSt n, (hwk hk1).2, ropsE_ok _ _ (hwk hk1).1 h2⟩
      · rintro e a' w' ⟨st', ⟨rfl, hq⟩, hs'⟩; exact .mk hq hs'
    | true => rcases compC_reg hc with ⟨h, _⟩ | ⟨_, _, h⟩ | ⟨_, _, _, h⟩ <;> cases h
  | _ => simp [compC, Option.bind_eq_some_iff] at hc
end Dak
set_option linter.unusedSimpArgs false
set_option linter.unusedVariables false
set_option linter.unusedSectionVars false
namespace Dak
open Go Go.RowKit
variable [Globs]
variable {P : Program} {F0 : FD} {w0 w : World} {L : Lay} {objs objs0 : List AObj} {nid : Nat}

theorem inn1_mono {m n : Nat} (h : m ≤ n) {x : AV} (hx : x.inn1 m = true) : x.inn1 n = true := by
  cases x <;> simp_all [AV.inn1] <;> omega
theorem innA_mono {m n : Nat} (h : m ≤ n) {x : AV} (hx : x.innA m = true) : x.innA n = true := by
  cases x with
  | agg cs => exact List.all_eq_true.2 fun c hc => inn1_mono h (List.all_eq_true.1 hx c hc)
  | _ => simp only [AV.innA] at hx ⊢; exact inn1_mono h hx
theorem inn_mono {m n : Nat} (h : m ≤ n) {x : AV} (hx : x.inn m = true) : x.inn n = true := by
  cases x with
  | agg cs => exact List.all_eq_true.2 fun c hc => inn1_mono h (List.all_eq_true.1 hx c hc)
  | tup cs => exact List.all_eq_true.2 fun c hc => innA_mono h (List.all_eq_true.1 hx c hc)
  | clo fn cs => exact List.all_eq_true.2 fun c hc => inn1_mono h (List.all_eq_true.1 hx c hc)
  | _ => simp only [AV.inn] at hx ⊢; exact inn1_mono h hx

theorem later_app (w : World) (L : Lay) (objs tail : List AObj) : Later w L objs w L (objs ++ tail) :=
  ⟨fun b hF hb => ⟨rfl, hF⟩, fun _ _ h => stale_app _ h, fun _ _ _ h => .inr ⟨live_app _ h, rfl⟩⟩
/-- What is there now, kept to look at later. -/
abbrev probeOf (objs : List AObj) (L : Lay) (ps : List (AV × Value)) : AObj := .probe objs.length (stale objs) (live objs) L.blk ps
theorem good_probe (g : Good F0 w0 w L objs) (ps : List (AV × Value)) (hp : ∀ p ∈ ps, VR w L objs p.1 p.2) : Good F0 w0 w L (objs ++ [probeOf objs L ps]) := by
  have hl := later_app w L objs [probeOf objs L ps]
  refine ⟨fun id o ho => ?_, fun id hid => g.out id (by rw [List.length_append] at hid; omega), g.inj, g.own, g.old, g.ext, g.gl⟩
  by_cases hlt : id < objs.length
  · rw [List.getElem?_append_left hlt] at ho
    have := g.obj id o ho
    cases o with
    | void => exact this
    | dead => exact this
    | probe k st li bk ps => exact this.probe_stay hl rfl
    | arr gen size elem xs =>
      unfold OR at this ⊢
      cases hbk : L.blk id with
      | none => rw [hbk] at this; exact this
      | some q =>
        obtain ⟨b, o', n⟩ := q
        rw [hbk] at this
        obtain ⟨cur, hc, hn, hr⟩ := this
        exact ⟨cur, hc, hn, hr.stay hl⟩
  · have hid : id = objs.length := by
      have := (List.getElem?_eq_some_iff.1 ho).1
      simp at this; omega
    subst hid
    simp at ho; subst ho
    exact ⟨g.out _ (Nat.le_refl _), fun i g' _ h => stale_app _ h, fun i g' s _ h => .inr ⟨live_app _ h, rfl⟩, fun p hp' => (hp p hp').stay hl⟩
theorem probe_inn {ps : List (AV × Value)} (hp : ∀ p ∈ ps, p.1.inn objs.length = true) (m : Nat) (hm : objs.length ≤ m) : (probeOf objs L ps).innO m = true := by
  simp only [AObj.innO, Bool.and_eq_true, decide_eq_true_eq]
  exact ⟨hm, List.all_eq_true.2 fun p hp' => inn_mono hm (hp p hp')⟩
theorem Good.ds (g : Good F0 w0 w L objs) (ds : List Deferred) : Good { F0 with ds := ds } w0 w L objs := ⟨g.obj, g.out, g.inj, g.own, g.old, g.ext, g.gl⟩

/-- The probe at the end is read, and forgotten. -/
theorem fin_probe {w' : World} {L3 : Lay} {base base' : List AObj} {r : AV} {v : Value} {ds : List Deferred} (g : Good { F0 with ds := ds } w0 w' L3 (base' ++ [probeOf base L []])) (hlen : base'.length = base.length) (hb' : (base'.all fun o => o.innO base.length) = true)
    (hv : VR w' L3 (base' ++ [probeOf base L []]) r v) (hr : r.inn base.length = true) : ∃ L', Good F0 w0 w' L' base' ∧ Done base L base' L' ∧ VR w' L' base' r v := by
  have e : (base' ++ [probeOf base L []]).take base.length = base' := by rw [← hlen]; exact List.take_left
  have gd := good_drop g base.length (fun o ho => by rw [e] at ho; exact List.all_eq_true.1 hb' o ho)
  rw [e] at gd
  have hpr := g.obj base.length (probeOf base L []) (by rw [← hlen]; simp)
  obtain ⟨_, p1, p2, _⟩ := hpr
  refine ⟨L3.cut base.length, ⟨gd.obj, gd.out, gd.inj, gd.own, gd.old, gd.ext, gd.gl⟩, ⟨fun id gg h => ?_, fun id gg s h => ?_⟩, ?_⟩
  · have hlt := stale_lt h
    have := (take_stale hlt).2 (p1 id gg hlt h)
    rwa [e] at this
  · have hlt := live_lt h
    rcases p2 id gg s hlt h with h1 | ⟨h1, h2⟩
    · have := (take_stale hlt).2 h1
      rw [e] at this; exact .inl this
    · have := (take_live hlt).2 h1
      rw [e] at this
      exact .inr ⟨this, (if_pos hlt).trans h2⟩
  · have := below_vr (L := L3) (L' := L3.cut base.length) (m := base.length) (fun _ h => h) (fun id h => if_pos h) hv hr
    rwa [e] at this

/-- How a function ends that has changed what was handed to it. -/
def retM (rs : List CRes) (r : AV) (objs' : List AObj) : Exit → Est → Prop
  | .normal, s => ∃ y, resAllE s rs = some y ∧ WkE 1 ⟨[(0, y)], s.objs⟩ ⟨[(0, r)], objs'⟩
  | .ret, s => ∃ y, resAllE s rs = some y ∧ WkE 1 ⟨[(0, y)], s.objs⟩ ⟨[(0, r)], objs'⟩
  | _, _ => False

theorem keys_env {xs : List AV} {n : Nat} (hn : xs.length ≤ n) : KeysOk n (envOf 0 xs) := by
  intro t ht
  rw [lk_envOf, if_pos (Nat.zero_le _), List.getD_eq_getElem?_getD, List.getElem?_eq_none (by omega)]; rfl
theorem enter_slots {xs : List AV} {n : Nat} {vs : Array Value} (hl : vs.size = xs.length) (hn : xs.length ≤ n) (hv : ∀ i (h : i < xs.length) (h2 : i < vs.size), VR w L objs xs[i] vs[i]) :
    ∀ t, t < n → VR w L objs (lk (envOf 0 xs) t) ((vs ++ Array.replicate (n - vs.size) undef).getD t undef) := by
  intro t ht
  rw [lk_envOf, if_pos (Nat.zero_le _), Nat.sub_zero, List.getD_eq_getElem?_getD]
  by_cases hlt : t < xs.length
  · rw [List.getElem?_eq_getElem hlt, Array.getD_eq_getD_getElem?, Array.getElem?_append_left (by omega), Array.getElem?_eq_getElem (by omega)]
    exact hv t hlt (by omega)
  · rw [List.getElem?_eq_none (by omega)]
    exact .junk _
theorem resAllE_eq {s : Est} {n : Nat} (hk : KeysOk n s.env) (rs : List CRes) : resAll (s.toSt n) rs = resAllE s rs := by
  have hr : ∀ x, resA (s.toSt n) x = resE s x := by
    intro x
    cases x with
    | tmp t => simp only [resA, resE]; rw [show (s.toSt n).tmps = toT n s.env from rfl, toT_getD hk]
    | cell a ag m => simp only [resA, resE]; rw [show (s.toSt n).tmps = toT n s.env from rfl, toT_getD hk]; rfl
  unfold resAll resAllE
  rw [show resA (s.toSt n) = resE s from funext hr]
  cases rs.mapM (resE s) with
  | none => rfl
  | some ys => cases ys with
    | nil => rfl
    | cons y ys => cases ys <;> rfl

/-- One value alone, and memory, seen otherwise. -/
theorem wk_one {y r : AV} {objs' : List AObj} (h : WkE 1 ⟨[(0, y)], objs⟩ ⟨[(0, r)], objs'⟩) (g : Good F0 w0 w L objs) {v : Value} (hv : VR w L objs y v) : ∃ L', Good F0 w0 w L' objs' ∧ VR w L' objs' r v := by
  have hk : KeysOk 1 [(0, y)] := by
    intro t ht; simp only [lk]; rw [if_neg (by omega)]
  obtain ⟨hk', hw⟩ := h hk
  have hs := hw F0 w0 { tmps := #[v], defers := F0.ds } w (sim_mk (n := 1) (s := ⟨[(0, y)], objs⟩) rfl g rfl fun t ht => by
    obtain rfl : t = 0 := by omega
    exact hv)
  obtain ⟨_, L', g', _, ht⟩ := sim_slots hk' hs
  exact ⟨L', g', ht 0 (by omega)⟩

theorem Good.un {w' : World} {L' : Lay} {objs' : List AObj} {k : Nat} (g : Good F0 w0 w L objs) (g' : Good (inFD F0 L k) w w' L' objs') : Good F0 w0 w' L' objs' := by
  refine ⟨g'.obj, g'.out, g'.inj, fun id b o n hb => ?_, fun b hb => ⟨?_, (g'.old b hb).2⟩, ?_, g'.gl⟩
  · have h1 := g'.own _ _ _ _ hb
    exact ⟨h1.1, fun hk => h1.2.1 (.inl hk), h1.2.2⟩
  · rcases (g'.old b hb).1 with h1 | h1
    · exact (g.old b h1).1
    · exact .inr fun hk => h1 (.inl hk)
  · exact ⟨g'.ext.os.trans g.ext.os, g'.ext.tape.trans g.ext.tape, g'.ext.output.trans g.ext.output, Nat.le_trans g.ext.size g'.ext.size, fun b hb => (g'.ext.block b (.inl hb)).trans (g.ext.block b hb), g.ext.lt⟩
theorem mod_all (g : Good F0 w0 w L objs) : Good (inFD F0 L objs.length) w w L objs := by
  refine ⟨g.obj, g.out, g.inj, fun id b o n hbk => ?_, fun b hF => ⟨.inl hF, (g.old b hF).2⟩, Kept.refl fun b hK => ?_, g.gl⟩
  · have h1 := g.own id b o n hbk
    refine ⟨h1.1, ?_, h1.2.2⟩
    rintro (hk | hk | ⟨id', o', n', hk, hbk'⟩)
    · exact h1.2.1 hk
    · exact h1.1 hk
    · rw [g.out id' hk] at hbk'; cases hbk'
  · rcases hK with hk | hk | ⟨id', o', n', hk, hbk'⟩
    · exact Nat.lt_of_lt_of_le (g.ext.lt b hk) g.ext.size
    · exact (g.old b hk).2
    · exact (g.own _ _ _ _ hbk').2.2
theorem bodyM {fn : Func} {code : Code} {c : CCode} {rs : List CRes} {xs : List AV} {base base' : List AObj} {r : AV} (hc : compC P code = some c) (hrs : fn.results.toList.mapM (resC P) = some rs) (hn : xs.length ≤ fn.ntmps) (hlen : base'.length = base.length)
    (hb' : (base'.all fun o => o.innO base.length) = true) (hr : r.inn base.length = true)
    (h : ∀ F0 w0 G, (∀ m, base.length ≤ m → G.innO m = true) → CwpE P F0 w0 fn.ntmps c (retM rs r (base' ++ [G])) ⟨envOf 0 xs, base ++ [G]⟩)
    {vs : Array Value} (g : Good F0 w0 w L base) (hl : vs.size = xs.length) (hv : ∀ i (h : i < xs.length) (h2 : i < vs.size), VR w L base xs[i] vs[i]) :
    code.wpIn (Wf none) 3 P (bodyPostM Fence.wide 3 P fn (OutM F0 w0 L base r base')) { tmps := vs ++ Array.replicate (fn.ntmps - vs.size) undef, defers := [] } w := by
  have gp := good_probe (mod_all g) [] (fun p h => by cases h)
  have hsim : Sim (inFD F0 L base.length) w ((⟨envOf 0 xs, base ++ [probeOf base L []]⟩ : Est).toSt fn.ntmps) { tmps := vs ++ Array.replicate (fn.ntmps - vs.size) undef, defers := [] } w :=
    sim_mk (s := ⟨envOf 0 xs, base ++ [probeOf base L []]⟩) rfl gp (by simp [hl]; omega) (enter_slots hl hn fun i h1 h2 => (hv i h1 h2).stay (later_app w L base _))
  refine wpIn_mono (h (inFD F0 L base.length) w (probeOf base L []) (fun m hm => probe_inn (fun p h => by cases h) m hm) (keys_env hn) _ _ (Mk.refl hsim.lt) none 0 code hc (.inl rfl) _ w hsim) ?_
  rintro e a' w' ⟨F1, w1, hm, st, ⟨s, hq, hk, rfl⟩, hs⟩
  have fin : (∃ y, resAllE s rs = some y ∧ WkE 1 ⟨[(0, y)], s.objs⟩ ⟨[(0, r)], base' ++ [probeOf base L []]⟩) → LeavesInM Fence.wide 3 P fn a'.tmps (OutM F0 w0 L base r base') a'.defers .returning w' := by
    rintro ⟨y, hy, hwk⟩
    refine leavesM (F0 := inFD F0 L base.length) (w0 := w) (fun b hb => (g.old b hb).2) hm hs fun W hsW => ?_
    obtain ⟨hd, L', g', hs1, ht⟩ := hsW
    obtain ⟨v, hv, hvr⟩ := results_ok (P := P) hrs g' hs1 ht (by rw [resAllE_eq hk]; exact hy)
    obtain ⟨L3, g3, hv3⟩ := wk_one hwk g' hvr
    obtain ⟨L4, g4, hd4, hv4⟩ := fin_probe (ds := []) (F0 := inFD F0 L base.length) g3 hlen hb' hv3 hr
    exact ⟨v, hv, v, L4, rfl, g.un g4, hd4, hv4⟩
  cases e with
  | normal => exact fin hq
  | ret => exact fin hq
  | _ => exact hq.elim

theorem fnC_inv {f : FuncId} {c : CCode} {n : Nat} {rs : List CRes} (hf : fnC P f = some (c, n, rs)) : ∃ fn code, P.funcs[f]? = some fn ∧ fn.body = some code ∧ Enters P f = true ∧ compC P code = some c ∧ fn.results.toList.mapM (resC P) = some rs ∧ fn.ntmps = n := by
  unfold fnC at hf
  split at hf
  rotate_left
  · cases hf
  rename_i fn hfn
  split at hf
  · cases hf
  rename_i hname
  split at hf
  rotate_left
  · cases hf
  rename_i code hbody
  simp only [Option.bind_eq_some_iff, Option.map_eq_some_iff, Prod.mk.injEq] at hf
  obtain ⟨c', hc, rs', hrs, rfl, rfl, rfl⟩ := hf
  exact ⟨fn, code, hfn, hbody, by unfold Enters; rw [hfn]; simp only [hbody, Option.isSome_some, Bool.and_true]; simpa using hname, hc, hrs, rfl⟩

/-- A contract of a function that changes what is handed to it. -/
theorem specM {f : FuncId} {c : CCode} {n : Nat} {rs : List CRes} (hf : fnC P f = some (c, n, rs)) {xs : List AV} {base base' : List AObj} {r : AV} (hn : xs.length ≤ n) (hlen : base'.length = base.length) (hb' : (base'.all fun o => o.innO base.length) = true)
    (hr : r.inn base.length = true) (h : ∀ F0 w0 G, (∀ m, base.length ≤ m → G.innO m = true) → CwpE P F0 w0 n c (retM rs r (base' ++ [G])) ⟨envOf 0 xs, base ++ [G]⟩) : CtrM P f xs base r base' := by
  obtain ⟨fn, code, hfn, hbody, hent, hc, hrs, rfl⟩ := fnC_inv hf
  exact ⟨hent, hlen, fun F0 w0 w L vs hds g hl hv => callsIn_wide.1 (callsIn_of_wp_marks (n := 3) hfn hbody trivial (bodyM hc hrs hn hlen hb' hr h g hl hv))⟩
/-- A slice that lies in a slot and in a cell is data in both, from now on. -/
theorem WkE.freezeBoth {n : Nat} {env : List (Nat × AV)} {objs : List AObj} (k id gen sz el c id2 g2 off len size : Nat) (et elem : TypeId) (xs ys : List AV) (y : AV) (hkn : k < n) (hlk : lk env k = .own id2 g2 off len) (ho : objs[id]? = some (.arr gen sz et xs)) (hy : xs[el]? = some y) (hc : y.cells[c]? = some (.own id2 g2 off len))
    (ho2 : objs[id2]? = some (.arr g2 size elem ys)) (hne : id ≠ id2) (hle : off + len ≤ ys.length) (hT : (ys.all AV.isT) = true) (hem : elem < mapT := by decide) :
    WkE n ⟨env, objs⟩ ⟨(k, .list size ((ys.drop off).take len)) :: env, (objs.set id2 .dead).set id (.arr gen sz et (xs.set el (recell y (y.cells.set c (.list size ((ys.drop off).take len))))))⟩ := by
  intro hk
  refine ⟨fun t ht => ?_, fun F0 w0 a w hs => ?_⟩
  · simp only [lk]; rw [if_neg (by omega)]; exact hk t ht
  obtain ⟨hd, L, g, hs, ht⟩ := sim_slots hk hs
  obtain ⟨L', g', hl, h1, h2, h3⟩ := good_dead g ho2
  have ho' : (objs.set id2 .dead)[id]? = some (.arr gen sz et xs) := by rw [List.getElem?_set_ne (Ne.symm hne)]; exact ho
  have hg := good_recell (x1 := .list size ((ys.drop off).take len)) g g' hl ho ho' (h3 id hne) hy hc (fun u _ hu => .tree (own_data g ho2 hle hT hem h1 h2 hu)) (fun ds => by simp)
  refine sim_mk (s := ⟨_, _⟩) hd hg hs fun t h => ?_
  simp only [lk]
  split
  · rename_i e; subst e
    have := ht k h
    simp only at this
    rw [hlk] at this
    exact .tree (own_data g ho2 hle hT hem h1 h2 this)
  · exact (ht t h).stay (hl.trans (live_set_same ho'))
/-- How a function ends that hands objects to its caller. -/
theorem specN {f : FuncId} {c : CCode} {n : Nat} {rs : List CRes} (hf : fnC P f = some (c, n, rs)) {xs : List AV} {r : AV} {news : List AObj} (hn : xs.length ≤ n) (hp : (news.all AObj.plain) = true) (hi : (news.all fun o => o.innO news.length) = true) (hr : r.inn news.length = true)
    (h : ∀ F0 w0, CwpE P F0 w0 n c (retM rs r news) ⟨envOf 0 xs, []⟩) : CtrN P f xs r news := by
  obtain ⟨fn, code, hfn, hbody, hent, hc, hrs, rfl⟩ := fnC_inv hf
  refine ⟨hent, hp, hi, hr, fun w F vs hgl hl ht => ?_⟩
  refine callsIn_wide.1 (callsIn_of_wp_marks (n := 3) hfn hbody trivial ?_)
  have g0 : Good ⟨fun b => F b ∧ b < w.heap.size, (· < w.heap.size), []⟩ w w ⟨fun b => F b ∧ b < w.heap.size, fun _ => none⟩ [] :=
    ⟨fun id o h => by simp at h, fun _ _ => rfl, fun _ _ _ _ _ _ _ h => by simp at h, fun _ _ _ _ h => by simp at h, fun b hb => ⟨.inl hb, hb.2⟩, Kept.refl fun _ h => h, hgl.stay fun b hb hl => ⟨rfl, hb, hl⟩⟩
  have hsim : Sim ⟨fun b => F b ∧ b < w.heap.size, (· < w.heap.size), []⟩ w ((⟨envOf 0 xs, []⟩ : Est).toSt fn.ntmps) { tmps := vs ++ Array.replicate (fn.ntmps - vs.size) undef, defers := [] } w :=
    sim_mk (s := ⟨envOf 0 xs, []⟩) rfl g0 (by simp [hl]; omega) (enter_slots hl hn fun i h1 h2 => .tree ((ht i h1 h2).mono fun b hb hbl => ⟨hb, hbl⟩))
  refine wpIn_mono (h ⟨fun b => F b ∧ b < w.heap.size, (· < w.heap.size), []⟩ w (keys_env hn) _ _ (Mk.refl hsim.lt) none 0 code hc (.inl rfl) _ w hsim) ?_
  rintro e a' w' ⟨F1, w1, hm, st, ⟨s, hq, hk, rfl⟩, hs⟩
  have fin : (∃ y, resAllE s rs = some y ∧ WkE 1 ⟨[(0, y)], s.objs⟩ ⟨[(0, r)], news⟩) → LeavesInM Fence.wide 3 P fn a'.tmps (fun e w' => ∃ v L', e = Ending.returned v ∧ Good ⟨F, (· < w.heap.size), []⟩ w w' L' news ∧ VR w' L' news r v) a'.defers .returning w' := by
    rintro ⟨y, hy, hwk⟩
    refine leavesM (F0 := ⟨fun b => F b ∧ b < w.heap.size, (· < w.heap.size), []⟩) (fun b (hb : F b ∧ b < w.heap.size) => hb.2) hm hs fun W hsW => ?_
    obtain ⟨hd, L', g', hs1, ht'⟩ := hsW
    obtain ⟨v, hv, hvr⟩ := results_ok (P := P) hrs g' hs1 ht' (by rw [resAllE_eq hk]; exact hy)
    obtain ⟨L3, g3, hv3⟩ := wk_one hwk g' hvr
    exact ⟨v, hv, v, L3, rfl, ⟨g3.obj, g3.out, g3.inj, g3.own, fun b hb => ⟨(g3.old b hb).1.imp (fun h => h.1) fun h => h, (g3.old b hb).2⟩, g3.ext, g3.gl⟩, hv3⟩
  cases e with
  | normal => exact fin hq
  | ret => exact fin hq
  | _ => exact hq.elim
end Dak
set_option linter.unusedSimpArgs false
set_option linter.unusedVariables false
set_option linter.unusedSectionVars false
namespace Dak
open Go Go.RowKit
variable [Globs]
variable {P : Program} {F0 : FD} {w0 w : World} {L : Lay} {objs : List AObj}

theorem isC_cells {w : World} {b : Nat} (h : isC w b) : ∃ o : Obj, w.heap[b]? = some o ∧ o.isCells = true := by
  obtain ⟨c, e, f, h⟩ := h
  exact ⟨_, h, rfl⟩
theorem not_isC {w : World} {b : Nat} (h : ∃ o : Obj, w.heap[b]? = some o ∧ o.isCells = false) : ¬ isC w b := by
  rintro ⟨c, e, f, h2⟩
  obtain ⟨o, h1, h3⟩ := h
  rw [h2] at h1
  cases h1; cases h3

mutual
/-- No map stands in it as data. -/
def AV.nm : AV → Bool
  | .mapd .. => false
  | .list _ xs => AV.nmL xs
  | .agg xs => AV.nmL xs
  | .tup xs => AV.nmL xs
  | .ptr xs => AV.nmL xs
  | .clo _ xs => AV.nmL xs
  | .junk => true
  | .val _ => true
  | .own .. => true
  | .ref .. => true
  | .emp => true
  | .anyB => true
  | .mref .. => true
def AV.nmL : List AV → Bool
  | [] => true
  | x :: xs => x.nm && AV.nmL xs
end
def AObj.nm : AObj → Bool
  | .arr _ _ e xs => decide (e < mapT) && AV.nmL xs
  | .void => true
  | .dead => true
  | .probe .. => false
theorem nmL_mem : ∀ {xs : List AV}, AV.nmL xs = true → ∀ x ∈ xs, x.nm = true
  | [], _, x, hx => by simp at hx
  | y :: ys, h, x, hx => by
    simp only [AV.nmL, Bool.and_eq_true] at h
    rcases List.mem_cons.1 hx with rfl | hx
    · exact h.1
    · exact nmL_mem h.2 x hx
theorem nm_cells {x : AV} (h : x.nm = true) : ∀ c ∈ x.cells, c.nm = true := by
  intro c hc
  cases x with
  | agg cs => exact nmL_mem (xs := cs) (by simpa [AV.nm] using h) c hc
  | _ => simp only [AV.cells, List.mem_singleton] at hc; subst hc; exact h
def Lay.cells (L : Lay) (w : World) (K : Nat → Prop) : Lay := ⟨fun b => (L.F b ∧ isC w b) ∨ K b, L.blk⟩
theorem TR.cells' {F : Nat → Prop} (K : Nat → Prop) {x : AV} {v : Value} (h : TR w F x v) : x.nm = true → TR w (fun b => (F b ∧ isC w b) ∨ K b) x v := by
  induction h with
  | val v => exact fun _ => .val v
  | nolist size ad cap h => exact fun _ => .nolist size ad cap h
  | list size xs b o cap us hF hb hn hm hs' hc h1 hr ih =>
    intro hx
    simp only [AV.nm] at hx
    exact .list size xs b o cap us (.inl ⟨hF, hb⟩) hb hn hm hs' hc h1 fun i hi j hj => ih i hi j hj (nm_cells (nmL_mem hx _ (List.getElem_mem hi)) _ (List.getElem_mem hj))
  | agg cs vs hl h1 hr ih => exact fun hx => .agg cs vs hl h1 fun i hi h2 => ih i hi h2 (nmL_mem (by simpa [AV.nm] using hx) _ (List.getElem_mem hi))
  | tup cs vs hl hr ih => exact fun hx => .tup cs vs hl fun i hi h2 => ih i hi h2 (nmL_mem (by simpa [AV.nm] using hx) _ (List.getElem_mem hi))
  | ptr cs b o us hF hb hc h1 hr ih => exact fun hx => .ptr cs b o us (.inl ⟨hF, hb⟩) hb hc h1 fun j hj => ih j hj (nmL_mem (by simpa [AV.nm] using hx) _ (List.getElem_mem hj))
  | clo fn cs vs hl hr ih => exact fun hx => .clo fn cs vs hl fun i hi h2 => ih i hi h2 (nmL_mem (by simpa [AV.nm] using hx) _ (List.getElem_mem hi))
  | emp ad => exact fun _ => .emp ad
  | anyB b => exact fun _ => .anyB b
  | mapd => exact fun hx => by simp [AV.nm] at hx
theorem VR.cells' (K : Nat → Prop) {x : AV} {v : Value} (h : VR w L objs x v) : x.nm = true → VR w (L.cells w K) objs x v := by
  induction h with
  | tree h => exact fun hx => .tree (h.cells' K hx)
  | junk v => exact fun _ => .junk v
  | ownS id gen off len v h => exact fun _ => .ownS _ _ _ _ _ h
  | ownN id gen off ad s h => exact fun _ => .ownN _ _ _ _ s h
  | ownL id gen off len cap s b o n h hn hc hm hr => exact fun _ => .ownL _ _ _ _ _ _ _ _ _ h hn hc hm hr
  | refS id gen el c v h => exact fun _ => .refS _ _ _ _ _ h
  | refL id gen el c s b o n h hn => exact fun _ => .refL _ _ _ _ _ _ _ _ h hn
  | mapS id gen v h => exact fun _ => .mapS _ _ _ h
  | mapL id gen s b o n h hn => exact fun _ => .mapL _ _ _ _ _ _ h hn
  | agg cs vs hl h1 hr ih => exact fun hx => .agg cs vs hl h1 fun i hi h2 => ih i hi h2 (nmL_mem (by simpa [AV.nm] using hx) _ (List.getElem_mem hi))
  | tup cs vs hl hr ih => exact fun hx => .tup cs vs hl fun i hi h2 => ih i hi h2 (nmL_mem (by simpa [AV.nm] using hx) _ (List.getElem_mem hi))
  | clo fn cs vs hl hr ih => exact fun hx => .clo fn cs vs hl fun i hi h2 => ih i hi h2 (nmL_mem (by simpa [AV.nm] using hx) _ (List.getElem_mem hi))
theorem VR.recutO {K : Nat → Prop} {x : AV} {v : Value} (h : VR w L objs x v) (hx : (match x with | .own .. | .ref .. | .mref .. => true | _ => false) = true) : VR w (L.cells w K) objs x v := by
  cases h with
  | tree h => cases h <;> simp at hx
  | junk v => exact .junk v
  | ownS id gen off len v h => exact .ownS _ _ _ _ _ h
  | ownN id gen off ad s h => exact .ownN _ _ _ _ s h
  | ownL id gen off len cap s b o n h hn hc hm hr => exact .ownL _ _ _ _ _ _ _ _ _ h hn hc hm hr
  | refS id gen el c v h => exact .refS _ _ _ _ _ h
  | refL id gen el c s b o n h hn => exact .refL _ _ _ _ _ _ _ _ h hn
  | mapS id gen v h => exact .mapS _ _ _ h
  | mapL id gen s b o n h hn => exact .mapL _ _ _ _ _ _ h hn
  | _ => simp at hx
/-- What was there is still there. -/
theorem VR.recut {W1 : World} {L1 : Lay} {objs1 : List AObj} {x : AV} {v : Value} (h0 : VR W1 L1 objs1 x v) (hK : ∀ b, L1.F b → b < W1.heap.size → w.heap[b]? = W1.heap[b]?) : VR w L objs x v → VR w (L.cells w L1.F) objs x v := by
  induction h0 with
  | tree h => exact fun _ => .tree (h.stay fun b hb hl => ⟨hK b hb hl, .inr hb⟩)
  | junk v => exact fun _ => .junk v
  | ownS | ownN | ownL => exact fun h => h.recutO (by simp)
  | refS | refL => exact fun h => h.recutO (by simp)
  | mapS | mapL => exact fun h => h.recutO (by simp)
  | agg cs vs hl h1 hr ih =>
    intro h
    obtain ⟨vs', e, hl', h1', hr'⟩ := h.agg_inv
    simp only [Value.agg.injEq] at e; subst e
    exact .agg _ _ hl h1 fun i hi h2 => ih i hi h2 (hr' i hi h2)
  | tup cs vs hl hr ih =>
    intro h
    obtain ⟨vs', e, hl', hr'⟩ := h.tup_inv
    simp only [Value.tuple.injEq] at e; subst e
    exact .tup _ _ hl fun i hi h2 => ih i hi h2 (hr' i hi h2)
  | clo fn cs vs hl hr ih =>
    intro h
    obtain ⟨vs', e, hl', hr'⟩ := h.clo_inv
    simp only [Value.func.injEq, true_and] at e; subst e
    exact .clo _ _ _ hl fun i hi h2 => ih i hi h2 (hr' i hi h2)
theorem Good.cells' (g : Good F0 w0 w L objs) (K : Nat → Prop) (hK : ∀ b, K b → F0.K b ∧ F0.F b ∧ b < w.heap.size)
    (ho : ∀ (id : Nat) (o : AObj), objs[id]? = some o → o.nm = true ∨ ∃ k st li bk ps, o = AObj.probe k st li bk ps ∧ ∀ p, p ∈ ps → VR w L objs p.1 p.2 → VR w (L.cells w K) objs p.1 p.2) : Good F0 w0 w (L.cells w K) objs := by
  refine ⟨fun id o hob => ?_, g.out, g.inj, fun id b o n hb => ?_, fun b hb => ?_, g.ext, fun i hi => ?_⟩
  · have := g.obj id o hob
    rcases ho id o hob with hnm | ⟨k, st, li, bk, ps, rfl, hp⟩
    · cases o with
      | void => exact this
      | dead => exact this
      | probe k st li bk ps => cases hnm
      | arr gen size elem xs =>
        simp only [AObj.nm, Bool.and_eq_true] at hnm
        unfold OR at this ⊢
        show match L.blk id with | none => _ | some (b, o, n) => _
        cases hbk : L.blk id with
        | none => rw [hbk] at this; exact this
        | some q =>
          obtain ⟨b, o', n⟩ := q
          rw [hbk] at this
          obtain ⟨cur, hc, hn, hr⟩ := this
          exact ⟨cur, hc, hn, hr.1, fun i hi => ⟨(hr.2 i hi).1, fun j hj => let ⟨u, h1, h2, h3⟩ := (hr.2 i hi).2 j hj; ⟨u, h1, h2, h3.cells' K (nm_cells (nmL_mem hnm.2 _ (List.getElem_mem hi)) _ (List.getElem_mem hj))⟩⟩⟩
    · exact ⟨this.1, this.2.1, this.2.2.1, fun p hpm => hp p hpm (this.2.2.2 p hpm)⟩
  · have := g.own id b o n hb
    exact ⟨fun h => h.elim (fun h => this.1 h.1) fun h => this.2.1 (hK b h).1, this.2⟩
  · rcases hb with hb | hb
    · exact g.old b hb.1
    · exact ⟨.inl (hK b hb).2.1, (hK b hb).2.2⟩
  · obtain ⟨h1, h2, h3⟩ := g.gl i hi
    exact ⟨.inl ⟨h1, isC.of_cell (h3 0 (List.length_pos_iff.2 hi)).1⟩, h2, h3⟩
/-- An object's block is one of cells. -/
theorem Good.blkC (g : Good F0 w0 w L objs) (hnm : ∀ g s e xs, AObj.arr g s e xs ∈ objs → e < mapT) {id b o n : Nat} (h : L.blk id = some (b, o, n)) : isC w b := by
  by_cases hlt : id < objs.length
  · have := g.obj id _ (List.getElem?_eq_getElem hlt)
    have hm := List.getElem_mem hlt
    cases he : objs[id] with
    | void => rw [he] at this; unfold OR at this; rw [this] at h; cases h
    | dead => rw [he] at this; unfold OR at this; rw [this] at h; cases h
    | probe k st li bk ps => rw [he] at this; rw [this.1] at h; cases h
    | arr gen size elem xs =>
      rw [he] at this hm
      unfold OR at this
      rw [h] at this
      obtain ⟨cur, hc, _⟩ := this
      exact ⟨_, _, _, hc.cells (hnm _ _ _ _ hm)⟩
  · rw [g.out id (by omega)] at h; cases h
/-- A block that is no cells may turn. -/
theorem Good.turn {W W' : World} {row : Option Nat} {B : Nat} (g : Good F0 w0 W L objs) (hnm : ∀ g s e xs, AObj.arr g s e xs ∈ objs → e < mapT) (K : Nat → Prop) (hK : ∀ b, K b → b < B) (hF : ∀ b, L.F b → isC W b ∨ K b) (hg : W.grownBy W' row) (hr : ∀ r, row = some r → ¬ F0.K r ∧ ¬ isC W r ∧ B ≤ r) : Good F0 w0 W' L objs ∧ (∀ b, L.F b → isC W' b ∨ K b) := by
  have same : ∀ b, isC W b → W'.heap[b]? = W.heap[b]? := fun b hb => hg.block b hb.lt fun e => (hr b e.symm).2.1 hb
  have sameK : ∀ b, K b → b < W.heap.size → W'.heap[b]? = W.heap[b]? := fun b hb hl => hg.block b hl fun e => by have := (hr b e.symm).2.2; have := hK b hb; omega
  have hl : Later W L objs W' L objs := ⟨fun b hb hlt => ⟨(hF b hb).elim (same b) fun h => sameK b h hlt, hb⟩, fun _ _ h => h, fun _ _ _ h => .inr ⟨h, rfl⟩⟩
  refine ⟨⟨fun id o ho => ?_, g.out, g.inj, fun id b o n hb => ?_, fun b hb => ?_, ?_, g.gl.stay hl.wk⟩, fun b hb => (hF b hb).imp (fun h => h.stay (same b h)) fun h => h⟩
  · have := g.obj id o ho
    cases o with
    | void => exact this
    | dead => exact this
    | probe k st li bk ps => exact this.probe_stay hl rfl
    | arr gen size elem xs =>
      have hem := hnm _ _ _ _ (List.mem_of_getElem? ho)
      unfold OR at this ⊢
      cases hbk : L.blk id with
      | none => rw [hbk] at this; exact this
      | some q =>
        obtain ⟨b, o', n⟩ := q
        rw [hbk] at this
        obtain ⟨cur, hc, hn, hr⟩ := this
        exact ⟨cur, hc.tr (same b ⟨_, _, _, hc.cells hem⟩), hn, hr.stay hl⟩
  · have := g.own _ _ _ _ hb
    exact ⟨this.1, this.2.1, Nat.lt_of_lt_of_le this.2.2 hg.size⟩
  · have := g.old b hb
    exact ⟨this.1, Nat.lt_of_lt_of_le this.2 hg.size⟩
  · refine ⟨hg.os.trans g.ext.os, hg.tape.trans g.ext.tape, hg.output.trans g.ext.output, Nat.le_trans g.ext.size hg.size, fun b hb => ?_, g.ext.lt⟩
    have hlt : b < W.heap.size := Nat.lt_of_lt_of_le (g.ext.lt b hb) g.ext.size
    exact (hg.block b hlt fun e => (hr b e.symm).1 hb).trans (g.ext.block b hb)

/-- A frame of its own beside what lies: more is to stay. -/
theorem Good.more (g : Good F0 w0 w L objs) (hnm : ∀ g s e xs, AObj.arr g s e xs ∈ objs → e < mapT) (K : Nat → Prop) (hK : ∀ b, K b → b < w.heap.size ∧ ¬ isC w b) (ds : List Deferred) : Good ⟨L.F, fun b => F0.K b ∨ K b, ds⟩ w w L objs := by
  refine ⟨g.obj, g.out, g.inj, fun id b o n hb => ?_, fun b hb => ⟨.inl hb, (g.old b hb).2⟩, Kept.refl fun b hb => ?_, g.gl⟩
  · have := g.own _ _ _ _ hb
    exact ⟨this.1, fun h => h.elim this.2.1 fun h => (hK b h).2 (g.blkC hnm hb), this.2.2⟩
  · rcases hb with hb | hb
    · exact Nat.lt_of_lt_of_le (g.ext.lt b hb) g.ext.size
    · exact (hK b hb).1
theorem Good.less {w' : World} {L' : Lay} {objs' : List AObj} {K : Nat → Prop} {ds : List Deferred} (g : Good F0 w0 w L objs) (g' : Good ⟨L.F, fun b => F0.K b ∨ K b, ds⟩ w w' L' objs') : Good F0 w0 w' L' objs' := by
  refine ⟨g'.obj, g'.out, g'.inj, fun id b o n hb => ?_, fun b hb => ⟨?_, (g'.old b hb).2⟩, ?_, g'.gl⟩
  · have h1 := g'.own _ _ _ _ hb
    exact ⟨h1.1, fun hk => h1.2.1 (.inl hk), h1.2.2⟩
  · rcases (g'.old b hb).1 with h1 | h1
    · exact (g.old b h1).1
    · exact .inr fun hk => h1 (.inl hk)
  · exact ⟨g'.ext.os.trans g.ext.os, g'.ext.tape.trans g.ext.tape, g'.ext.output.trans g.ext.output, Nat.le_trans g.ext.size g'.ext.size, fun b hb => (g'.ext.block b (.inl hb)).trans (g.ext.block b hb), g.ext.lt⟩

/-- A block that is neither data nor own turns. -/
theorem Good.turn1 {W : World} {l : Nat} {o : Obj} (g : Good F0 w0 W L objs) (hF : ¬ L.F l) (hO : ∀ id b o n, L.blk id = some (b, o, n) → b ≠ l) (hK : ¬ F0.K l) : Good F0 w0 (W.putObj l o) L objs ∧ Later W L objs (W.putObj l o) L objs := by
  have hsame : ∀ b, b ≠ l → (W.putObj l o).heap[b]? = W.heap[b]? := fun b hb => World.putObj_heap_other hb
  have hsz : (W.putObj l o).heap.size = W.heap.size := by simp
  have hl : Later W L objs (W.putObj l o) L objs := ⟨fun b hb _ => ⟨hsame b fun e => hF (e ▸ hb), hb⟩, fun _ _ h => h, fun _ _ _ h => .inr ⟨h, rfl⟩⟩
  refine ⟨⟨fun id o' ho => ?_, g.out, g.inj, fun id b o n hb => ?_, fun b hb => ?_, ?_, g.gl.stay hl.wk⟩, hl⟩
  · have := g.obj id o' ho
    cases o' with
    | void => exact this
    | dead => exact this
    | probe k st li bk ps => exact this.probe_stay hl rfl
    | arr gen size elem xs =>
      unfold OR at this ⊢
      cases hbk : L.blk id with
      | none => rw [hbk] at this; exact this
      | some q =>
        obtain ⟨b, o', n⟩ := q
        rw [hbk] at this
        obtain ⟨cur, hc, hn, hr⟩ := this
        exact ⟨cur, hc.tr (hsame b (hO _ _ _ _ hbk)), hn, hr.stay hl⟩
  · have := g.own _ _ _ _ hb
    exact ⟨this.1, this.2.1, by rw [hsz]; exact this.2.2⟩
  · have := g.old b hb
    exact ⟨this.1, by rw [hsz]; exact this.2⟩
  · exact ⟨g.ext.os, g.ext.tape, g.ext.output, by rw [hsz]; exact g.ext.size, fun b hb => (hsame b fun e => hK (e ▸ hb)).trans (g.ext.block b hb), g.ext.lt⟩

/-- A loop over an iterator, its rounds told whole: what is handed over is laid, the record is made busy, the body runs. -/
theorem wpIn_rangeR {α : Type} {F : Fence} {n : Nat} {g : Operand} {ps : Array Tmp} {assign body : Code} {Q : Exit → Act → World → Prop} {a : Act} {w : World}
    (hro : F.round = none) (h1 : 1 ≤ n) {gf : Nat} {lb : Array Value} (hg : a.eval g = .func (.func gf) #[] lb) (hFg : F.fn gf) (eg : ∀ args w, (callFunc gf args).run P w = .ok (.enter gf args) w)
    {encs : α → Array Value} {Kp : World → World → Prop} {S Sp : List α → Prop} {N : Nat} (hseq : SeqStopsK F (n - 1) P gf lb encs Kp S Sp N w)
    (hKt : ∀ {A B C : World}, Kp A B → Kp B C → Kp A C) (hKb : ∀ (W : World) (l : Nat) (o : Obj), w.heap.size ≤ l → Kp W (W.putObj l o)) (hps : ∀ x, (encs x).size = ps.size)
    (I : List α → World → Prop) (Ix : Code → List α → World → Prop) (hI : OwnFrom w.heap.size I) (hIx : ∀ c, OwnFrom w.heap.size (Ix c)) (h0 : I [] w)
    (hround : ∀ (l : Nat) (pre : List α) (x : α) (W : World), w.heap.size ≤ l → (∃ o, W.heap[l]? = some o ∧ o.isCells = false) → I pre W → pre.length < N →
      assign.wpIn (F.inRound l) (n - 1 - 1) P (Exit.then (fun a' W' => KeepsFrom w.heap.size W W' ∧ Kp W W' ∧ ∀ r : Loop, body.wpIn (F.inRound l) (n - 1 - 1) P (ownPostG w.heap.size Kp I Ix (pre ++ [x]) (W'.putObj l (.loop r))) a' (W'.putObj l (.loop r))) (fun _ _ _ => False))
        { tmps := (ps.zip (encs x)).foldl (fun t (p, v) => t.setIfInBounds p v) a.tmps, defers := [] } W)
    (hdone : ∀ (D : Nat) (xs : List α) (W : World), w.heap.size ≤ D → S xs → I xs W → W.heap[D]? = some (.deferred (some [])) → Q .normal { a with defers := { target := .collected D, args := #[] } :: a.defers } W)
    (hstop : ∀ (D : Nat) (c : Code) (pre : List α) (W : World), w.heap.size ≤ D → Sp pre → Ix c pre W → W.heap[D]? = some (.deferred (some [])) → c.wpIn F n P Q { a with defers := { target := .collected D, args := #[] } :: a.defers } W) :
    (Code.rangeFunc g ps assign body).wpIn F n P Q a w := by
  refine wpIn_rangeFunc fun fn hfn => ?_
  rw [hro]
  -- the two blocks of book-keeping: D for deferred calls, D + 1 the record
  obtain ⟨D, hD⟩ : ∃ D, w.heap.size = D := ⟨_, rfl⟩
  let rc : LoopState → Option Code → Loop := fun st pe => { state := st, pending := pe, fn, tmps := a.tmps, params := ps, assign, body, defers := D }
  let W1 := (w.alloc (.deferred (some []))).alloc (.loop (rc .ready none))
  have z1 : W1.heap.size = D + 2 := by simp [W1, hD]
  have hL1 : W1.heap[D + 1]? = some (.loop (rc .ready none)) := by
    have := World.alloc_heap_new (w.alloc (.deferred (some []))) (.loop (rc .ready none))
    rwa [World.size_alloc, hD] at this
  have hK1 : W1.heap[D]? = some (.deferred (some [])) := by
    have := (Below.heap_alloc (w.alloc (.deferred (some []))) (.loop (rc .ready none)) w.heap.size (by simp)).trans (World.alloc_heap_new w _)
    rwa [hD] at this
  have hx1 : Ext w W1 := (Ext.alloc w _).then (Ext.alloc _ _)
  have hI1 : I [] W1 := hI.alloc _ (hI.alloc _ h0)
  have bk : ∀ {A B : World} {row : Option Nat}, A.grownBy B row → (∀ r, row = some r → W1.heap.size ≤ r ∧ ∃ o : Obj, A.heap[r]? = some o ∧ o.isWalk = true) →
      (∀ r, row = some r → w.heap.size ≤ r ∧ ∃ o : Obj, A.heap[r]? = some o ∧ o.isCells = false) ∧ ∀ k, k < D + 2 → k < A.heap.size → B.heap[k]? = A.heap[k]? := fun hgr hr =>
    ⟨fun r e => by obtain ⟨hB, o, ho, hw⟩ := hr r e; exact ⟨by omega, o, ho, Obj.not_cells_of_walk hw⟩, fun k hk hkl => hgr.block k hkl fun e => by have := (hr k e.symm).1; omega⟩
  refine ⟨D + 1, [{ target := .collected D, args := #[] }], W1, { target := .fn (.func gf) lb, args := #[.func (.yield (D + 1)) #[] #[]] }, W1, gf, #[.func (.yield (D + 1)) #[] #[]] ++ lb, W1, ?_, ?_, ?_, ?_, fun _ => h1, ?_⟩
  · subst hD; exact run_enterLoop_outer _ _ _ _ _
  · simp only [resolve, hg]
    simp [go_sem]
  · intro f' hf'; simp [Target.leads] at hf'; subst hf'; exact hFg
  · simp [invoke, go_sem, eg]
  let J : List α → World → Prop := fun pre W => I pre W ∧ W.heap[D + 1]? = some (.loop (rc .ready none)) ∧ W.heap[D]? = some (.deferred (some []))
  let Jx : List α → World → Prop := fun pre W => ∃ c, Ix c pre W ∧ W.heap[D + 1]? = some (.loop (rc .done (some c))) ∧ W.heap[D]? = some (.deferred (some []))
  have lt1 : ∀ {W : World} {o : Obj} {k : Nat}, W.heap[k]? = some o → k < W.heap.size := fun h => (Array.getElem?_eq_some_iff.1 h).1
  refine (hseq (D + 1) J Jx W1 hx1
    (fun s A B row hs hgr hr => ⟨hI s A B row hs.1 hgr (bk hgr hr).1, ((bk hgr hr).2 _ (by omega) (lt1 hs.2.1)).trans hs.2.1, ((bk hgr hr).2 _ (by omega) (lt1 hs.2.2)).trans hs.2.2⟩)
    (fun s A B row ⟨c, hc, hl, hk⟩ hgr hr => ⟨c, hIx c s A B row hc hgr (bk hgr hr).1, ((bk hgr hr).2 _ (by omega) (lt1 hl)).trans hl, ((bk hgr hr).2 _ (by omega) (lt1 hk)).trans hk⟩)
    ?_ ⟨hI1, hL1, hK1⟩).mono ?_
  · rintro pre x W ⟨hi, hl, hk⟩ hlen
    refine ⟨fn, _, assign, body, run_yield (P := P) (args := encs x) hl (hps x), roundIn_of_wpIn hfn (wpIn_mono (hround (D + 1) pre x W (by omega) ⟨_, hl, rfl⟩ hi hlen) ?_)⟩
    rintro e a' W' h
    cases e with
    | normal =>
      obtain ⟨hkf, hkp, hbody⟩ := h
      have hl' := hkf.same _ _ (by omega) hl rfl
      have hk' := hkf.same _ _ (by omega) hk rfl
      refine ⟨_, run_beginRound hl' rfl, wpIn_mono (hbody _) ?_⟩
      have hl2 : (W'.putObj (D + 1) (.loop { rc .ready none with state := .busy })).heap[D + 1]? = some (.loop { rc .ready none with state := .busy }) := World.putObj_heap_same (lt1 hl')
      have hk2 : (W'.putObj (D + 1) (.loop { rc .ready none with state := .busy })).heap[D]? = some (.deferred (some [])) := (World.putObj_heap_other (by omega)).trans hk'
      have tail : ∀ (jump : Option Code) (W3 : World), KeepsFrom w.heap.size (W'.putObj (D + 1) (.loop { rc .ready none with state := .busy })) W3 →
          W3.heap[D + 1]? = some (.loop { rc .ready none with state := .busy }) ∧
          (Instr.endRound (D + 1) jump).run P W3 = .ok (.bool jump.isNone) (W3.putObj (D + 1) (.loop (rc (if jump.isNone then .ready else .done) jump))) ∧
          (W3.putObj (D + 1) (.loop (rc (if jump.isNone then .ready else .done) jump))).heap[D + 1]? = some (.loop (rc (if jump.isNone then .ready else .done) jump)) ∧
          (W3.putObj (D + 1) (.loop (rc (if jump.isNone then .ready else .done) jump))).heap[D]? = some (.deferred (some [])) := fun jump W3 hk3 => by
        have hl3 := hk3.same _ _ (by omega) hl2 rfl
        exact ⟨hl3, run_endRound (P := P) jump hl3, World.putObj_heap_same (lt1 hl3), (World.putObj_heap_other (by omega)).trans (hk3.same _ _ (by omega) hk2 rfl)⟩
      rintro e a3 W3 hp
      cases e with
      | normal =>
        obtain ⟨p1, p2, p3⟩ := hp
        obtain ⟨t1, t2, t3, t4⟩ := tail none W3 p1
        exact ⟨_, _, t2, .inl ⟨rfl, ⟨hI.putObj _ p3 (by omega) t1 rfl, t3, t4⟩, hKt hkp (hKt (hKb _ _ _ (by omega)) (hKt p2 (hKb _ _ _ (by omega))))⟩⟩
      | ret =>
        obtain ⟨p1, p3⟩ := hp
        obtain ⟨t1, t2, t3, t4⟩ := tail (some .ret) W3 p1
        exact ⟨_, _, t2, .inr ⟨rfl, .ret, (hIx _).putObj _ p3 (by omega) t1 rfl, t3, t4⟩⟩
      | exit id =>
        obtain ⟨p1, p3⟩ := hp
        obtain ⟨t1, t2, t3, t4⟩ := tail (some (.exit id)) W3 p1
        exact ⟨_, _, t2, .inr ⟨rfl, .exit id, (hIx _).putObj _ p3 (by omega) t1 rfl, t3, t4⟩⟩
      | goto t =>
        obtain ⟨p1, p3⟩ := hp
        obtain ⟨t1, t2, t3, t4⟩ := tail (some (.goto t)) W3 p1
        exact ⟨_, _, t2, .inr ⟨rfl, .goto t, (hIx _).putObj _ p3 (by omega) t1 rfl, t3, t4⟩⟩
      | panic ch => exact hp.elim
      | outgrown => exact hp.elim
    | _ => exact h.elim
  · rintro e W2 ⟨⟨v, rfl⟩, (⟨xs, hS, hi, hl, hk⟩ | ⟨pre, hSp, c, hi, hl, hk⟩)⟩
    · exact ⟨none, _, run_endLoop (P := P) hl (by simp [rc]), hdone D xs _ (by omega) hS (hI.putObj _ hi (by omega) hl rfl) ((World.putObj_heap_other (by omega)).trans hk)⟩
    · exact ⟨some c, _, run_endLoop (P := P) hl (by simp [rc]), hstop D c pre _ (by omega) hSp ((hIx c).putObj _ hi (by omega) hl rfl) ((World.putObj_heap_other (by omega)).trans hk)⟩

def parE (ps : List Nat) (xs : List AV) (env : List (Nat × AV)) : List (Nat × AV) := (ps.zip xs).foldl (fun env p => putE env (some p.1) p.2) env
/-- An iterator: it hands over the rows of xs, one after the other. -/
def KpF (F : Nat → Prop) (W W' : World) : Prop := ∀ b, F b → W'.heap[b]? = W.heap[b]?
def SeqA (P : Program) (gf : FuncId) (caps : List AV) (m : Nat) (xs : List (List AV)) : Prop :=
  Enters P gf = true ∧ (∀ x ∈ xs, x.length = m) ∧ ∀ (w : World) (F : Nat → Prop) (vs : Array Value), GlOk w F → (∀ b, F b → b < w.heap.size) → vs.size = caps.length → (∀ i (h : i < caps.length) (h2 : i < vs.size), TR w F caps[i] vs[i]) →
    ∃ encs : Fin xs.length → Array Value, (∀ k, (encs k).size = m ∧ ∀ i (h : i < xs[k].length) (h2 : i < (encs k).size), TR w F xs[k][i] (encs k)[i]) ∧
      ∀ n, SeqStopsK Fence.wide (n + 2) P gf vs encs (KpF F) (fun l => l = List.finRange xs.length) (fun l => ∃ k, l = (List.finRange xs.length).take k) xs.length w

/-- How a round may end. -/
def postRF {α : Type} (n k : Nat) (G : AObj) (I : List AObj → Prop) (E : Exit → List AObj → Prop) (_ : α) : Exit → Est → Prop
  | .normal, s => ∃ o, o.length = k ∧ WkE n s ⟨[], o ++ [G]⟩ ∧ I o
  | .ret, s => ∃ o, o.length = k ∧ WkE n s ⟨[], o ++ [G]⟩ ∧ E .ret o
  | .exit id, s => ∃ o, o.length = k ∧ WkE n s ⟨[], o ++ [G]⟩ ∧ E (.exit id) o
  | _, _ => False

theorem slots_par {n : Nat} : ∀ (ps : List Nat) (xs : List AV) (vs : List Value) {env : List (Nat × AV)} {tmps : Array Value}, KeysOk n env → tmps.size = n → (∀ t, t < n → VR w L objs (lk env t) (tmps.getD t undef)) → (ps.all fun p => decide (p < n)) = true →
    vs.length = xs.length → (∀ i (h : i < xs.length) (h2 : i < vs.length), VR w L objs xs[i] vs[i]) →
    KeysOk n (parE ps xs env) ∧ ((ps.zip vs).foldl (fun t (p, v) => t.setIfInBounds p v) tmps).size = n ∧ ∀ t, t < n → VR w L objs (lk (parE ps xs env) t) (((ps.zip vs).foldl (fun t (p, v) => t.setIfInBounds p v) tmps).getD t undef)
  | [], xs, vs, env, tmps, hk, hs, ht, _, _, _ => ⟨hk, hs, ht⟩
  | p :: ps, [], vs, env, tmps, hk, hs, ht, _, hl, _ => by
    have : vs = [] := List.eq_nil_of_length_eq_zero (by simpa using hl)
    subst this
    exact ⟨hk, hs, ht⟩
  | p :: ps, x :: xs, [], env, tmps, hk, hs, ht, _, hl, _ => by simp at hl
  | p :: ps, x :: xs, v :: vs, env, tmps, hk, hs, ht, hp, hl, hv => by
    simp only [List.all_cons, Bool.and_eq_true, decide_eq_true_eq] at hp
    refine slots_par ps xs vs (env := putE env (some p) x) (tmps := tmps.setIfInBounds p v) (keys_put hk (by simpa [okD] using hp.1) _) (by simp [hs]) (fun t ht' => ?_) hp.2 (by simpa using hl) fun i h1 h2 => ?_
    · simp only [putE, lk]
      split
      · rename_i e; subst e
        rw [Array.getD_eq_getD_getElem?, Array.getElem?_setIfInBounds]
        simp [hs, hp.1]; exact hv 0 (by simp) (by simp)
      · rename_i e
        rw [Array.getD_eq_getD_getElem?, Array.getElem?_setIfInBounds_ne e, ← Array.getD_eq_getD_getElem?]
        exact ht t ht'
    · have := hv (i + 1) (by simpa using h1) (by simpa using h2)
      simpa using this
theorem wpIn_anyN {r : Option Nat} {n m : Nat} {c : Code} {Q : Exit → Act → World → Prop} {a : Act} {w : World} (h : c.wpIn (Wf r) n P Q a w) : c.wpIn (Wf r) m P Q a w := fun b k cs h1 h2 h3 => h b k cs h1 h2 (fun _ h => by simp [Fence.wide] at h)

/-- **A range over a function.** The rounds change what there is, step by step; I says what there is after the rows of pre. -/
theorem CwpE.rangeF {n : Nat} {g : Operand} {ps : List Nat} {asg b : CCode} {Q : Exit → Est → Prop} {env : List (Nat × AV)} {gf : FuncId} {caps : List AV} {xs : List (List AV)}
    (hg : evE env g = .clo (.func gf) caps) (hcap : (caps.all AV.isT) = true) (hseq : SeqA P gf caps ps.length xs) (hin : ∀ t, (lk env t).inn objs.length = true) (hxin : (xs.all fun x => x.all fun y => y.inn objs.length) = true)
    (hps : (ps.all fun p => decide (p < n)) = true) (hab : asg.noRF = true) (hb : b.noRF = true)
    (I : List (Fin xs.length) → List AObj → Prop) (E : List (Fin xs.length) → Exit → List AObj → Prop) (h0 : I [] objs)
    (hnmI : ∀ pre o, I pre o → (o.all AObj.nm) = true) (hnmE : ∀ pre e o, E pre e o → (o.all AObj.nm) = true)
    (round : ∀ FR WR G (pre : List (Fin xs.length)) (x : Fin xs.length) (o : List AObj), (∀ m, objs.length ≤ m → G.innO m = true) → I pre o → o.length = objs.length → pre.length < xs.length →
      CwpE P FR WR n asg (fun e s => e = .normal ∧ (∀ o', o' ∈ s.objs → o' = G ∨ o'.nm = true) ∧ ∀ FR WR, CwpE P FR WR n b (postRF n objs.length G (I (pre ++ [x])) (E (pre ++ [x])) ()) s) ⟨parE ps xs[x] env, o ++ [G]⟩)
    (done : ∀ G o, (∀ m, objs.length ≤ m → G.innO m = true) → I (List.finRange xs.length) o → o.length = objs.length → Q .normal ⟨env, o ++ [G]⟩)
    (stop : ∀ G o e k, (∀ m, objs.length ≤ m → G.innO m = true) → E ((List.finRange xs.length).take k) e o → o.length = objs.length → Q e ⟨env, o ++ [G]⟩) :
    CwpE P F0 w0 n (.rangeF g ps asg b) Q ⟨env, objs⟩ := by
  intro hk F1 w1 hm1 r rn code hc hro a w hs
  obtain rfl : r = none := hro.elim id fun h => by simp [CCode.noRF] at h
  cases code with
  | rangeFunc g' ps' assign body =>
    simp only [compC, Option.bind_eq_some_iff, Option.map_eq_some_iff, CCode.rangeF.injEq] at hc
    obtain ⟨asg', hasg, b', hbody, rfl, rfl, rfl, rfl⟩ := hc
    obtain ⟨hd, L0, g0, hsz, ht0⟩ := sim_slots hk hs
    have gS := g0
    have ht := ht0
    have hFC : ∀ b, L0.F b → isC w b ∨ L0.F b := fun b h => .inr h
    generalize hL1 : L0 = L1 at gS ht hFC
    have hFlt : ∀ b, L1.F b → b < w.heap.size := fun b hb => (gS.old b hb).2
    -- the iterator
    have hgv : VR w L1 objs (.clo (.func gf) caps) (a.eval g') := by
      have := ev_ok (objs := objs) (w := w) (L := L1) (tmps := toT n env) (a := a) gS.gl (by simp [toT, hsz]) (fun t ht' => by
        have ht2 : t < n := by simpa [toT] using ht'
        simpa [toT] using ht t ht2) g'
      rw [congrFun (ev_toT hk) g', hg] at this
      exact this
    obtain ⟨lb, hlb, hlbs, hlbv⟩ := hgv.clo_inv
    obtain ⟨hent, hxm, hsq⟩ := hseq
    obtain ⟨encs, henc, hstops⟩ := hsq w L1.F lb gS.gl (fun b hb => (gS.old b hb).2) hlbs fun i h h2 => isT_ok (hlbv i h h2) (List.all_eq_true.1 hcap _ (List.getElem_mem _))
    -- what is kept to look at later
    let ps0 : List (AV × Value) := ((List.range n).map fun t => (lk env t, a.tmps.getD t undef)) ++ (List.finRange xs.length).flatMap fun k => (xs[k].zip (encs k).toList)
    have hps0 : ∀ p ∈ ps0, VR w L1 objs p.1 p.2 := by
      intro p hp
      rcases List.mem_append.1 hp with hp | hp
      · obtain ⟨t, ht', rfl⟩ := List.mem_map.1 hp
        exact ht t (List.mem_range.1 ht')
      · obtain ⟨k, _, hp⟩ := List.mem_flatMap.1 hp
        obtain ⟨i, hi, rfl⟩ := List.getElem_of_mem hp
        have hi' := hi
        rw [List.length_zip] at hi'
        simp only [List.getElem_zip, Array.getElem_toList]
        exact .tree ((henc k).2 i (by omega) (by simp at hi'; omega))
    have hinn : ∀ p ∈ ps0, p.1.inn objs.length = true := by
      intro p hp
      rcases List.mem_append.1 hp with hp | hp
      · obtain ⟨t, ht', rfl⟩ := List.mem_map.1 hp
        exact hin t
      · obtain ⟨k, _, hp⟩ := List.mem_flatMap.1 hp
        have := (List.of_mem_zip (a := p.1) (b := p.2) hp).1
        exact List.all_eq_true.1 (List.all_eq_true.1 hxin _ (List.getElem_mem k.isLt)) _ this
    have hGinn : ∀ m, objs.length ≤ m → (probeOf objs L1 ps0).innO m = true := fun m hm => probe_inn hinn m hm
    have hGpr : ∃ k st li bk, probeOf objs L1 ps0 = .probe k st li bk ps0 := ⟨_, _, _, _, rfl⟩
    have gA := mod_all (good_probe gS ps0 hps0)
    generalize hG : probeOf objs L1 ps0 = G at gA hGinn hGpr
    have hprobe : ∀ {W : World} {L : Lay} {o : List AObj} {F : FD} {W0 : World}, o.length = objs.length → Good F W0 W L (o ++ [G]) → ∀ p ∈ ps0, VR W L (o ++ [G]) p.1 p.2 := by
      intro W L o F W0 ho gg p hp
      have := gg.obj objs.length G (by rw [← ho]; simp)
      rw [← hG] at this
      have := this.2.2.2 p hp
      rw [hG] at this
      exact this
    let FA : FD := inFD F1 L1 (objs ++ [G]).length
    have gA : Good FA w w L1 (objs ++ [G]) := gA
    let I' : List (Fin xs.length) → World → Prop := fun pre W => ∃ o L, I pre o ∧ o.length = objs.length ∧ Good FA w W L (o ++ [G]) ∧ ∀ b, L.F b → isC W b ∨ L1.F b
    let Ix : Code → List (Fin xs.length) → World → Prop := fun c pre W => ∃ e, ((c = .ret ∧ e = .ret) ∨ ∃ id, c = .exit id ∧ e = .exit id) ∧ ∃ o L, E pre e o ∧ o.length = objs.length ∧ Good FA w W L (o ++ [G]) ∧ ∀ b, L.F b → isC W b ∨ L1.F b
    have hKB : ∀ b, FA.K b → b < w.heap.size := gA.ext.lt
    have nmG : ∀ {o : List AObj}, (o.all AObj.nm) = true → ∀ g s e xs, AObj.arr g s e xs ∈ o ++ [G] → e < mapT := by
      intro o ho g s e xs hm
      rcases List.mem_append.1 hm with hm | hm
      · have := List.all_eq_true.1 ho _ hm
        simp only [AObj.nm, Bool.and_eq_true, decide_eq_true_eq] at this
        exact this.1
      · obtain ⟨k, st, li, bk, e⟩ := hGpr
        rw [e] at hm; simp at hm
    have fin : ∀ (D : Nat) (o : List AObj) (L : Lay) (W : World) (e : Exit), w.heap.size ≤ D → o.length = objs.length → Good FA w W L (o ++ [G]) → (o.all AObj.nm) = true → (∀ b, L.F b → isC W b ∨ L1.F b) → W.heap[D]? = some (.deferred (some [])) → Q e ⟨env, o ++ [G]⟩ →
        LiftM F1 w1 (LiftX n Q) e { a with defers := { target := .collected D, args := #[] } :: a.defers } W := by
      intro D o L W e hD ho gW hnm hF hdf hQ
      have g1 : Good F1 w1 W L (o ++ [G]) := Good.un gS gW
      have hnD : ¬ isC W D := not_isC ⟨_, hdf, rfl⟩
      have hKD : ¬ F1.K D := fun h => by
        have h1 := gS.ext.lt D h
        have h2 := gS.ext.size
        omega
      refine ⟨⟨F1.F, fun b => F1.K b ∨ b = D, mark D :: F1.ds⟩, W, ⟨rfl, g1.ext, [D], rfl, by simp, fun b => by simp, fun D' h => ?_⟩, _, ⟨⟨env, o ++ [G]⟩, hQ, hk, rfl⟩, ?_⟩
      · obtain rfl : D' = D := by simpa using h
        exact ⟨hdf, hKD, Nat.le_trans gS.ext.size hD⟩
      · refine sim_mk (s := ⟨env, o ++ [G]⟩) (L := L) (by show _ :: _ = _ :: _; rw [hd]; rfl) ⟨g1.obj, g1.out, g1.inj, fun id b o' n' hb => ?_, fun b hb => ⟨?_, (g1.old b hb).2⟩, ?_, g1.gl⟩ hsz fun t ht' => hprobe ho gW (lk env t, a.tmps.getD t undef) (List.mem_append_left _ (List.mem_map.2 ⟨t, List.mem_range.2 ht', rfl⟩))
        · have := g1.own _ _ _ _ hb
          exact ⟨this.1, fun h => h.elim this.2.1 fun e => hnD (e ▸ gW.blkC (nmG hnm) hb), this.2.2⟩
        · rcases (g1.old b hb).1 with h1 | h1
          · exact .inl h1
          · exact .inr fun h => h.elim h1 fun e => by
              subst e
              rcases hF _ hb with h2 | h2
              · exact hnD h2
              · have := hFlt _ h2; omega
        · exact Kept.refl fun b hb => by
            rcases hb with hb | rfl
            · exact Nat.lt_of_lt_of_le (gS.ext.lt b hb) (Nat.le_trans gS.ext.size gW.ext.size)
            · exact (Array.getElem?_eq_some_iff.1 hdf).1
    refine wpIn_rangeR (α := Fin xs.length) (N := xs.length) (Kp := KpF L1.F) rfl (by omega) hlb trivial (fun args w => run_callFunc hent args w) (hstops rn) (fun {A B C} h k b hb => (k b hb).trans (h b hb))
      (fun W l o hl b hb => World.putObj_heap_other (fun e => ?_)) (fun x => ?_) I' Ix ?_ ?_ ⟨objs, L1, h0, rfl, gA, hFC⟩ ?_ ?_ ?_
    · have := (gS.old b hb).2
      omega
    · rw [(henc x).1]; simp
    · rintro pre W W' row ⟨o, L, h1, h2, h3, h4⟩ hgr hr
      have := h3.turn (nmG (hnmI _ _ h1)) L1.F hFlt h4 hgr fun r hrr => ⟨fun hk' => by have h5 := hKB r hk'; have h6 := (hr r hrr).1; omega, not_isC (hr r hrr).2, (hr r hrr).1⟩
      exact ⟨o, L, h1, h2, this.1, this.2⟩
    · rintro c pre W W' row ⟨e, he, o, L, h1, h2, h3, h4⟩ hgr hr
      have := h3.turn (nmG (hnmE _ _ _ h1)) L1.F hFlt h4 hgr fun r hrr => ⟨fun hk' => by have h5 := hKB r hk'; have h6 := (hr r hrr).1; omega, not_isC (hr r hrr).2, (hr r hrr).1⟩
      exact ⟨e, he, o, L, h1, h2, this.1, this.2⟩
    · rintro l pre x W hl ⟨ol, hol, hoc⟩ ⟨o, L, h1, h2, h3, h4⟩ hlen
      have gR := h3.more (nmG (hnmI _ _ h1)) (fun b => b < W.heap.size ∧ ¬ isC W b) (fun b hb => hb) []
      have hpv := hprobe h2 gR
      obtain ⟨k1, s1, v1⟩ := slots_par (w := W) (L := L) (objs := o ++ [G]) ps'.toList xs[x] (encs x).toList (env := env) (tmps := a.tmps) hk hsz (fun t ht' => hpv (lk env t, a.tmps.getD t undef) (List.mem_append_left _ (List.mem_map.2 ⟨t, List.mem_range.2 ht', rfl⟩))) hps
        (by rw [Array.length_toList, (henc x).1]; exact (hxm _ (List.getElem_mem x.isLt)).symm) fun i hi h2 => hpv (xs[x][i], (encs x).toList[i]) (List.mem_append_right _ (List.mem_flatMap.2 ⟨x, List.mem_finRange x, by
          rw [← List.getElem_zip (l := xs[x]) (l' := (encs x).toList) (h := by rw [List.length_zip]; exact Nat.lt_min.2 ⟨hi, h2⟩)]
          exact List.getElem_mem _⟩))
      have hfold : (ps'.zip (encs x)).foldl (fun t (p, v) => t.setIfInBounds p v) a.tmps = (ps'.toList.zip (encs x).toList).foldl (fun t (p, v) => t.setIfInBounds p v) a.tmps := by
        rw [← Array.foldl_toList, Array.toList_zip]
      rw [hfold]
      have hsim := sim_mk (s := ⟨parE ps'.toList xs[x] env, o ++ [G]⟩) (a := { tmps := (ps'.toList.zip (encs x).toList).foldl (fun t (p, v) => t.setIfInBounds p v) a.tmps, defers := [] }) rfl gR s1 v1
      have hrun := round _ W G pre x o hGinn h1 h2 hlen k1 _ _ (Mk.refl hsim.lt) (some l) 0 _ hasg (.inr hab) _ W hsim
      refine wpIn_mono (wpIn_anyN hrun) ?_
      rintro e a2 W2 ⟨F2, w2, hm2, st, ⟨s, ⟨rfl, hobj, hbd⟩, hk2, rfl⟩, hs2⟩
      obtain ⟨hd2, L2, g2, hsz2, ht2⟩ := sim_slots hk2 hs2
      have gB := g2.back hm2
      have hlc : l < W.heap.size ∧ ¬ isC W l := ⟨(Array.getElem?_eq_some_iff.1 hol).1, not_isC ⟨ol, hol, hoc⟩⟩
      have hlF : ¬ L2.F l := fun hF => by
        rcases (gB.old l hF).1 with h | h
        · rcases h4 l h with h | h
          · exact hlc.2 h
          · have := hFlt l h; omega
        · exact h (.inr hlc)
      have hlO : ∀ id b o n, L2.blk id = some (b, o, n) → b ≠ l := fun id b o n hb e => (gB.own id b o n hb).2.1 (by rw [e]; exact .inr hlc)
      refine ⟨⟨gB.ext.size, fun k ob hk' ho' hc' => ?_⟩, fun b hb' => gB.ext.block b (.inl (.inr (.inl hb'))), fun rl => ?_⟩
      · exact (gB.ext.block k (.inr ⟨(Array.getElem?_eq_some_iff.1 ho').1, not_isC ⟨ob, ho', hc'⟩⟩)).trans ho'
      obtain ⟨g5, l5⟩ := (h3.less gB).turn1 (o := .loop rl) hlF hlO (fun hk' => by have := hKB l hk'; omega)
      have hnm5 : ∀ g s' e xs, AObj.arr g s' e xs ∈ s.objs → e < mapT := by
        intro g s' e xs hm
        rcases hobj _ hm with h | h
        · obtain ⟨k, st, li, bk, e⟩ := hGpr
          rw [e] at h; cases h
        · simp only [AObj.nm, Bool.and_eq_true, decide_eq_true_eq] at h
          exact h.1
      generalize hW3 : W2.putObj l (.loop rl) = W3 at g5 l5
      have gM := g5.more hnm5 (fun b => b < W3.heap.size ∧ ¬ isC W3 b) (fun b hb => hb) F2.ds
      have hsim2 := sim_mk (s := s) (a := a2) (show a2.defers = (⟨L2.F, fun b => FA.K b ∨ b < W3.heap.size ∧ ¬ isC W3 b, F2.ds⟩ : FD).ds from hd2) gM hsz2 fun t ht' => (ht2 t ht').stay l5
      have hrun2 := hbd _ W3 hk2 _ _ (Mk.refl hsim2.lt) (some l) 0 _ hbody (.inr hb) _ W3 hsim2
      refine wpIn_mono (wpIn_anyN hrun2) ?_
      rintro e a3 W4 ⟨F3, w3, hm3, st, ⟨s3, hq, hk3, rfl⟩, hs3⟩
      have out : ∀ {o2 : List AObj}, o2.length = objs.length → (o2.all AObj.nm) = true → WkE n s3 ⟨[], o2 ++ [G]⟩ → KeepsFrom w.heap.size W3 W4 ∧ KpF L1.F W3 W4 ∧ ∃ L, Good FA w W4 L (o2 ++ [G]) ∧ ∀ b, L.F b → isC W4 b ∨ L1.F b := by
        intro o2 hlen2 hnm2 hwk
        obtain ⟨hk4, hw3⟩ := hwk hk3
        obtain ⟨_, L3, g3, _, _⟩ := sim_slots hk4 (hw3 _ _ _ _ hs3)
        have g4 := g3.back hm3
        refine ⟨⟨g4.ext.size, fun k ob hk' ho' hc' => ?_⟩, fun b hb' => ?_, L3.cells W4 L1.F, ?_, fun b hb' => hb'.imp (fun h => h.2) fun h => h⟩
        · exact (g4.ext.block k (.inr ⟨(Array.getElem?_eq_some_iff.1 ho').1, not_isC ⟨ob, ho', hc'⟩⟩)).trans ho'
        · exact g4.ext.block b (.inl (.inr (.inl hb')))
        · have g6 := g5.less g4
          refine g6.cells' L1.F (fun b hb => ⟨.inr (.inl hb), hb, Nat.lt_of_lt_of_le (hFlt b hb) g6.ext.size⟩) fun id o' ho' => ?_
          by_cases hid : id < o2.length
          · rw [List.getElem?_append_left hid] at ho'
            exact .inl (List.all_eq_true.1 hnm2 _ (List.mem_of_getElem? ho'))
          · rw [List.getElem?_append_right (by omega)] at ho'
            have hid0 : id - o2.length = 0 := by
              have := (List.getElem?_eq_some_iff.1 ho').1
              simp at this; omega
            rw [hid0] at ho'
            simp only [List.getElem?_cons_zero, Option.some.injEq] at ho'
            subst ho'
            obtain ⟨k, st, li, bk, e⟩ := hGpr
            exact .inr ⟨k, st, li, bk, ps0, e, fun p hp hv => (hps0 p hp).recut (fun b hb hl => g6.ext.block b (.inr (.inl hb))) hv⟩
      cases e with
      | normal =>
        obtain ⟨o2, ho2, hwk, hI⟩ := hq
        obtain ⟨q1, q2, L5, q3, q4⟩ := out ho2 (hnmI _ _ hI) hwk
        exact ⟨q1, q2, o2, L5, hI, ho2, q3, q4⟩
      | ret =>
        obtain ⟨o2, ho2, hwk, hI⟩ := hq
        obtain ⟨q1, q2, L5, q3, q4⟩ := out ho2 (hnmE _ _ _ hI) hwk
        exact ⟨q1, .ret, .inl ⟨rfl, rfl⟩, o2, L5, hI, ho2, q3, q4⟩
      | exit id =>
        obtain ⟨o2, ho2, hwk, hI⟩ := hq
        obtain ⟨q1, q2, L5, q3, q4⟩ := out ho2 (hnmE _ _ _ hI) hwk
        exact ⟨q1, .exit id, .inr ⟨id, rfl, rfl⟩, o2, L5, hI, ho2, q3, q4⟩
      | _ => exact hq.elim
    · rintro D pre W hD rfl ⟨o, L, h1, h2, h3, h4⟩ hdf
      exact fin D o L W .normal hD h2 h3 (hnmI _ _ h1) h4 hdf (done G o hGinn h1 h2)
    · rintro D c pre W hD ⟨k, rfl⟩ ⟨e, he, o, L, h1, h2, h3, h4⟩ hdf
      have hq := fin D o L W e hD h2 h3 (hnmE _ _ _ h1) h4 hdf (stop G o e k hGinn h1 h2)
      rcases he with ⟨rfl, rfl⟩ | ⟨id, rfl, rfl⟩
      · exact wpIn_ret hq
      · exact wpIn_exit hq
  | region id ops d => rcases compC_reg hc with ⟨_, _, h⟩ | ⟨_, _, h⟩ | ⟨_, _, _, h⟩ <;> cases h
  | _ => simp [compC, Option.bind_eq_some_iff] at hc
end Dak
set_option linter.unusedSimpArgs false
set_option linter.unusedVariables false
set_option linter.unusedSectionVars false
namespace Dak
open Go Go.RowKit
variable [Globs]
/-- What is kept of the slots, with other names. -/
def AgreeR (σ : Nat → Nat) (base : List AObj) (env : List (Nat × AV)) : List (Nat × AV) → Prop
  | [] => True
  | (k, v) :: r => lk env k = v.ren σ ∧ v.inR base = true ∧ AgreeR σ base env r
theorem agreeR_lk {σ : Nat → Nat} {base : List AObj} {env : List (Nat × AV)} : ∀ {env' : List (Nat × AV)}, AgreeR σ base env env' → ∀ t, lk env' t = .junk ∨ (lk env t = (lk env' t).ren σ ∧ (lk env' t).inR base = true)
  | [], _, t => .inl rfl
  | (k, v) :: r, h, t => by
    simp only [lk]
    split
    · rename_i e; subst e; exact .inr ⟨h.1, h.2.1⟩
    · exact agreeR_lk h.2.2 t
theorem ren_junk {σ : Nat → Nat} {x : AV} (h : x.ren σ = .junk) : x = .junk := by
  cases x <;> simp_all [AV.ren, AV.ren1]
theorem WkE.rename {n : Nat} {env env' : List (Nat × AV)} {objs base : List AObj} (σ : Nat → Nat) (hR : Ren σ base objs) (hi : (base.all fun o => o.inRO base) = true) (h : AgreeR σ base env env') : WkE n ⟨env, objs⟩ ⟨env', base⟩ := by
  intro hk
  refine ⟨fun t ht => ?_, fun F0 w0 a w hs => ?_⟩
  · rcases agreeR_lk h t with e | ⟨e, _⟩
    · exact e
    · have := hk t ht
      rw [show lk env t = .junk from this] at e
      exact ren_junk e.symm
  obtain ⟨hd, L, g, hsz, ht⟩ := sim_slots hk hs
  have g' := ren_in hR g hi
  refine sim_mk (s := ⟨env', base⟩) (L := L.back σ base) hd ⟨g'.obj, g'.out, g'.inj, fun i b o m hb => ?_, g.old, g.ext, g.gl⟩ hsz fun t hlt => ?_
  · have hb : (if isArr base i then L.blk (σ i) else none) = some (b, o, m) := hb
    split at hb
    · exact g.own _ _ _ _ hb
    · cases hb
  · rcases agreeR_lk h t with e | ⟨e, e2⟩
    · rw [e]; exact .junk _
    · have := ht t hlt
      simp only at this
      rw [e] at this
      exact unren_vr hR this e2
end Dak
set_option linter.unusedSimpArgs false
set_option linter.unusedVariables false
set_option linter.unusedSectionVars false
namespace Dak
open Go Go.RowKit
variable [Globs]
variable {P : Program} {F0 : FD} {w0 w : World} {L : Lay} {objs objs0 : List AObj} {nid n : Nat}
theorem bsliceO_ok (g : Good F0 w0 w L objs) {t e : TypeId} (hem : e < mapT) {size : Nat} {parts : List (Nat × Operand)} {ev : Operand → AV} {ρ : Operand → Value} 
    (ht : P.underlying t = some (.slice e)) (hs : tsize P e = some size) (hpos : 0 < size) (hz : ∃ z, (P.info? e).bind (·.zero) = some z) (hp : parts.map (·.1) = List.range parts.length)
    (he : ∀ x, VR w L objs (ev x) (ρ x)) (hk : ∀ x ∈ parts.map (·.2), Known objs (ev x)) (hv : objs[nid]? = some .void)
    (hall : ((parts.map (·.2)).all fun x => (ev x).fits && (ev x).cells.length == size) = true) (hsz : parts.length * size ≤ 2 ^ 24) :
    Does P (do pure (.value (← Instr.buildSlice t parts.length (parts.map fun p => (p.1, ρ p.2)).toArray))) F0 w0 w L objs nid (.own nid parts.length 0 parts.length) (some (.arr parts.length size e ((parts.map (·.2)).map ev))) := by
  have hm : parts.length ≤ maxLen := by have := Nat.le_mul_of_pos_right parts.length hpos; unfold maxLen; omega
  rw [List.all_eq_true] at hall
  have hcs : ∀ v ∈ (parts.map fun p => ρ p.2), v.cells.size = size := by
    intro v hv
    obtain ⟨p, hp, rfl⟩ := List.mem_map.1 hv
    have h1 := hall p.2 (List.mem_map.2 ⟨p, hp, rfl⟩)
    simp only [Bool.and_eq_true, beq_iff_eq] at h1
    rw [(fits_CR (he p.2) h1.1 (hk _ (List.mem_map.2 ⟨p, hp, rfl⟩))).1]; exact h1.2
  obtain ⟨z, hz⟩ := hz
  have hinfo : ∃ i, P.info? e = some i ∧ i.zero = some z := by
    cases hi : P.info? e with
    | none => rw [hi] at hz; cases hz
    | some i => rw [hi] at hz; exact ⟨i, rfl, hz⟩
  obtain ⟨i, hi, hiz⟩ := hinfo
  have key : ∀ zc : Array Value, ∃ us : Array Value, Instr.fill (fun i => some (i * size, size)) ((Array.range (parts.length * size)).map (zc[· % zc.size]!)) (parts.map fun p => (p.1, ρ p.2)) = some us ∧ us.size = parts.length * size ∧
      ∀ i v, (parts.map fun p => ρ p.2)[i]? = some v → ∀ j, j < size → us[i * size + j]? = v.cells[j]? := by
    intro zc
    have e := zipIdx_range ρ parts 0 (by rw [hp, List.range_eq_range'])
    rw [e]
    obtain ⟨us, h1, h2, _, h4⟩ := fill_row size (parts.map fun p => ρ p.2) 0 ((Array.range (parts.length * size)).map (zc[· % zc.size]!)) hcs (by simp)
    exact ⟨us, h1, by rw [h2]; simp, fun i v hv j hj => by have := h4 i v hv j hj; rwa [Nat.zero_add] at this⟩
  have hrun : ∃ us : Array Value, (Instr.buildSlice t parts.length (parts.map fun p => (p.1, ρ p.2)).toArray).run P w = .ok (.slice (some ⟨w.heap.size, 0, none⟩) parts.length parts.length) (w.alloc (.cells us e)) ∧ us.size = parts.length * size ∧
      ∀ i v, (parts.map fun p => ρ p.2)[i]? = some v → ∀ j, j < size → us[i * size + j]? = v.cells[j]? := by
    have n1 : ¬ (parts.length * size > 2 ^ 24) := by omega
    have hzv : (zeroValue e).run P w = .ok z w := by simp [zeroValue, typeInfo, hi, hiz]
    by_cases h0 : parts.length * size = 0
    · obtain ⟨us, h1, h2, h3⟩ := key #[]
      refine ⟨us, ?_, h2, h3⟩
      have e0 : ∀ f : Nat → Value, (Array.range (parts.length * size)).map f = #[] := by intro f; rw [h0]; simp
      rw [e0] at h1
      simp only [Instr.buildSlice, Sem.run_bind, run_underlying ht, Result.andThen_ok, run_sizeOf hs, Sem.run_ite, if_neg n1, if_pos h0, Sem.run_pure, e0, h1, newRow, run_newObj, List.toList_toArray]
      rfl
    · obtain ⟨us, h1, h2, h3⟩ := key z.cells
      refine ⟨us, ?_, h2, h3⟩
      simp only [Instr.buildSlice, Sem.run_bind, run_underlying ht, Result.andThen_ok, run_sizeOf hs, Sem.run_ite, if_neg n1, if_neg h0, Sem.run_pure, hzv, h1, newRow, run_newObj, List.toList_toArray]
      rfl
  obtain ⟨us, hrun, hus, hcell⟩ := hrun
  have hrow : Row w L objs us 0 size (parts.map fun p => ev p.2) := by
    refine row_of (vs := parts.map fun p => ρ p.2) (by simp) (by simp [hus]) (fun i x hx => ?_) hcell
    rw [List.getElem?_map, Option.map_eq_some_iff] at hx
    obtain ⟨p, hp, rfl⟩ := hx
    have hm := List.mem_of_getElem? hp
    have h1 := hall p.2 (List.mem_map.2 ⟨p, hm, rfl⟩)
    simp only [Bool.and_eq_true, beq_iff_eq] at h1
    exact ⟨ρ p.2, by rw [List.getElem?_map, hp]; rfl, h1.2, fits_CR (he p.2) h1.1 (hk _ (List.mem_map.2 ⟨p, hm, rfl⟩))⟩
  have hid := (List.getElem?_eq_some_iff.1 hv).1
  simp only [List.map_map] at *
  refine ⟨.slice (some ⟨w.heap.size, 0, none⟩) parts.length parts.length, _, _, by simp [hrun], g.new (gen := parts.length) (elem := e) hv us hem hrow, .new hv _ _, ?_⟩
  have := VR.ownL (w := w.alloc (.cells us e)) (L := L.put nid (some (w.heap.size, 0, us.size))) (objs := objs.set nid (.arr parts.length size e (parts.map fun p => ev p.2))) nid parts.length 0 parts.length parts.length size w.heap.size 0 us.size
    (live_self hid) (by simp [Lay.put]) (Nat.le_refl _) hm (by simp [hus])
  simpa [putO, Function.comp_def] using this

theorem bsliceO1_ok {o : Oper} {e : TypeId} {size : Nat} {ps : List Operand} (hc : comp1 P o = some (.bslice e size ps)) (g : Good F0 w0 w L objs) {ev : Operand → AV} {ρ : Operand → Value} (he : ∀ x, VR w L objs (ev x) (ρ x)) (hv : objs[nid]? = some .void)
    (hkn : ∀ x ∈ ps, Known objs (ev x)) (hall : (ps.all fun x => (ev x).fits && (ev x).cells.length == size) = true) (hsz : ps.length * size ≤ 2 ^ 24) :
    Does P (execOp ρ o) F0 w0 w L objs nid (.own nid ps.length 0 ps.length) (some (.arr ps.length size e (ps.map ev))) := by
  obtain ⟨dst, op, type, pos, after, guard⟩ := o
  have key : ∃ t len parts, op = .buildSlice t len parts := by
    cases op with
    | buildSlice t len parts => exact ⟨t, len, parts, rfl⟩
    | call c =>
      exfalso
      obtain ⟨callee, args, argTypes⟩ := c
      simp only [comp1] at hc
      repeat' (split at hc)
      all_goals first | (cases hc; done) | (simp at hc; done) | skip
    | unOp op _ _ => exfalso; cases op <;> simp [comp1] at hc
    | slice _ _ _ hi m => exfalso; cases m <;> cases hi <;> simp only [comp1] at hc <;> (repeat' (split at hc)) <;> simp at hc
    | build t parts =>
      exfalso
      simp only [comp1] at hc
      repeat' (split at hc)
      all_goals first | (cases hc; done) | (simp [Option.bind_eq_some_iff, Option.map_eq_some_iff] at hc; done)
    | makeMap t rs => exfalso; cases rs <;> simp only [comp1] at hc <;> (repeat' (split at hc)) <;> simp at hc
    | _ => exfalso; first | (simp [comp1] at hc; done) | (simp only [comp1] at hc; (repeat' (split at hc)) <;> simp at hc)
  obtain ⟨t, len, parts, rfl⟩ := key
  simp only [comp1] at hc
  split at hc
  · rename_i e' hu
    split at hc
    · rename_i z size' _ hi
      simp only [Option.ite_none_right_eq_some, Option.some.injEq, COp.bslice.injEq] at hc
      obtain ⟨⟨hp, hps, hem⟩, rfl, rfl, rfl⟩ := hc
      unfold tinfo at hi
      obtain ⟨i, hi1, hi2⟩ := Option.map_eq_some_iff.1 hi
      simp only [Prod.mk.injEq] at hi2
      have hlen : len = parts.toList.length := by
        have := congrArg List.length hps; simpa using this.symm
      subst hlen
      have := bsliceO_ok (P := P) g hem hu (by simp [tsize, hi1, hi2.2.1]) hp ⟨z, by simp [hi1, hi2.1]⟩ hps he (fun x hx => hkn x hx) hv hall (by simpa using hsz)
      have e : (List.map (fun p => (p.1, ρ p.2)) parts.toList).toArray = parts.map fun x => (x.1, ρ x.2) := by apply Array.ext'; simp
      rw [e] at this
      simpa [execOp] using this
    · cases hc
  · cases hc
theorem step_bsliceO {o : Oper} {e : TypeId} {size : Nat} {ps : List Operand} (hc : comp1 P o = some (.bslice e size ps)) {K : St → Prop} {st : St} {a : Act} {w : World} (hsim : Sim F0 w0 st a w)
    (hall : (ps.all fun x => (St.ev st.tmps x).fits && (St.ev st.tmps x).cells.length == size && (St.ev st.tmps x).isT) = true) (hsz : ps.length * size ≤ 2 ^ 24)
    (h : K ⟨St.put st.tmps o.dst (.own st.objs.length ps.length 0 ps.length), st.objs ++ [.arr ps.length size e (ps.map (St.ev st.tmps))]⟩)
    {next : Act → World → Prop} {Q : Exit → Act → World → Prop} (hn : ∀ st' a' w', K st' → Sim F0 w0 st' a' w' → next a' w') : o.wp P a w next Q := by
  obtain ⟨hd, L, g, hs, ht⟩ := hsim
  have he := ev_ok (objs := st.objs) g.gl hs ht
  obtain ⟨gv, hlv⟩ := good_void g
  have hv : (st.objs ++ [AObj.void])[st.objs.length]? = some .void := by simp
  rw [List.all_eq_true] at hall
  have hall' : (ps.all fun x => (St.ev st.tmps x).fits && (St.ev st.tmps x).cells.length == size) = true := List.all_eq_true.2 fun x hx => (Bool.and_eq_true_iff.1 (hall x hx)).1
  have hkn : ∀ x ∈ ps, Known (st.objs ++ [AObj.void]) (St.ev st.tmps x) := by
    intro x hx id gg hk
    have hT := (Bool.and_eq_true_iff.1 (hall x hx)).2
    rcases hk with ⟨o, l, e⟩ | ⟨e', c, e⟩ <;> rw [e] at hT <;> cases hT
  obtain ⟨v, w', L', hr, hg, hl, hvr⟩ := bsliceO1_ok (P := P) (nid := st.objs.length) hc gv (fun x => (he x).stay hlv) hv hkn hall' hsz
  simp only [putO, set_void] at hg hl hvr
  unfold Oper.wp
  rw [hr, Oper.upon_value]
  exact hn _ _ _ h (sim_put hd hs ht hg (hlv.trans hl) o.dst hvr)
/-- A region that begins with a literal, as an object of one's own; in between the state is weakened. -/
theorem CwpE.regionB (k : Nat) {d : Nat} {e : TypeId} {size : Nat} {ps : List Operand} {cs : List COper} {Q : Exit → Est → Prop} {s : Est} (hd : d < n)
    (hall : (ps.all fun x => (evE s.env x).fits && (evE s.env x).cells.length == size && (evE s.env x).isT) = true) (hsz : ps.length * size ≤ 2 ^ 24)
    (h : RopsE P n (cs.take k) (fun s1 => ∃ s2, WkE n s1 s2 ∧ RopsE P n (cs.drop k) (Q .normal) s2) ⟨putE s.env (some d) (.own s.objs.length ps.length 0 ps.length), s.objs ++ [.arr ps.length size e (ps.map (evE s.env))]⟩) :
    CwpE P F0 w0 n (.region (⟨some d, none, .bslice e size ps⟩ :: cs)) Q s := by
  intro hk F1 w1 m r rn code hc hro a w hs
  cases code with
  | region id ops dr =>
    cases dr with
    | false =>
      simp only [compC, Option.map_eq_some_iff, CCode.region.injEq] at hc
      obtain ⟨cs', hcs, hcs2⟩ := hc
      refine wpIn_mono (wpIn_region (ops_in (calm_of hcs) lift_in _ _ _ ?_)) (Q := Lift F1 w1 fun e st => e = .normal ∧ LiftE n (Q .normal) st) ?_
      · rw [hcs2] at hcs
        cases hl : ops.toList with
        | nil => rw [hl] at hcs; simp at hcs
        | cons o l =>
          rw [hl] at hcs
          simp only [List.mapM_cons, Option.bind_eq_bind, Option.bind_eq_some_iff, Option.pure_def, Option.some.injEq, List.cons.injEq] at hcs
          obtain ⟨c, hc, cs1, hcs1, rfl, rfl⟩ := hcs
          simp only [compO, Option.bind_eq_some_iff] at hc
          obtain ⟨op, hop, hc⟩ := hc
          have hg : o.guard = none := by
            cases hg : o.guard with
            | none => rfl
            | some q =>
              obtain ⟨j, want⟩ := q
              rw [hg] at hc
              simp only [Option.map_eq_some_iff, COper.mk.injEq] at hc
              obtain ⟨t, _, _, h2, _⟩ := hc
              cases h2
          rw [hg] at hc
          simp only [Option.some.injEq, COper.mk.injEq, true_and] at hc
          obtain ⟨hdst, rfl⟩ := hc
          have hcomp : comp1 P o = some (.bslice e size ps) := by
            rcases compB_cases hop with h | h
            · exact h
            · cases h
          have hsz' : ops.size = l.length + 1 := by rw [← Array.length_toList, hl]; rfl
          have h0 : ops[0]? = some o := by rw [← Array.getElem?_toList, hl]; rfl
          rw [hsz', List.range_eq_range', List.range'_succ]
          simp only [wpOps, h0]
          have hw : Region.wanted o (yielded ops a.tmps) = true := by unfold Region.wanted; rw [hg]
          rw [hw, if_pos rfl]
          refine .inl (step_bsliceO (P := P) (K := fun st => st = Est.toSt n ⟨putE s.env (some d) (.own s.objs.length ps.length 0 ps.length), s.objs ++ [.arr ps.length size e (ps.map (evE s.env))]⟩) hcomp hs ?_ hsz ?_ ?_)
          · simp only [Est.toSt, ev_toT hk]; exact hall
          · rw [hdst]
            simp only [Est.toSt, ev_toT hk]
            rw [put_toT (show okD n (some d) from hd)]
          · rintro st' a' w' rfl hs'
            have hk' : KeysOk n (putE s.env (some d) (.own s.objs.length ps.length 0 ps.length)) := keys_put hk (show okD n (some d) from hd) _
            have := rops_ok2 (F0 := F1) (w0 := w1) (K := LiftE n (Q .normal)) ops (cs1.drop k) l (cs1.take k) 1 (fun j => by
              rw [← Array.getElem?_toList, hl, Nat.add_comm]; rfl) (by rw [List.take_append_drop]; exact hcs1) _ a' w' hs' ?_
            · exact this
            · have h1 := ropsE_ok (P := P) (cs1.take k) _ hk' h
              refine vc_mono (F0 := F0) (w0 := w0) (.region (cs1.take k)) (Q := fun _ => LiftE n (fun s1 => ∃ s2, WkE n s1 s2 ∧ RopsE P n (cs1.drop k) (Q .normal) s2)) (Q' := fun _ st1 => ∃ st2, Wk st1 st2 ∧ Rops P (cs1.drop k) (LiftE n (Q .normal)) st2) _ ?_ h1
              rintro _ st ⟨s1, ⟨s2, hwk, h2⟩, hk1, rfl⟩
              exact ⟨s2.toSt n, (hwk hk1).2, ropsE_ok _ _ (hwk hk1).1 h2⟩
      · rintro e a' w' ⟨st', ⟨rfl, hq⟩, hs'⟩; exact .mk hq hs'
    | true => rcases compC_reg hc with ⟨h, _⟩ | ⟨_, _, h⟩ | ⟨_, _, _, h⟩ <;> cases h
  | _ => simp [compC, Option.bind_eq_some_iff] at hc
end Dak
