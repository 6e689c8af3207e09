/- A region in two parts, with a weakening in between. -/
import Derived.Test.YtjpknjicfoiheaaDy
set_option linter.unusedSimpArgs false
set_option linter.unusedVariables false
set_option linter.unusedSectionVars false
namespace Dak
open Go Go.RowKit
variable {P : Program} {F0 : FD} {w0 : World} {n : Nat}
theorem rops_ok2 (ops : Array Oper) {K : St → Prop} (csb : List COper) : ∀ (l : List Oper) (csa : List COper) (k : Nat), (∀ j, l[j]? = ops[k + j]?) → l.mapM (compO P ops) = some (csa ++ csb) → ∀ (st : St) (a : Act) (w : World), Sim F0 w0 st a w → Rops P csa (fun st1 => ∃ st2, Wk st1 st2 ∧ Rops P csb K st2) st →
    wpOps P ops (Lift F0 w0 fun e st => e = .normal ∧ K st) (List.range' k l.length) a w
  | l, [], k, hl, hm, st, a, w, hsim, h => by
    obtain ⟨st2, hwk, h⟩ := h
    exact rops_ok ops l csb k hl hm st2 a w (hwk _ _ _ _ hsim) h
  | [], c :: csa, k, hl, hm, st, a, w, hsim, h => by simp at hm
  | o :: l, c :: csa, k, hl, hm, st, a, w, hsim, h => by
    simp only [List.mapM_cons, Option.bind_eq_bind, Option.bind_eq_some_iff, Option.pure_def, Option.some.injEq, List.cons_append, List.cons.injEq] at hm
    obtain ⟨c, hc, cs', hcs, rfl, rfl⟩ := hm
    have h0 : ops[k]? = some o := by simpa using (hl 0).symm
    have hl' : ∀ j, l[j]? = ops[k + 1 + j]? := fun j => by have := hl (j + 1); simpa [Nat.add_assoc, Nat.add_comm 1 j] using this
    have ih := rops_ok2 ops (K := K) csb l csa (k + 1) hl' hcs
    simp only [List.length_cons, List.range'_succ, wpOps, h0]
    simp only [compO, Option.bind_eq_some_iff] at hc
    obtain ⟨op, hop, hc⟩ := hc
    cases hg : o.guard with
    | none =>
      rw [hg] at hc
      simp only [Option.some.injEq] at hc
      subst hc
      have hw : Region.wanted o (yielded ops a.tmps) = true := by unfold Region.wanted; rw [hg]
      rw [hw, if_pos rfl]
      simp only [Rops] at h
      exact .inl (rstep_ok (P := P) (c := ⟨o.dst, none, op⟩) (.ofB hop) rfl hsim h fun st' a' w' hK hs => ih st' a' w' hs hK)
    | some q =>
      obtain ⟨j, want⟩ := q
      rw [hg] at hc
      simp only [Option.map_eq_some_iff] at hc
      obtain ⟨t, htt, rfl⟩ := hc
      simp only [Rops] at h
      split at h
      · rename_i b hb
        have hbv : boolOf (a.tmps.getD t undef) = b := by
          obtain ⟨hd, L, g, hs, ht⟩ := hsim
          exact gdB_ok (ev_ok (objs := st.objs) hs ht (.tmp t)) hb
        have hw := wanted_of hg htt hbv
        by_cases e : b = some want
        · subst e
          rw [hw]; simp only [beq_self_eq_true, if_true]
          exact .inl (rstep_ok (P := P) (c := ⟨o.dst, some (t, want), op⟩) (.ofB hop) rfl hsim (h.1 rfl) fun st' a' w' hK hs => ih st' a' w' hs hK)
        · rw [hw, if_neg (by simpa using e)]
          refine ih _ _ _ ?_ (h.2 e)
          obtain ⟨hd, L, g, hs, ht⟩ := hsim
          exact sim_put hd hs ht g (.refl _ _ _) _ (.tree (.val _))
      · exact h.elim
/-- A region whose first k operations are run, then the state is weakened, then the rest is run. -/
theorem CwpE.regionW (k : Nat) {cs : List COper} {Q : Exit → Est → Prop} {s : Est} (h : RopsE P n (cs.take k) (fun s1 => ∃ s2, WkE n s1 s2 ∧ RopsE P n (cs.drop k) (Q .normal) s2) s) : CwpE P F0 w0 n (.region cs) Q s := by
  intro hk code hc a w hs
  cases code with
  | region id ops d =>
    cases d with
    | false =>
      simp only [compC, Option.map_eq_some_iff, CCode.region.injEq] at hc
      obtain ⟨cs', hcs, rfl⟩ := hc
      refine wp_mono (wp_region ?_) (Q := Lift F0 w0 fun e st => e = .normal ∧ LiftE n (Q .normal) st) ?_
      · have := rops_ok2 (F0 := F0) (w0 := w0) (K := LiftE n (Q .normal)) ops (cs'.drop k) ops.toList (cs'.take k) 0 (fun j => by simp) (by rw [List.take_append_drop]; exact hcs) (s.toSt n) a w hs ?_
        · rw [← List.range_eq_range'] at this
          simpa using this
        · have h1 := ropsE_ok (P := P) (cs'.take k) s hk h
          refine vc_mono (F0 := F0) (w0 := w0) (.region (cs'.take k)) (Q := fun _ => LiftE n (fun s1 => ∃ s2, WkE n s1 s2 ∧ RopsE P n (cs'.drop k) (Q .normal) s2)) (Q' := fun _ st1 => ∃ st2, Wk st1 st2 ∧ Rops P (cs'.drop k) (LiftE n (Q .normal)) st2) _ ?_ h1
          rintro _ st ⟨s1, ⟨s2, hwk, h2⟩, hk1, rfl⟩
          exact ⟨s2.toSt n, (hwk hk1).2, ropsE_ok _ _ (hwk hk1).1 h2⟩
      · rintro e a' w' ⟨st', ⟨rfl, hq⟩, hs'⟩; exact ⟨st', hq, hs'⟩
    | true => rcases compC_reg hc with ⟨h, _⟩ | ⟨_, _, h⟩ | ⟨_, _, _, h⟩ <;> cases h
  | _ => simp [compC, Option.bind_eq_some_iff] at hc
end Dak
