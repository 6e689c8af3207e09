/- A code taken statement by statement, with weakenings in between. -/
import Derived.Test.YtjpknjicfoiheaaDu
set_option linter.unusedSimpArgs false
set_option linter.unusedVariables false
set_option linter.unusedSectionVars false
namespace Dak
open Go Go.RowKit
variable {P : Program} {F0 : FD} {w0 : World} {n : Nat}
theorem CwpE.vc {c : CCode} {Q : Exit → Est → Prop} {s : Est} (h : vcE P F0 w0 n c Q s) : CwpE P F0 w0 n c Q s := fun hk => vc_ok _ _ _ (vcE_ok c Q s hk h)
theorem CwpE.seq {a b : CCode} {Q : Exit → Est → Prop} {s : Est} (h : CwpE P F0 w0 n a (thenE (CwpE P F0 w0 n b Q) Q) s) : CwpE P F0 w0 n (.seq a b) Q s := by
  intro hk code hc a' w hs
  cases code with
  | seq x y =>
    simp only [compC, Option.bind_eq_some_iff, Option.map_eq_some_iff, CCode.seq.injEq] at hc
    obtain ⟨x', hx, y', hy, rfl, rfl⟩ := hc
    refine wp_seq (wp_mono (h hk _ hx _ w hs) ?_)
    rintro e a w ⟨st, ⟨s1, hq, hk1, rfl⟩, hs1⟩
    cases e with
    | normal => exact hq hk1 _ hy _ _ hs1
    | _ => exact ⟨_, ⟨s1, hq, hk1, rfl⟩, hs1⟩
  | region id ops d => rcases compC_reg hc with ⟨_, _, h⟩ | ⟨_, _, h⟩ | ⟨_, _, _, h⟩ <;> cases h
  | _ => simp [compC, Option.bind_eq_some_iff] at hc
/-- The first statement by running it, the rest in a state that may say less. -/
theorem CwpE.step {a b : CCode} {Q : Exit → Est → Prop} {s : Est} (J : Est → Prop) (h : vcE P F0 w0 n a (thenE (fun s => ∃ s', WkE n s s' ∧ J s') Q) s) (k : ∀ s, J s → CwpE P F0 w0 n b Q s) : CwpE P F0 w0 n (.seq a b) Q s := by
  refine CwpE.seq ((CwpE.vc h).post ?_)
  rintro e s h
  cases e with
  | normal => obtain ⟨s', h1, h2⟩ := h; exact ⟨s, .refl _ _, (k s' h2).wk h1⟩
  | _ => exact ⟨s, .refl _ _, h⟩
theorem spec_ofC {f : FuncId} {c : CCode} {n : Nat} {rs : List CRes} (hf : fnC P f = some (c, n, rs)) {xs : List AV} {r : AV} (h : ∀ F0 w0, Cwp P F0 w0 c (retQ rs r) ⟨xs ++ List.replicate (n - xs.length) .junk, []⟩) : Ctr P f xs r := by
  unfold fnC at hf
  split at hf
  rotate_left
  · cases hf
  rename_i fn hfn
  split at hf
  · cases hf
  rename_i hname
  split at hf
  rotate_left
  · cases hf
  rename_i code hbody
  simp only [Option.bind_eq_some_iff, Option.map_eq_some_iff, Prod.mk.injEq] at hf
  obtain ⟨c', hc, rs', hrs, rfl, rfl, rfl⟩ := hf
  refine ⟨by unfold Enters; rw [hfn]; simp only [hbody, Option.isSome_some, Bool.and_true]; simpa using hname, fun w F vs hl ht => ?_⟩
  refine calls_of_wp hfn hbody ?_
  have hsim : Sim ⟨F, (· < w.heap.size), []⟩ w ⟨xs ++ List.replicate (fn.ntmps - xs.length) .junk, []⟩ { tmps := vs ++ Array.replicate (fn.ntmps - vs.size) undef, defers := [] } w := by
    refine ⟨rfl, ⟨fun b => F b ∧ b < w.heap.size, fun _ => none⟩, ⟨fun id o h => by simp at h, fun _ _ => rfl, fun _ _ _ _ _ _ _ h => by simp at h, fun _ _ _ _ h => by simp at h, fun b hb => ⟨.inl hb.1, hb.2⟩, Kept.refl fun _ h => h⟩, by simp [hl], fun t h => ?_⟩
    by_cases hlt : t < xs.length
    · rw [List.getElem_append_left hlt, Array.getD_eq_getD_getElem?, Array.getElem?_append_left (by omega), Array.getElem?_eq_getElem (by omega)]
      exact .tree ((ht t hlt (by omega)).mono fun b hb hbl => ⟨hb, hbl⟩)
    · rw [List.getElem_append_right (by omega), List.getElem_replicate]
      exact .junk _
  refine wp_mono (h ⟨F, (· < w.heap.size), []⟩ w _ hc _ w hsim) ?_
  rintro e a' w' ⟨st, hq, hd, L, g, hs, ht'⟩
  have fin : (∃ y, resAll st rs' = some y ∧ Snap st.objs y r) → a'.defers = [] ∧ ∃ v, (results fn a'.tmps).run P w' = .ok v w' ∧ ∃ v', Ending.returned v = .returned v' ∧ Ext w w' ∧ TR w' (fun b => F b ∨ w.heap.size ≤ b) r v' := by
    rintro ⟨y, hy, hsn⟩
    obtain ⟨v, hv, hvr⟩ := results_ok hrs g hs ht' hy
    exact ⟨hd, v, hv, v, rfl, g.ext.ext, snap_ok g (fun _ _ _ _ _ h => h) (fun b hb => (g.old b hb).1.imp id Nat.le_of_not_lt) (fun id _ _ _ _ _ b o n hb => .inr (Nat.le_of_not_lt (g.own _ _ _ _ hb).2.1)) hsn _ hvr⟩
  cases e with
  | normal => exact fin hq
  | ret => exact fin hq
  | _ => exact hq.elim
theorem specC {f : FuncId} {c : CCode} {n : Nat} {rs : List CRes} (hf : fnC P f = some (c, n, rs)) {xs : List AV} (hn : xs.length ≤ n) {r : AV} (h : ∀ F0 w0, CwpE P F0 w0 n c (retE rs r) ⟨envOf 0 xs, []⟩) : Ctr P f xs r := by
  refine spec_ofC hf fun F0 w0 => ?_
  have hk : KeysOk n (envOf 0 xs) := by
    intro t ht
    rw [lk_envOf, if_pos (Nat.zero_le _), List.getD_eq_getElem?_getD, List.getElem?_eq_none (by omega)]; rfl
  have e : (⟨xs ++ List.replicate (n - xs.length) .junk, []⟩ : St) = (⟨envOf 0 xs, []⟩ : Est).toSt n := by
    unfold Est.toSt
    congr 1
    refine getD_ext (by simp [toT]; omega) fun t ht => ?_
    rw [toT_getD hk, lk_envOf, if_pos (Nat.zero_le _), Nat.sub_zero]
    rw [List.getD_eq_getElem?_getD, List.getD_eq_getElem?_getD, List.getElem?_append]
    split
    · rfl
    · rename_i h1
      rw [List.getElem?_replicate, List.getElem?_eq_none (by omega)]
      split <;> rfl
  rw [e]
  refine (h F0 w0 hk).mono ?_
  rintro e st ⟨s, hq, hk', rfl⟩
  have hr : ∀ x, resA (s.toSt n) x = resE s x := by
    intro x
    cases x with
    | tmp t => simp only [resA, resE]; rw [show (s.toSt n).tmps = toT n s.env from rfl, toT_getD hk']
    | cell a ag m => simp only [resA, resE]; rw [show (s.toSt n).tmps = toT n s.env from rfl, toT_getD hk']; rfl
  have hra : ∀ rs, resAll (s.toSt n) rs = resAllE s rs := by
    intro rs; unfold resAll resAllE; rw [show resA (s.toSt n) = resE s from funext hr]
    cases rs.mapM (resE s) with
    | none => rfl
    | some ys => cases ys with
      | nil => rfl
      | cons y ys => cases ys <;> rfl
  cases e with
  | normal => simp only [retQ]; rw [hra]; exact hq
  | ret => simp only [retQ]; rw [hra]; exact hq
  | _ => exact hq
/-- A slot holds a boolean that is not known: both must do. -/
theorem CwpE.split {c : CCode} {Q : Exit → Est → Prop} {env : List (Nat × AV)} {objs : List AObj} (k : Nat) (h : lk env k = .anyB) (ht : ∀ b, CwpE P F0 w0 n c Q ⟨(k, .val (.bool b)) :: env, objs⟩) : CwpE P F0 w0 n c Q ⟨env, objs⟩ := by
  intro hk code hc a w hs
  obtain ⟨hd, L, g, hsz, hslots⟩ := sim_slots hk hs
  have hkn : k < n := by
    rcases Nat.lt_or_ge k n with h1 | h1
    · exact h1
    · have := hk k h1; simp only [h] at this; cases this
  have hv := hslots k hkn
  simp only [h] at hv
  obtain ⟨b, hb⟩ := hv.anyB_inv
  have hk' : KeysOk n ((k, .val (.bool b)) :: env) := fun t ht' => by simp only [lk]; rw [if_neg (by omega)]; exact hk t ht'
  refine ht b hk' code hc a w (sim_mk (s := ⟨_, objs⟩) hd g hsz fun t ht' => ?_)
  simp only [lk]
  split
  · rename_i e; subst e; rw [hb]; exact .tree (.val _)
  · exact hslots t ht'
end Dak
