/- Abstract states: to say less of a state: what is named no more, what is but data from now on. -/
import Derived.Test.YtjpknjicfoiheaaDq
set_option linter.unusedSimpArgs false
set_option linter.unusedVariables false
set_option linter.unusedSectionVars false
namespace Dak
open Go Go.RowKit
variable {P : Program} {F0 : FD} {w0 w : World} {L : Lay} {objs objs0 : List AObj} {nid : Nat}

def Agree (env : List (Nat × AV)) : List (Nat × AV) → Prop
  | [] => True
  | (k, v) :: r => lk env k = v ∧ Agree env r

theorem agree_lk {env : List (Nat × AV)} : ∀ (env' : List (Nat × AV)), Agree env env' → ∀ t, lk env' t = .junk ∨ lk env' t = lk env t
  | [], _, t => .inl rfl
  | (k, v) :: r, h, t => by
    simp only [lk]
    split
    · rename_i e; subst e; exact .inr h.1.symm
    · exact agree_lk r h.2 t

theorem sim_slots {n : Nat} {s : Est} {a : Act} (hk : KeysOk n s.env) (h : Sim F0 w0 (s.toSt n) a w) :
    a.defers = F0.ds ∧ ∃ L, Good F0 w0 w L s.objs ∧ a.tmps.size = n ∧ ∀ t, t < n → VR w L s.objs (lk s.env t) (a.tmps.getD t undef) := by
  obtain ⟨hd, L, g, hs, ht⟩ := h
  refine ⟨hd, L, g, by simpa [Est.toSt, toT] using hs, fun t h => ?_⟩
  have := ht t (by simpa [Est.toSt, toT] using h)
  simpa [Est.toSt, toT] using this

theorem sim_mk {n : Nat} {s : Est} {a : Act} (hd : a.defers = F0.ds) (g : Good F0 w0 w L s.objs) (hs : a.tmps.size = n) (ht : ∀ t, t < n → VR w L s.objs (lk s.env t) (a.tmps.getD t undef)) : Sim F0 w0 (s.toSt n) a w :=
  ⟨hd, L, g, by simp [Est.toSt, toT, hs], fun t h => by
    have h' : t < n := by simpa [Est.toSt, toT] using h
    simpa [Est.toSt, toT] using ht t h'⟩

/-- Slots are forgotten. -/
theorem WkE.keep {n : Nat} {env env' : List (Nat × AV)} {objs : List AObj} (h : Agree env env') : WkE n ⟨env, objs⟩ ⟨env', objs⟩ := by
  intro hk
  refine ⟨fun t ht => ?_, fun F0 w0 a w hs => ?_⟩
  · rcases agree_lk env' h t with h1 | h1
    · exact h1
    · rw [h1]; exact hk t ht
  · obtain ⟨hd, L, g, hs, ht⟩ := sim_slots hk hs
    refine sim_mk (s := ⟨env', objs⟩) hd g hs fun t h' => ?_
    rcases agree_lk env' h t with h1 | h1
    · show VR w L objs (lk env' t) _
      rw [h1]; exact .junk _
    · show VR w L objs (lk env' t) _
      rw [h1]; exact ht t h'

/-- The last objects are forgotten. -/
theorem WkE.drop {n : Nat} {env : List (Nat × AV)} {objs : List AObj} (m : Nat) (he : ∀ p ∈ env, p.2.inn m = true) (ho : ∀ o ∈ objs.take m, o.innO m = true) : WkE n ⟨env, objs⟩ ⟨env, objs.take m⟩ := by
  intro hk
  refine ⟨hk, fun F0 w0 a w hs => ?_⟩
  obtain ⟨hd, L, g, hs, ht⟩ := sim_slots hk hs
  have hle : ∀ t, (lk env t).inn m = true := by
    intro t
    have : ∀ env : List (Nat × AV), (∀ p ∈ env, p.2.inn m = true) → (lk env t).inn m = true := by
      intro env
      induction env with
      | nil => intro _; rfl
      | cons p env ih =>
        intro h
        simp only [lk]
        split
        · exact h p (by simp)
        · exact ih fun q hq => h q (by simp [hq])
    exact this env he
  exact sim_mk (s := ⟨env, objs.take m⟩) (L := L.cut m) hd (good_drop g m ho) hs fun t h => below_vr (L := L) (L' := L.cut m) (fun _ h => h) (fun id h => if_pos h) (ht t h) (hle t)

/-- Both at once, at the end of a round. -/
theorem WkE.round {n : Nat} {env env' : List (Nat × AV)} {objs objs' : List AObj} (h : Agree env env') (he : (env'.all fun p => p.2.inn objs'.length) = true) (ho : (objs'.all fun o => o.innO objs'.length) = true) (hp : objs.take objs'.length = objs') :
    WkE n ⟨env, objs⟩ ⟨env', objs'⟩ := by
  refine (WkE.keep h).trans ?_
  have := WkE.drop (n := n) (env := env') (objs := objs) objs'.length (fun p hp => List.all_eq_true.1 he p hp) (fun o ho' => by rw [hp] at ho'; exact List.all_eq_true.1 ho o ho')
  rwa [hp] at this

/-- A slice that is nil is one of the call's own, from now on. -/
theorem WkE.nil {n : Nat} {env : List (Nat × AV)} {objs : List AObj} (k size : Nat) (elem : TypeId) (hkn : k < n) (h : lk env k = .val (.slice none 0 0)) : WkE n ⟨env, objs⟩ ⟨(k, .own objs.length 0 0 0) :: env, objs ++ [.arr 0 size elem []]⟩ := by
  intro hk
  refine ⟨fun t ht => ?_, fun F0 w0 a w hs => ?_⟩
  · simp only [lk]; rw [if_neg (by omega)]; exact hk t ht
  · obtain ⟨hd, L, g, hs, ht⟩ := sim_slots hk hs
    obtain ⟨gv, hlv⟩ := good_void g
    have hvd : (objs ++ [AObj.void])[objs.length]? = some .void := by simp
    have hl2 : Later w L (objs ++ [AObj.void]) w L ((objs ++ [AObj.void]).set objs.length (.arr 0 size elem [])) := by
      refine ⟨fun b hF hb => ⟨rfl, hF⟩, stale_set hvd, fun i g' s' hl => .inr ⟨?_, rfl⟩⟩
      have hne : objs.length ≠ i := by rintro rfl; obtain ⟨e', xs, h⟩ := hl; rw [hvd] at h; simp at h
      unfold live at hl ⊢
      rwa [List.getElem?_set_ne hne]
    have hl := hlv.trans hl2
    rw [set_void] at hl
    have hg : Good F0 w0 w L (objs ++ [.arr 0 size elem []]) := by
      refine ⟨fun id o ho => ?_, fun id hid => g.out id (by have hid' : (objs ++ [AObj.arr 0 size elem []]).length ≤ id := hid; rw [List.length_append] at hid'; show objs.length ≤ id; omega), g.inj, g.own, g.old, g.ext⟩
      by_cases hlt : id < objs.length
      · rw [List.getElem?_append_left hlt] at ho
        have := g.obj id o ho
        cases o with
        | void => exact this
        | dead => exact this
        | probe k st li bk ps => exact this.probe_stay hl rfl
        | arr gen size elem xs =>
          unfold OR at this ⊢
          cases hbk : L.blk id with
          | none => rw [hbk] at this; exact this
          | some q =>
            obtain ⟨b, o', n⟩ := q
            rw [hbk] at this
            obtain ⟨cur, hc, hn, hr⟩ := this
            exact ⟨cur, hc, hn, hr.stay hl⟩
      · have hid : id = objs.length := by
          have := (List.getElem?_eq_some_iff.1 ho).1
          simp at this; omega
        subst hid
        simp at ho; subst ho
        unfold OR
        have hn : L.blk objs.length = none := g.out objs.length (Nat.le_refl _)
        rw [hn]
    refine sim_mk (s := ⟨_, _⟩) hd hg hs fun t h' => ?_
    simp only [lk]
    split
    · rename_i e; subst e
      have := ht k h'
      simp only at this
      rw [h] at this
      rw [this.val_inv]
      exact .ownN _ _ _ _ size ⟨elem, [], by simp⟩
    · exact (ht t h').stay hl

/-- A slice that is the call's own is data, from now on. -/
theorem WkE.freeze {n : Nat} {env : List (Nat × AV)} {objs : List AObj} (k id g off len size : Nat) (elem : TypeId) (xs : List AV) (hkn : k < n) (h : lk env k = .own id g off len) (ho : objs[id]? = some (.arr g size elem xs))
    (hle : off + len ≤ xs.length) (hT : (xs.all AV.isT) = true) : WkE n ⟨env, objs⟩ ⟨(k, .list size ((xs.drop off).take len)) :: env, objs.set id .dead⟩ := by
  intro hk
  have hid := (List.getElem?_eq_some_iff.1 ho).1
  refine ⟨fun t ht => ?_, fun F0 w0 a w hs => ?_⟩
  · simp only [lk]; rw [if_neg (by omega)]; exact hk t ht
  · obtain ⟨hd, L, gd, hs, ht⟩ := sim_slots hk hs
    have hsn : Snap (List.replicate id .dead ++ [.arr g size elem xs]) (.own id g off len) (.list size ((xs.drop off).take len)) := by
      have hl : ((xs.drop off).take len).length = len := by simp; omega
      refine .own id g off len size elem xs _ (by rw [List.getElem?_append_right (by simp)]; simp) hle hl fun i hi => ?_
      rw [List.getElem_take, List.getElem_drop]
      exact .tree _ (List.all_eq_true.1 hT _ (List.getElem_mem _))
    let L' : Lay := ⟨fun b => L.F b ∨ ∃ o n, L.blk id = some (b, o, n), fun i => if i = id then none else L.blk i⟩
    have only : ∀ (i g' s' : Nat) (e' : TypeId) (xs' : List AV), (List.replicate id AObj.dead ++ [AObj.arr g size elem xs])[i]? = some (AObj.arr g' s' e' xs') → i = id ∧ AObj.arr g size elem xs = AObj.arr g' s' e' xs' := by
      intro i g' s' e' xs' hi
      by_cases hlt : i < id
      · rw [List.getElem?_append_left (by simpa using hlt), List.getElem?_replicate, if_pos hlt] at hi; simp at hi
      · have : i = id := by have := (List.getElem?_eq_some_iff.1 hi).1; simp at this; omega
        subst this
        rw [List.getElem?_append_right (by simp)] at hi
        simp only [List.length_replicate, Nat.sub_self, List.getElem?_cons_zero, Option.some.injEq] at hi
        exact ⟨rfl, hi⟩
    have hlater : Later w L objs w L' (objs.set id .dead) := by
      refine ⟨fun b hF hb => ⟨rfl, .inl hF⟩, fun i g' hst => ?_, fun i g' s' hl => ?_⟩
      · by_cases e : id = i
        · subst e; exact .inl (List.getElem?_set_self hid)
        · unfold stale at hst ⊢; rwa [List.getElem?_set_ne e]
      · by_cases e : id = i
        · subst e; exact .inl (.inl (List.getElem?_set_self hid))
        · refine .inr ⟨?_, if_neg (Ne.symm e)⟩
          unfold live at hl ⊢; rwa [List.getElem?_set_ne e]
    refine sim_mk (s := ⟨_, _⟩) (L := L') hd ⟨fun i o ho' => ?_, fun i hi => ?_, fun i j b o n o' n' h1 h2 => ?_, fun i b o n h => ?_, fun b hb => ?_, gd.ext⟩ hs fun t h' => ?_
    · by_cases e : i = id
      · subst e
        rw [List.getElem?_set_self hid] at ho'
        simp only [Option.some.injEq] at ho'; subst ho'
        exact if_pos rfl
      · rw [List.getElem?_set_ne (Ne.symm e)] at ho'
        have := gd.obj i o ho'
        have hbe : L'.blk i = L.blk i := if_neg e
        cases o with
        | void => unfold OR at this ⊢; rw [hbe]; exact this
        | dead => unfold OR at this ⊢; rw [hbe]; exact this
        | probe k st li bk ps => exact this.probe_stay hlater hbe
        | arr gen size elem xs =>
          unfold OR at this ⊢
          rw [hbe]
          cases hbk : L.blk i with
          | none => rw [hbk] at this; exact this
          | some q =>
            obtain ⟨b, o', n⟩ := q
            rw [hbk] at this
            obtain ⟨cur, hc, hn, hr⟩ := this
            exact ⟨cur, hc, hn, hr.stay hlater⟩
    · rw [List.length_set] at hi
      show (if i = id then none else L.blk i) = none
      split
      · rfl
      · exact gd.out i hi
    · have h1' : (if i = id then none else L.blk i) = some (b, o, n) := h1
      have h2' : (if j = id then none else L.blk j) = some (b, o', n') := h2
      split at h1' <;> split at h2' <;> first | exact gd.inj _ _ _ _ _ _ _ h1' h2' | cases h1' | cases h2'
    · have h' : (if i = id then none else L.blk i) = some (b, o, n) := h
      split at h'
      · cases h'
      · rename_i e
        have := gd.own _ _ _ _ h'
        refine ⟨?_, this.2⟩
        rintro (hF | ⟨o2, n2, hF⟩)
        · exact this.1 hF
        · exact e (gd.inj _ _ _ _ _ _ _ h' hF)
    · rcases hb with hb | ⟨o, n, hb⟩
      · exact gd.old b hb
      · have := gd.own _ _ _ _ hb
        exact ⟨.inr this.2.1, this.2.2⟩
    · simp only [lk]
      split
      · rename_i e; subst e
        have := ht k h'
        simp only at this
        rw [h] at this
        refine .tree (snap_ok gd ?_ (G := L'.F) (fun b hb => .inl hb) ?_ hsn _ this)
        · intro i g' s' e' xs' hi
          obtain ⟨rfl, e⟩ := only i g' s' e' xs' hi
          rw [← e]; exact ho
        · intro i g' s' e' xs' hi b o n hb
          obtain ⟨rfl, _⟩ := only i g' s' e' xs' hi
          exact .inr ⟨o, n, hb⟩
      · exact (ht t h').stay hlater
end Dak
