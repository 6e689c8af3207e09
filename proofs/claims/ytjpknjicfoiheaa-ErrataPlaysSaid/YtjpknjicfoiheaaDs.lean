/- Abstract states: to say less of what a cell holds. -/
import Derived.Test.YtjpknjicfoiheaaDr
set_option linter.unusedSimpArgs false
set_option linter.unusedVariables false
set_option linter.unusedSectionVars false
namespace Dak
open Go Go.RowKit
variable {P : Program} {F0 : FD} {w0 w : World} {L : Lay} {objs objs0 : List AObj} {nid : Nat}

theorem live_set_same {id gen size : Nat} {elem : TypeId} {xs xs' : List AV} (ho : objs[id]? = some (.arr gen size elem xs)) : Later w L objs w L (objs.set id (.arr gen size elem xs')) := by
  have hid := (List.getElem?_eq_some_iff.1 ho).1
  refine ⟨fun b hF hb => ⟨rfl, hF⟩, stale_next ho (Nat.le_refl _), fun i g s h => .inr ⟨?_, rfl⟩⟩
  by_cases e : id = i
  · subst e
    obtain ⟨e', ys, h⟩ := h
    rw [ho] at h; simp only [Option.some.injEq, AObj.arr.injEq] at h
    obtain ⟨rfl, rfl, rfl, rfl⟩ := h
    exact ⟨_, _, List.getElem?_set_self hid⟩
  · unfold live at h ⊢; rwa [List.getElem?_set_ne e]

/-- One cell of an object is seen otherwise. -/
theorem good_recell {L' : Lay} {objs' : List AObj} (g : Good F0 w0 w L objs) (g' : Good F0 w0 w L' objs') (hl : Later w L objs w L' objs') {id gen size el c : Nat} {elem : TypeId} {xs : List AV} {y x0 x1 : AV}
    (ho : objs[id]? = some (.arr gen size elem xs)) (ho' : objs'[id]? = some (.arr gen size elem xs)) (hbk : L'.blk id = L.blk id) (hy : xs[el]? = some y) (hc : y.cells[c]? = some x0) (hx : ∀ u, u.oneCell' = true → VR w L objs x0 u → VR w L' objs' x1 u) (h1 : ∀ ds, x1 ≠ .agg ds) :
    Good F0 w0 w L' (objs'.set id (.arr gen size elem (xs.set el (recell y (y.cells.set c x1))))) := by
  have hid := (List.getElem?_eq_some_iff.1 ho').1
  have hl2 : Later w L' objs' w L' (objs'.set id (.arr gen size elem (xs.set el (recell y (y.cells.set c x1))))) := live_set_same ho'
  refine ⟨fun i o hi => ?_, fun i hi => g'.out i (by rw [List.length_set] at hi; exact hi), g'.inj, g'.own, g'.old, g'.ext⟩
  by_cases e : i = id
  · subst e
    rw [List.getElem?_set_self hid] at hi
    simp only [Option.some.injEq] at hi; subst hi
    have := g.obj _ _ ho
    unfold OR at this ⊢
    rw [hbk]
    cases hb : L.blk i with
    | none =>
      rw [hb] at this
      simp only at this
      subst this; simp at hy
    | some q =>
      obtain ⟨b, o, n⟩ := q
      rw [hb] at this
      obtain ⟨cur, hcur, hn, hr1, hr2⟩ := this
      obtain ⟨hel, rfl⟩ := List.getElem?_eq_some_iff.1 hy
      obtain ⟨hcl, rfl⟩ := List.getElem?_eq_some_iff.1 hc
      have hna : ∀ c' ∈ xs[el].cells.set c x1, ∀ ds, c' ≠ .agg ds := by
        intro c' hc' ds
        obtain ⟨k, hk, rfl⟩ := List.getElem_of_mem hc'
        rw [List.getElem_set]
        split
        · exact h1 ds
        · obtain ⟨u, _, ho1, hv⟩ := (hr2 el hel).2 k (by simpa using hk)
          exact one_not_agg hv ho1 ds
      have hrc := recell_cells xs[el] _ hna
      refine ⟨cur, hcur, hn, by rw [List.length_set]; exact hr1, fun j hj => ?_⟩
      rw [List.length_set] at hj
      by_cases ej : el = j
      · subst ej
        rw [List.getElem_set_self, hrc]
        refine ⟨by rw [List.length_set]; exact (hr2 el hel).1, fun k hk => ?_⟩
        rw [List.length_set] at hk
        obtain ⟨u, hu, ho1, hv⟩ := (hr2 el hel).2 k hk
        refine ⟨u, hu, ho1, ?_⟩
        rw [List.getElem_set]
        split
        · rename_i ek; subst ek; exact (hx u ho1 hv).stay hl2
        · exact (hv.stay hl).stay hl2
      · rw [List.getElem_set_ne ej]
        refine ⟨(hr2 j hj).1, fun k hk => ?_⟩
        obtain ⟨u, hu, ho1, hv⟩ := (hr2 j hj).2 k hk
        exact ⟨u, hu, ho1, (hv.stay hl).stay hl2⟩
  · rw [List.getElem?_set_ne (Ne.symm e)] at hi
    have := g'.obj i o hi
    cases o with
    | void => exact this
    | dead => exact this
    | probe k st li bk ps => exact this.probe_stay hl2 rfl
    | arr gen size elem xs =>
      unfold OR at this ⊢
      cases hbk : L'.blk i with
      | none => rw [hbk] at this; exact this
      | some q =>
        obtain ⟨b, o', n⟩ := q
        rw [hbk] at this
        obtain ⟨cur, hc, hn, hr⟩ := this
        exact ⟨cur, hc, hn, hr.stay hl2⟩

/-- A new object without a place, that nothing names yet. -/
theorem good_empty (g : Good F0 w0 w L objs) (size : Nat) (elem : TypeId) : Good F0 w0 w L (objs ++ [.arr 0 size elem []]) ∧ Later w L objs w L (objs ++ [.arr 0 size elem []]) := by
  obtain ⟨gv, hlv⟩ := good_void g
  have hvd : (objs ++ [AObj.void])[objs.length]? = some .void := by simp
  have hl2 : Later w L (objs ++ [AObj.void]) w L ((objs ++ [AObj.void]).set objs.length (.arr 0 size elem [])) := by
    refine ⟨fun b hF hb => ⟨rfl, hF⟩, stale_set hvd, fun i g' s' hl => .inr ⟨?_, rfl⟩⟩
    have hne : objs.length ≠ i := by rintro rfl; obtain ⟨e', xs, h⟩ := hl; rw [hvd] at h; simp at h
    unfold live at hl ⊢
    rwa [List.getElem?_set_ne hne]
  have hl := hlv.trans hl2
  rw [set_void] at hl
  refine ⟨⟨fun id o ho => ?_, fun id hid => g.out id (by rw [List.length_append] at hid; omega), g.inj, g.own, g.old, g.ext⟩, hl⟩
  by_cases hlt : id < objs.length
  · rw [List.getElem?_append_left hlt] at ho
    have := g.obj id o ho
    cases o with
    | void => exact this
    | dead => exact this
    | probe k st li bk ps => exact this.probe_stay hl rfl
    | arr gen size elem xs =>
      unfold OR at this ⊢
      cases hbk : L.blk id with
      | none => rw [hbk] at this; exact this
      | some q =>
        obtain ⟨b, o', n⟩ := q
        rw [hbk] at this
        obtain ⟨cur, hc, hn, hr⟩ := this
        exact ⟨cur, hc, hn, hr.stay hl⟩
  · have hid : id = objs.length := by
      have := (List.getElem?_eq_some_iff.1 ho).1
      simp at this; omega
    subst hid
    simp at ho; subst ho
    unfold OR
    have hn : L.blk objs.length = none := g.out objs.length (Nat.le_refl _)
    rw [hn]

/-- A slice in a cell that is nil is one of the call's own, from now on. -/
theorem WkE.nilCell {n : Nat} {env : List (Nat × AV)} {objs : List AObj} (id gen sz el c size : Nat) (elem et : TypeId) (xs : List AV) (y : AV) (ho : objs[id]? = some (.arr gen sz et xs)) (hy : xs[el]? = some y) (hc : y.cells[c]? = some (.val (.slice none 0 0))) :
    WkE n ⟨env, objs⟩ ⟨env, objs.set id (.arr gen sz et (xs.set el (recell y (y.cells.set c (.own objs.length 0 0 0))))) ++ [.arr 0 size elem []]⟩ := by
  intro hk
  refine ⟨hk, fun F0 w0 a w hs => ?_⟩
  obtain ⟨hd, L, g, hs, ht⟩ := sim_slots hk hs
  obtain ⟨g', hl⟩ := good_empty g size elem
  have hid := (List.getElem?_eq_some_iff.1 ho).1
  have ho' : (objs ++ [AObj.arr 0 size elem []])[id]? = some (.arr gen sz et xs) := by rw [List.getElem?_append_left hid]; exact ho
  have hg := good_recell (x1 := .own objs.length 0 0 0) g g' hl ho ho' rfl hy hc (fun u _ hu => by rw [hu.val_inv]; exact .ownN _ _ _ _ size ⟨elem, [], by simp⟩) (fun ds => by simp)
  have e : (objs ++ [AObj.arr 0 size elem []]).set id (.arr gen sz et (xs.set el (recell y (y.cells.set c (.own objs.length 0 0 0))))) = objs.set id (.arr gen sz et (xs.set el (recell y (y.cells.set c (.own objs.length 0 0 0))))) ++ [.arr 0 size elem []] := List.set_append_left _ _ hid
  rw [e] at hg
  have hl2 : Later w L (objs ++ [AObj.arr 0 size elem []]) w L ((objs ++ [AObj.arr 0 size elem []]).set id (.arr gen sz et (xs.set el (recell y (y.cells.set c (.own objs.length 0 0 0)))))) := live_set_same ho'
  rw [e] at hl2
  exact sim_mk (s := ⟨env, _⟩) hd hg hs fun t h => (ht t h).stay (hl.trans hl2)

/-- A dead object's block is data. -/
theorem good_dead (g : Good F0 w0 w L objs) {id gen size : Nat} {elem : TypeId} {xs : List AV} (ho : objs[id]? = some (.arr gen size elem xs)) :
    ∃ L' : Lay, Good F0 w0 w L' (objs.set id .dead) ∧ Later w L objs w L' (objs.set id .dead) ∧ (∀ b, L.F b → L'.F b) ∧ (∀ b o n, L.blk id = some (b, o, n) → L'.F b) ∧ ∀ i, i ≠ id → L'.blk i = L.blk i := by
  have hid := (List.getElem?_eq_some_iff.1 ho).1
  let L' : Lay := ⟨fun b => L.F b ∨ ∃ o n, L.blk id = some (b, o, n), fun i => if i = id then none else L.blk i⟩
  have hlater : Later w L objs w L' (objs.set id .dead) := by
    refine ⟨fun b hF hb => ⟨rfl, .inl hF⟩, fun i g' hst => ?_, fun i g' s' hl => ?_⟩
    · by_cases e : id = i
      · subst e; exact .inl (List.getElem?_set_self hid)
      · unfold stale at hst ⊢; rwa [List.getElem?_set_ne e]
    · by_cases e : id = i
      · subst e; exact .inl (.inl (List.getElem?_set_self hid))
      · refine .inr ⟨?_, if_neg (Ne.symm e)⟩
        unfold live at hl ⊢; rwa [List.getElem?_set_ne e]
  refine ⟨L', ⟨fun i o ho' => ?_, fun i hi => ?_, fun i j b o n o' n' h1 h2 => ?_, fun i b o n h => ?_, fun b hb => ?_, g.ext⟩, hlater, fun b h => .inl h, fun b o n h => .inr ⟨o, n, h⟩, fun i h => if_neg h⟩
  · by_cases e : i = id
    · subst e
      rw [List.getElem?_set_self hid] at ho'
      simp only [Option.some.injEq] at ho'; subst ho'
      exact if_pos rfl
    · rw [List.getElem?_set_ne (Ne.symm e)] at ho'
      have := g.obj i o ho'
      have hbe : L'.blk i = L.blk i := if_neg e
      cases o with
      | void => unfold OR at this ⊢; rw [hbe]; exact this
      | dead => unfold OR at this ⊢; rw [hbe]; exact this
      | probe k st li bk ps => exact this.probe_stay hlater hbe
      | arr gen size elem xs =>
        unfold OR at this ⊢
        rw [hbe]
        cases hbk : L.blk i with
        | none => rw [hbk] at this; exact this
        | some q =>
          obtain ⟨b, o', n⟩ := q
          rw [hbk] at this
          obtain ⟨cur, hc, hn, hr⟩ := this
          exact ⟨cur, hc, hn, hr.stay hlater⟩
  · rw [List.length_set] at hi
    show (if i = id then none else L.blk i) = none
    split
    · rfl
    · exact g.out i hi
  · have h1' : (if i = id then none else L.blk i) = some (b, o, n) := h1
    have h2' : (if j = id then none else L.blk j) = some (b, o', n') := h2
    split at h1' <;> split at h2' <;> first | exact g.inj _ _ _ _ _ _ _ h1' h2' | cases h1' | cases h2'
  · have h' : (if i = id then none else L.blk i) = some (b, o, n) := h
    split at h'
    · cases h'
    · rename_i e
      have := g.own _ _ _ _ h'
      refine ⟨?_, this.2⟩
      rintro (hF | ⟨o2, n2, hF⟩)
      · exact this.1 hF
      · exact e (g.inj _ _ _ _ _ _ _ h' hF)
  · rcases hb with hb | ⟨o, n, hb⟩
    · exact g.old b hb
    · have := g.own _ _ _ _ hb
      exact ⟨.inr this.2.1, this.2.2⟩

/-- What an own slice of data reads as, once its object is dead. -/
theorem own_data (gd : Good F0 w0 w L objs) {id g off len size : Nat} {elem : TypeId} {xs : List AV} (ho : objs[id]? = some (.arr g size elem xs)) (hle : off + len ≤ xs.length) (hT : (xs.all AV.isT) = true) {G : Nat → Prop} (hF : ∀ b, L.F b → G b) (hG : ∀ b o n, L.blk id = some (b, o, n) → G b)
    {v : Value} (h : VR w L objs (.own id g off len) v) : TR w G (.list size ((xs.drop off).take len)) v := by
  have hsn : Snap (List.replicate id .dead ++ [.arr g size elem xs]) (.own id g off len) (.list size ((xs.drop off).take len)) := by
    have hl : ((xs.drop off).take len).length = len := by simp; omega
    refine .own id g off len size elem xs _ (by rw [List.getElem?_append_right (by simp)]; simp) hle hl fun i hi => ?_
    rw [List.getElem_take, List.getElem_drop]
    exact .tree _ (List.all_eq_true.1 hT _ (List.getElem_mem _))
  have only : ∀ (i g' s' : Nat) (e' : TypeId) (xs' : List AV), (List.replicate id AObj.dead ++ [AObj.arr g size elem xs])[i]? = some (AObj.arr g' s' e' xs') → i = id ∧ AObj.arr g size elem xs = AObj.arr g' s' e' xs' := by
    intro i g' s' e' xs' hi
    by_cases hlt : i < id
    · rw [List.getElem?_append_left (by simpa using hlt), List.getElem?_replicate, if_pos hlt] at hi; simp at hi
    · have : i = id := by have := (List.getElem?_eq_some_iff.1 hi).1; simp at this; omega
      subst this
      rw [List.getElem?_append_right (by simp)] at hi
      simp only [List.length_replicate, Nat.sub_self, List.getElem?_cons_zero, Option.some.injEq] at hi
      exact ⟨rfl, hi⟩
  refine snap_ok gd ?_ hF ?_ hsn _ h
  · intro i g' s' e' xs' hi
    obtain ⟨rfl, e⟩ := only i g' s' e' xs' hi
    rw [← e]; exact ho
  · intro i g' s' e' xs' hi b o n hb
    obtain ⟨rfl, _⟩ := only i g' s' e' xs' hi
    exact hG b o n hb

/-- A slice of one's own that lies in a cell is data, from now on. -/
theorem WkE.freezeCell {n : Nat} {env : List (Nat × AV)} {objs : List AObj} (id gen sz el c id2 g2 off len size : Nat) (et elem : TypeId) (xs ys : List AV) (y : AV) (ho : objs[id]? = some (.arr gen sz et xs)) (hy : xs[el]? = some y) (hc : y.cells[c]? = some (.own id2 g2 off len))
    (ho2 : objs[id2]? = some (.arr g2 size elem ys)) (hne : id ≠ id2) (hle : off + len ≤ ys.length) (hT : (ys.all AV.isT) = true) :
    WkE n ⟨env, objs⟩ ⟨env, (objs.set id2 .dead).set id (.arr gen sz et (xs.set el (recell y (y.cells.set c (.list size ((ys.drop off).take len))))))⟩ := by
  intro hk
  refine ⟨hk, fun F0 w0 a w hs => ?_⟩
  obtain ⟨hd, L, g, hs, ht⟩ := sim_slots hk hs
  obtain ⟨L', g', hl, h1, h2, h3⟩ := good_dead g ho2
  have ho' : (objs.set id2 .dead)[id]? = some (.arr gen sz et xs) := by rw [List.getElem?_set_ne (Ne.symm hne)]; exact ho
  have hg := good_recell (x1 := .list size ((ys.drop off).take len)) g g' hl ho ho' (h3 id hne) hy hc (fun u _ hu => .tree (own_data g ho2 hle hT h1 h2 hu)) (fun ds => by simp)
  exact sim_mk (s := ⟨env, _⟩) hd hg hs fun t h => (ht t h).stay (hl.trans (live_set_same ho'))
end Dak
namespace Dak
open Go Go.RowKit
theorem snaps_self : ∀ (args : List AV), (args.all AV.isT) = true → ∀ objs, Snaps objs args args
  | [], _, _ => .nil
  | x :: xs, h, objs => by
    simp only [List.all_cons, Bool.and_eq_true] at h
    exact .cons (.tree _ h.1) (snaps_self xs h.2 objs)
/-- A call with data. -/
theorem callT {P : Program} {m : Bool} {objs : List AObj} {f : FuncId} {args : List AV} {r : AV} {K : AV → List AObj → Prop} (h : Ctr P f args r) (hT : (args.all AV.isT) = true) (k : K r objs) : ∃ r objs', CallM P m objs (.clo (.func f) []) args r objs' ∧ K r objs' :=
  ⟨r, objs, .ok (.data f [] args (args ++ []) r (by rw [List.append_nil]; exact snaps_self args hT _) (by rw [List.append_nil]; exact h)), k⟩
/-- A call with slices that may be nil. -/
theorem callN {P : Program} {m : Bool} {objs : List AObj} {f : FuncId} {args xs : List AV} {r : AV} {K : AV → List AObj → Prop} (h : Ctr P f xs r) (hs : Snaps [] args xs) (k : K r objs) : ∃ r objs', CallM P m objs (.clo (.func f) []) args r objs' ∧ K r objs' :=
  ⟨r, objs, .ok (.data f [] args xs r (by rw [List.append_nil]; exact hs) h), k⟩
/-- A call that may look at what is the caller's own. -/
theorem callF {P : Program} {m : Bool} {objs : List AObj} {f : FuncId} {args xs : List AV} {r : AV} {K : AV → List AObj → Prop} (h : Ctr P f xs r) (hs : Snaps objs args xs) (hf : r.flat = true) (k : K r objs) : ∃ r objs', CallM P m objs (.clo (.func f) []) args r objs' ∧ K r objs' :=
  ⟨r, objs, .ok (.flat f [] args xs r (by rw [List.append_nil]; exact hs) h hf), k⟩
/-- The same of a function with what it has captured. -/
theorem callCN {P : Program} {m : Bool} {objs : List AObj} {f : FuncId} {cap args xs : List AV} {r : AV} {K : AV → List AObj → Prop} (h : Ctr P f xs r) (hs : Snaps [] (args ++ cap) xs) (k : K r objs) : ∃ r objs', CallM P m objs (.clo (.func f) cap) args r objs' ∧ K r objs' :=
  ⟨r, objs, .ok (.data f cap args xs r hs h), k⟩
theorem callCF {P : Program} {m : Bool} {objs : List AObj} {f : FuncId} {cap args xs : List AV} {r : AV} {K : AV → List AObj → Prop} (h : Ctr P f xs r) (hs : Snaps objs (args ++ cap) xs) (hf : r.flat = true) (k : K r objs) : ∃ r objs', CallM P m objs (.clo (.func f) cap) args r objs' ∧ K r objs' :=
  ⟨r, objs, .ok (.flat f cap args xs r hs h hf), k⟩
/-- A call that looks at the first objects, and leaves them. -/
theorem callR {P : Program} {m : Bool} {objs : List AObj} {f : FuncId} {cap args : List AV} {r : AV} {K : AV → List AObj → Prop} (base tail : List AObj) (h : CtrM P f (args ++ cap) base r base) (ho : objs = base ++ tail)
    (hb : (base.all fun o => o.innO base.length) = true) (ha : ((args ++ cap).all fun x => x.inn base.length) = true) (k : K r objs) : ∃ r objs', CallM P m objs (.clo (.func f) cap) args r objs' ∧ K r objs' :=
  ⟨r, objs, .ok (.read f cap args base tail r ho h hb ha), k⟩
/-- A call that makes objects. -/
theorem callNew {P : Program} {objs news : List AObj} {f : FuncId} {cap args xs : List AV} {r : AV} {K : AV → List AObj → Prop} (h : CtrN P f xs r news) (hs : Snaps [] (args ++ cap) xs) (k : K (r.shift objs.length) (objs ++ news.map (AObj.shiftO objs.length))) :
    ∃ r objs', CallM P true objs (.clo (.func f) cap) args r objs' ∧ K r objs' := ⟨_, _, .new f cap args xs objs news r hs h, k⟩
/-- A call that makes objects out of what is read. -/
theorem callNewF {P : Program} {objs news : List AObj} {f : FuncId} {cap args xs : List AV} {r : AV} {K : AV → List AObj → Prop} (h : CtrN P f xs r news) (hs : Snaps objs (args ++ cap) xs) (hf : (news.all AObj.flat) = true) (hr : r.flatO = true) (k : K (r.shift objs.length) (objs ++ news.map (AObj.shiftO objs.length))) :
    ∃ r objs', CallM P true objs (.clo (.func f) cap) args r objs' ∧ K r objs' := ⟨_, _, .newF f cap args xs objs news r hs h hf hr, k⟩
/-- A call that makes one object, in a region that draws its order. -/
theorem callN1 {P : Program} {objs cr : List AObj} {o : AObj} {f : FuncId} {cap args xs : List AV} {r : AV} {K : AV → List AObj → Prop} (h : CtrN P f xs r [o]) (hs : Snaps [] (args ++ cap) xs) (hi : ([o].all fun x => x.inRO [o]) = true) (hr : r.inR [o] = true)
    (k : K (r.ren fun _ => objs.length + cr.length) (cr ++ [o.renO fun _ => objs.length + cr.length])) :
    ∃ r objs', CallM P false objs (.clo (.func f) cap) args r objs' ∧ callX objs objs' cr (K r) := ⟨_, _, .one cr.length (.data f cap args xs r o hs h hi hr), .inr ⟨_, rfl, k⟩⟩
theorem callN1F {P : Program} {objs cr : List AObj} {o : AObj} {f : FuncId} {cap args xs : List AV} {r : AV} {K : AV → List AObj → Prop} (h : CtrN P f xs r [o]) (hs : Snaps objs (args ++ cap) xs) (hi : ([o].all fun x => x.inRO [o]) = true) (hr : r.inR [o] = true) (hf : o.flat = true) (hrf : r.flatO = true)
    (k : K (r.ren fun _ => objs.length + cr.length) (cr ++ [o.renO fun _ => objs.length + cr.length])) :
    ∃ r objs', CallM P false objs (.clo (.func f) cap) args r objs' ∧ callX objs objs' cr (K r) := ⟨_, _, .one cr.length (.flat f cap args xs r o hs h hi hr hf hrf), .inr ⟨_, rfl, k⟩⟩
/-- A call that changes the first objects. -/
theorem callM {P : Program} {objs : List AObj} {f : FuncId} {cap args : List AV} {r : AV} {K : AV → List AObj → Prop} (base tail base' : List AObj) (h : CtrM P f (args ++ cap) base r base') (ho : objs = base ++ tail)
    (hb : (base.all fun o => o.innO base.length) = true) (ha : ((args ++ cap).all fun x => x.inn base.length) = true) (k : K r (base' ++ tail)) : ∃ r objs', CallM P true objs (.clo (.func f) cap) args r objs' ∧ K r objs' := by
  subst ho
  exact ⟨r, _, .mod f cap args base tail r base' h hb ha, k⟩
end Dak
namespace Dak
open Go Go.RowKit
variable {P : Program} {F0 : FD} {w0 : World}

theorem CwpE.wk {n : Nat} {c : CCode} {Q : Exit → Est → Prop} {s s' : Est} (h : WkE n s s') (k : CwpE P F0 w0 n c Q s') : CwpE P F0 w0 n c Q s := fun hk => Cwp.wk (h hk).2 (k (h hk).1)
/-- What holds behind a loop may say less. -/
theorem CwpE.post {n : Nat} {c : CCode} {Q Q' : Exit → Est → Prop} {s : Est} (h : CwpE P F0 w0 n c Q s) (k : ∀ e s, Q e s → ∃ s', WkE n s s' ∧ Q' e s') : CwpE P F0 w0 n c Q' s := by
  intro hk code hc a w hs
  refine wp_mono (h hk code hc a w hs) ?_
  rintro e a w ⟨_, ⟨s1, hq, hk1, rfl⟩, hs1⟩
  obtain ⟨s2, hwk, hq2⟩ := k e s1 hq
  exact ⟨s2.toSt n, ⟨s2, hq2, (hwk hk1).1, rfl⟩, (hwk hk1).2 _ _ _ _ hs1⟩

def RoundX (n : Nat) (I : Nat → Est → Prop) (k : Nat) (x : Nat) (J : Est → Prop) (Q : Exit → Est → Prop) : Exit → Est → Prop
  | .normal, s => ∃ m s', m < k ∧ WkE n s s' ∧ I m s'
  | .exit i, s => if i = x then ∃ s', WkE n s s' ∧ J s' else Q (.exit i) s
  | e, s => Q e s

/-- A loop that is left at one place: in a state of J. -/
theorem loopX {n : Nat} {b : CCode} {Q : Exit → Est → Prop} {s : Est} (x : Nat) (I : Nat → Est → Prop) (J : Est → Prop) (k : Nat) (s0 : Est) (hw : WkE n s s0) (h0 : I k s0) (round : ∀ k s, I k s → vcE P F0 w0 n b (RoundX n I k x J Q) s) (post : ∀ s, J s → Q (.exit x) s) : CwpE P F0 w0 n (.loop b) Q s := by
  refine CwpE.post (Q := fun e s => match e with | .exit i => if i = x then ∃ s', WkE n s s' ∧ J s' else Q (.exit i) s | e => Q e s) ?_ ?_
  · refine loopE I k s0 hw h0 fun k s hI => ?_
    have := round k s hI
    have e : RoundX n I k x J Q = RoundE n I k (fun e s => match e with | .exit i => if i = x then ∃ s', WkE n s s' ∧ J s' else Q (.exit i) s | e => Q e s) := by
      funext e s; cases e <;> rfl
    rw [e] at this; exact this
  · intro e s hq
    cases e with
    | exit i =>
      simp only at hq
      split at hq
      · rename_i hi; subst hi
        obtain ⟨s', h1, h2⟩ := hq
        exact ⟨s', h1, post s' h2⟩
      · exact ⟨s, .refl _ _, hq⟩
    | _ => exact ⟨s, .refl _ _, hq⟩
end Dak
