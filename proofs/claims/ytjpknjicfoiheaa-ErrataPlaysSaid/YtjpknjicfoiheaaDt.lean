/- Functions that change what their callers own: contracts out of codes; calls that are put off. -/
import Derived.Test.YtjpknjicfoiheaaDz
import Derived.Defers
set_option linter.unusedSimpArgs false
set_option linter.unusedVariables false
set_option linter.unusedSectionVars false
namespace Dak
open Go Go.RowKit
variable {P : Program} {F0 : FD} {w0 w : World} {L : Lay} {objs objs0 : List AObj} {nid : Nat}

theorem inn1_mono {m n : Nat} (h : m ≤ n) {x : AV} (hx : x.inn1 m = true) : x.inn1 n = true := by
  cases x <;> simp_all [AV.inn1] <;> omega
theorem inn_mono {m n : Nat} (h : m ≤ n) {x : AV} (hx : x.inn m = true) : x.inn n = true := by
  cases x with
  | agg cs => exact List.all_eq_true.2 fun c hc => inn1_mono h (List.all_eq_true.1 hx c hc)
  | tup cs => exact List.all_eq_true.2 fun c hc => inn1_mono h (List.all_eq_true.1 hx c hc)
  | clo fn cs => exact List.all_eq_true.2 fun c hc => inn1_mono h (List.all_eq_true.1 hx c hc)
  | _ => simp only [AV.inn] at hx ⊢; exact inn1_mono h hx

theorem later_app (w : World) (L : Lay) (objs tail : List AObj) : Later w L objs w L (objs ++ tail) :=
  ⟨fun b hF hb => ⟨rfl, hF⟩, fun _ _ h => stale_app _ h, fun _ _ _ h => .inr ⟨live_app _ h, rfl⟩⟩
/-- What is there now, kept to look at later. -/
abbrev probeOf (objs : List AObj) (L : Lay) (ps : List (AV × Value)) : AObj := .probe objs.length (stale objs) (live objs) L.blk ps
theorem good_probe (g : Good F0 w0 w L objs) (ps : List (AV × Value)) (hp : ∀ p ∈ ps, VR w L objs p.1 p.2) : Good F0 w0 w L (objs ++ [probeOf objs L ps]) := by
  have hl := later_app w L objs [probeOf objs L ps]
  refine ⟨fun id o ho => ?_, fun id hid => g.out id (by rw [List.length_append] at hid; omega), g.inj, g.own, g.old, g.ext⟩
  by_cases hlt : id < objs.length
  · rw [List.getElem?_append_left hlt] at ho
    have := g.obj id o ho
    cases o with
    | void => exact this
    | dead => exact this
    | probe k st li bk ps => exact this.probe_stay hl rfl
    | arr gen size elem xs =>
      unfold OR at this ⊢
      cases hbk : L.blk id with
      | none => rw [hbk] at this; exact this
      | some q =>
        obtain ⟨b, o', n⟩ := q
        rw [hbk] at this
        obtain ⟨cur, hc, hn, hr⟩ := this
        exact ⟨cur, hc, hn, hr.stay hl⟩
  · have hid : id = objs.length := by
      have := (List.getElem?_eq_some_iff.1 ho).1
      simp at this; omega
    subst hid
    simp at ho; subst ho
    exact ⟨g.out _ (Nat.le_refl _), fun i g' _ h => stale_app _ h, fun i g' s _ h => .inr ⟨live_app _ h, rfl⟩, fun p hp' => (hp p hp').stay hl⟩
theorem probe_inn {ps : List (AV × Value)} (hp : ∀ p ∈ ps, p.1.inn objs.length = true) (m : Nat) (hm : objs.length ≤ m) : (probeOf objs L ps).innO m = true := by
  simp only [AObj.innO, Bool.and_eq_true, decide_eq_true_eq]
  exact ⟨hm, List.all_eq_true.2 fun p hp' => inn_mono hm (hp p hp')⟩
theorem Good.ds (g : Good F0 w0 w L objs) (ds : List Deferred) : Good { F0 with ds := ds } w0 w L objs := ⟨g.obj, g.out, g.inj, g.own, g.old, g.ext⟩

/-- The probe at the end is read, and forgotten. -/
theorem fin_probe {w' : World} {L3 : Lay} {base base' : List AObj} {r : AV} {v : Value} {ds : List Deferred} (g : Good { F0 with ds := ds } w0 w' L3 (base' ++ [probeOf base L []])) (hlen : base'.length = base.length) (hb' : (base'.all fun o => o.innO base.length) = true)
    (hv : VR w' L3 (base' ++ [probeOf base L []]) r v) (hr : r.inn base.length = true) : ∃ L', Good F0 w0 w' L' base' ∧ Done base L base' L' ∧ VR w' L' base' r v := by
  have e : (base' ++ [probeOf base L []]).take base.length = base' := by rw [← hlen]; exact List.take_left
  have gd := good_drop g base.length (fun o ho => by rw [e] at ho; exact List.all_eq_true.1 hb' o ho)
  rw [e] at gd
  have hpr := g.obj base.length (probeOf base L []) (by rw [← hlen]; simp)
  obtain ⟨_, p1, p2, _⟩ := hpr
  refine ⟨L3.cut base.length, ⟨gd.obj, gd.out, gd.inj, gd.own, gd.old, gd.ext⟩, ⟨fun id gg h => ?_, fun id gg s h => ?_⟩, ?_⟩
  · have hlt := stale_lt h
    have := (take_stale hlt).2 (p1 id gg hlt h)
    rwa [e] at this
  · have hlt := live_lt h
    rcases p2 id gg s hlt h with h1 | ⟨h1, h2⟩
    · have := (take_stale hlt).2 h1
      rw [e] at this; exact .inl this
    · have := (take_live hlt).2 h1
      rw [e] at this
      exact .inr ⟨this, (if_pos hlt).trans h2⟩
  · have := below_vr (L := L3) (L' := L3.cut base.length) (m := base.length) (fun _ h => h) (fun id h => if_pos h) hv hr
    rwa [e] at this

/-- How a function ends that has changed what was handed to it. -/
def retM (rs : List CRes) (r : AV) (objs' : List AObj) : Exit → Est → Prop
  | .normal, s => ∃ y, resAllE s rs = some y ∧ WkE 1 ⟨[(0, y)], s.objs⟩ ⟨[(0, r)], objs'⟩
  | .ret, s => ∃ y, resAllE s rs = some y ∧ WkE 1 ⟨[(0, y)], s.objs⟩ ⟨[(0, r)], objs'⟩
  | _, _ => False

theorem keys_env {xs : List AV} {n : Nat} (hn : xs.length ≤ n) : KeysOk n (envOf 0 xs) := by
  intro t ht
  rw [lk_envOf, if_pos (Nat.zero_le _), List.getD_eq_getElem?_getD, List.getElem?_eq_none (by omega)]; rfl
theorem enter_slots {xs : List AV} {n : Nat} {vs : Array Value} (hl : vs.size = xs.length) (hn : xs.length ≤ n) (hv : ∀ i (h : i < xs.length) (h2 : i < vs.size), VR w L objs xs[i] vs[i]) :
    ∀ t, t < n → VR w L objs (lk (envOf 0 xs) t) ((vs ++ Array.replicate (n - vs.size) undef).getD t undef) := by
  intro t ht
  rw [lk_envOf, if_pos (Nat.zero_le _), Nat.sub_zero, List.getD_eq_getElem?_getD]
  by_cases hlt : t < xs.length
  · rw [List.getElem?_eq_getElem hlt, Array.getD_eq_getD_getElem?, Array.getElem?_append_left (by omega), Array.getElem?_eq_getElem (by omega)]
    exact hv t hlt (by omega)
  · rw [List.getElem?_eq_none (by omega)]
    exact .junk _
theorem resAllE_eq {s : Est} {n : Nat} (hk : KeysOk n s.env) (rs : List CRes) : resAll (s.toSt n) rs = resAllE s rs := by
  have hr : ∀ x, resA (s.toSt n) x = resE s x := by
    intro x
    cases x with
    | tmp t => simp only [resA, resE]; rw [show (s.toSt n).tmps = toT n s.env from rfl, toT_getD hk]
    | cell a ag m => simp only [resA, resE]; rw [show (s.toSt n).tmps = toT n s.env from rfl, toT_getD hk]; rfl
  unfold resAll resAllE
  rw [show resA (s.toSt n) = resE s from funext hr]
  cases rs.mapM (resE s) with
  | none => rfl
  | some ys => cases ys with
    | nil => rfl
    | cons y ys => cases ys <;> rfl

/-- One value alone, and memory, seen otherwise. -/
theorem wk_one {y r : AV} {objs' : List AObj} (h : WkE 1 ⟨[(0, y)], objs⟩ ⟨[(0, r)], objs'⟩) (g : Good F0 w0 w L objs) {v : Value} (hv : VR w L objs y v) : ∃ L', Good F0 w0 w L' objs' ∧ VR w L' objs' r v := by
  have hk : KeysOk 1 [(0, y)] := by
    intro t ht; simp only [lk]; rw [if_neg (by omega)]
  obtain ⟨hk', hw⟩ := h hk
  have hs := hw F0 w0 { tmps := #[v], defers := F0.ds } w (sim_mk (n := 1) (s := ⟨[(0, y)], objs⟩) rfl g rfl fun t ht => by
    obtain rfl : t = 0 := by omega
    exact hv)
  obtain ⟨_, L', g', _, ht⟩ := sim_slots hk' hs
  exact ⟨L', g', ht 0 (by omega)⟩

theorem bodyM {fn : Func} {code : Code} {c : CCode} {rs : List CRes} {xs : List AV} {base base' : List AObj} {r : AV} (hc : compC P code = some c) (hrs : fn.results.toList.mapM (resC P) = some rs) (hn : xs.length ≤ fn.ntmps) (hlen : base'.length = base.length)
    (hb' : (base'.all fun o => o.innO base.length) = true) (hr : r.inn base.length = true)
    (h : ∀ F0 w0 G, (∀ m, base.length ≤ m → G.innO m = true) → CwpE P F0 w0 fn.ntmps c (retM rs r (base' ++ [G])) ⟨envOf 0 xs, base ++ [G]⟩)
    {vs : Array Value} (hds : F0.ds = []) (g : Good F0 w0 w L base) (hl : vs.size = xs.length) (hv : ∀ i (h : i < xs.length) (h2 : i < vs.size), VR w L base xs[i] vs[i]) :
    code.wp P (bodyPost P fn (OutM F0 w0 L base r base')) { tmps := vs ++ Array.replicate (fn.ntmps - vs.size) undef, defers := [] } w := by
  have gp := good_probe g [] (fun p h => by cases h)
  have hsim : Sim F0 w0 ((⟨envOf 0 xs, base ++ [probeOf base L []]⟩ : Est).toSt fn.ntmps) { tmps := vs ++ Array.replicate (fn.ntmps - vs.size) undef, defers := [] } w :=
    sim_mk (s := ⟨envOf 0 xs, base ++ [probeOf base L []]⟩) hds.symm gp (by simp [hl]; omega) (enter_slots hl hn fun i h1 h2 => (hv i h1 h2).stay (later_app w L base _))
  refine wp_mono (h F0 w0 (probeOf base L []) (fun m hm => probe_inn (fun p h => by cases h) m hm) (keys_env hn) code hc _ w hsim) ?_
  rintro e a' w' ⟨st, ⟨s, hq, hk, rfl⟩, hs⟩
  have fin : (∃ y, resAllE s rs = some y ∧ WkE 1 ⟨[(0, y)], s.objs⟩ ⟨[(0, r)], base' ++ [probeOf base L []]⟩) → a'.defers = [] ∧ ∃ v, (results fn a'.tmps).run P w' = .ok v w' ∧ OutM F0 w0 L base r base' (.returned v) w' := by
    rintro ⟨y, hy, hwk⟩
    obtain ⟨hd, L', g', hs1, ht⟩ := hs
    obtain ⟨v, hv, hvr⟩ := results_ok (P := P) hrs g' hs1 ht (by rw [resAllE_eq hk]; exact hy)
    obtain ⟨L3, g3, hv3⟩ := wk_one hwk g' hvr
    obtain ⟨L4, g4, hd4, hv4⟩ := fin_probe (ds := F0.ds) (F0 := F0) g3 hlen hb' hv3 hr
    exact ⟨hd.trans hds, v, hv, v, L4, rfl, g4, hd4, hv4⟩
  cases e with
  | normal => exact fin hq
  | ret => exact fin hq
  | _ => exact hq.elim

theorem fnC_inv {f : FuncId} {c : CCode} {n : Nat} {rs : List CRes} (hf : fnC P f = some (c, n, rs)) : ∃ fn code, P.funcs[f]? = some fn ∧ fn.body = some code ∧ Enters P f = true ∧ compC P code = some c ∧ fn.results.toList.mapM (resC P) = some rs ∧ fn.ntmps = n := by
  unfold fnC at hf
  split at hf
  rotate_left
  · cases hf
  rename_i fn hfn
  split at hf
  · cases hf
  rename_i hname
  split at hf
  rotate_left
  · cases hf
  rename_i code hbody
  simp only [Option.bind_eq_some_iff, Option.map_eq_some_iff, Prod.mk.injEq] at hf
  obtain ⟨c', hc, rs', hrs, rfl, rfl, rfl⟩ := hf
  exact ⟨fn, code, hfn, hbody, by unfold Enters; rw [hfn]; simp only [hbody, Option.isSome_some, Bool.and_true]; simpa using hname, hc, hrs, rfl⟩

/-- A contract of a function that changes what is handed to it. -/
theorem specM {f : FuncId} {c : CCode} {n : Nat} {rs : List CRes} (hf : fnC P f = some (c, n, rs)) {xs : List AV} {base base' : List AObj} {r : AV} (hn : xs.length ≤ n) (hlen : base'.length = base.length) (hb' : (base'.all fun o => o.innO base.length) = true)
    (hr : r.inn base.length = true) (h : ∀ F0 w0 G, (∀ m, base.length ≤ m → G.innO m = true) → CwpE P F0 w0 n c (retM rs r (base' ++ [G])) ⟨envOf 0 xs, base ++ [G]⟩) : CtrM P f xs base r base' := by
  obtain ⟨fn, code, hfn, hbody, hent, hc, hrs, rfl⟩ := fnC_inv hf
  exact ⟨hent, hlen, fun F0 w0 w L vs hds g hl hv => calls_of_wp hfn hbody (bodyM hc hrs hn hlen hb' hr h hds g hl hv)⟩
theorem specMD {f : FuncId} {c : CCode} {n : Nat} {rs : List CRes} (hf : fnC P f = some (c, n, rs)) {xs : List AV} {base base' : List AObj} {r : AV} (hn : xs.length ≤ n) (hlen : base'.length = base.length) (hb' : (base'.all fun o => o.innO base.length) = true)
    (hr : r.inn base.length = true) (h : ∀ F0 w0 G, (∀ m, base.length ≤ m → G.innO m = true) → CwpE P F0 w0 n c (retM rs r (base' ++ [G])) ⟨envOf 0 xs, base ++ [G]⟩) : CtrD P f xs base r base' := by
  obtain ⟨fn, code, hfn, hbody, hent, hc, hrs, rfl⟩ := fnC_inv hf
  exact ⟨hent, hlen, fun F0 w0 w L vs hds g hl hv u => callsD_of_wp hfn hbody (bodyM hc hrs hn hlen hb' hr h hds g hl hv)⟩

/-- The operations ahead of a defer, and what is put off. -/
def splitD (ops : Array Oper) : Option (List Oper × Operand) :=
  match ops.toList.getLast? with
  | some o => match o.op with
    | .defer c => match c.callee with
      | .value f => if c.args.size = 0 ∧ o.guard = none ∧ o.dst = none then some (ops.toList.dropLast, f) else none
      | _ => none
    | _ => none
  | none => none
/-- A function that puts one call off, ahead of all else. -/
def fnD (P : Program) (f : FuncId) : Option (List COper × List COper × Operand × CCode × Nat × List CRes) :=
  match P.funcs[f]? with
  | some fn =>
    if fn.name == "runtime.NumGoroutine" then none else
    match fn.body with
    | some (.seq (.region _ ops0 false) (.seq (.region _ ops1 false) rest)) =>
      (splitD ops1).bind fun q => (ops0.toList.mapM (compO P ops0)).bind fun cs0 => (q.1.mapM (compO P ops1)).bind fun cs1 => (compC P rest).bind fun c => (fn.results.toList.mapM (resC P)).map fun rs => (cs0, cs1, q.2, c, fn.ntmps, rs)
    | _ => none
  | none => none

theorem rops_okT (ops : Array Oper) (tail : List Nat) {Q : Exit → Act → World → Prop} {K : St → Prop} (hK : ∀ st a w, K st → Sim F0 w0 st a w → wpOps P ops Q tail a w) : ∀ (l : List Oper) (cs : List COper) (k : Nat), (∀ j, j < l.length → l[j]? = ops[k + j]?) → l.mapM (compO P ops) = some cs → ∀ (st : St) (a : Act) (w : World), Sim F0 w0 st a w → Rops P cs K st →
    wpOps P ops Q (List.range' k l.length ++ tail) a w
  | [], cs, k, hl, hm, st, a, w, hsim, h => by
    simp at hm; subst hm
    exact hK st a w h hsim
  | o :: l, cs, k, hl, hm, st, a, w, hsim, h => by
    simp only [List.mapM_cons, Option.bind_eq_bind, Option.bind_eq_some_iff, Option.pure_def, Option.some.injEq] at hm
    obtain ⟨c, hc, cs', hcs, rfl⟩ := hm
    have h0 : ops[k]? = some o := by simpa using (hl 0 (by simp)).symm
    have hl' : ∀ j, j < l.length → l[j]? = ops[k + 1 + j]? := fun j hj => by have := hl (j + 1) (by simpa using hj); simpa [Nat.add_assoc, Nat.add_comm 1 j] using this
    have ih := rops_okT ops tail hK l cs' (k + 1) hl' hcs
    simp only [List.length_cons, List.range'_succ, List.cons_append, wpOps, h0]
    simp only [compO, Option.bind_eq_some_iff] at hc
    obtain ⟨op, hop, hc⟩ := hc
    cases hg : o.guard with
    | none =>
      rw [hg] at hc
      simp only [Option.some.injEq] at hc
      subst hc
      have hw : Region.wanted o (yielded ops a.tmps) = true := by unfold Region.wanted; rw [hg]
      rw [hw, if_pos rfl]
      simp only [Rops] at h
      exact .inl (rstep_ok (P := P) (c := ⟨o.dst, none, op⟩) (.ofB hop) rfl hsim h fun st' a' w' hK hs => ih st' a' w' hs hK)
    | some q =>
      obtain ⟨j, want⟩ := q
      rw [hg] at hc
      simp only [Option.map_eq_some_iff] at hc
      obtain ⟨t, htt, rfl⟩ := hc
      simp only [Rops] at h
      split at h
      · rename_i b hb
        have hbv : boolOf (a.tmps.getD t undef) = b := by
          obtain ⟨hd, L, g, hs, ht⟩ := hsim
          exact gdB_ok (ev_ok (objs := st.objs) hs ht (.tmp t)) hb
        have hw := wanted_of hg htt hbv
        by_cases e : b = some want
        · subst e
          rw [hw]; simp only [beq_self_eq_true, if_true]
          exact .inl (rstep_ok (P := P) (c := ⟨o.dst, some (t, want), op⟩) (.ofB hop) rfl hsim (h.1 rfl) fun st' a' w' hK hs => ih st' a' w' hs hK)
        · rw [hw, if_neg (by simpa using e)]
          refine ih _ _ _ ?_ (h.2 e)
          obtain ⟨hd, L, g, hs, ht⟩ := hsim
          exact sim_put hd hs ht g (.refl _ _ _) _ (.tree (.val _))
      · exact h.elim

/-- How a function ends that has put g off: objs is what there was then. -/
def retD (P : Program) (g : FuncId) (caps : List AV) (i : Nat) (G2 : AObj) (rs : List CRes) (r : AV) (objs' : List AObj) (s : Est) : Prop :=
  s.objs[i]? = some G2 ∧ ∃ rr objs2 y, CtrD P g caps s.objs rr objs2 ∧ resAllE ⟨s.env, objs2⟩ rs = some y ∧ WkE 1 ⟨[(0, y)], objs2⟩ ⟨[(0, r)], objs'⟩
def retDX (P : Program) (g : FuncId) (caps : List AV) (i : Nat) (G2 : AObj) (rs : List CRes) (r : AV) (objs' : List AObj) : Exit → Est → Prop
  | .normal, s => retD P g caps i G2 rs r objs' s
  | .ret, s => retD P g caps i G2 rs r objs' s
  | _, _ => False

theorem mod_all (g : Good F0 w0 w L objs) : Good (inFD F0 L objs.length) w w L objs := by
  refine ⟨g.obj, g.out, g.inj, fun id b o n hbk => ?_, fun b hF => ⟨.inl hF, (g.old b hF).2⟩, Kept.refl fun b hK => ?_⟩
  · have h1 := g.own id b o n hbk
    refine ⟨h1.1, ?_, h1.2.2⟩
    rintro (hk | hk | ⟨id', o', n', hk, hbk'⟩)
    · exact h1.2.1 hk
    · exact h1.1 hk
    · rw [g.out id' hk] at hbk'; cases hbk'
  · rcases hK with hk | hk | ⟨id', o', n', hk, hbk'⟩
    · exact Nat.lt_of_lt_of_le (g.ext.lt b hk) g.ext.size
    · exact (g.old b hk).2
    · exact (g.own _ _ _ _ hbk').2.2

theorem specDef {f : FuncId} {cs0 cs1 : List COper} {x : Operand} {c : CCode} {n : Nat} {rs : List CRes} (hf : fnD P f = some (cs0, cs1, x, c, n, rs)) {xs : List AV} {base base' : List AObj} {r : AV} (hn : xs.length ≤ n) (hlen : base'.length = base.length)
    (hb' : (base'.all fun o => o.innO base.length) = true) (hr : r.inn base.length = true)
    (h : ∀ G, (∀ m, base.length ≤ m → G.innO m = true) → RopsE P n cs0 (RopsE P n cs1 fun s1 => ∃ g caps, evE s1.env x = .clo (.func g) caps ∧ AV.inn s1.objs.length (.clo (.func g) caps) = true ∧
      ∀ F0 w0 G2, (∀ m, s1.objs.length ≤ m → G2.innO m = true) → CwpE P F0 w0 n c (retDX P g caps s1.objs.length G2 rs r (base' ++ [G])) ⟨s1.env, s1.objs ++ [G2]⟩) ⟨envOf 0 xs, base ++ [G]⟩) : CtrM P f xs base r base' := by
  unfold fnD at hf
  split at hf
  rotate_left
  · cases hf
  rename_i fn hfn
  split at hf
  · cases hf
  rename_i hname
  split at hf
  rotate_left
  · cases hf
  rename_i i0 ops0 i1 ops1 rest hbody
  simp only [Option.bind_eq_some_iff, Option.map_eq_some_iff, Prod.mk.injEq] at hf
  obtain ⟨q, hq, cs0', hcs0, cs1', hcs1, c', hc, rs', hrs, rfl, rfl, rfl, rfl, rfl, rfl⟩ := hf
  refine ⟨by unfold Enters; rw [hfn]; simp only [hbody, Option.isSome_some, Bool.and_true]; simpa using hname, hlen, fun F0 w0 w L vs hds g hl hv => ?_⟩
  refine calls_of_wp_defers hfn hbody ?_
  have gp := good_probe g [] (fun p h => by cases h)
  have hsim : Sim F0 w0 ((⟨envOf 0 xs, base ++ [probeOf base L []]⟩ : Est).toSt fn.ntmps) { tmps := vs ++ Array.replicate (fn.ntmps - vs.size) undef, defers := [] } w :=
    sim_mk (s := ⟨envOf 0 xs, base ++ [probeOf base L []]⟩) hds.symm gp (by simp [hl]; omega) (enter_slots hl hn fun i h1 h2 => (hv i h1 h2).stay (later_app w L base _))
  have hR := h (probeOf base L []) (fun m hm => probe_inn (fun p h => by cases h) m hm)
  have hR0 := ropsE_ok (P := P) cs0' _ (keys_env hn) hR
  refine wp_seq (wp_region ?_)
  have := rops_okT (P := P) (F0 := F0) (w0 := w0) ops0 [] (Q := Exit.then ((Code.seq (.region i1 ops1 false) rest).wp P (bodyPostD P fn (OutM F0 w0 L base r base'))) (bodyPostD P fn (OutM F0 w0 L base r base'))) ?_ ops0.toList cs0' 0 (fun j _ => by simp) hcs0 _ _ w hsim hR0
  · rw [← List.range_eq_range'] at this
    simpa using this
  rintro _ a w1 ⟨s0, hs0, hk0, rfl⟩ hsim0
  simp only [wpOps, Exit.then]
  have hR1 := ropsE_ok (P := P) cs1' _ hk0 hs0
  obtain ⟨l, fop⟩ := q
  have hsp : ∃ od cc, ops1.toList = l ++ [od] ∧ od.op = .defer cc ∧ cc.callee = .value fop ∧ cc.args.size = 0 ∧ od.guard = none ∧ od.dst = none := by
    unfold splitD at hq
    split at hq
    · rename_i od hlast
      split at hq
      · rename_i cc hop
        split at hq
        · rename_i f' hcal
          simp only [Option.ite_none_right_eq_some, Option.some.injEq, Prod.mk.injEq] at hq
          obtain ⟨⟨h1, h2, h3⟩, rfl, rfl⟩ := hq
          obtain ⟨ys, hys⟩ := List.getLast?_eq_some_iff.1 hlast
          exact ⟨od, cc, by rw [hys, List.dropLast_concat], hop, hcal, h1, h2, h3⟩
        · cases hq
      · cases hq
    · cases hq
  obtain ⟨od, cc, hops, hop, hcal, hargs, hgd, hdst⟩ := hsp
  have hsz : ops1.size = l.length + 1 := by rw [← Array.length_toList, hops]; simp
  refine wp_seq (wp_region ?_)
  rw [hsz, List.range_eq_range', List.range'_1_concat, Nat.zero_add]
  refine rops_okT (P := P) (F0 := F0) (w0 := w0) ops1 [l.length] ?_ l cs1' 0 (fun j hj => ?_) hcs1 _ _ w1 hsim0 hR1
  rotate_left
  · rw [Nat.zero_add, ← Array.getElem?_toList, hops, List.getElem?_append_left hj]
  rintro _ a1 w2 ⟨s1, ⟨gf, caps, hx, hinn, hrest⟩, hk1, rfl⟩ hsim1
  obtain ⟨hd1, L1, g1, hz1, ht1⟩ := sim_slots hk1 hsim1
  have hod : ops1[l.length]? = some od := by rw [← Array.getElem?_toList, hops]; simp
  have hxv : VR w2 L1 s1.objs (evE s1.env fop) (a1.eval fop) := by
    obtain ⟨_, L', _, hs', ht'⟩ := hsim1
    have := ev_ok (objs := s1.objs) (w := w2) (L := L1) (tmps := (s1.toSt fn.ntmps).tmps) (a := a1) (by simp [Est.toSt, toT, hz1]) (fun t ht => by
      have ht2 : t < fn.ntmps := by simpa [Est.toSt, toT] using ht
      simpa [Est.toSt, toT] using ht1 t ht2) fop
    have e : St.ev (s1.toSt fn.ntmps).tmps fop = evE s1.env fop := congrFun (ev_toT hk1) fop
    rwa [e] at this
  rw [hx] at hxv
  obtain ⟨cv, hcv, hcl, hcr⟩ := hxv.clo_inv
  simp only [wpOps, hod]
  have hw : Region.wanted od (yielded ops1 a1.tmps) = true := by unfold Region.wanted; rw [hgd]
  rw [hw, if_pos rfl]
  refine .inl ?_
  have hargs' : cc.args = #[] := Array.eq_empty_of_size_eq_zero hargs
  have hrun : (execOp a1.eval od).run P w2 = .ok (.defer { target := .fn (.func gf) cv, args := #[] }) w2 := by
    simp [execOp, hop, resolve, hcal, hcv, Deferred.ofValue, hargs']
  unfold Oper.wp
  rw [hrun, Oper.upon_defer, hdst]
  simp only [Exit.then, Act.put]
  -- the rest, with one call put off
  have gp2 := (good_probe g1 [(.clo (.func gf) caps, a1.eval fop)] (fun p h => by simp at h; subst h; exact hxv)).ds [{ target := .fn (.func gf) cv, args := #[] }]
  have hsim2 : Sim { F0 with ds := [{ target := .fn (.func gf) cv, args := #[] }] } w0 ((⟨s1.env, s1.objs ++ [probeOf s1.objs L1 [(.clo (.func gf) caps, a1.eval fop)]]⟩ : Est).toSt fn.ntmps) { tmps := a1.tmps, defers := { target := .fn (.func gf) cv, args := #[] } :: a1.defers } w2 :=
    sim_mk (s := ⟨s1.env, s1.objs ++ [probeOf s1.objs L1 [(.clo (.func gf) caps, a1.eval fop)]]⟩) (by rw [hd1, hds]) gp2 hz1 fun t ht => (ht1 t ht).stay (later_app w2 L1 s1.objs _)
  refine wp_mono (hrest _ w0 _ (probe_inn (fun p h => by simp at h; subst h; exact hinn)) hk1 rest hc _ w2 hsim2) ?_
  rintro e a' w' ⟨st, ⟨s, hq, hk, rfl⟩, hs⟩
  have fin : retD P gf caps s1.objs.length (probeOf s1.objs L1 [(.clo (.func gf) caps, a1.eval fop)]) rs' r (base' ++ [probeOf base L []]) s → Leaves P fn a'.tmps (OutM F0 w0 L base r base') a'.defers .returning w' := by
    rintro ⟨hG2, rr, objs2, y, hctr, hy, hwk⟩
    obtain ⟨hd', L', g', hz', ht'⟩ := sim_slots hk hs
    rw [show a'.defers = [{ target := .fn (.func gf) cv, args := #[] }] from hd']
    have hcl2 := (g'.obj _ _ hG2).2.2.2 _ (List.mem_singleton.2 rfl)
    obtain ⟨cv2, hcv2, hcl', hcr'⟩ := hcl2.clo_inv
    rw [show a1.eval fop = .func (.func gf) #[] cv from hcv] at hcv2
    simp only [Value.func.injEq, true_and] at hcv2
    subst hcv2
    refine leaves_cons (f := gf) (args := #[] ++ cv) (by simp) (by simp only [invoke]; exact run_callFunc hctr.1 _ _) ?_
    refine CallsD.mono (hctr.2.2 (inFD { F0 with ds := [{ target := .fn (.func gf) cv, args := #[] }] } L' s.objs.length) w' w' L' (#[] ++ cv) rfl (mod_all g') (by simpa using hcl') (fun i h1 h2 => by simpa using hcr' i h1 (by simpa using h2)) .returning) ?_
    rintro e u' w'' ⟨rfl, v', L'', rfl, g'', hd'', hv''⟩
    have hdone : Done s.objs (L'.cut s.objs.length) objs2 L'' := ⟨hd''.st, fun id gg sz hl => (hd''.li id gg sz hl).imp (fun h => h) fun h => ⟨h.1, by rw [h.2]; exact (if_pos (live_lt hl)).symm⟩⟩
    obtain ⟨L3, g3, hl3, up⟩ := mod_out (tail := []) (by simpa using g') hctr.2.1 g'' hdone
    rw [List.append_nil] at g3 hl3
    rw [List.append_nil] at hl3
    obtain ⟨v, hv1, hvr⟩ := results_ok (P := P) hrs (st := (⟨s.env, objs2⟩ : Est).toSt fn.ntmps) (a := a') g3 (by simp [Est.toSt, toT, hz']) (fun t ht => by
      have ht2 : t < fn.ntmps := by simpa [Est.toSt, toT] using ht
      simpa [Est.toSt, toT] using (ht' t ht2).stay hl3) (by rw [resAllE_eq (s := ⟨s.env, objs2⟩) hk]; exact hy)
    obtain ⟨L4, g4, hv4⟩ := wk_one hwk g3 hvr
    obtain ⟨L5, g5, hd5, hv5⟩ := fin_probe g4 hlen hb' hv4 hr
    exact ⟨v, hv1, v, L5, rfl, g5, hd5, hv5⟩
  cases e with
  | normal => exact fin hq
  | ret => exact fin hq
  | _ => exact hq.elim

/-- A slice that lies in a slot and in a cell is data in both, from now on. -/
theorem WkE.freezeBoth {n : Nat} {env : List (Nat × AV)} {objs : List AObj} (k id gen sz el c id2 g2 off len size : Nat) (et elem : TypeId) (xs ys : List AV) (y : AV) (hkn : k < n) (hlk : lk env k = .own id2 g2 off len) (ho : objs[id]? = some (.arr gen sz et xs)) (hy : xs[el]? = some y) (hc : y.cells[c]? = some (.own id2 g2 off len))
    (ho2 : objs[id2]? = some (.arr g2 size elem ys)) (hne : id ≠ id2) (hle : off + len ≤ ys.length) (hT : (ys.all AV.isT) = true) :
    WkE n ⟨env, objs⟩ ⟨(k, .list size ((ys.drop off).take len)) :: env, (objs.set id2 .dead).set id (.arr gen sz et (xs.set el (recell y (y.cells.set c (.list size ((ys.drop off).take len))))))⟩ := by
  intro hk
  refine ⟨fun t ht => ?_, fun F0 w0 a w hs => ?_⟩
  · simp only [lk]; rw [if_neg (by omega)]; exact hk t ht
  obtain ⟨hd, L, g, hs, ht⟩ := sim_slots hk hs
  obtain ⟨L', g', hl, h1, h2, h3⟩ := good_dead g ho2
  have ho' : (objs.set id2 .dead)[id]? = some (.arr gen sz et xs) := by rw [List.getElem?_set_ne (Ne.symm hne)]; exact ho
  have hg := good_recell (x1 := .list size ((ys.drop off).take len)) g g' hl ho ho' (h3 id hne) hy hc (fun u _ hu => .tree (own_data g ho2 hle hT h1 h2 hu)) (fun ds => by simp)
  refine sim_mk (s := ⟨_, _⟩) hd hg hs fun t h => ?_
  simp only [lk]
  split
  · rename_i e; subst e
    have := ht k h
    simp only at this
    rw [hlk] at this
    exact .tree (own_data g ho2 hle hT h1 h2 this)
  · exact (ht t h).stay (hl.trans (live_set_same ho'))
/-- How a function ends that hands objects to its caller. -/
theorem specN {f : FuncId} {c : CCode} {n : Nat} {rs : List CRes} (hf : fnC P f = some (c, n, rs)) {xs : List AV} {r : AV} {news : List AObj} (hn : xs.length ≤ n) (hp : (news.all AObj.plain) = true) (hi : (news.all fun o => o.innO news.length) = true) (hr : r.inn news.length = true)
    (h : ∀ F0 w0, CwpE P F0 w0 n c (retM rs r news) ⟨envOf 0 xs, []⟩) : CtrN P f xs r news := by
  obtain ⟨fn, code, hfn, hbody, hent, hc, hrs, rfl⟩ := fnC_inv hf
  refine ⟨hent, hp, hi, hr, fun w F vs hl ht => ?_⟩
  refine calls_of_wp hfn hbody ?_
  have g0 : Good ⟨F, (· < w.heap.size), []⟩ w w ⟨fun b => F b ∧ b < w.heap.size, fun _ => none⟩ [] :=
    ⟨fun id o h => by simp at h, fun _ _ => rfl, fun _ _ _ _ _ _ _ h => by simp at h, fun _ _ _ _ h => by simp at h, fun b hb => ⟨.inl hb.1, hb.2⟩, Kept.refl fun _ h => h⟩
  have hsim : Sim ⟨F, (· < w.heap.size), []⟩ w ((⟨envOf 0 xs, []⟩ : Est).toSt fn.ntmps) { tmps := vs ++ Array.replicate (fn.ntmps - vs.size) undef, defers := [] } w :=
    sim_mk (s := ⟨envOf 0 xs, []⟩) rfl g0 (by simp [hl]; omega) (enter_slots hl hn fun i h1 h2 => .tree ((ht i h1 h2).mono fun b hb hbl => ⟨hb, hbl⟩))
  refine wp_mono (h ⟨F, (· < w.heap.size), []⟩ w (keys_env hn) code hc _ w hsim) ?_
  rintro e a' w' ⟨st, ⟨s, hq, hk, rfl⟩, hs⟩
  have fin : (∃ y, resAllE s rs = some y ∧ WkE 1 ⟨[(0, y)], s.objs⟩ ⟨[(0, r)], news⟩) → a'.defers = [] ∧ ∃ v, (results fn a'.tmps).run P w' = .ok v w' ∧ ∃ v' L', Ending.returned v = .returned v' ∧ Good ⟨F, (· < w.heap.size), []⟩ w w' L' news ∧ VR w' L' news r v' := by
    rintro ⟨y, hy, hwk⟩
    obtain ⟨hd, L', g', hs1, ht'⟩ := hs
    obtain ⟨v, hv, hvr⟩ := results_ok (P := P) hrs g' hs1 ht' (by rw [resAllE_eq hk]; exact hy)
    obtain ⟨L3, g3, hv3⟩ := wk_one hwk g' hvr
    exact ⟨hd, v, hv, v, L3, rfl, g3, hv3⟩
  cases e with
  | normal => exact fin hq
  | ret => exact fin hq
  | _ => exact hq.elim
end Dak
