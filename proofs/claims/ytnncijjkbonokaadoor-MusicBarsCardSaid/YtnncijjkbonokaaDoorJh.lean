/- Lemmas used by Bars. -/
import Derived.Test.YtnncijjkbonokaaDoorJa
import Derived.Test.YtnncijjkbonokaaDoorJb
import Derived.Test.YtnncijjkbonokaaDoorJc
import Derived.Test.YtnncijjkbonokaaDoorJd
import Derived.Test.YtnncijjkbonokaaDoorJe
import Derived.Test.YtnncijjkbonokaaDoorJf
import Derived.WalkKit
import Derived.WalkSpells
import Derived.WalkLawsBesides
import Derived.Orders
import Derived.Laws.MakeOwn
import Derived.Deep.AppendSrc
import Derived.Lib.AppendZerosOnto
import Derived.Defers
import Derived.Laws.StructEq
import Derived.Scope
import Derived.Deep.LoopGhost
import Derived.OrdersIn
import Derived.ControlIn
import Derived.Sort.LoopGhostIn
import Derived.RangeFuncLeaves
import Derived.RangeFuncRecord
import Derived.Test.YtnncijjkbonokaaDoorProg
import Derived.RangeFuncFrom
import Derived.RangeFuncBox
import Derived.OwnWalkIn
import Derived.TacticsInMore
import Derived.LoopNIn
import Derived.LoopIn
import Derived.Sort.QuietTacIn
set_option linter.unusedSimpArgs false
set_option linter.unusedVariables false
set_option linter.unusedSectionVars false
set_option maxRecDepth 100000
namespace Dak
open Go Go.RowKit
variable [Globs]
variable {P : Program} {F0 : FD} {w0 : World} {n : Nat}
theorem rops_ok2 (ops : Array Oper) {K : St -> Prop} (csb : List COper) : ∀ (l : List Oper) (csa : List COper) (k : Nat), (∀ j, l[j]? = ops[k + j]?) -> l.mapM (compO P ops) = some (csa ++ csb) -> ∀ (st : St) (a : Act) (w : World), Sim F0 w0 st a w -> Rops P csa (fun st1 => ∃ st2, Wk st1 st2 /\ Rops P csb K st2) st ->
 wpOps P ops (Lift F0 w0 fun e st => e = .normal /\ K st) (List.range' k l.length) a w
 | l, [], k, hl, hm, st, a, w, hsim, h => by
  obtain ⟨st2, hwk, h⟩ := h
  exact rops_ok ops l csb k hl hm st2 a w (hwk _ _ _ _ hsim) h
 | [], c :: csa, k, hl, hm, st, a, w, hsim, h => by simp at hm
 | o :: l, c :: csa, k, hl, hm, st, a, w, hsim, h => by
  simp only [List.mapM_cons, Option.bind_eq_bind, Option.bind_eq_some_iff, Option.pure_def, Option.some.injEq, List.cons_append, List.cons.injEq] at hm
  obtain ⟨c, hc, cs', hcs, rfl, rfl⟩ := hm
  have h0 : ops[k]? = some o := by simpa using (hl 0).symm
  have hl' : ∀ j, l[j]? = ops[k + 1 + j]? := fun j => by have := hl (j + 1); simpa [Nat.add_assoc, Nat.add_comm 1 j] using this
  have ih := rops_ok2 ops (K := K) csb l csa (k + 1) hl' hcs
  simp only [List.length_cons, List.range'_succ, wpOps, h0]
  simp only [compO, Option.bind_eq_some_iff] at hc
  obtain ⟨op, hop, hc⟩ := hc
  cases hg : o.guard with
  | none =>
   rw [hg] at hc
   simp only [Option.some.injEq] at hc
   subst hc
   have hw : Region.wanted o (yielded ops a.tmps) = true := by unfold Region.wanted; rw [hg]
   rw [hw, if_pos rfl]
   simp only [Rops] at h
   exact .inl (rstep_ok (P := P) (c := ⟨o.dst, none, op⟩) (.ofB hop) rfl hsim h fun st' a' w' hK hs => ih st' a' w' hs hK)
  | some q =>
   obtain ⟨j, want⟩ := q
   rw [hg] at hc
   simp only [Option.map_eq_some_iff] at hc
   obtain ⟨t, htt, rfl⟩ := hc
   simp only [Rops] at h
   split at h
   ·rename_i b hb
    have hbv : boolOf (a.tmps.getD t undef) = b := by
     obtain ⟨hd, L, g, hs, ht⟩ := hsim
     exact gdB_ok (ev_ok (objs := st.objs) g.gl hs ht (.tmp t)) hb
    have hw := wanted_of hg htt hbv
    by_cases e : b = some want
    ·subst e
     rw [hw]; simp only [beq_self_eq_true, if_true]
     exact .inl (rstep_ok (P := P) (c := ⟨o.dst, some (t, want), op⟩) (.ofB hop) rfl hsim (h.1 rfl) fun st' a' w' hK hs => ih st' a' w' hs hK)
    ·rw [hw, if_neg (by simpa using e)]
     refine ih _ _ _ ?_ (h.2 e)
     obtain ⟨hd, L, g, hs, ht⟩ := hsim
     exact sim_put hd hs ht g (.refl _ _ _) _ (.tree (.val _))
   ·exact h.elim
end Dak
namespace Go.Proofs.YtnncijjkbonokaaDoor
open Dak
def c14 : CCode :=
 (.seq (.region [oo 4 (.mov (.const (.slice none 0 0))), oo 5 (.mov (kk 0))])
 (.seq (.seq (.region [vv 8 0, oo 9 (.len (T 8)), oo 10 (.ibin .gtr (T 9) (kk 16))])
 (.cond (T 10)
 (.seq (.region [oo 4 (.mov (.const (.slice none 0 0))), oo 5 (.mov (kk 4))])
 .ret)
 .skip))
 (.seq (.seq (.region [vv 11 0, oo 12 (.call (.func 37) [(T 11)]), oo 13 (.ibin .neq (T 12) (kk 0)), vv 14 13, vf 15 14 1, gf 16 14 (.ibin .lss (T 15) (kk (-1))), oo 17 (.pick (T 14) (.const (.bool true)) (T 16)), vv 18 17, vf 19 18 1, gf 20 18 (.ibin .gtr (T 19) (kk 48)), oo 21 (.pick (T 18) (.const (.bool true)) (T 20))])
 (.cond (T 21)
 (.seq (.region [oo 4 (.mov (.const (.slice none 0 0))), oo 5 (.mov (kk 1))])
 .ret)
 .skip))
 (.seq (.region [vv 23 0, vv 24 1, oo 25 (.call (.func 38) [(T 23), (T 24)]), vv 22 25, oo 26 (.extract (T 22) 0), oo 27 (.extract (T 22) 1), vv 6 26, vv 7 27])
 (.seq (.region [vv 28 6, vv 4 28, oo 5 (.mov (kk 0))])
 .ret)))))
theorem f14 : fnC Tryd.prog 14 = some (c14, 29, [(.tmp 4), (.tmp 5)]) := by kernel_rfl
end Go.Proofs.YtnncijjkbonokaaDoor
namespace Go.Proofs.YtnncijjkbonokaaDoor
open Go.RowKit Dak
theorem refBar_s (l : List Nt) (step : Int) (hlen : l.length <= 9223372036854775806) : Ctr Tryd.prog 14 [vbar l, vi step] (.tup [vbytes (barR l step).1, ve (barR l step).2]) := by
 refine specE f14 (by simp) fun F0 w0 => ?_
 by_cases a : (16 : Int) < (l.length : Int)
 ·have e : barR l step = ([], 4) := by simp only [barR, show 16 < l.length from by omega, if_true]
  simp only [c14, go_sem, ↓reduceIte, reduceCtorEq, Nat.reduceLT, Nat.reduceEqDiff, a]
  rw [e]
  exact snap_res
 have a' : ¬ 16 < l.length := by omega
 simp only [c14, go_sem, ↓reduceIte, reduceCtorEq, Nat.reduceLT, a]
 refine callT (bar_s l hlen) rfl ?_
 have wrong : ¬ (barP l = true /\ -1 <= step /\ step <= 48) -> barR l step = ([], 1) := fun h => by simp only [barR, a', h, if_false]
 cases hb : barP l with
 | false =>
  have be : barE l = 1 := by rw [barE, hb]; rfl
  simp only [go_sem, ↓reduceIte, Nat.reduceLT, Nat.reduceEqDiff, Int.reduceEq, Int.reduceNeg, be]
  rw [wrong (by rw [hb]; simp)]
  exact snap_res
 | true =>
  have be : barE l = 0 := by rw [barE, hb]; rfl
  by_cases s1 : step < -1
  ·simp only [go_sem, ↓reduceIte, reduceCtorEq, Nat.reduceLT, Nat.reduceEqDiff, Int.reduceNeg, be, s1]
   rw [wrong (by omega)]
   exact snap_res
  by_cases s2 : 48 < step
  ·simp only [go_sem, ↓reduceIte, reduceCtorEq, Nat.reduceLT, Nat.reduceEqDiff, Int.reduceNeg, be, s1, s2]
   rw [wrong (by omega)]
   exact snap_res
  simp only [go_sem, ↓reduceIte, reduceCtorEq, Nat.reduceLT, Nat.reduceEqDiff, Int.reduceNeg, be, s1, s2]
  have hr : ∀ n ∈ l, rightP n = true := by
   intro n hn
   have : barP l = l.all rightP := barP_pos (List.length_pos_of_mem hn)
   rw [this] at hb
   exact List.all_eq_true.1 hb n hn
  refine callT (Cells_s l step (by omega) hr ⟨by omega, by omega⟩) rfl ?_
  have e : barR l step = (cellsP l step, 0) := by simp only [barR, a', if_false, hb, show -1 <= step from by omega, show step <= 48 from by omega, and_self, if_true]
  rw [e]
  simp only [go_sem, ↓reduceIte, Nat.reduceLT, Nat.reduceEqDiff]
  exact .tree _ rfl
end Go.Proofs.YtnncijjkbonokaaDoor
namespace Dak
open Go Go.RowKit
variable [Globs]
variable {P : Program} {F0 : FD} {w0 w : World} {L : Lay} {objs objs0 : List AObj} {nid n : Nat}
theorem bsliceO_ok (g : Good F0 w0 w L objs) {t e : TypeId} {size : Nat} {parts : List (Nat × Operand)} {ev : Operand -> AV} {ρ : Operand -> Value}
 (ht : P.underlying t = some (.slice e)) (hs : tsize P e = some size) (hpos : 0 < size) (hz : ∃ z, (P.info? e).bind (·.zero) = some z) (hp : parts.map (·.1) = List.range parts.length)
 (he : ∀ x, VR w L objs (ev x) (ρ x)) (hk : ∀ x ∈ parts.map (·.2), Known objs (ev x)) (hv : objs[nid]? = some .void)
 (hall : ((parts.map (·.2)).all fun x => (ev x).fits && (ev x).cells.length == size) = true) (hsz : parts.length * size <= 2 ^ 24) :
 Does P (do pure (.value (<- Instr.buildSlice t parts.length (parts.map fun p => (p.1, ρ p.2)).toArray))) F0 w0 w L objs nid (.own nid parts.length 0 parts.length) (some (.arr parts.length size e ((parts.map (·.2)).map ev))) := by
 have hm : parts.length <= maxLen := by have := Nat.le_mul_of_pos_right parts.length hpos; unfold maxLen; omega
 rw [List.all_eq_true] at hall
 have hcs : ∀ v ∈ (parts.map fun p => ρ p.2), v.cells.size = size := by
  intro v hv
  obtain ⟨p, hp, rfl⟩ := List.mem_map.1 hv
  have h1 := hall p.2 (List.mem_map.2 ⟨p, hp, rfl⟩)
  simp only [Bool.and_eq_true, beq_iff_eq] at h1
  rw [(fits_CR (he p.2) h1.1 (hk _ (List.mem_map.2 ⟨p, hp, rfl⟩))).1]; exact h1.2
 obtain ⟨z, hz⟩ := hz
 have hinfo : ∃ i, P.info? e = some i /\ i.zero = some z := by
  cases hi : P.info? e with
  | none => rw [hi] at hz; cases hz
  | some i => rw [hi] at hz; exact ⟨i, rfl, hz⟩
 obtain ⟨i, hi, hiz⟩ := hinfo
 have key : ∀ zc : Array Value, ∃ us : Array Value, Instr.fill (fun i => some (i * size, size)) ((Array.range (parts.length * size)).map (zc[· % zc.size]!)) (parts.map fun p => (p.1, ρ p.2)) = some us /\ us.size = parts.length * size /\
  ∀ i v, (parts.map fun p => ρ p.2)[i]? = some v -> ∀ j, j < size -> us[i * size + j]? = v.cells[j]? := by
  intro zc
  have e := zipIdx_range ρ parts 0 (by rw [hp, List.range_eq_range'])
  rw [e]
  obtain ⟨us, h1, h2, _, h4⟩ := fill_row size (parts.map fun p => ρ p.2) 0 ((Array.range (parts.length * size)).map (zc[· % zc.size]!)) hcs (by simp)
  exact ⟨us, h1, by rw [h2]; simp, fun i v hv j hj => by have := h4 i v hv j hj; rwa [Nat.zero_add] at this⟩
 have hrun : ∃ us : Array Value, (Instr.buildSlice t parts.length (parts.map fun p => (p.1, ρ p.2)).toArray).run P w = .ok (.slice (some ⟨w.heap.size, 0, none⟩) parts.length parts.length) (w.alloc (.cells us e)) /\ us.size = parts.length * size /\
  ∀ i v, (parts.map fun p => ρ p.2)[i]? = some v -> ∀ j, j < size -> us[i * size + j]? = v.cells[j]? := by
  have n1 : ¬ (parts.length * size > 2 ^ 24) := by omega
  have hzv : (zeroValue e).run P w = .ok z w := by simp [zeroValue, typeInfo, hi, hiz]
  by_cases h0 : parts.length * size = 0
  ·obtain ⟨us, h1, h2, h3⟩ := key #[]
   refine ⟨us, ?_, h2, h3⟩
   have e0 : ∀ f : Nat -> Value, (Array.range (parts.length * size)).map f = #[] := by intro f; rw [h0]; simp
   rw [e0] at h1
   simp only [Instr.buildSlice, Sem.run_bind, run_underlying ht, Result.andThen_ok, run_sizeOf hs, Sem.run_ite, if_neg n1, if_pos h0, Sem.run_pure, e0, h1, newRow, run_newObj, List.toList_toArray]
   rfl
  ·obtain ⟨us, h1, h2, h3⟩ := key z.cells
   refine ⟨us, ?_, h2, h3⟩
   simp only [Instr.buildSlice, Sem.run_bind, run_underlying ht, Result.andThen_ok, run_sizeOf hs, Sem.run_ite, if_neg n1, if_neg h0, Sem.run_pure, hzv, h1, newRow, run_newObj, List.toList_toArray]
   rfl
 obtain ⟨us, hrun, hus, hcell⟩ := hrun
 have hrow : Row w L objs us 0 size (parts.map fun p => ev p.2) := by
  refine row_of (vs := parts.map fun p => ρ p.2) (by simp) (by simp [hus]) (fun i x hx => ?_) hcell
  rw [List.getElem?_map, Option.map_eq_some_iff] at hx
  obtain ⟨p, hp, rfl⟩ := hx
  have hm := List.mem_of_getElem? hp
  have h1 := hall p.2 (List.mem_map.2 ⟨p, hm, rfl⟩)
  simp only [Bool.and_eq_true, beq_iff_eq] at h1
  exact ⟨ρ p.2, by rw [List.getElem?_map, hp]; rfl, h1.2, fits_CR (he p.2) h1.1 (hk _ (List.mem_map.2 ⟨p, hm, rfl⟩))⟩
 have hid := (List.getElem?_eq_some_iff.1 hv).1
 simp only [List.map_map] at *
 refine ⟨.slice (some ⟨w.heap.size, 0, none⟩) parts.length parts.length, _, _, by simp [hrun], g.new (gen := parts.length) (elem := e) hv us hrow, .new hv _ _, ?_⟩
 have := VR.ownL (w := w.alloc (.cells us e)) (L := L.put nid (some (w.heap.size, 0, us.size))) (objs := objs.set nid (.arr parts.length size e (parts.map fun p => ev p.2))) nid parts.length 0 parts.length parts.length size w.heap.size 0 us.size
  (live_self hid) (by simp [Lay.put]) (Nat.le_refl _) hm (by simp [hus])
 simpa [putO, Function.comp_def] using this
theorem bsliceO1_ok {o : Oper} {e : TypeId} {size : Nat} {ps : List Operand} (hc : comp1 P o = some (.bslice e size ps)) (g : Good F0 w0 w L objs) {ev : Operand -> AV} {ρ : Operand -> Value} (he : ∀ x, VR w L objs (ev x) (ρ x)) (hv : objs[nid]? = some .void)
 (hkn : ∀ x ∈ ps, Known objs (ev x)) (hall : (ps.all fun x => (ev x).fits && (ev x).cells.length == size) = true) (hsz : ps.length * size <= 2 ^ 24) :
 Does P (execOp ρ o) F0 w0 w L objs nid (.own nid ps.length 0 ps.length) (some (.arr ps.length size e (ps.map ev))) := by
 obtain ⟨dst, op, type, pos, after, guard⟩ := o
 have key : ∃ t len parts, op = .buildSlice t len parts := by
  cases op with
  | buildSlice t len parts => exact ⟨t, len, parts, rfl⟩
  | call c =>
   exfalso
   obtain ⟨callee, args, argTypes⟩ := c
   simp only [comp1] at hc
   repeat' (split at hc)
   all_goals first | (cases hc; done) | (simp at hc; done) | skip
  | unOp op _ _ => exfalso; cases op <;> simp [comp1] at hc
  | slice _ _ _ hi m => exfalso; cases m <;> cases hi <;> simp only [comp1] at hc <;> (repeat' (split at hc)) <;> simp at hc
  | build t parts =>
   exfalso
   simp only [comp1] at hc
   repeat' (split at hc)
   all_goals first | (cases hc; done) | (simp [Option.bind_eq_some_iff, Option.map_eq_some_iff] at hc; done)
  | _ => exfalso; first | (simp [comp1] at hc; done) | (simp only [comp1] at hc; (repeat' (split at hc)) <;> simp at hc)
 obtain ⟨t, len, parts, rfl⟩ := key
 simp only [comp1] at hc
 split at hc
 ·rename_i e' hu
  split at hc
  ·rename_i z size' _ hi
   simp only [Option.ite_none_right_eq_some, Option.some.injEq, COp.bslice.injEq] at hc
   obtain ⟨⟨hp, hps⟩, rfl, rfl, rfl⟩ := hc
   unfold tinfo at hi
   obtain ⟨i, hi1, hi2⟩ := Option.map_eq_some_iff.1 hi
   simp only [Prod.mk.injEq] at hi2
   have hlen : len = parts.toList.length := by
    have := congrArg List.length hps; simpa using this.symm
   subst hlen
   have := bsliceO_ok (P := P) g hu (by simp [tsize, hi1, hi2.2.1]) hp ⟨z, by simp [hi1, hi2.1]⟩ hps he (fun x hx => hkn x hx) hv hall (by simpa using hsz)
   have e : (List.map (fun p => (p.1, ρ p.2)) parts.toList).toArray = parts.map fun x => (x.1, ρ x.2) := by apply Array.ext'; simp
   rw [e] at this
   simpa [execOp] using this
  ·cases hc
 ·cases hc
theorem step_bsliceO {o : Oper} {e : TypeId} {size : Nat} {ps : List Operand} (hc : comp1 P o = some (.bslice e size ps)) {K : St -> Prop} {st : St} {a : Act} {w : World} (hsim : Sim F0 w0 st a w)
 (hall : (ps.all fun x => (St.ev st.tmps x).fits && (St.ev st.tmps x).cells.length == size && (St.ev st.tmps x).isT) = true) (hsz : ps.length * size <= 2 ^ 24)
 (h : K ⟨St.put st.tmps o.dst (.own st.objs.length ps.length 0 ps.length), st.objs ++ [.arr ps.length size e (ps.map (St.ev st.tmps))]⟩)
 {next : Act -> World -> Prop} {Q : Exit -> Act -> World -> Prop} (hn : ∀ st' a' w', K st' -> Sim F0 w0 st' a' w' -> next a' w') : o.wp P a w next Q := by
 obtain ⟨hd, L, g, hs, ht⟩ := hsim
 have he := ev_ok (objs := st.objs) g.gl hs ht
 obtain ⟨gv, hlv⟩ := good_void g
 have hv : (st.objs ++ [AObj.void])[st.objs.length]? = some .void := by simp
 rw [List.all_eq_true] at hall
 have hall' : (ps.all fun x => (St.ev st.tmps x).fits && (St.ev st.tmps x).cells.length == size) = true := List.all_eq_true.2 fun x hx => (Bool.and_eq_true_iff.1 (hall x hx)).1
 have hkn : ∀ x ∈ ps, Known (st.objs ++ [AObj.void]) (St.ev st.tmps x) := by
  intro x hx id gg hk
  have hT := (Bool.and_eq_true_iff.1 (hall x hx)).2
  rcases hk with ⟨o, l, e⟩ | ⟨e', c, e⟩ <;> rw [e] at hT <;> cases hT
 obtain ⟨v, w', L', hr, hg, hl, hvr⟩ := bsliceO1_ok (P := P) (nid := st.objs.length) hc gv (fun x => (he x).stay hlv) hv hkn hall' hsz
 simp only [putO, set_void] at hg hl hvr
 unfold Oper.wp
 rw [hr, Oper.upon_value]
 exact hn _ _ _ h (sim_put hd hs ht hg (hlv.trans hl) o.dst hvr)
theorem CwpE.regionB (k : Nat) {d : Nat} {e : TypeId} {size : Nat} {ps : List Operand} {cs : List COper} {Q : Exit -> Est -> Prop} {s : Est} (hd : d < n)
 (hall : (ps.all fun x => (evE s.env x).fits && (evE s.env x).cells.length == size && (evE s.env x).isT) = true) (hsz : ps.length * size <= 2 ^ 24)
 (h : RopsE P n (cs.take k) (fun s1 => ∃ s2, WkE n s1 s2 /\ RopsE P n (cs.drop k) (Q .normal) s2) ⟨putE s.env (some d) (.own s.objs.length ps.length 0 ps.length), s.objs ++ [.arr ps.length size e (ps.map (evE s.env))]⟩) :
 CwpE P F0 w0 n (.region (⟨some d, none, .bslice e size ps⟩ :: cs)) Q s := by
 intro hk F1 w1 m r rn code hc hro a w hs
 cases code with
 | region id ops dr =>
  cases dr with
  | false =>
   simp only [compC, Option.map_eq_some_iff, CCode.region.injEq] at hc
   obtain ⟨cs', hcs, hcs2⟩ := hc
   refine wpIn_mono (wpIn_region (ops_in (calm_of hcs) lift_in _ _ _ ?_)) (Q := Lift F1 w1 fun e st => e = .normal /\ LiftE n (Q .normal) st) ?_
   ·rw [hcs2] at hcs
    cases hl : ops.toList with
    | nil => rw [hl] at hcs; simp at hcs
    | cons o l =>
     rw [hl] at hcs
     simp only [List.mapM_cons, Option.bind_eq_bind, Option.bind_eq_some_iff, Option.pure_def, Option.some.injEq, List.cons.injEq] at hcs
     obtain ⟨c, hc, cs1, hcs1, rfl, rfl⟩ := hcs
     simp only [compO, Option.bind_eq_some_iff] at hc
     obtain ⟨op, hop, hc⟩ := hc
     have hg : o.guard = none := by
      cases hg : o.guard with
      | none => rfl
      | some q =>
       obtain ⟨j, want⟩ := q
       rw [hg] at hc
       simp only [Option.map_eq_some_iff, COper.mk.injEq] at hc
       obtain ⟨t, _, _, h2, _⟩ := hc
       cases h2
     rw [hg] at hc
     simp only [Option.some.injEq, COper.mk.injEq, true_and] at hc
     obtain ⟨hdst, rfl⟩ := hc
     have hcomp : comp1 P o = some (.bslice e size ps) := by
      rcases compB_cases hop with h | h
      ·exact h
      ·cases h
     have hsz' : ops.size = l.length + 1 := by rw [<- Array.length_toList, hl]; rfl
     have h0 : ops[0]? = some o := by rw [<- Array.getElem?_toList, hl]; rfl
     rw [hsz', List.range_eq_range', List.range'_succ]
     simp only [wpOps, h0]
     have hw : Region.wanted o (yielded ops a.tmps) = true := by unfold Region.wanted; rw [hg]
     rw [hw, if_pos rfl]
     refine .inl (step_bsliceO (P := P) (K := fun st => st = Est.toSt n ⟨putE s.env (some d) (.own s.objs.length ps.length 0 ps.length), s.objs ++ [.arr ps.length size e (ps.map (evE s.env))]⟩) hcomp hs ?_ hsz ?_ ?_)
     ·simp only [Est.toSt, ev_toT hk]; exact hall
     ·rw [hdst]
      simp only [Est.toSt, ev_toT hk]
      rw [put_toT (show okD n (some d) from hd)]
     ·rintro st' a' w' rfl hs'
      have hk' : KeysOk n (putE s.env (some d) (.own s.objs.length ps.length 0 ps.length)) := keys_put hk (show okD n (some d) from hd) _
      have := rops_ok2 (F0 := F1) (w0 := w1) (K := LiftE n (Q .normal)) ops (cs1.drop k) l (cs1.take k) 1 (fun j => by
       rw [<- Array.getElem?_toList, hl, Nat.add_comm]; rfl) (by rw [List.take_append_drop]; exact hcs1) _ a' w' hs' ?_
      ·exact this
      ·have h1 := ropsE_ok (P := P) (cs1.take k) _ hk' h
       refine vc_mono (F0 := F0) (w0 := w0) (.region (cs1.take k)) (Q := fun _ => LiftE n (fun s1 => ∃ s2, WkE n s1 s2 /\ RopsE P n (cs1.drop k) (Q .normal) s2)) (Q' := fun _ st1 => ∃ st2, Wk st1 st2 /\ Rops P (cs1.drop k) (LiftE n (Q .normal)) st2) _ ?_ h1
       rintro _ st ⟨s1, ⟨s2, hwk, h2⟩, hk1, rfl⟩
       exact ⟨s2.toSt n, (hwk hk1).2, ropsE_ok _ _ (hwk hk1).1 h2⟩
   ·rintro e a' w' ⟨st', ⟨rfl, hq⟩, hs'⟩; exact .mk hq hs'
  | true => rcases compC_reg hc with ⟨h, _⟩ | ⟨_, _, h⟩ | ⟨_, _, _, h⟩ <;> cases h
 | _ => simp [compC, Option.bind_eq_some_iff] at hc
end Dak
namespace Go.Proofs.YtnncijjkbonokaaDoor
open Go.RowKit Dak
abbrev bsB1 : CCode := match c3 with | .seq _ (.seq _ (.seq _ (.seq _ (.seq (.seq _ (.block _ (.loop b))) _)))) => b | _ => .skip
abbrev bsB2 : CCode := match c3 with | .seq _ (.seq _ (.seq _ (.seq _ (.seq _ (.seq (.seq _ (.block _ (.loop b))) _))))) => b | _ => .skip
abbrev nilV : AV := .val (.slice none 0 0)
abbrev brs (L : List (List Nt)) : List AV := nilV :: L.map vbar
abbrev bsE (w : Int) : List (Nat × AV) := [(4, vi w), (11, .ref 0 1 0 0), (12, .ref 1 1 0 0)]
abbrev bsO (m r : List (List (List Nt))) (L : List (List Nt)) : List AObj := [.arr 1 1 25 [vmel m], .arr 1 1 25 [vmel r], .arr (L.length + 1) 1 34 (brs L)]
theorem bs_round (F0 : FD) (w0 : World) (m r : List (List (List Nt))) (w : Int) (L : List (List Nt)) (i : Nat) (hd : List (List Nt)) (hi : m[i]? = some hd) (hm : m.length <= 100000) (hL : L.length <= 100000) (hh : hd.length <= 100000)
 {Q : Exit -> Est -> Prop} (hQ : ∀ s, WkE 112 s ⟨(14, vi (i + 1 : Nat)) :: (13, .own 2 ((L ++ hd).length + 1) 0 ((L ++ hd).length + 1)) :: bsE w, bsO m r (L ++ hd)⟩ -> Q .normal s) :
 CwpE Tryd.prog F0 w0 112 bsB1 Q ⟨(14, vi i) :: (13, .own 2 (L.length + 1) 0 (L.length + 1)) :: bsE w, bsO m r L⟩ := by
 have i1 : (i : Int) < (m.length : Int) := by have := (List.getElem?_eq_some_iff.1 hi).1; omega
 have i0 : (0 : Int) <= (i : Int) := by omega
 have iw : IntKind.i64.wrap ((i : Int) + 1) = ((i + 1 : Nat) : Int) := by rw [wrap_id (by omega) (by omega)]; omega
 have htk : List.take (L.length + 1) (brs L) = brs L := List.take_of_length_le (by simp)
 have q : (L.length + 1 + hd.length) * 24 <= 140737488355328 := by omega
 have e1 : (L ++ hd).length + 1 = L.length + 1 + hd.length := by simp; omega
 have e2 : brs (L ++ hd) = brs L ++ hd.map vbar := by simp [brs]
 unfold bsO at hQ ⊢
 rw [e1, e2] at hQ
 obtain ⟨X, hX⟩ : ∃ X, brs L = X := ⟨_, rfl⟩
 have hXl : L.length + 1 <= X.length := by rw [<- hX]; simp
 rw [hX] at htk hQ ⊢
 unfold bsB1 c3
 refine CwpE.vc ?_
 simp only [go_sem, ↓reduceIte, Nat.reduceLT, Nat.reduceEqDiff, Nat.reduceAdd, i0, i1, iw, List.length_map, List.getElem?_map, hi, Option.map_some, htk, q, hXl]
 exact hQ _ (WkE.keep (by simp only [go_sem, ↓reduceIte, Nat.reduceEqDiff]))
theorem bs_round2 (F0 : FD) (w0 : World) (m r : List (List (List Nt))) (w : Int) (L : List (List Nt)) (i : Nat) (hd : List (List Nt)) (hi : r[i]? = some hd) (hm : r.length <= 100000) (hL : L.length <= 100000) (hh : hd.length <= 100000)
 {Q : Exit -> Est -> Prop} (hQ : ∀ s, WkE 112 s ⟨(15, vi (i + 1 : Nat)) :: (13, .own 2 ((L ++ hd).length + 1) 0 ((L ++ hd).length + 1)) :: bsE w, bsO m r (L ++ hd)⟩ -> Q .normal s) :
 CwpE Tryd.prog F0 w0 112 bsB2 Q ⟨(15, vi i) :: (13, .own 2 (L.length + 1) 0 (L.length + 1)) :: bsE w, bsO m r L⟩ := by
 have i1 : (i : Int) < (r.length : Int) := by have := (List.getElem?_eq_some_iff.1 hi).1; omega
 have i0 : (0 : Int) <= (i : Int) := by omega
 have iw : IntKind.i64.wrap ((i : Int) + 1) = ((i + 1 : Nat) : Int) := by rw [wrap_id (by omega) (by omega)]; omega
 have htk : List.take (L.length + 1) (brs L) = brs L := List.take_of_length_le (by simp)
 have q : (L.length + 1 + hd.length) * 24 <= 140737488355328 := by omega
 have e1 : (L ++ hd).length + 1 = L.length + 1 + hd.length := by simp; omega
 have e2 : brs (L ++ hd) = brs L ++ hd.map vbar := by simp [brs]
 unfold bsO at hQ ⊢
 rw [e1, e2] at hQ
 obtain ⟨X, hX⟩ : ∃ X, brs L = X := ⟨_, rfl⟩
 have hXl : L.length + 1 <= X.length := by rw [<- hX]; simp
 rw [hX] at htk hQ ⊢
 unfold bsB2 c3
 refine CwpE.vc ?_
 simp only [go_sem, ↓reduceIte, Nat.reduceLT, Nat.reduceEqDiff, Nat.reduceAdd, i0, i1, iw, List.length_map, List.getElem?_map, hi, Option.map_some, htk, q, hXl]
 exact hQ _ (WkE.keep (by simp only [go_sem, ↓reduceIte, Nat.reduceEqDiff]))
theorem flat_take {m : List (List (List Nt))} {k : Nat} {hd : List (List Nt)} (h : m[k]? = some hd) : (m.take (k + 1)).flatten = (m.take k).flatten ++ hd := by
 rw [List.take_add_one, h, List.flatten_append]; simp
theorem flat_len {B : Nat} : ∀ (m : List (List (List Nt))), (∀ h ∈ m, h.length <= B) -> m.flatten.length <= m.length * B
 | [], _ => by simp
 | h :: m, hb => by
  have := flat_len m fun x hx => hb x (List.mem_cons_of_mem _ hx)
  have := hb h (List.mem_cons_self ..)
  simp only [List.flatten_cons, List.length_append, List.length_cons, Nat.add_mul, Nat.one_mul]; omega
theorem flat_len_take {B A : Nat} {m : List (List (List Nt))} (hb : ∀ h ∈ m, h.length <= B) (ha : m.length <= A) (k : Nat) : (m.take k).flatten.length <= A * B := by
 have h1 := flat_len (m.take k) fun h hh => hb h (List.mem_of_mem_take hh)
 have : (m.take k).length <= A := by rw [List.length_take]; omega
 exact Nat.le_trans h1 (Nat.mul_le_mul_right B this)
theorem brs_get {L : List (List Nt)} {k : Nat} (hk : k < (brs L).length) (hL : ∀ r ∈ L, okR 100 r) : ∃ v q, (brs L)[k]? = some v /\ (∀ objs, Snap objs v (vbar q)) /\ okR 100 q /\ v.cells = [v] := by
 cases k with
 | zero => exact ⟨_, [], rfl, fun objs => .nil _, ⟨by simp, fun n hn => by cases hn⟩, rfl⟩
 | succ k =>
  have hk' : k < L.length := by simpa using hk
  exact ⟨_, L[k], by rw [List.getElem?_cons_succ, List.getElem?_map, List.getElem?_eq_getElem hk']; rfl, fun objs => .tree _ rfl, hL _ (List.getElem_mem hk'), rfl⟩
theorem MusicBars_s (l : List Int) (a h b w : Int) (hl : ∀ x ∈ l, I64 x) (ha : I64 a) (hh : I64 h) (hb : I64 b) (hw : I64 w) : Ctr Tryd.prog 3 [vints l, vi a, vi h, vi b, vi w] (vb true) := by
 refine specC f3 (by simp) fun F0 w0 => ?_
 have b51 : I64 51 := ⟨by decide, by decide⟩
 have g51 := around_bd (n := w) (most := 51) (by omega)
 have w51 : IntKind.i64.wrap (aroundL w 51 - 1) = aroundL w 51 - 1 := wrap_id (by omega) (by omega)
 have hm := melP_vm l
 obtain ⟨m, em⟩ : ∃ m, melP l = m := ⟨_, rfl⟩
 rw [em] at hm
 have sm := vm_shp hm
 have sr := bent_shp sm a h b
 have lm := sm.len (by omega) (by omega) (by omega)
 obtain ⟨r, er⟩ : ∃ r, bentP m a h b = r := ⟨_, rfl⟩
 rw [er] at sr
 have lr := sr.len (by omega) (by omega) (by omega)
 have fm := fun k => flat_len_take sm.b sm.a k
 have fr := fun k => flat_len_take sr.b sr.a k
 unfold c3
 refine CwpE.cut (st := ⟨[(0, vints l), (1, vi a), (2, vi h), (3, vi b), (4, vi w)], []⟩) ?_ ?_
 ·simp only [go_sem, ↓reduceIte, Nat.reduceLT, Nat.reduceAdd]
  exact ⟨_, WkE.keep (by simp only [go_sem, ↓reduceIte, reduceCtorEq, Nat.reduceEqDiff]), rfl⟩
 refine CwpE.cut (st := ⟨[(11, .ref 0 1 0 0), (1, vi a), (2, vi h), (3, vi b), (4, vi w)], [.arr 1 1 25 [vmel m]]⟩) ?_ ?_
 ·simp only [go_sem, ↓reduceIte, Nat.reduceLT]
  refine callT (Melody_s l hl) rfl ?_
  rw [em]
  simp only [go_sem, ↓reduceIte, Nat.reduceLT, Nat.reduceEqDiff]
  exact ⟨_, WkE.keep (by simp only [go_sem, ↓reduceIte, reduceCtorEq, Nat.reduceEqDiff]), rfl⟩
 refine CwpE.cut (st := ⟨bsE w, [.arr 1 1 25 [vmel m], .arr 1 1 25 [vmel r]]⟩) ?_ ?_
 ·simp only [go_sem, ↓reduceIte, Nat.reduceLT, Nat.reduceEqDiff]
  refine callT (Bent2_s m a h b ha hh hb lm.2.2 (by have := sm.a; omega)) rfl ?_
  rw [er]
  simp only [go_sem, ↓reduceIte, Nat.reduceLT, Nat.reduceEqDiff]
  exact ⟨_, WkE.keep (by simp only [go_sem, ↓reduceIte, Nat.reduceEqDiff]), rfl⟩
 refine CwpE.seqJ (fun s => s = ⟨(13, .own 2 (([] : List (List Nt)).length + 1) 0 (([] : List (List Nt)).length + 1)) :: bsE w, bsO m r []⟩) ?_ ?_
 ·refine CwpE.regionB 0 (by omega) rfl (by decide) ?_
  simp only [go_sem, ↓reduceIte, Nat.reduceLT, Nat.reduceAdd]
  exact ⟨_, .refl _ _, ⟨_, WkE.keep (by simp only [go_sem, ↓reduceIte, Nat.reduceEqDiff]), rfl⟩⟩
 rintro _ rfl
 refine CwpE.seqJ (fun s => s = ⟨(13, .own 2 (m.flatten.length + 1) 0 (m.flatten.length + 1)) :: bsE w, bsO m r m.flatten⟩) ?_ ?_
 ·refine CwpE.cut (st := ⟨(14, vi (0 : Nat)) :: (13, .own 2 (([] : List (List Nt)).length + 1) 0 (([] : List (List Nt)).length + 1)) :: bsE w, bsO m r []⟩) ?_ ?_
  ·simp only [go_sem, ↓reduceIte, Nat.reduceLT]
   exact ⟨_, WkE.keep (by simp only [go_sem, ↓reduceIte, Nat.reduceEqDiff]; rfl), rfl⟩
  refine CwpE.block ?_
  refine loopXC 0 (fun z s => ∃ k : Nat, k + z = m.length /\ s = ⟨(14, vi k) :: (13, .own 2 ((m.take k).flatten.length + 1) 0 ((m.take k).flatten.length + 1)) :: bsE w, bsO m r (m.take k).flatten⟩)
   (fun s => s = ⟨(13, .own 2 (m.flatten.length + 1) 0 (m.flatten.length + 1)) :: bsE w, bsO m r m.flatten⟩) m.length _ (.refl _ _) ⟨0, by omega, rfl⟩ ?_ ?_
  rotate_left
  ·rintro s rfl
   simp only [inBlockE, if_true]
   exact ⟨_, .refl _ _, rfl⟩
  rintro z s ⟨k, hk, rfl⟩
  cases z with
  | zero =>
   obtain rfl : k = m.length := by omega
   rw [List.take_length]
   have h1 : ¬ (m.length : Int) < (m.length : Int) := by omega
   obtain ⟨O, hO⟩ : ∃ O, AObj.arr (m.flatten.length + 1) 1 34 (brs m.flatten) = O := ⟨_, rfl⟩
   unfold bsO
   rw [hO]
   refine CwpE.vc ?_
   simp only [go_sem, ↓reduceIte, Nat.reduceLT, Nat.reduceEqDiff, List.length_map, h1]
   exact ⟨_, WkE.keep (by simp only [go_sem, ↓reduceIte, Nat.reduceEqDiff]), rfl⟩
  | succ z =>
   obtain ⟨hd, hhd⟩ : ∃ x, m[k]? = some x := ⟨_, List.getElem?_eq_getElem (by omega)⟩
   refine bs_round F0 w0 m r w _ k hd hhd (by have := sm.a; omega) (by have := fm k; omega) (by have := sm.b hd (List.mem_of_getElem? hhd); omega) fun s hs => ⟨z, _, by omega, hs, k + 1, by omega, ?_⟩
   rw [flat_take hhd]
 rintro _ rfl
 refine CwpE.seqJ (fun s => s = ⟨(13, .own 2 ((m.flatten ++ r.flatten).length + 1) 0 ((m.flatten ++ r.flatten).length + 1)) :: bsE w, bsO m r (m.flatten ++ r.flatten)⟩) ?_ ?_
 ·refine CwpE.cut (st := ⟨(15, vi (0 : Nat)) :: (13, .own 2 (m.flatten.length + 1) 0 (m.flatten.length + 1)) :: bsE w, bsO m r m.flatten⟩) ?_ ?_
  ·simp only [go_sem, ↓reduceIte, Nat.reduceLT]
   exact ⟨_, WkE.keep (by simp only [go_sem, ↓reduceIte, Nat.reduceEqDiff]; rfl), rfl⟩
  refine CwpE.block ?_
  refine loopXC 2 (fun z s => ∃ k : Nat, k + z = r.length /\ s = ⟨(15, vi k) :: (13, .own 2 ((m.flatten ++ (r.take k).flatten).length + 1) 0 ((m.flatten ++ (r.take k).flatten).length + 1)) :: bsE w, bsO m r (m.flatten ++ (r.take k).flatten)⟩)
   (fun s => s = ⟨(13, .own 2 ((m.flatten ++ r.flatten).length + 1) 0 ((m.flatten ++ r.flatten).length + 1)) :: bsE w, bsO m r (m.flatten ++ r.flatten)⟩) r.length _ (.refl _ _) ⟨0, by omega, by simp⟩ ?_ ?_
  rotate_left
  ·rintro s rfl
   simp only [inBlockE, if_true]
   exact ⟨_, .refl _ _, rfl⟩
  rintro z s ⟨k, hk, rfl⟩
  cases z with
  | zero =>
   obtain rfl : k = r.length := by omega
   rw [List.take_length]
   have h1 : ¬ (r.length : Int) < (r.length : Int) := by omega
   obtain ⟨O, hO⟩ : ∃ O, AObj.arr ((m.flatten ++ r.flatten).length + 1) 1 34 (brs (m.flatten ++ r.flatten)) = O := ⟨_, rfl⟩
   unfold bsO
   rw [hO]
   refine CwpE.vc ?_
   simp only [go_sem, ↓reduceIte, Nat.reduceLT, Nat.reduceEqDiff, List.length_map, h1]
   exact ⟨_, WkE.keep (by simp only [go_sem, ↓reduceIte, Nat.reduceEqDiff]), rfl⟩
  | succ z =>
   obtain ⟨hd, hhd⟩ : ∃ x, r[k]? = some x := ⟨_, List.getElem?_eq_getElem (by omega)⟩
   have f1 := fm m.length
   rw [List.take_length] at f1
   refine bs_round2 F0 w0 m r w _ k hd hhd (by have := sr.a; omega) (by have := fr k; simp only [List.length_append]; omega) (by have := sr.b hd (List.mem_of_getElem? hhd); omega) fun s hs => ⟨z, _, by omega, hs, k + 1, by omega, ?_⟩
   rw [flat_take hhd, List.append_assoc]
 rintro _ rfl
 obtain ⟨L, hL⟩ : ∃ L, m.flatten ++ r.flatten = L := ⟨_, rfl⟩
 have okL : ∀ x ∈ L, okR 100 x := fun x hx => by
  rw [<- hL] at hx
  rcases List.mem_append.1 hx with h | h
  ·obtain ⟨y, hy, hxy⟩ := List.mem_flatten.1 h
   have := sm.c y hy x hxy
   exact ⟨by omega, this.2⟩
  ·obtain ⟨y, hy, hxy⟩ := List.mem_flatten.1 h
   have := sr.c y hy x hxy
   exact ⟨by omega, this.2⟩
 rw [hL]
 obtain ⟨PL, hPL⟩ : ∃ PL, brs L = PL := ⟨_, rfl⟩
 have lPL : PL.length = L.length + 1 := by rw [<- hPL]; simp
 have hget : ∀ k, k < PL.length -> ∃ v q, PL[k]? = some v /\ (∀ objs, Snap objs v (vbar q)) /\ okR 100 q /\ v.cells = [v] := fun k hk => by rw [<- hPL] at hk ⊢; exact brs_get hk okL
 obtain ⟨st, hst⟩ : ∃ st : List Int, [aroundL w 51 - 1, w, -1] = st := ⟨_, rfl⟩
 have lst : st.length = 3 := by rw [<- hst]; rfl
 refine CwpE.wk (s' := ⟨[(4, vi w), (13, .list 1 PL)], []⟩) ?_ ?_
 ·unfold bsO
  rw [hPL]
  refine (WkE.freeze 13 2 (L.length + 1) 0 (L.length + 1) 1 34 PL (by omega) rfl rfl (by omega) ?_).trans (WkE.round ?_ rfl rfl rfl)
  ·rw [<- hPL]
   exact List.all_eq_true.2 fun y hy => by
    rcases List.mem_cons.1 hy with rfl | hy
    ·rfl
    ·obtain ⟨v, _, rfl⟩ := List.mem_map.1 hy; rfl
  ·have e : List.take (L.length + 1) (List.drop 0 PL) = PL := List.take_of_length_le (by rw [List.drop_zero]; omega)
   rw [e]
   simp only [go_sem, ↓reduceIte, Nat.reduceEqDiff]
 refine CwpE.cut (st := ⟨[(13, .list 1 PL), (16, vints st)], []⟩) ?_ ?_
 ·simp only [go_sem, ↓reduceIte, Nat.reduceLT, Int.reduceNeg]
  refine callT (Around_s w 51 hw b51) rfl ?_
  simp only [go_sem, Nat.reducePow, Nat.reduceLeDiff, ↓reduceIte, reduceCtorEq, Nat.reduceLT, Nat.reduceEqDiff, Nat.reduceAdd, Nat.reduceMul, Int.reduceNeg, w51]
  rw [<- hst]
  exact ⟨_, WkE.keep (by simp only [go_sem, ↓reduceIte, Nat.reduceEqDiff]; rfl), rfl⟩
 refine CwpE.seqJ (fun s => s = ⟨[], []⟩) ?_ ?_
 rotate_left
 ·rintro _ rfl
  refine CwpE.vc ?_
  simp only [go_sem]
  refine callT lives_s rfl ?_
  simp only [go_sem, ↓reduceIte, Nat.reduceLT]
  exact .tree _ rfl
 refine CwpE.cut (st := ⟨[(13, .list 1 PL), (16, vints st), (17, vi (0 : Nat))], []⟩) ?_ ?_
 ·simp only [go_sem, ↓reduceIte, Nat.reduceLT]
  exact ⟨_, WkE.keep (by simp only [go_sem, ↓reduceIte, Nat.reduceEqDiff]; rfl), rfl⟩
 refine CwpE.block ?_
 refine loopX 4 (fun z s => ∃ k : Nat, k + z = min PL.length 20 /\ s = ⟨[(13, .list 1 PL), (16, vints st), (17, vi k)], []⟩) (fun s => s = ⟨[], []⟩) (min PL.length 20) _ (.refl _ _) ⟨0, by omega, rfl⟩ ?_ ?_
 rotate_left
 ·rintro s rfl
  simp only [inBlockE, if_true]
  exact ⟨_, .refl _ _, rfl⟩
 rintro z s ⟨k, hk, rfl⟩
 cases z with
 | zero =>
  by_cases k1 : k < PL.length
  ·have h1 : (k : Int) < (PL.length : Int) := by omega
   have h2 : ¬ (k : Int) < 20 := by omega
   simp only [go_sem, ↓reduceIte, Nat.reduceLT, Nat.reduceEqDiff, h1, h2]
   exact ⟨_, WkE.keep (by simp only [go_sem]), rfl⟩
  ·have h1 : ¬ (k : Int) < (PL.length : Int) := by omega
   simp only [go_sem, ↓reduceIte, Nat.reduceLT, Nat.reduceEqDiff, h1]
   exact ⟨_, WkE.keep (by simp only [go_sem]), rfl⟩
 | succ z =>
  have h1 : (k : Int) < (PL.length : Int) := by omega
  have h2 : (k : Int) < 20 := by omega
  have h0 : (0 : Int) <= (k : Int) := by omega
  have kw : IntKind.i64.wrap ((k : Int) + 1) = ((k + 1 : Nat) : Int) := by rw [wrap_id (by omega) (by omega)]; omega
  obtain ⟨v, q, gv, sv, oq, hcell⟩ := hget k (by omega)
  unfold AV.cells at hcell
  simp only [go_sem, ↓reduceIte, Nat.reduceLT, Nat.reduceEqDiff, h1, h2]
  refine loopX 6 (fun z s => ∃ j : Nat, j + z = 3 /\ s = ⟨[(13, .list 1 PL), (16, vints st), (17, vi k), (18, vi j)], []⟩) (fun s => s = ⟨[(13, .list 1 PL), (16, vints st), (17, vi k)], []⟩) 3 ⟨[(13, .list 1 PL), (16, vints st), (17, vi k), (18, vi (0 : Nat))], []⟩ (WkE.keep (by simp only [go_sem, ↓reduceIte, Nat.reduceEqDiff]; rfl)) ⟨0, by omega, rfl⟩ ?_ ?_
  rotate_left
  ·rintro s rfl
   simp only [go_sem, ↓reduceIte, Nat.reduceLT, Nat.reduceEqDiff, kw]
   exact ⟨z, ⟨[(13, .list 1 PL), (16, vints st), (17, vi (k + 1 : Nat))], []⟩, by omega, WkE.keep (by simp only [go_sem, ↓reduceIte, Nat.reduceEqDiff]), k + 1, by omega, rfl⟩
  rintro y s ⟨j, hj, rfl⟩
  cases y with
  | zero =>
   have j1 : ¬ (j : Int) < 3 := by omega
   simp only [go_sem, ↓reduceIte, Nat.reduceLT, Nat.reduceEqDiff, j1]
   exact ⟨_, WkE.keep (by simp only [go_sem, ↓reduceIte, Nat.reduceEqDiff]), rfl⟩
  | succ y =>
   have j1 : (j : Int) < 3 := by omega
   have j2 : (j : Int) < ((3 : Nat) : Int) := by omega
   have j0 : (0 : Int) <= (j : Int) := by omega
   have jw : IntKind.i64.wrap ((j : Int) + 1) = ((j + 1 : Nat) : Int) := by rw [wrap_id (by omega) (by omega)]; omega
   obtain ⟨t, gt⟩ : ∃ t, st[j]? = some t := ⟨_, List.getElem?_eq_getElem (by omega)⟩
   simp only [go_sem, ↓reduceIte, Nat.reduceLT, Nat.reduceEqDiff, h0, gv, hcell, j0, j1, List.getElem?_map, gt, Option.map_some]
   refine callN (Bar_s q t (by have := oq.1; omega) oq.2) (.cons (sv _) (.cons (.tree _ rfl) .nil)) ?_
   simp only [go_sem, ↓reduceIte, Nat.reduceLT, Nat.reduceEqDiff, h0, gv, hcell, j0, List.getElem?_map, gt, Option.map_some]
   refine callN (refBar_s q t (by have := oq.1; omega)) (.cons (sv _) (.cons (.tree _ rfl) .nil)) ?_
   have hbl : (barR q t).1.length <= 9223372036854775806 := by
    have := cells_len q t
    have := oq.1
    unfold barR
    repeat' split
    all_goals simp
    all_goals omega
   simp only [go_sem, ↓reduceIte, Nat.reduceLT, Nat.reduceEqDiff]
   refine callT (Equal15_s (barR q t).1 (barR q t).1 hbl) rfl ?_
   rw [show decide ((barR q t).1 = (barR q t).1) = true from decide_eq_true rfl]
   simp only [go_sem, ↓reduceIte, Nat.reduceLT, Nat.reduceEqDiff, jw]
   exact ⟨y, ⟨[(13, .list 1 PL), (16, vints st), (17, vi k), (18, vi (j + 1 : Nat))], []⟩, by omega, WkE.keep (by simp only [go_sem, ↓reduceIte, Nat.reduceEqDiff]), j + 1, by omega, rfl⟩
end Go.Proofs.YtnncijjkbonokaaDoor
