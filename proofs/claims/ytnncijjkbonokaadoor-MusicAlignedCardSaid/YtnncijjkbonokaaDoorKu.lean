/- Lemmas used by Aligned. -/
import Derived.Test.YtnncijjkbonokaaDoorKa
import Derived.Test.YtnncijjkbonokaaDoorKb
import Derived.Test.YtnncijjkbonokaaDoorKc
import Derived.Test.YtnncijjkbonokaaDoorKd
import Derived.Test.YtnncijjkbonokaaDoorKe
import Derived.Test.YtnncijjkbonokaaDoorKf
import Derived.Test.YtnncijjkbonokaaDoorKg
import Derived.Test.YtnncijjkbonokaaDoorKh
import Derived.Test.YtnncijjkbonokaaDoorKi
import Derived.Test.YtnncijjkbonokaaDoorKp
import Derived.WalkKit
import Derived.WalkSpells
import Derived.WalkLawsBesides
import Derived.Orders
import Derived.Laws.MakeOwn
import Derived.Deep.AppendSrc
import Derived.Lib.AppendZerosOnto
import Derived.Defers
import Derived.Laws.StructEq
import Derived.Scope
import Derived.Deep.LoopGhost
import Derived.OrdersIn
import Derived.ControlIn
import Derived.Sort.LoopGhostIn
import Derived.RangeFuncLeaves
import Derived.RangeFuncRecord
import Derived.Test.YtnncijjkbonokaaDoorProg
import Derived.RangeFuncFrom
import Derived.RangeFuncBox
import Derived.OwnWalkIn
import Derived.TacticsInMore
import Derived.LoopNIn
import Derived.LoopIn
import Derived.Sort.QuietTacIn
set_option linter.unusedSimpArgs false
set_option linter.unusedVariables false
set_option linter.unusedSectionVars false
namespace Dak
open Go Go.RowKit
variable [Globs]
variable {P : Program} {F0 : FD} {w0 : World} {n : Nat}
theorem rops_ok2 (ops : Array Oper) {K : St -> Prop} (csb : List COper) : ∀ (l : List Oper) (csa : List COper) (k : Nat), (∀ j, l[j]? = ops[k + j]?) -> l.mapM (compO P ops) = some (csa ++ csb) -> ∀ (st : St) (a : Act) (w : World), Sim F0 w0 st a w -> Rops P csa (fun st1 => ∃ st2, Wk st1 st2 /\ Rops P csb K st2) st ->
 wpOps P ops (Lift F0 w0 fun e st => e = .normal /\ K st) (List.range' k l.length) a w
 | l, [], k, hl, hm, st, a, w, hsim, h => by
  obtain ⟨st2, hwk, h⟩ := h
  exact rops_ok ops l csb k hl hm st2 a w (hwk _ _ _ _ hsim) h
 | [], c :: csa, k, hl, hm, st, a, w, hsim, h => by simp at hm
 | o :: l, c :: csa, k, hl, hm, st, a, w, hsim, h => by
  simp only [List.mapM_cons, Option.bind_eq_bind, Option.bind_eq_some_iff, Option.pure_def, Option.some.injEq, List.cons_append, List.cons.injEq] at hm
  obtain ⟨c, hc, cs', hcs, rfl, rfl⟩ := hm
  have h0 : ops[k]? = some o := by simpa using (hl 0).symm
  have hl' : ∀ j, l[j]? = ops[k + 1 + j]? := fun j => by have := hl (j + 1); simpa [Nat.add_assoc, Nat.add_comm 1 j] using this
  have ih := rops_ok2 ops (K := K) csb l csa (k + 1) hl' hcs
  simp only [List.length_cons, List.range'_succ, wpOps, h0]
  simp only [compO, Option.bind_eq_some_iff] at hc
  obtain ⟨op, hop, hc⟩ := hc
  cases hg : o.guard with
  | none =>
   rw [hg] at hc
   simp only [Option.some.injEq] at hc
   subst hc
   have hw : Region.wanted o (yielded ops a.tmps) = true := by unfold Region.wanted; rw [hg]
   rw [hw, if_pos rfl]
   simp only [Rops] at h
   exact .inl (rstep_ok (P := P) (c := ⟨o.dst, none, op⟩) (.ofB hop) rfl hsim h fun st' a' w' hK hs => ih st' a' w' hs hK)
  | some q =>
   obtain ⟨j, want⟩ := q
   rw [hg] at hc
   simp only [Option.map_eq_some_iff] at hc
   obtain ⟨t, htt, rfl⟩ := hc
   simp only [Rops] at h
   split at h
   ·rename_i b hb
    have hbv : boolOf (a.tmps.getD t undef) = b := by
     obtain ⟨hd, L, g, hs, ht⟩ := hsim
     exact gdB_ok (ev_ok (objs := st.objs) g.gl hs ht (.tmp t)) hb
    have hw := wanted_of hg htt hbv
    by_cases e : b = some want
    ·subst e
     rw [hw]; simp only [beq_self_eq_true, if_true]
     exact .inl (rstep_ok (P := P) (c := ⟨o.dst, some (t, want), op⟩) (.ofB hop) rfl hsim (h.1 rfl) fun st' a' w' hK hs => ih st' a' w' hs hK)
    ·rw [hw, if_neg (by simpa using e)]
     refine ih _ _ _ ?_ (h.2 e)
     obtain ⟨hd, L, g, hs, ht⟩ := hsim
     exact sim_put hd hs ht g (.refl _ _ _) _ (.tree (.val _))
   ·exact h.elim
end Dak
namespace Go.Proofs.YtnncijjkbonokaaDoor
open Go.RowKit Dak
def alGo (a b : List Int) : Nat -> Nat -> Nat -> Option Nat
 | 0, _, n => some n
 | f + 1, x, n => if (filledAt x a || filledAt x b) = true then alGo a b f (x + 1) n else if (filledAt (x + 1) a && filledAt (x + 1) b) = true then alGo a b f (x + 1) (n + 1) else none
theorem alGo_add (a b : List Int) (g : Nat) : ∀ (f x n : Nat), alGo a b (f + g) x n = (alGo a b f x n).bind fun n' => alGo a b g (x + f) n'
 | 0, x, n => by simp [alGo]
 | f + 1, x, n => by
  rw [show f + 1 + g = (f + g) + 1 by omega, alGo, alGo]
  split
  ·rw [alGo_add a b g f (x + 1) n, show x + 1 + f = x + (f + 1) by omega]
  ·split
   ·rw [alGo_add a b g f (x + 1) (n + 1), show x + 1 + f = x + (f + 1) by omega]
   ·rfl
theorem alGo_full (a b : List Int) : ∀ (f x n : Nat), (∀ y, x <= y -> y < x + f -> (filledAt y a || filledAt y b) = true) -> alGo a b f x n = some n
 | 0, x, n, _ => rfl
 | f + 1, x, n, h => by
  rw [alGo, if_pos (h x (Nat.le_refl _) (by omega))]
  exact alGo_full a b f (x + 1) n fun y h1 h2 => h y (by omega) (by omega)
theorem alGo_same (a b a' b' : List Int) (W : Nat) (ha : ∀ y, y <= W -> filledAt y a' = filledAt y a) (hb : ∀ y, y <= W -> filledAt y b' = filledAt y b) : ∀ (f x n : Nat), x + f <= W -> alGo a' b' f x n = alGo a b f x n
 | 0, x, n, _ => rfl
 | f + 1, x, n, h => by
  rw [alGo, alGo, ha x (by omega), hb x (by omega), ha (x + 1) (by omega), hb (x + 1) (by omega), alGo_same a b a' b' W ha hb f (x + 1) n (by omega), alGo_same a b a' b' W ha hb f (x + 1) (n + 1) (by omega)]
theorem filled_in {p x : List Int} (hx : ∀ v ∈ x, v ≠ 0) {j : Nat} (hj : j < x.length) : filledAt (p.length + j) (p ++ x) = true := by
 unfold filledAt
 rw [List.getElem?_append_right (by omega), show p.length + j - p.length = j by omega, List.getElem?_eq_getElem hj]
 simp only [decide_eq_true_eq]
 exact hx _ (List.getElem_mem hj)
theorem alGo_ext {a b x y : List Int} {n k : Nat} (hx : x ≠ [] /\ ∀ v ∈ x, v ≠ 0) (hy : y ≠ [] /\ ∀ v ∈ y, v ≠ 0) (h1 : 1 <= max a.length b.length) (h : alGo a b (max a.length b.length - 1) 1 n = some k) :
 alGo (extR (max a.length b.length) a x) (extR (max a.length b.length) b y) (max (extR (max a.length b.length) a x).length (extR (max a.length b.length) b y).length - 1) 1 n = some (k + 1) := by
 obtain ⟨W, hW⟩ : ∃ W, max a.length b.length = W := ⟨_, rfl⟩
 rw [hW] at h h1 ⊢
 have ha : a.length <= W := by omega
 have hb : b.length <= W := by omega
 have hx1 : 1 <= x.length := by have := hx.1; cases x with | nil => exact absurd rfl this | cons => simp
 have hy1 : 1 <= y.length := by have := hy.1; cases y with | nil => exact absurd rfl this | cons => simp
 have la := ext_len W a x ha
 have lb := ext_len W b y hb
 have ea : ∀ j, j < x.length -> filledAt (W + 1 + j) (extR W a x) = true := by
  intro j hj
  have := filled_in (p := a ++ List.replicate (W - a.length) 0 ++ [0]) hx.2 hj
  have e : (a ++ List.replicate (W - a.length) 0 ++ [0]).length = W + 1 := by simp; omega
  rw [e] at this
  exact this
 have eb : ∀ j, j < y.length -> filledAt (W + 1 + j) (extR W b y) = true := by
  intro j hj
  have := filled_in (p := b ++ List.replicate (W - b.length) 0 ++ [0]) hy.2 hj
  have e : (b ++ List.replicate (W - b.length) 0 ++ [0]).length = W + 1 := by simp; omega
  rw [e] at this
  exact this
 rw [la, lb, show max (W + 1 + x.length) (W + 1 + y.length) - 1 = (W - 1) + (1 + (max x.length y.length - 0)) by omega, alGo_add]
 rw [alGo_same a b _ _ W (fun j hj => filled_ext hj ha) (fun j hj => filled_ext hj hb) (W - 1) 1 n (by omega), h, Option.bind_some, show 1 + (W - 1) = W by omega, alGo_add]
 have na : filledAt W a = false := by unfold filledAt; rw [List.getElem?_eq_none (by omega)]
 have nb : filledAt W b = false := by unfold filledAt; rw [List.getElem?_eq_none (by omega)]
 have one : alGo (extR W a x) (extR W b y) 1 W k = some (k + 1) := by
  have e1 := ea 0 (by omega)
  have e2 := eb 0 (by omega)
  rw [Nat.add_zero] at e1 e2
  rw [alGo, filled_ext (Nat.le_refl _) ha, filled_ext (Nat.le_refl _) hb, na, nb, e1, e2]
  rfl
 rw [one, Option.bind_some]
 refine alGo_full _ _ _ _ _ fun z h1 h2 => ?_
 obtain ⟨j, rfl⟩ : ∃ j, z = W + 1 + j := ⟨z - (W + 1), by omega⟩
 by_cases hj : j < x.length
 ·rw [ea j hj]; rfl
 ·rw [eb j (by omega), Bool.or_true]
theorem pair_al {m : List (List (List Nt))} (hm : Vm m) (h2 : m.length = 2) {fr : Nat} (n : Nat) : ∀ k, fr + (k + 1) <= manyP m -> ∃ x y, (lineP m fr (k + 1)).ls = [60 :: x, 28 :: y] /\ x ≠ [] /\ y ≠ [] /\ alGo (60 :: x) (28 :: y) (max (60 :: x).length (28 :: y).length - 1) 1 n = some (n + k)
 | 0, hk => by
  obtain ⟨a, b, rfl⟩ := two_of h2
  have e := line_add (m := [a, b]) (fr := fr) (k := 0) (fun h hh => by have := hm.bars h hh; omega)
  have e0 : (lineP [a, b] fr 0).ls = [[60], [28]] := rfl
  rw [e0] at e
  simp only [List.map_cons, List.map_nil, List.zipWith_cons_cons, List.zipWith_nil_left, padC, Nat.lt_irrefl, if_false, List.singleton_append] at e
  have ra := getD_right hm (h := a) (by simp) (i := fr) (by omega)
  have rb := getD_right hm (h := b) (by simp) (i := fr) (by omega)
  have ca := cells_ne (last := segL (cutH fr 0 a) (-1)) ra.2 ra.1
  have cb := cells_ne (last := segL (cutH fr 0 b) (-1)) rb.2 rb.1
  refine ⟨_, _, e, ca.1, cb.1, ?_⟩
  rw [Nat.add_zero]
  refine alGo_full _ _ _ _ _ fun z h1 h2 => ?_
  obtain ⟨j, rfl⟩ : ∃ j, z = 1 + j := ⟨z - 1, by omega⟩
  by_cases hj : j < (cellsP (a.getD fr []) (segL (cutH fr 0 a) (-1))).length
  ·have := filled_in (p := [60]) ca.2 hj
   rw [Bool.or_eq_true]; exact .inl this
  ·have := filled_in (p := [28]) cb.2 (j := j) (by simp only [List.length_cons] at h2; omega)
   rw [Bool.or_eq_true]; exact .inr this
 | k + 1, hk => by
  obtain ⟨x, y, e, _, _, ih⟩ := pair_al hm h2 (fr := fr) n k (by omega)
  obtain ⟨a, b, rfl⟩ := two_of h2
  have e' := line_add (m := [a, b]) (fr := fr) (k := k + 1) (fun h hh => by have := hm.bars h hh; omega)
  have ra := getD_right hm (h := a) (by simp) (i := fr + (k + 1)) (by omega)
  have rb := getD_right hm (h := b) (by simp) (i := fr + (k + 1)) (by omega)
  have ca := cells_ne (last := segL (cutH fr (k + 1) a) (-1)) ra.2 ra.1
  have cb := cells_ne (last := segL (cutH fr (k + 1) b) (-1)) rb.2 rb.1
  have hw : wideP [60 :: x, 28 :: y] 0 = max (60 :: x).length (28 :: y).length := by simp [wideP]
  rw [e, hw] at e'
  simp only [List.map_cons, List.map_nil, List.zipWith_cons_cons, List.zipWith_nil_left, padC, if_pos (Nat.succ_pos k)] at e'
  have key := alGo_ext ca cb (by simp) ih
  refine ⟨_, _, e', by simp, by simp, ?_⟩
  exact key
def posOf (l : List (Nat × Nat)) (j : Nat) : Nat := ((l.take j).map (·.2)).sum
theorem chain_pos : ∀ {a b : Nat} {l : List (Nat × Nat)}, Chain a b l -> a + posOf l l.length = b
 | a, b, [], h => by simp only [Chain] at h; simp [posOf, h]
 | a, b, q :: r, h => by
  have ih := chain_pos h.2.2.2
  unfold posOf at ih ⊢
  simp only [List.take_length, List.map_cons, List.sum_cons] at ih ⊢
  omega
theorem page_get {m : List (List (List Nt))} (hm : Vm m) : ∀ {a b : Nat} {l : List (Nat × Nat)}, Chain a b l -> b <= manyP m -> ∀ (j h : Nat) (q : Nat × Nat), l[j]? = some q -> h < m.length -> (pageOf m l)[m.length * j + h]? = (lineP m q.1 q.2).ls[h]?
 | a, b, [], _, _, j, h, q, hq, _ => by simp at hq
 | a, b, p :: r, hc, hb, j, h, q, hq, hh => by
  obtain ⟨h1, h2, h3, h4⟩ := hc
  have hl := line_len hm (fr := p.1) (k := p.2) (by omega)
  rw [page_cons]
  cases j with
  | zero =>
   simp only [List.getElem?_cons_zero, Option.some.injEq] at hq
   subst hq
   rw [Nat.mul_zero, Nat.zero_add, List.getElem?_append_left (by omega)]
  | succ j =>
   rw [List.getElem?_cons_succ] at hq
   rw [List.getElem?_append_right (by rw [hl, Nat.mul_add]; omega), hl, show m.length * (j + 1) + h - m.length = m.length * j + h by rw [Nat.mul_add]; omega]
   exact page_get hm h4 hb j h q hq hh
theorem page_pair {m : List (List (List Nt))} {width : Int} {p : List (List Int)} (h : encP m width = (p, 0)) (h2 : m.length = 2) :
 ∃ L : List Nat, p.length = 2 * L.length /\ L.sum = manyP m /\ ∀ j k, L[j]? = some k -> ∃ x y, p[2 * j]? = some (60 :: x) /\ p[2 * j + 1]? = some (28 :: y) /\ x ≠ [] /\ y ≠ [] /\ 1 <= k /\ ∀ n, alGo (60 :: x) (28 :: y) (max (60 :: x).length (28 :: y).length - 1) 1 n = some (n + (k - 1)) := by
 obtain ⟨hm, _, _, l, _, hp, hc, _⟩ := enc_page h
 refine ⟨l.map (·.2), ?_, ?_, ?_⟩
 ·rw [hp, page_len hm hc (Nat.le_refl _), h2, List.length_map]
 ·have := chain_pos hc
  simp only [posOf, List.take_length] at this
  omega
 ·intro j k hj
  rw [List.getElem?_map] at hj
  cases hq : l[j]? with
  | none => rw [hq] at hj; cases hj
  | some q =>
   rw [hq] at hj
   simp only [Option.map_some, Option.some.injEq] at hj
   have hg := chain_get hc q (List.mem_of_getElem? hq)
   have g0 := page_get hm hc (Nat.le_refl _) j 0 q hq (by omega)
   have g1 := page_get hm hc (Nat.le_refl _) j 1 q hq (by omega)
   obtain ⟨k', hk'⟩ : ∃ k', q.2 = k' + 1 := ⟨q.2 - 1, by omega⟩
   obtain ⟨x, y, e, hx, hy, ha⟩ := pair_al hm h2 (fr := q.1) 0 k' (by omega)
   rw [<- hk'] at e
   rw [e, h2, <- hp] at g0 g1
   refine ⟨x, y, g0, g1, hx, hy, by omega, fun n => ?_⟩
   obtain ⟨x', y', e', _, _, ha'⟩ := pair_al hm h2 (fr := q.1) n k' (by omega)
   rw [<- hk', e] at e'
   simp only [List.cons.injEq, true_and, and_true] at e'
   obtain ⟨rfl, rfl⟩ := e'
   rw [ha']; congr 1; omega
end Go.Proofs.YtnncijjkbonokaaDoor
namespace Go.Proofs.YtnncijjkbonokaaDoor
open Dak
theorem f6 : fnC Tryd.prog 6 = some (c6, 165, [(.tmp 4)]) := by kernel_rfl
end Go.Proofs.YtnncijjkbonokaaDoor
namespace Dak
open Go Go.RowKit
variable [Globs]
variable {P : Program} {F0 : FD} {w0 w : World} {L : Lay} {objs objs0 : List AObj} {nid n : Nat}
theorem bsliceO_ok (g : Good F0 w0 w L objs) {t e : TypeId} {size : Nat} {parts : List (Nat × Operand)} {ev : Operand -> AV} {ρ : Operand -> Value}
 (ht : P.underlying t = some (.slice e)) (hs : tsize P e = some size) (hpos : 0 < size) (hz : ∃ z, (P.info? e).bind (·.zero) = some z) (hp : parts.map (·.1) = List.range parts.length)
 (he : ∀ x, VR w L objs (ev x) (ρ x)) (hk : ∀ x ∈ parts.map (·.2), Known objs (ev x)) (hv : objs[nid]? = some .void)
 (hall : ((parts.map (·.2)).all fun x => (ev x).fits && (ev x).cells.length == size) = true) (hsz : parts.length * size <= 2 ^ 24) :
 Does P (do pure (.value (<- Instr.buildSlice t parts.length (parts.map fun p => (p.1, ρ p.2)).toArray))) F0 w0 w L objs nid (.own nid parts.length 0 parts.length) (some (.arr parts.length size e ((parts.map (·.2)).map ev))) := by
 have hm : parts.length <= maxLen := by have := Nat.le_mul_of_pos_right parts.length hpos; unfold maxLen; omega
 rw [List.all_eq_true] at hall
 have hcs : ∀ v ∈ (parts.map fun p => ρ p.2), v.cells.size = size := by
  intro v hv
  obtain ⟨p, hp, rfl⟩ := List.mem_map.1 hv
  have h1 := hall p.2 (List.mem_map.2 ⟨p, hp, rfl⟩)
  simp only [Bool.and_eq_true, beq_iff_eq] at h1
  rw [(fits_CR (he p.2) h1.1 (hk _ (List.mem_map.2 ⟨p, hp, rfl⟩))).1]; exact h1.2
 obtain ⟨z, hz⟩ := hz
 have hinfo : ∃ i, P.info? e = some i /\ i.zero = some z := by
  cases hi : P.info? e with
  | none => rw [hi] at hz; cases hz
  | some i => rw [hi] at hz; exact ⟨i, rfl, hz⟩
 obtain ⟨i, hi, hiz⟩ := hinfo
 have key : ∀ zc : Array Value, ∃ us : Array Value, Instr.fill (fun i => some (i * size, size)) ((Array.range (parts.length * size)).map (zc[· % zc.size]!)) (parts.map fun p => (p.1, ρ p.2)) = some us /\ us.size = parts.length * size /\
  ∀ i v, (parts.map fun p => ρ p.2)[i]? = some v -> ∀ j, j < size -> us[i * size + j]? = v.cells[j]? := by
  intro zc
  have e := zipIdx_range ρ parts 0 (by rw [hp, List.range_eq_range'])
  rw [e]
  obtain ⟨us, h1, h2, _, h4⟩ := fill_row size (parts.map fun p => ρ p.2) 0 ((Array.range (parts.length * size)).map (zc[· % zc.size]!)) hcs (by simp)
  exact ⟨us, h1, by rw [h2]; simp, fun i v hv j hj => by have := h4 i v hv j hj; rwa [Nat.zero_add] at this⟩
 have hrun : ∃ us : Array Value, (Instr.buildSlice t parts.length (parts.map fun p => (p.1, ρ p.2)).toArray).run P w = .ok (.slice (some ⟨w.heap.size, 0, none⟩) parts.length parts.length) (w.alloc (.cells us e)) /\ us.size = parts.length * size /\
  ∀ i v, (parts.map fun p => ρ p.2)[i]? = some v -> ∀ j, j < size -> us[i * size + j]? = v.cells[j]? := by
  have n1 : ¬ (parts.length * size > 2 ^ 24) := by omega
  have hzv : (zeroValue e).run P w = .ok z w := by simp [zeroValue, typeInfo, hi, hiz]
  by_cases h0 : parts.length * size = 0
  ·obtain ⟨us, h1, h2, h3⟩ := key #[]
   refine ⟨us, ?_, h2, h3⟩
   have e0 : ∀ f : Nat -> Value, (Array.range (parts.length * size)).map f = #[] := by intro f; rw [h0]; simp
   rw [e0] at h1
   simp only [Instr.buildSlice, Sem.run_bind, run_underlying ht, Result.andThen_ok, run_sizeOf hs, Sem.run_ite, if_neg n1, if_pos h0, Sem.run_pure, e0, h1, newRow, run_newObj, List.toList_toArray]
   rfl
  ·obtain ⟨us, h1, h2, h3⟩ := key z.cells
   refine ⟨us, ?_, h2, h3⟩
   simp only [Instr.buildSlice, Sem.run_bind, run_underlying ht, Result.andThen_ok, run_sizeOf hs, Sem.run_ite, if_neg n1, if_neg h0, Sem.run_pure, hzv, h1, newRow, run_newObj, List.toList_toArray]
   rfl
 obtain ⟨us, hrun, hus, hcell⟩ := hrun
 have hrow : Row w L objs us 0 size (parts.map fun p => ev p.2) := by
  refine row_of (vs := parts.map fun p => ρ p.2) (by simp) (by simp [hus]) (fun i x hx => ?_) hcell
  rw [List.getElem?_map, Option.map_eq_some_iff] at hx
  obtain ⟨p, hp, rfl⟩ := hx
  have hm := List.mem_of_getElem? hp
  have h1 := hall p.2 (List.mem_map.2 ⟨p, hm, rfl⟩)
  simp only [Bool.and_eq_true, beq_iff_eq] at h1
  exact ⟨ρ p.2, by rw [List.getElem?_map, hp]; rfl, h1.2, fits_CR (he p.2) h1.1 (hk _ (List.mem_map.2 ⟨p, hm, rfl⟩))⟩
 have hid := (List.getElem?_eq_some_iff.1 hv).1
 simp only [List.map_map] at *
 refine ⟨.slice (some ⟨w.heap.size, 0, none⟩) parts.length parts.length, _, _, by simp [hrun], g.new (gen := parts.length) (elem := e) hv us hrow, .new hv _ _, ?_⟩
 have := VR.ownL (w := w.alloc (.cells us e)) (L := L.put nid (some (w.heap.size, 0, us.size))) (objs := objs.set nid (.arr parts.length size e (parts.map fun p => ev p.2))) nid parts.length 0 parts.length parts.length size w.heap.size 0 us.size
  (live_self hid) (by simp [Lay.put]) (Nat.le_refl _) hm (by simp [hus])
 simpa [putO, Function.comp_def] using this
theorem bsliceO1_ok {o : Oper} {e : TypeId} {size : Nat} {ps : List Operand} (hc : comp1 P o = some (.bslice e size ps)) (g : Good F0 w0 w L objs) {ev : Operand -> AV} {ρ : Operand -> Value} (he : ∀ x, VR w L objs (ev x) (ρ x)) (hv : objs[nid]? = some .void)
 (hkn : ∀ x ∈ ps, Known objs (ev x)) (hall : (ps.all fun x => (ev x).fits && (ev x).cells.length == size) = true) (hsz : ps.length * size <= 2 ^ 24) :
 Does P (execOp ρ o) F0 w0 w L objs nid (.own nid ps.length 0 ps.length) (some (.arr ps.length size e (ps.map ev))) := by
 obtain ⟨dst, op, type, pos, after, guard⟩ := o
 have key : ∃ t len parts, op = .buildSlice t len parts := by
  cases op with
  | buildSlice t len parts => exact ⟨t, len, parts, rfl⟩
  | call c =>
   exfalso
   obtain ⟨callee, args, argTypes⟩ := c
   simp only [comp1] at hc
   repeat' (split at hc)
   all_goals first | (cases hc; done) | (simp at hc; done) | skip
  | unOp op _ _ => exfalso; cases op <;> simp [comp1] at hc
  | slice _ _ _ hi m => exfalso; cases m <;> cases hi <;> simp only [comp1] at hc <;> (repeat' (split at hc)) <;> simp at hc
  | build t parts =>
   exfalso
   simp only [comp1] at hc
   repeat' (split at hc)
   all_goals first | (cases hc; done) | (simp [Option.bind_eq_some_iff, Option.map_eq_some_iff] at hc; done)
  | _ => exfalso; first | (simp [comp1] at hc; done) | (simp only [comp1] at hc; (repeat' (split at hc)) <;> simp at hc)
 obtain ⟨t, len, parts, rfl⟩ := key
 simp only [comp1] at hc
 split at hc
 ·rename_i e' hu
  split at hc
  ·rename_i z size' _ hi
   simp only [Option.ite_none_right_eq_some, Option.some.injEq, COp.bslice.injEq] at hc
   obtain ⟨⟨hp, hps⟩, rfl, rfl, rfl⟩ := hc
   unfold tinfo at hi
   obtain ⟨i, hi1, hi2⟩ := Option.map_eq_some_iff.1 hi
   simp only [Prod.mk.injEq] at hi2
   have hlen : len = parts.toList.length := by
    have := congrArg List.length hps; simpa using this.symm
   subst hlen
   have := bsliceO_ok (P := P) g hu (by simp [tsize, hi1, hi2.2.1]) hp ⟨z, by simp [hi1, hi2.1]⟩ hps he (fun x hx => hkn x hx) hv hall (by simpa using hsz)
   have e : (List.map (fun p => (p.1, ρ p.2)) parts.toList).toArray = parts.map fun x => (x.1, ρ x.2) := by apply Array.ext'; simp
   rw [e] at this
   simpa [execOp] using this
  ·cases hc
 ·cases hc
theorem step_bsliceO {o : Oper} {e : TypeId} {size : Nat} {ps : List Operand} (hc : comp1 P o = some (.bslice e size ps)) {K : St -> Prop} {st : St} {a : Act} {w : World} (hsim : Sim F0 w0 st a w)
 (hall : (ps.all fun x => (St.ev st.tmps x).fits && (St.ev st.tmps x).cells.length == size && (St.ev st.tmps x).isT) = true) (hsz : ps.length * size <= 2 ^ 24)
 (h : K ⟨St.put st.tmps o.dst (.own st.objs.length ps.length 0 ps.length), st.objs ++ [.arr ps.length size e (ps.map (St.ev st.tmps))]⟩)
 {next : Act -> World -> Prop} {Q : Exit -> Act -> World -> Prop} (hn : ∀ st' a' w', K st' -> Sim F0 w0 st' a' w' -> next a' w') : o.wp P a w next Q := by
 obtain ⟨hd, L, g, hs, ht⟩ := hsim
 have he := ev_ok (objs := st.objs) g.gl hs ht
 obtain ⟨gv, hlv⟩ := good_void g
 have hv : (st.objs ++ [AObj.void])[st.objs.length]? = some .void := by simp
 rw [List.all_eq_true] at hall
 have hall' : (ps.all fun x => (St.ev st.tmps x).fits && (St.ev st.tmps x).cells.length == size) = true := List.all_eq_true.2 fun x hx => (Bool.and_eq_true_iff.1 (hall x hx)).1
 have hkn : ∀ x ∈ ps, Known (st.objs ++ [AObj.void]) (St.ev st.tmps x) := by
  intro x hx id gg hk
  have hT := (Bool.and_eq_true_iff.1 (hall x hx)).2
  rcases hk with ⟨o, l, e⟩ | ⟨e', c, e⟩ <;> rw [e] at hT <;> cases hT
 obtain ⟨v, w', L', hr, hg, hl, hvr⟩ := bsliceO1_ok (P := P) (nid := st.objs.length) hc gv (fun x => (he x).stay hlv) hv hkn hall' hsz
 simp only [putO, set_void] at hg hl hvr
 unfold Oper.wp
 rw [hr, Oper.upon_value]
 exact hn _ _ _ h (sim_put hd hs ht hg (hlv.trans hl) o.dst hvr)
theorem CwpE.regionB (k : Nat) {d : Nat} {e : TypeId} {size : Nat} {ps : List Operand} {cs : List COper} {Q : Exit -> Est -> Prop} {s : Est} (hd : d < n)
 (hall : (ps.all fun x => (evE s.env x).fits && (evE s.env x).cells.length == size && (evE s.env x).isT) = true) (hsz : ps.length * size <= 2 ^ 24)
 (h : RopsE P n (cs.take k) (fun s1 => ∃ s2, WkE n s1 s2 /\ RopsE P n (cs.drop k) (Q .normal) s2) ⟨putE s.env (some d) (.own s.objs.length ps.length 0 ps.length), s.objs ++ [.arr ps.length size e (ps.map (evE s.env))]⟩) :
 CwpE P F0 w0 n (.region (⟨some d, none, .bslice e size ps⟩ :: cs)) Q s := by
 intro hk F1 w1 m r rn code hc hro a w hs
 cases code with
 | region id ops dr =>
  cases dr with
  | false =>
   simp only [compC, Option.map_eq_some_iff, CCode.region.injEq] at hc
   obtain ⟨cs', hcs, hcs2⟩ := hc
   refine wpIn_mono (wpIn_region (ops_in (calm_of hcs) lift_in _ _ _ ?_)) (Q := Lift F1 w1 fun e st => e = .normal /\ LiftE n (Q .normal) st) ?_
   ·rw [hcs2] at hcs
    cases hl : ops.toList with
    | nil => rw [hl] at hcs; simp at hcs
    | cons o l =>
     rw [hl] at hcs
     simp only [List.mapM_cons, Option.bind_eq_bind, Option.bind_eq_some_iff, Option.pure_def, Option.some.injEq, List.cons.injEq] at hcs
     obtain ⟨c, hc, cs1, hcs1, rfl, rfl⟩ := hcs
     simp only [compO, Option.bind_eq_some_iff] at hc
     obtain ⟨op, hop, hc⟩ := hc
     have hg : o.guard = none := by
      cases hg : o.guard with
      | none => rfl
      | some q =>
       obtain ⟨j, want⟩ := q
       rw [hg] at hc
       simp only [Option.map_eq_some_iff, COper.mk.injEq] at hc
       obtain ⟨t, _, _, h2, _⟩ := hc
       cases h2
     rw [hg] at hc
     simp only [Option.some.injEq, COper.mk.injEq, true_and] at hc
     obtain ⟨hdst, rfl⟩ := hc
     have hcomp : comp1 P o = some (.bslice e size ps) := by
      rcases compB_cases hop with h | h
      ·exact h
      ·cases h
     have hsz' : ops.size = l.length + 1 := by rw [<- Array.length_toList, hl]; rfl
     have h0 : ops[0]? = some o := by rw [<- Array.getElem?_toList, hl]; rfl
     rw [hsz', List.range_eq_range', List.range'_succ]
     simp only [wpOps, h0]
     have hw : Region.wanted o (yielded ops a.tmps) = true := by unfold Region.wanted; rw [hg]
     rw [hw, if_pos rfl]
     refine .inl (step_bsliceO (P := P) (K := fun st => st = Est.toSt n ⟨putE s.env (some d) (.own s.objs.length ps.length 0 ps.length), s.objs ++ [.arr ps.length size e (ps.map (evE s.env))]⟩) hcomp hs ?_ hsz ?_ ?_)
     ·simp only [Est.toSt, ev_toT hk]; exact hall
     ·rw [hdst]
      simp only [Est.toSt, ev_toT hk]
      rw [put_toT (show okD n (some d) from hd)]
     ·rintro st' a' w' rfl hs'
      have hk' : KeysOk n (putE s.env (some d) (.own s.objs.length ps.length 0 ps.length)) := keys_put hk (show okD n (some d) from hd) _
      have := rops_ok2 (F0 := F1) (w0 := w1) (K := LiftE n (Q .normal)) ops (cs1.drop k) l (cs1.take k) 1 (fun j => by
       rw [<- Array.getElem?_toList, hl, Nat.add_comm]; rfl) (by rw [List.take_append_drop]; exact hcs1) _ a' w' hs' ?_
      ·exact this
      ·have h1 := ropsE_ok (P := P) (cs1.take k) _ hk' h
       refine vc_mono (F0 := F0) (w0 := w0) (.region (cs1.take k)) (Q := fun _ => LiftE n (fun s1 => ∃ s2, WkE n s1 s2 /\ RopsE P n (cs1.drop k) (Q .normal) s2)) (Q' := fun _ st1 => ∃ st2, Wk st1 st2 /\ Rops P (cs1.drop k) (LiftE n (Q .normal)) st2) _ ?_ h1
       rintro _ st ⟨s1, ⟨s2, hwk, h2⟩, hk1, rfl⟩
       exact ⟨s2.toSt n, (hwk hk1).2, ropsE_ok _ _ (hwk hk1).1 h2⟩
   ·rintro e a' w' ⟨st', ⟨rfl, hq⟩, hs'⟩; exact .mk hq hs'
  | true => rcases compC_reg hc with ⟨h, _⟩ | ⟨_, _, h⟩ | ⟨_, _, _, h⟩ <;> cases h
 | _ => simp [compC, Option.bind_eq_some_iff] at hc
end Dak
namespace Go.Proofs.YtnncijjkbonokaaDoor
open Go.RowKit Dak
abbrev alY : CCode := match c6 with | .seq _ (.seq _ (.seq _ (.seq _ (.seq _ (.seq _ (.seq (.seq _ (.block _ (.loop b))) _)))))) => b | _ => .skip
abbrev alX : CCode := match alY with | .seq _ (.seq (.block _ (.seq _ (.seq _ (.seq _ (.seq _ (.seq _ (.block _ (.loop b)))))))) _) => b | _ => .skip
abbrev alE (p : List (List Int)) (y : Nat) (a b : List Int) (n x : Nat) : List (Nat × AV) := [(5, .ref 0 1 0 0), (6, vpage p), (8, vi n), (9, vi y), (10, vbytes a), (11, vbytes b), (12, vi x)]
theorem filled_out {x : Nat} {c : List Int} (h : ¬ x < c.length) : filledAt x c = false := by
 unfold filledAt; rw [List.getElem?_eq_none (by omega)]
theorem filled_at {x : Nat} {c : List Int} {v : Int} (h : c[x]? = some v) : filledAt x c = !decide (v = 0) := by
 unfold filledAt; rw [h]; simp
theorem filled_lt {x : Nat} {c : List Int} (h : filledAt x c = true) : ∃ v, c[x]? = some v /\ v ≠ 0 /\ x < c.length := by
 unfold filledAt at h
 cases hc : c[x]? with
 | none => rw [hc] at h; cases h
 | some v =>
  rw [hc] at h
  exact ⟨v, rfl, by simpa using h, (List.getElem?_eq_some_iff.1 hc).1⟩
theorem maxI (a b : Nat) : (if (a : Int) < (b : Int) then (b : Int) else (a : Int)) = ((max a b : Nat) : Int) := by split <;> omega
set_option maxRecDepth 100000 in
theorem al_cols (F0 : FD) (w0 : World) (m : List (List (List Nt))) (p : List (List Int)) (y : Nat) (a b : List Int) (n R : Nat) (ha : a.length <= 1000) (hb : b.length <= 1000) (hn : n <= 1000)
 (hR : alGo a b (max a.length b.length - 1) 1 n = some R) {Q : Exit -> Est -> Prop} (hQ : Q .normal ⟨[(5, .ref 0 1 0 0), (6, vpage p), (8, vi R), (9, vi y)], [.arr 1 1 25 [vmel m]]⟩) :
 CwpE Tryd.prog F0 w0 165 (.block 2 (.loop alX)) (fun e s => ∃ s', WkE 165 s s' /\ Q e s') ⟨alE p y a b n 1, [.arr 1 1 25 [vmel m]]⟩ := by
 refine CwpE.block ?_
 refine loopXC 2 (fun z s => ∃ (x k : Nat), 1 <= x /\ x + z = max a.length b.length - 1 + 1 /\ k <= n + x /\ alGo a b z x k = some R /\ s = ⟨alE p y a b k x, [.arr 1 1 25 [vmel m]]⟩)
  (fun s => s = ⟨[(5, .ref 0 1 0 0), (6, vpage p), (8, vi R), (9, vi y)], [.arr 1 1 25 [vmel m]]⟩) (max a.length b.length - 1) _ (.refl _ _) ⟨1, n, Nat.le_refl _, by omega, by omega, hR, rfl⟩ ?_ ?_
 rotate_left
 ·rintro s rfl
  simp only [inBlockE, if_true]
  exact ⟨_, .refl _ _, hQ⟩
 rintro z s ⟨x, k, hx1, hx, hk, hgo, rfl⟩
 cases z with
 | zero =>
  have k1 : ¬ (x : Int) < ((max a.length b.length : Nat) : Int) := by omega
  rw [alGo] at hgo
  obtain rfl := Option.some.inj hgo
  unfold alX alY c6
  refine CwpE.vc ?_
  simp only [go_sem, ↓reduceIte, Nat.reduceLT, Nat.reduceEqDiff, List.length_map, maxI, k1]
  exact ⟨_, WkE.keep (by simp only [go_sem, ↓reduceIte, Nat.reduceEqDiff]), rfl⟩
 | succ z =>
  have k1 : (x : Int) < ((max a.length b.length : Nat) : Int) := by omega
  have x0 : (0 : Int) <= (x : Int) := by omega
  have xw : IntKind.i64.wrap ((x : Int) + 1) = ((x + 1 : Nat) : Int) := by rw [wrap_id (by omega) (by omega)]; omega
  have kw : IntKind.i64.wrap ((k : Int) + 1) = ((k + 1 : Nat) : Int) := by rw [wrap_id (by omega) (by omega)]; omega
  have aw : IntKind.i64.wrap ((a.length : Int) - 1) = (a.length : Int) - 1 := wrap_id (by omega) (by omega)
  have bw : IntKind.i64.wrap ((b.length : Int) - 1) = (b.length : Int) - 1 := wrap_id (by omega) (by omega)
  unfold alX alY c6
  refine CwpE.cut (st := ⟨alE p y a b k x, [.arr 1 1 25 [vmel m]]⟩) ?_ ?_
  ·simp only [go_sem, ↓reduceIte, Nat.reduceLT, Nat.reduceEqDiff, List.length_map, maxI, k1]
   exact ⟨_, WkE.keep (by simp only [go_sem, ↓reduceIte, Nat.reduceEqDiff]), rfl⟩
  rw [alGo] at hgo
  refine CwpE.seqJ (fun s => ∃ k', k' <= n + (x + 1) /\ alGo a b z (x + 1) k' = some R /\ s = ⟨alE p y a b k' x, [.arr 1 1 25 [vmel m]]⟩) ?_ ?_
  rotate_left
  ·rintro _ ⟨k', hk', hg', rfl⟩
   refine CwpE.vc ?_
   simp only [go_sem, ↓reduceIte, Nat.reduceLT, Nat.reduceEqDiff, xw]
   exact ⟨z, ⟨alE p y a b k' (x + 1), [.arr 1 1 25 [vmel m]]⟩, by omega, WkE.keep (by simp only [go_sem, ↓reduceIte, Nat.reduceEqDiff]), x + 1, k', by omega, by omega, hk', hg', rfl⟩
  refine CwpE.block ?_
  refine CwpE.cut (st := ⟨(13, vb (!filledAt x a)) :: alE p y a b k x, [.arr 1 1 25 [vmel m]]⟩) ?_ ?_
  ·by_cases hlt : x < a.length
   ·obtain ⟨v, gv⟩ : ∃ v, a[x]? = some v := ⟨_, List.getElem?_eq_getElem hlt⟩
    have e1 : ¬ (a.length : Int) <= (x : Int) := by omega
    have e2 : (if (x : Int) < (a.length : Int) - 1 then (x : Int) else (a.length : Int) - 1) = (x : Int) := by split <;> omega
    have e2' : (if (a.length : Int) - 1 < (x : Int) then (a.length : Int) - 1 else (x : Int)) = (x : Int) := by split <;> omega
    have e3 : (x : Int) < (a.length : Int) := by omega
    rw [filled_at gv]
    simp only [go_sem, ↓reduceIte, Nat.reduceLT, Nat.reduceEqDiff, List.length_map, e1, aw, e2', x0, List.getElem?_map, gv, Option.map_some]
    exact ⟨_, WkE.keep (by simp only [go_sem, ↓reduceIte, Nat.reduceEqDiff, Bool.not_not]), rfl⟩
   ·have e1 : (a.length : Int) <= (x : Int) := by omega
    rw [filled_out hlt]
    simp only [go_sem, ↓reduceIte, Nat.reduceLT, Nat.reduceEqDiff, List.length_map, e1]
    exact ⟨_, WkE.keep (by simp only [go_sem, ↓reduceIte, Nat.reduceEqDiff]), rfl⟩
  refine CwpE.cut (st := ⟨(13, vb (!filledAt x a)) :: (14, vb (!filledAt x b)) :: alE p y a b k x, [.arr 1 1 25 [vmel m]]⟩) ?_ ?_
  ·by_cases hlt : x < b.length
   ·obtain ⟨v, gv⟩ : ∃ v, b[x]? = some v := ⟨_, List.getElem?_eq_getElem hlt⟩
    have e1 : ¬ (b.length : Int) <= (x : Int) := by omega
    have e2 : (if (x : Int) < (b.length : Int) - 1 then (x : Int) else (b.length : Int) - 1) = (x : Int) := by split <;> omega
    have e2' : (if (b.length : Int) - 1 < (x : Int) then (b.length : Int) - 1 else (x : Int)) = (x : Int) := by split <;> omega
    have e3 : (x : Int) < (b.length : Int) := by omega
    rw [filled_at gv]
    simp only [go_sem, ↓reduceIte, Nat.reduceLT, Nat.reduceEqDiff, List.length_map, e1, bw, e2', x0, List.getElem?_map, gv, Option.map_some]
    exact ⟨_, WkE.keep (by simp only [go_sem, ↓reduceIte, Nat.reduceEqDiff, Bool.not_not]), rfl⟩
   ·have e1 : (b.length : Int) <= (x : Int) := by omega
    rw [filled_out hlt]
    simp only [go_sem, ↓reduceIte, Nat.reduceLT, Nat.reduceEqDiff, List.length_map, e1]
    exact ⟨_, WkE.keep (by simp only [go_sem, ↓reduceIte, Nat.reduceEqDiff]), rfl⟩
  cases fa : filledAt x a with
  | true =>
   rw [fa] at hgo
   simp only [Bool.true_or, if_true] at hgo
   refine CwpE.vc ?_
   simp only [go_sem, ↓reduceIte, Nat.reduceLT, Nat.reduceEqDiff, Bool.not_true]
   exact ⟨_, WkE.keep (by simp only [go_sem, ↓reduceIte, Nat.reduceEqDiff]), k, by omega, hgo, rfl⟩
  | false =>
   cases fb : filledAt x b with
   | true =>
    rw [fa, fb] at hgo
    simp only [Bool.or_true, if_true] at hgo
    refine CwpE.vc ?_
    simp only [go_sem, ↓reduceIte, Nat.reduceLT, Nat.reduceEqDiff, Bool.not_true, Bool.not_false]
    exact ⟨_, WkE.keep (by simp only [go_sem, ↓reduceIte, Nat.reduceEqDiff]), k, by omega, hgo, rfl⟩
   | false =>
    rw [fa, fb] at hgo
    simp only [Bool.or_self, Bool.false_eq_true, if_false] at hgo
    split at hgo
    rotate_left
    ·cases hgo
    rename_i hnext
    obtain ⟨ga, gb⟩ := Bool.and_eq_true_iff.1 hnext
    obtain ⟨u, hu, hu0, hul⟩ := filled_lt ga
    obtain ⟨v, hv, hv0, hvl⟩ := filled_lt gb
    have e1 : ¬ (a.length : Int) <= ((x + 1 : Nat) : Int) := by omega
    have e2 : ¬ (b.length : Int) <= ((x + 1 : Nat) : Int) := by omega
    have e3 : ((x + 1 : Nat) : Int) < (a.length : Int) := by omega
    have e4 : ((x + 1 : Nat) : Int) < (b.length : Int) := by omega
    have e5 : (0 : Int) <= ((x + 1 : Nat) : Int) := by omega
    refine CwpE.vc ?_
    simp only [go_sem, ↓reduceIte, Nat.reduceLT, Nat.reduceEqDiff, Bool.not_false, List.length_map, xw, e1, e2, e5, Int.toNat_natCast, List.getElem?_map, hu, hv, Option.map_some, hu0, hv0, kw]
    exact ⟨_, WkE.keep (by simp only [go_sem, ↓reduceIte, Nat.reduceEqDiff]), k + 1, by omega, hgo, rfl⟩
theorem mel_two (l : List Int) : (melP (1 :: l)).length = 2 := by
 have : atL (1 :: l) 0 2 = 1 := rfl
 simp [melP, this]
theorem head_of' {m : List (List (List Nt))} (hm : Vm m) : ∃ h, m[0]? = some h /\ h.length = manyP m := by
 cases m with
 | nil => exact absurd rfl (m_ne hm)
 | cons h t => exact ⟨h, rfl, rfl⟩
set_option maxRecDepth 100000 in
theorem MusicAligned_s (l : List Int) (w : Int) (hl : ∀ x ∈ l, I64 x) (hw : I64 w) (hlen : (1 + l.length) * 8 <= 140737488355328) : Ctr Tryd.prog 6 [vints l, vi w] (vb true) := by
 refine specC f6 (by simp) fun F0 w0 => ?_
 have b29 : I64 29 := ⟨by decide, by decide⟩
 have g29 := aroundL_bd (n := w) (most := 29) (by omega)
 have w29 : IntKind.i64.wrap (12 + aroundL w 29) = 12 + aroundL w 29 := wrap_id (by omega) (by omega)
 have hl1 : ∀ x ∈ (1 : Int) :: l, I64 x := fun x hx => by
  rcases List.mem_cons.1 hx with rfl | hx
  ·exact ⟨by decide, by decide⟩
  ·exact hl x hx
 have hm := melP_vm (1 :: l)
 have h2 := mel_two l
 have hml := vm_len hm
 have hen := enc_err hm (w := 12 + aroundL w 29) (by omega)
 obtain ⟨m, em⟩ : ∃ m, melP (1 :: l) = m := ⟨_, rfl⟩
 rw [em] at hm hml hen h2
 obtain ⟨E, hE⟩ : ∃ E, encP m (12 + aroundL w 29) = E := ⟨_, rfl⟩
 unfold c6
 refine CwpE.cut (st := ⟨[(0, vints l), (1, vi w)], []⟩) ?_ ?_
 ·simp only [go_sem, ↓reduceIte, Nat.reduceLT]
  exact ⟨_, WkE.keep (by simp only [go_sem, ↓reduceIte, reduceCtorEq, Nat.reduceEqDiff]), rfl⟩
 refine CwpE.seqJ (fun s => s = ⟨[(5, .ref 0 1 0 0), (1, vi w)], [.arr 1 1 25 [vmel m]]⟩) ?_ ?_
 ·refine CwpE.regionB 2 (by omega) rfl (by decide) ?_
  simp only [go_sem, ↓reduceIte, reduceCtorEq, Nat.reduceLT, Nat.reduceEqDiff, hlen, List.length_map]
  have hle : 1 + l.length = ((1 :: l).map vi).length := by simp; omega
  refine ⟨⟨[(17, vints (1 :: l)), (1, vi w)], []⟩, ?_, ?_⟩
  ·refine (WkE.freeze 17 0 (1 + l.length) 0 (1 + l.length) 1 3 ((1 :: l).map vi) (by omega) rfl rfl (by omega) (List.all_eq_true.2 fun y hy => by obtain ⟨v, _, rfl⟩ := List.mem_map.1 hy; rfl)).trans (WkE.round ?_ rfl rfl rfl)
   have e : List.take (1 + l.length) (List.drop 0 ((1 :: l).map vi)) = (1 :: l).map vi := List.take_of_length_le (by rw [List.drop_zero]; omega)
   rw [e]
   simp only [go_sem, ↓reduceIte, reduceCtorEq, Nat.reduceEqDiff]
   rfl
  simp only [go_sem, ↓reduceIte]
  refine callT (Melody_s (1 :: l) hl1) rfl ?_
  rw [em]
  simp only [go_sem, ↓reduceIte, Nat.reduceLT, Nat.reduceEqDiff]
  exact ⟨_, WkE.keep (by simp only [go_sem, ↓reduceIte, Nat.reduceEqDiff]), rfl⟩
 rintro _ rfl
 refine CwpE.cut (st := ⟨[(5, .ref 0 1 0 0), (6, vpage E.1), (7, ve E.2)], [.arr 1 1 25 [vmel m]]⟩) ?_ ?_
 ·simp only [go_sem, ↓reduceIte, Nat.reduceLT, Nat.reduceEqDiff]
  refine callT (Around_s w 29 hw b29) rfl ?_
  simp only [go_sem, ↓reduceIte, Nat.reduceLT, Nat.reduceEqDiff, w29]
  refine callT (Encode_s m (12 + aroundL w 29) hml.1 hml.2) rfl ?_
  rw [hE]
  simp only [go_sem, ↓reduceIte, Nat.reduceLT, Nat.reduceEqDiff]
  exact ⟨_, WkE.keep (by simp only [go_sem, ↓reduceIte, Nat.reduceEqDiff]), rfl⟩
 rcases hen with ⟨p, hp⟩ | hp
 rotate_left
 ·rw [hE] at hp
  subst hp
  refine CwpE.vc ?_
  simp only [go_sem, ↓reduceIte, Nat.reduceLT, Nat.reduceEqDiff, Int.reduceEq]
  refine callT lives_s rfl ?_
  simp only [go_sem, ↓reduceIte, Nat.reduceLT, Nat.reduceEqDiff]
  exact .tree _ rfl
 have hrows := enc_rows hp
 have hpl := hrows.1
 obtain ⟨L, hLl, hLs, hLp⟩ := page_pair hp h2
 rw [hE] at hp
 subst hp
 refine CwpE.cut (st := ⟨[(5, .ref 0 1 0 0), (6, vpage p)], [.arr 1 1 25 [vmel m]]⟩) ?_ ?_
 ·simp only [go_sem, ↓reduceIte, Nat.reduceLT, Nat.reduceEqDiff]
  exact ⟨_, WkE.keep (by simp only [go_sem, ↓reduceIte, Nat.reduceEqDiff]), rfl⟩
 have m2 : (m.length : Int) = 2 := by omega
 have p2 : (p.length : Int).tmod 2 = 0 := by
  have := Int.tmod_eq_emod_of_nonneg (a := (p.length : Int)) (b := 2) (by omega)
  omega
 refine CwpE.cut (st := ⟨[(5, .ref 0 1 0 0), (6, vpage p)], [.arr 1 1 25 [vmel m]]⟩) ?_ ?_
 ·simp only [go_sem, ↓reduceIte, Nat.reduceLT, Nat.reduceEqDiff, Int.reduceEq, List.length_map, m2, p2, decide_true]
  exact ⟨_, WkE.keep (by simp only [go_sem, ↓reduceIte, Nat.reduceEqDiff]), rfl⟩
 refine CwpE.cut (st := ⟨[(5, .ref 0 1 0 0), (6, vpage p), (8, vi (0 : Nat))], [.arr 1 1 25 [vmel m]]⟩) ?_ ?_
 ·simp only [go_sem, ↓reduceIte, Nat.reduceLT]
  exact ⟨_, WkE.keep (by simp only [go_sem, ↓reduceIte, Nat.reduceEqDiff]; rfl), rfl⟩
 have hpos := hm.pos
 have sumL : ∀ j, (L.take j).sum <= L.sum := fun j => by
  have := congrArg List.sum (List.take_append_drop j L)
  rw [List.sum_append] at this
  omega
 obtain ⟨h0, g0, l0⟩ := head_of' hm
 have m0 : (0 : Int) < 2 := by decide
 refine CwpE.seqJ (fun s => s = ⟨[(5, .ref 0 1 0 0), (8, vi (manyP m))], [.arr 1 1 25 [vmel m]]⟩) ?_ ?_
 rotate_left
 ·rintro _ rfl
  refine CwpE.vc ?_
  simp only [go_sem, ↓reduceIte, Nat.reduceLT, Nat.reduceEqDiff, Int.reduceToNat, Int.reduceToNat, Int.le_refl, List.length_map, List.getElem?_map, g0, Option.map_some, l0]
  refine callT lives_s rfl ?_
  simp only [go_sem, ↓reduceIte, Nat.reduceLT, Nat.reduceEqDiff]
  exact .tree _ rfl
 refine CwpE.cut (st := ⟨[(5, .ref 0 1 0 0), (6, vpage p), (8, vi (0 : Nat)), (9, vi (0 : Nat))], [.arr 1 1 25 [vmel m]]⟩) ?_ ?_
 ·simp only [go_sem, ↓reduceIte, Nat.reduceLT]
  exact ⟨_, WkE.keep (by simp only [go_sem, ↓reduceIte, Nat.reduceEqDiff]; rfl), rfl⟩
 refine CwpE.block ?_
 refine loopXC 0 (fun z s => ∃ j : Nat, j + z = L.length /\ s = ⟨[(5, .ref 0 1 0 0), (6, vpage p), (8, vi ((L.take j).sum : Nat)), (9, vi (2 * j : Nat))], [.arr 1 1 25 [vmel m]]⟩)
  (fun s => s = ⟨[(5, .ref 0 1 0 0), (8, vi (manyP m))], [.arr 1 1 25 [vmel m]]⟩) L.length _ (.refl _ _) ⟨0, by omega, rfl⟩ ?_ ?_
 rotate_left
 ·rintro s rfl
  simp only [inBlockE, if_true]
  exact ⟨_, .refl _ _, rfl⟩
 rintro z s ⟨j, hj, rfl⟩
 have j0 : (0 : Int) <= ((2 * j : Nat) : Int) := by omega
 have jw : IntKind.i64.wrap (((2 * j : Nat) : Int) + 1) = ((2 * j + 1 : Nat) : Int) := by rw [wrap_id (by omega) (by omega)]; omega
 cases z with
 | zero =>
  have j1 : ¬ ((2 * j + 1 : Nat) : Int) < (p.length : Int) := by omega
  have hs : (L.take j).sum = manyP m := by rw [List.take_of_length_le (by omega), hLs]
  rw [hs]
  refine CwpE.vc ?_
  simp only [go_sem, ↓reduceIte, Nat.reduceLT, Nat.reduceEqDiff, List.length_map, jw, j1]
  exact ⟨_, WkE.keep (by simp only [go_sem, ↓reduceIte, Nat.reduceEqDiff]), rfl⟩
 | succ z =>
  obtain ⟨k, hk⟩ : ∃ k, L[j]? = some k := ⟨_, List.getElem?_eq_getElem (by omega)⟩
  obtain ⟨x, y, gx, gy, hx, hy, hk1, hal⟩ := hLp j k hk
  have hsj := sumL (j + 1)
  have esum : (L.take (j + 1)).sum = (L.take j).sum + k := by rw [List.take_add_one, hk]; simp
  have hxl : 1 <= x.length := by cases x with | nil => exact absurd rfl hx | cons => simp
  have hyl : 1 <= y.length := by cases y with | nil => exact absurd rfl hy | cons => simp
  have hxr := (hrows.2.2 _ (List.mem_of_getElem? gx)).1
  have hyr := (hrows.2.2 _ (List.mem_of_getElem? gy)).1
  obtain ⟨S, hS⟩ : ∃ S, (L.take j).sum = S := ⟨_, rfl⟩
  rw [hS] at esum ⊢
  have Sw : IntKind.i64.wrap ((S : Int) + 1) = ((S + 1 : Nat) : Int) := by rw [wrap_id (by omega) (by omega)]; omega
  have j1 : ((2 * j + 1 : Nat) : Int) < (p.length : Int) := by omega
  have j2 : ((2 * j : Nat) : Int) < (p.length : Int) := by omega
  have j3 : (0 : Int) <= ((2 * j + 1 : Nat) : Int) := by omega
  have jw2 : IntKind.i64.wrap (((2 * j : Nat) : Int) + 2) = ((2 * (j + 1) : Nat) : Int) := by rw [wrap_id (by omega) (by omega)]; omega
  refine CwpE.cut (st := ⟨[(5, .ref 0 1 0 0), (6, vpage p), (8, vi S), (9, vi (2 * j : Nat))], [.arr 1 1 25 [vmel m]]⟩) ?_ ?_
  ·simp only [go_sem, ↓reduceIte, Nat.reduceLT, Nat.reduceEqDiff, List.length_map, jw, j1]
   exact ⟨_, WkE.keep (by simp only [go_sem, ↓reduceIte, Nat.reduceEqDiff]), rfl⟩
  refine CwpE.seqJ (fun s => s = ⟨[(5, .ref 0 1 0 0), (6, vpage p), (8, vi ((L.take (j + 1)).sum : Nat)), (9, vi (2 * j : Nat))], [.arr 1 1 25 [vmel m]]⟩) ?_ ?_
  rotate_left
  ·rintro _ rfl
   refine CwpE.vc ?_
   simp only [go_sem, ↓reduceIte, Nat.reduceLT, Nat.reduceEqDiff, jw2]
   exact ⟨z, ⟨[(5, .ref 0 1 0 0), (6, vpage p), (8, vi ((L.take (j + 1)).sum : Nat)), (9, vi (2 * (j + 1) : Nat))], [.arr 1 1 25 [vmel m]]⟩, by omega, WkE.keep (by simp only [go_sem, ↓reduceIte, Nat.reduceEqDiff]), j + 1, by omega, rfl⟩
  refine CwpE.block ?_
  refine CwpE.cut (st := ⟨[(5, .ref 0 1 0 0), (6, vpage p), (8, vi S), (9, vi (2 * j : Nat)), (10, vbytes (60 :: x))], [.arr 1 1 25 [vmel m]]⟩) ?_ ?_
  ·simp only [go_sem, ↓reduceIte, Nat.reduceLT, Nat.reduceEqDiff, List.getElem?_map, gx, Option.map_some, j0, Int.toNat_natCast]
   exact ⟨_, WkE.keep (by simp only [go_sem, ↓reduceIte, Nat.reduceEqDiff]), rfl⟩
  refine CwpE.cut (st := ⟨[(5, .ref 0 1 0 0), (6, vpage p), (8, vi S), (9, vi (2 * j : Nat)), (10, vbytes (60 :: x)), (11, vbytes (28 :: y))], [.arr 1 1 25 [vmel m]]⟩) ?_ ?_
  ·simp only [go_sem, ↓reduceIte, Nat.reduceLT, Nat.reduceEqDiff, List.getElem?_map, gy, Option.map_some, jw, j3, Int.toNat_natCast]
   exact ⟨_, WkE.keep (by simp only [go_sem, ↓reduceIte, Nat.reduceEqDiff]), rfl⟩
  have c1 : ¬ ((60 :: x).length : Int) < 2 := by simp only [List.length_cons]; omega
  have c2 : ¬ ((28 :: y).length : Int) < 2 := by simp only [List.length_cons]; omega
  have c3 : (0 : Int) < ((60 :: x).length : Int) := by simp only [List.length_cons]; omega
  have c4 : (0 : Int) < ((28 :: y).length : Int) := by simp only [List.length_cons]; omega
  have hR := hal (S + 1)
  have hRe : S + 1 + (k - 1) = (L.take (j + 1)).sum := by omega
  rw [hRe] at hR
  have d1 : (List.map vu (60 :: x)).length = (60 :: x).length := by simp
  have d2 : (List.map vu (28 :: y)).length = (28 :: y).length := by simp
  have d3 : (List.map vu (60 :: x))[0]? = some (vu 60) := rfl
  have d4 : (List.map vu (28 :: y))[0]? = some (vu 28) := rfl
  obtain ⟨A, hA⟩ : ∃ A, (60 :: x : List Int) = A := ⟨_, rfl⟩
  obtain ⟨B, hB⟩ : ∃ B, (28 :: y : List Int) = B := ⟨_, rfl⟩
  rw [hA] at c1 c3 d1 d3 hR hxr ⊢
  rw [hB] at c2 c4 d2 d4 hR hyr ⊢
  refine CwpE.cut (st := ⟨[(5, .ref 0 1 0 0), (6, vpage p), (8, vi S), (9, vi (2 * j : Nat)), (10, vbytes A), (11, vbytes B)], [.arr 1 1 25 [vmel m]]⟩) ?_ ?_
  ·simp only [go_sem, ↓reduceIte, Nat.reduceLT, Nat.reduceEqDiff, Int.reduceToNat, Int.reduceToNat, Int.le_refl, d1, d2, c1, c2, d3, d4]
   exact ⟨_, WkE.keep (by simp only [go_sem, ↓reduceIte, Nat.reduceEqDiff]), rfl⟩
  refine CwpE.cut (st := ⟨[(5, .ref 0 1 0 0), (6, vpage p), (8, vi (S + 1 : Nat)), (9, vi (2 * j : Nat)), (10, vbytes A), (11, vbytes B)], [.arr 1 1 25 [vmel m]]⟩) ?_ ?_
  ·simp only [go_sem, ↓reduceIte, Nat.reduceLT, Nat.reduceEqDiff, Sw]
   exact ⟨_, WkE.keep (by simp only [go_sem, ↓reduceIte, Nat.reduceEqDiff]), rfl⟩
  refine CwpE.cut (st := ⟨alE p (2 * j) A B (S + 1) 1, [.arr 1 1 25 [vmel m]]⟩) ?_ ?_
  ·simp only [go_sem, ↓reduceIte, Nat.reduceLT]
   exact ⟨_, WkE.keep (by simp only [go_sem, ↓reduceIte, Nat.reduceEqDiff]; rfl), rfl⟩
  refine (al_cols F0 w0 m p (2 * j) A B (S + 1) _ (by omega) (by omega) (by omega) hR (Q := fun e s => e = .normal /\ s = ⟨[(5, .ref 0 1 0 0), (6, vpage p), (8, vi ((L.take (j + 1)).sum : Nat)), (9, vi (2 * j : Nat))], [.arr 1 1 25 [vmel m]]⟩) ⟨rfl, rfl⟩).mono fun e s ⟨s', hw, he, hs⟩ => ?_
  subst he
  exact ⟨_, hw, hs⟩
end Go.Proofs.YtnncijjkbonokaaDoor
