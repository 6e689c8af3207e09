import Derived.Test.YtehelanfgepcmaaU
import Derived.Test.YtehelanfgepcmaaP
import Derived.Carry
set_option linter.unusedSimpArgs false
set_option linter.unusedVariables false
set_option linter.unusedSectionVars false
namespace Go.Proofs.Ytehelanfgepcmaa
open Go.RowKit Dac
attribute [local go_sem] Oper.semAt_some

def mark (D : Nat) : Deferred := { target := .collected D, args := #[] }
theorem leaves_marks {F : Fence} {n : Nat} {P : Program} {fn : Func} {tmps : Array Value} {R : Ending → World → Prop} {B : Nat} (Q : World → Prop) (hQ : ∀ W D, Q W → W.heap[D]? = some (.deferred (some [])) → B ≤ D → Q (W.putObj D (.deferred none)))
    (hend : ∀ W, Q W → LeavesIn F n P fn tmps R [] .returning W) : ∀ (Ds : List Nat) (W : World), Ds.Nodup → (∀ D ∈ Ds, B ≤ D ∧ W.heap[D]? = some (.deferred (some []))) → Q W → LeavesInM F n P fn tmps R (Ds.map mark) .returning W
  | [], W, _, _, hq => hend W hq
  | D :: Ds, W, hn, hD, hq => by
    obtain ⟨h1, h2⟩ := hD D (by simp)
    obtain ⟨h3, h4⟩ := List.nodup_cons.1 hn
    refine ⟨by simp, .inl ⟨D, _, rfl, run_takeDeferred h2, leaves_marks Q hQ hend Ds _ h4 (fun D' hD' => ⟨(hD D' (by simp [hD'])).1, ?_⟩) (hQ W D hq h2 h1)⟩⟩
    rw [World.putObj_heap_other (fun e => h3 (by rw [← e]; exact hD'))]
    exact (hD D' (by simp [hD'])).2

/-- The map whose block is r holds T. -/
def Holds (W : World) (r : Nat) (T : Place → Option Int) : Prop := ∃ ks, MapAt pairV W r ks ∧ ∀ p : Place, mget ks ((p.1 : Int), (p.2 : Int)) = (T p).map (Value.int .i64)
theorem Holds.same {W W' : World} {r : Nat} {T : Place → Option Int} (h : Holds W r T) (hs : W'.heap[r]? = W.heap[r]?) : Holds W' r T := by
  obtain ⟨ks, ⟨es, c, h1, h2⟩, h3⟩ := h
  exact ⟨ks, ⟨es, c, hs.trans h1, h2⟩, h3⟩
theorem zero3 (w : World) : (zeroValue 3).run Try.prog w = .ok (.int .i64 0) w := by kernel_rfl
theorem Holds.look {W : World} {r : Nat} {T : Place → Option Int} (h : Holds W r T) (p : Place) : (Instr.lookup 71 (.map (some r)) (.agg #[.int .i64 p.1, .int .i64 p.2]) true).run Try.prog W = .ok (.tuple #[.int .i64 ((T p).getD 0), .bool (T p).isSome]) W := by
  obtain ⟨ks, h1, h2⟩ := h
  have := run_lookup_ok (pairKeys isPair) Try.underlying71 zero3 h1 ((p.1 : Int), (p.2 : Int))
  rw [h2 p] at this
  rw [show (Value.agg #[.int .i64 p.1, .int .i64 p.2]) = pairV ((p.1 : Int), (p.2 : Int)) from rfl, this]
  cases T p <;> rfl
theorem Holds.look1 {W : World} {r : Nat} {T : Place → Option Int} (h : Holds W r T) (p : Place) : (Instr.lookup 71 (.map (some r)) (.agg #[.int .i64 p.1, .int .i64 p.2]) false).run Try.prog W = .ok (.int .i64 ((T p).getD 0)) W := by
  obtain ⟨ks, h1, h2⟩ := h
  have := run_lookup_plain (pairKeys isPair) Try.underlying71 zero3 h1 ((p.1 : Int), (p.2 : Int))
  rw [h2 p] at this
  rw [show (Value.agg #[.int .i64 p.1, .int .i64 p.2]) = pairV ((p.1 : Int), (p.2 : Int)) from rfl, this]
  cases T p <;> rfl
theorem Holds.put {W : World} {r : Nat} {T : Place → Option Int} (h : Holds W r T) (p : Place) (x : Int) : ∃ W', (Instr.mapUpdate 71 (.map (some r)) (.agg #[.int .i64 p.1, .int .i64 p.2]) (.int .i64 x)).run Try.prog W = .ok () W' ∧ Holds W' r (upd T p (some x)) ∧ W.grownBy W' (some r) := by
  obtain ⟨ks, h1, h2⟩ := h
  obtain ⟨W', h3, h4, h5⟩ := run_mapUpdate (pairKeys isPair) Try.underlying71 h1 ((p.1 : Int), (p.2 : Int)) (.int .i64 x)
  refine ⟨W', h3, ⟨_, h4, fun q => ?_⟩, h5⟩
  rw [mget_mset, h2 q, upd]
  obtain ⟨a, b⟩ := p
  obtain ⟨c, d⟩ := q
  by_cases e : (c, d) = (a, b)
  · obtain ⟨rfl, rfl⟩ := Prod.mk.inj e
    rw [if_pos rfl, if_pos rfl]; rfl
  · rw [if_neg e, if_neg (fun e' => e (by simp only [Prod.mk.injEq] at e' ⊢; omega))]
theorem Holds.nil (W : World) : Holds (W.alloc (.map #[] 0)) W.heap.size (fun _ => none) := ⟨[], ⟨#[], 0, World.alloc_heap_new W _, rfl⟩, fun _ => rfl⟩
theorem Holds.obj {W : World} {r : Nat} {T : Place → Option Int} (h : Holds W r T) : ∃ o, W.heap[r]? = some o ∧ o.isCells = false := by
  obtain ⟨ks, ⟨es, c, h1, h2⟩, h3⟩ := h
  exact ⟨_, h1, rfl⟩
theorem Holds.lt {W : World} {r : Nat} {T : Place → Option Int} (h : Holds W r T) : r < W.heap.size := by
  obtain ⟨o, h1, _⟩ := h.obj
  exact (Array.getElem?_eq_some_iff.1 h1).1

/-- What costs holds from loop to loop: entered at world w. -/
structure Cst (w W : World) (n0 bm : Nat) (width : Int) (X : List (List (List Int))) (T : Place → Option Int) (Ds : List Nat) : Prop where
  ext : Ext w W
  sz : w.heap.size = n0
  hb : n0 + 2 < bm
  cw : W.cell? ⟨n0, 0, none⟩ = some (.int .i64 width)
  ce0 : W.cell? ⟨n0 + 1, 0, none⟩ = some (.int .i64 X.length)
  ce1 : W.cell? ⟨n0 + 1, 1, none⟩ = some (.int .i64 0)
  cm : W.cell? ⟨bm, 0, none⟩ = some (.map (some (n0 + 2)))
  map : Holds W (n0 + 2) T
  nodup : Ds.Nodup
  marks : ∀ D ∈ Ds, bm + 1 ≤ D ∧ W.heap[D]? = some (.deferred (some []))
theorem heap_grown {W W' : World} {row : Option Nat} {k : Nat} {o : Obj} (hg : W.grownBy W' row) (hk : W.heap[k]? = some o) (hr : row ≠ some k) : W'.heap[k]? = some o :=
  (hg.block k (Array.getElem?_eq_some_iff.1 hk).1 (fun e => hr e.symm)).trans hk
theorem Cst.own {w W W' : World} {n0 bm : Nat} {width : Int} {X : List (List (List Int))} {T : Place → Option Int} {Ds : List Nat} (h : Cst w W n0 bm width X T Ds) {B : Nat} {row : Option Nat} (hg : W.grownBy W' row) (hr : ∀ r, row = some r → B ≤ r ∧ ∃ o : Obj, W.heap[r]? = some o ∧ o.isCells = false)
    (hB : bm + 1 ≤ B) (hD : ∀ D ∈ Ds, D < B) : Cst w W' n0 bm width X T Ds where
  ext := by
    have h1 := ownFrom_below (β := Unit) (Nat.le_refl w.heap.size) (B := B) (w₀ := w) (by have := h.sz; have := h.hb; omega)
    exact h1 () W W' row h.ext hg hr
  sz := h.sz
  hb := h.hb
  cw := cell_kept h.cw hg (fun r e => (hr r e).2)
  ce0 := cell_kept h.ce0 hg (fun r e => (hr r e).2)
  ce1 := cell_kept h.ce1 hg (fun r e => (hr r e).2)
  cm := cell_kept h.cm hg (fun r e => (hr r e).2)
  map := h.map.same (hg.block _ h.map.lt (fun e => by have := (hr _ e.symm).1; have := h.hb; omega))
  nodup := h.nodup
  marks := fun D hd => ⟨(h.marks D hd).1, heap_grown hg (h.marks D hd).2 (fun e => by have := (hr _ e).1; have := hD D hd; omega)⟩
theorem Cst.alloc {w W : World} {n0 bm : Nat} {width : Int} {X : List (List (List Int))} {T : Place → Option Int} {Ds : List Nat} (h : Cst w W n0 bm width X T Ds) (o : Obj) : Cst w (W.alloc o) n0 bm width X T Ds where
  ext := h.ext.then (Ext.alloc W o)
  sz := h.sz
  hb := h.hb
  cw := (Ext.alloc W o).cell h.cw
  ce0 := (Ext.alloc W o).cell h.ce0
  ce1 := (Ext.alloc W o).cell h.ce1
  cm := (Ext.alloc W o).cell h.cm
  map := h.map.same (Below.heap_alloc W o _ h.map.lt)
  nodup := h.nodup
  marks := fun D hd => ⟨(h.marks D hd).1, (Below.heap_alloc W o _ (Array.getElem?_eq_some_iff.1 (h.marks D hd).2).1).trans (h.marks D hd).2⟩
theorem Cst.drewN {w W : World} {n0 bm : Nat} {width : Int} {X : List (List (List Int))} {T : Place → Option Int} {Ds : List Nat} (h : Cst w W n0 bm width X T Ds) (n : Nat) : Cst w (W.drewN n) n0 bm width X T Ds where
  ext := h.ext.then (Ext.drewN W n)
  sz := h.sz
  hb := h.hb
  cw := h.cw
  ce0 := h.ce0
  ce1 := h.ce1
  cm := h.cm
  map := h.map.same rfl
  nodup := h.nodup
  marks := h.marks
theorem Cst.put {w W W' : World} {n0 bm : Nat} {width : Int} {X : List (List (List Int))} {T T' : Place → Option Int} {Ds : List Nat} (h : Cst w W n0 bm width X T Ds) (hg : W.grownBy W' (some (n0 + 2))) (hm : Holds W' (n0 + 2) T') : Cst w W' n0 bm width X T' Ds where
  ext := h.ext.grown hg h.ext.size (fun j e => by cases e; have := h.sz; omega)
  sz := h.sz
  hb := h.hb
  cw := cell_kept h.cw hg (fun r e => by cases e; exact h.map.obj)
  ce0 := cell_kept h.ce0 hg (fun r e => by cases e; exact h.map.obj)
  ce1 := cell_kept h.ce1 hg (fun r e => by cases e; exact h.map.obj)
  cm := cell_kept h.cm hg (fun r e => by cases e; exact h.map.obj)
  map := hm
  nodup := h.nodup
  marks := fun D hd => ⟨(h.marks D hd).1, heap_grown hg (h.marks D hd).2 (fun e => by cases e; have := (h.marks _ hd).1; have := h.hb; omega)⟩
theorem Cst.more {w W : World} {n0 bm : Nat} {width : Int} {X : List (List (List Int))} {T : Place → Option Int} {Ds : List Nat} (h : Cst w W n0 bm width X T Ds) {D : Nat} (h1 : bm + 1 ≤ D) (h2 : ∀ D' ∈ Ds, D' < D) (h3 : W.heap[D]? = some (.deferred (some []))) : Cst w W n0 bm width X T (D :: Ds) :=
  { h with
    nodup := List.nodup_cons.2 ⟨fun hd => Nat.lt_irrefl _ (h2 D hd), h.nodup⟩
    marks := fun D' hd => by
      rcases List.mem_cons.1 hd with rfl | hd
      · exact ⟨h1, h3⟩
      · exact h.marks D' hd }

theorem cell_lt {W : World} {B o : Nat} {v : Value} (h : W.cell? ⟨B, o, none⟩ = some v) : B < W.heap.size := by
  unfold World.cell? at h
  by_cases hb : B < W.heap.size
  · exact hb
  · simp [Array.getElem?_eq_none (Nat.le_of_not_lt hb)] at h
/-- Cells keep what they hold. -/
def KeepC (A C : World) : Prop := ∀ (a : Addr) (u : Value), A.cell? a = some u → C.cell? a = some u
theorem KeepC.trans {A B C : World} (h : KeepC A B) (k : KeepC B C) : KeepC A C := fun a u e => k a u (h a u e)
theorem KeepC.of_grown {A C : World} {row : Option Nat} (hg : A.grownBy C row) (hr : ∀ r, row = some r → ∃ o : Obj, A.heap[r]? = some o ∧ o.isCells = false) : KeepC A C := fun _ _ e => cell_kept e hg hr
theorem keepC_put (W : World) (l : Nat) (o o' : Obj) (h1 : W.heap[l]? = some o) (h2 : o.isCells = false) : KeepC W (W.putObj l o') :=
  .of_grown (grownBy_putObj' W l o') (fun r e => by cases e; exact ⟨o, h1, h2⟩)
theorem upd_upd {T : Place → Option Int} {f : Place} {a c : Option Int} : upd (upd T f a) f c = upd T f c := by
  funext p; unfold upd; split <;> rfl
theorem body_put {w W W5 : World} {n0 bm : Nat} {width : Int} {X : List (List (List Int))} {T : Place → Option Int} {Ds : List Nat} {f : Place} {acc : Option Int} {y : Int} {nq B bf : Nat} {u v : Value} (h : Cst w W n0 bm width X (upd T f acc) Ds)
    (hg : (W.drewN nq).grownBy W5 (some (n0 + 2))) (hm : Holds W5 (n0 + 2) (upd (upd T f acc) f (some y))) (hB : bm + 1 ≤ B) (c0 : W.cell? ⟨bf, 0, none⟩ = some u) (c1 : W.cell? ⟨bf, 1, none⟩ = some v) :
    KeepsFrom B W W5 ∧ KeepC W W5 ∧ (Cst w W5 n0 bm width X (upd T f (some y)) Ds ∧ W5.cell? ⟨bf, 0, none⟩ = some u ∧ W5.cell? ⟨bf, 1, none⟩ = some v) := by
  have hb := h.hb
  have hd := h.drewN nq
  have ho := fun r (e : some (n0 + 2) = some r) => (by cases e; exact hd.map.obj : ∃ o : Obj, (W.drewN nq).heap[r]? = some o ∧ o.isCells = false)
  rw [upd_upd] at hm
  exact ⟨⟨hg.size, fun kk o hBk h0 hc => heap_grown hg (show (W.drewN nq).heap[kk]? = some o from h0) (fun e => by cases e; omega)⟩, fun a u e => cell_kept (show (W.drewN nq).cell? a = some u from e) hg ho,
    hd.put hg hm, cell_kept (show (W.drewN nq).cell? _ = some u from c0) hg ho, cell_kept (show (W.drewN nq).cell? _ = some v from c1) hg ho⟩
theorem body_keep {w W : World} {n0 bm : Nat} {width : Int} {X : List (List (List Int))} {T : Place → Option Int} {Ds : List Nat} {nq B bf : Nat} {u v : Value} (h : Cst w W n0 bm width X T Ds) (c0 : W.cell? ⟨bf, 0, none⟩ = some u) (c1 : W.cell? ⟨bf, 1, none⟩ = some v) :
    KeepsFrom B W (W.drewN nq) ∧ KeepC W (W.drewN nq) ∧ (Cst w (W.drewN nq) n0 bm width X T Ds ∧ (W.drewN nq).cell? ⟨bf, 0, none⟩ = some u ∧ (W.drewN nq).cell? ⟨bf, 1, none⟩ = some v) :=
  ⟨⟨Nat.le_refl _, fun _ _ _ h0 _ => h0⟩, fun _ _ e => e, h.drewN nq, c0, c1⟩
end Go.Proofs.Ytehelanfgepcmaa
