import Derived.Test.YtehelanfgepcmaaG
set_option linter.unusedSimpArgs false
set_option linter.unusedVariables false
set_option linter.unusedSectionVars false
namespace Dac
open Go Go.RowKit
/-- Block b is a pair, not frozen. -/
def PairBox (t : TypeId) (w : World) (b : Nat) (p : Int × Int) : Prop := w.heap[b]? = some (.cells #[.int .i64 p.1, .int .i64 p.2] t (0, 0))
theorem PairBox.cells {t : TypeId} {w : World} {b : Nat} {p : Int × Int} (h : PairBox t w b p) : w.cell? ⟨b, 0, none⟩ = some (.int .i64 p.1) ∧ w.cell? ⟨b, 1, none⟩ = some (.int .i64 p.2) ∧ w.frozen? ⟨b, 0, none⟩ = false ∧ w.frozen? ⟨b, 1, none⟩ = false := by
  unfold PairBox at h
  refine ⟨?_, ?_, ?_, ?_⟩ <;> simp [World.cell?, World.frozen?, h]
theorem PairBox.lt {t : TypeId} {w : World} {b : Nat} {p : Int × Int} (h : PairBox t w b p) : b < w.heap.size := (Array.getElem?_eq_some_iff.1 h).1
theorem PairBox.ext {t : TypeId} {w w' : World} {b : Nat} {p : Int × Int} (h : PairBox t w b p) (hx : Ext w w') : PairBox t w' b p := (hx.block b h.lt).trans h
theorem PairBox.drewN {t : TypeId} {w : World} {b : Nat} {p : Int × Int} (h : PairBox t w b p) (n : Nat) : PairBox t (w.drewN n) b p := h
theorem PairBox.other {t : TypeId} {w : World} {b : Nat} {p : Int × Int} (h : PairBox t w b p) {a : Addr} (v : Value) (hb : b ≠ a.block) : PairBox t (w.setCell a v) b p :=
  (Below.heap_setCell w a v b hb).trans h
theorem PairBox.new {t : TypeId} (w : World) (x y : Int) : PairBox t (w.alloc (.cells #[.int .i64 x, .int .i64 y] t)) w.heap.size (x, y) := heap_alloc_new w _
theorem heap_setCell_same (w : World) (g i : Nat) (cur : Array Value) (t : TypeId) (fr : Nat × Nat) (v : Value) (h : w.heap[g]? = some (.cells cur t fr)) :
    (w.setCell ⟨g, i, none⟩ v).heap[g]? = some (.cells (cur.setIfInBounds i v) t fr) := by
  simp only [World.setCell, Array.getElem?_modify, h, if_true, Option.map_some]
  simp
theorem PairBox.set {t : TypeId} {w : World} {b : Nat} {p : Int × Int} (h : PairBox t w b p) (x y : Int) : PairBox t ((w.setCell ⟨b, 0, none⟩ (.int .i64 x)).setCell ⟨b, 1, none⟩ (.int .i64 y)) b (x, y) := by
  have h1 := heap_setCell_same w b 0 _ t _ (.int .i64 x) h
  have h2 := heap_setCell_same _ b 1 _ t _ (.int .i64 y) h1
  exact h2
end Dac
namespace Go.Proofs.Ytehelanfgepcmaa
open Go.RowKit Dac

abbrev endP (X : List (List (List Int))) : Nat × Nat := (X.length, 0)
/-- How many places are to come. -/
def rem (X : List (List (List Int))) (p : Nat × Nat) : Nat := ((X.drop p.1).map List.length).sum - p.2
def kAt (K : List (List Int)) (p : Nat × Nat) : Int := (K.getD p.1 []).getD p.2 0
/-- dactylref11.Least, from one round on. -/
def leastGo (X : List (List (List Int))) (width : Int) (K : List (List Int)) (f : Nat × Nat) : Nat → Nat × Nat → Int → Nat × Nat → Int × (Nat × Nat)
  | 0, _, best, a => (best, a)
  | n + 1, to, best, a =>
    let t := next X to
    if width < sizeL X f t then leastGo X width K f n t best a
    else
      let c := if t = endP X then 0 else kAt K t
      if c < 0 then leastGo X width K f n t best a
      else
        let c2 := wrap64 (c + priceL X width f t)
        if best < 0 ∨ c2 ≤ best then leastGo X width K f n t c2 t else leastGo X width K f n t best a
def leastL (X : List (List (List Int))) (width : Int) (K : List (List Int)) (f : Nat × Nat) : Int × (Nat × Nat) := leastGo X width K f (rem X f) f (-1) f

theorem rem_end (X : List (List (List Int))) : rem X (endP X) = 0 := by simp [rem]
theorem rem_drop (X : List (List (List Int))) (p : Nat) (hp : p < X.length) : ((X.drop p).map List.length).sum = X[p].length + ((X.drop (p + 1)).map List.length).sum := by
  rw [List.drop_eq_getElem_cons hp, List.map_cons, List.sum_cons]
theorem next_ok {X : List (List (List Int))} (hV : VW X) {p : Nat × Nat} (h : Pl X p) : En X (next X p) ∧ Lt p (next X p) ∧ rem X (next X p) + 1 = rem X p := by
  obtain ⟨p, i⟩ := p
  obtain ⟨hp, hi⟩ := h
  have hgd : X.getD p [] = X[p] := by simp at hp; simp [hp]
  dsimp only at hp hi
  have hr := rem_drop X p hp
  simp only [next, hgd]
  split
  · rename_i h
    refine ⟨.inr ⟨hp, h⟩, .inr ⟨rfl, by simp⟩, ?_⟩
    simp only [rem]; omega
  · rename_i h
    refine ⟨?_, .inl (by simp), ?_⟩
    · by_cases hq : p + 1 = X.length
      · exact .inl ⟨hq, rfl⟩
      · have hq' : p + 1 < X.length := by omega
        exact .inr ⟨hq', Nat.lt_of_lt_of_le Nat.zero_lt_one (hV.2 _ hq').1⟩
    · simp only [rem]
      omega
theorem Lt.trans {a b c : Nat × Nat} (h : Lt a b) (k : Lt b c) : Lt a c := by
  unfold Lt at *; omega
theorem rem_pos {X : List (List (List Int))} {p : Nat × Nat} (h : Pl X p) : 0 < rem X p := by
  obtain ⟨p, i⟩ := p
  obtain ⟨hp, hi⟩ := h
  dsimp only at hp hi
  have := rem_drop X p hp
  simp only [rem]; omega
theorem rem_zero {X : List (List (List Int))} {p : Nat × Nat} (h : En X p) (h0 : rem X p = 0) : p = endP X := by
  rcases h with h | h
  · exact Prod.ext h.1 h.2
  · have := rem_pos h; omega
end Go.Proofs.Ytehelanfgepcmaa
