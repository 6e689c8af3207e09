import Derived.Test.YtehelanfgepcmaaI
import Derived.Deep.OwnRows
set_option linter.unusedSimpArgs false
set_option linter.unusedVariables false
set_option linter.unusedSectionVars false
namespace Dac
open Go Go.RowKit

/-- A slice header over the whole of block g, read as (g, n); no memory is met. -/
def hdrR : Rdr (Nat × Nat) where
  size := 1
  rd _ _ cs x := cs = [.slice (some ⟨x.1, 0, none⟩) x.2 x.2]
  len h := by rw [h]; rfl
  one h u hu := by rw [h] at hu; simp at hu; subst hu; rfl
  stay h _ := h

def intCells (l : List Int) : Array Value := (l.map (Value.int .i64)).toArray

/-- Rows of numbers, each in a block of its own (gs), the slice of their headers being made by the call: all may be written. -/
structure Grid (w : World) (B : Nat) (eo ei : TypeId) (v : Value) (gs : List Nat) (K : List (List Int)) : Prop where
  out : Bld hdrR Any w B eo v (gs.zip (K.map List.length))
  len : gs.length = K.length
  row : ∀ p (h : p < gs.length) (h2 : p < K.length), w.heap[gs[p]]? = some (.cells (intCells K[p]) ei (0, 0)) ∧ B ≤ gs[p] ∧ v.ownBlock ≠ some gs[p]
  nodup : gs.Nodup
  fit : ∀ l ∈ K, l.length ≤ maxLen ∧ ∀ x ∈ l, I64 x

theorem Grid.nil (w : World) (B : Nat) (eo ei : TypeId) : Grid w B eo ei (.slice none 0 0) [] [] :=
  ⟨Bld.nil _ _ _ _ _, rfl, fun p h => absurd h (by simp), List.nodup_nil, fun l h => absurd h (by simp)⟩

theorem Grid.lt {w : World} {B : Nat} {eo ei : TypeId} {v : Value} {gs : List Nat} {K : List (List Int)} (h : Grid w B eo ei v gs K) : ∀ g ∈ gs, B ≤ g ∧ g < w.heap.size := by
  intro g hg
  obtain ⟨p, hp, rfl⟩ := List.getElem_of_mem hg
  have := h.row p hp (by rw [← h.len]; exact hp)
  exact ⟨this.2.1, (Array.getElem?_eq_some_iff.1 this.1).1⟩

theorem Grid.ext {w w' : World} {B : Nat} {eo ei : TypeId} {v : Value} {gs : List Nat} {K : List (List Int)} (h : Grid w B eo ei v gs K) (hx : Ext w w') : Grid w' B eo ei v gs K :=
  ⟨h.out.ext hx, h.len, fun p h1 h2 => ⟨(hx.block _ (h.lt _ (List.getElem_mem h1)).2).trans (h.row p h1 h2).1, (h.row p h1 h2).2⟩, h.nodup, h.fit⟩

theorem intCells_get (l : List Int) (i : Nat) (h : i < l.length) : (intCells l)[i]? = some (.int .i64 l[i]) := by simp [intCells, h]

/-- The grid reads as its rows. -/
theorem Grid.read {w : World} {B : Nat} {eo ei : TypeId} {v : Value} {gs : List Nat} {K : List (List Int)} (h : Grid w B eo ei v gs K) : rowsR.rd w (fun k => B ≤ k) [v] K := by
  obtain ⟨us, ho, hr⟩ := h.out
  have hlz : (gs.zip (K.map List.length)).length = K.length := by simp [h.len]
  have hrd := h.out.read (G := Any) (fun _ _ => trivial) (fun _ _ => trivial)
  obtain ⟨ad, cap, hv, l1, l2, e⟩ := Rdr.slice1 (R := hdrR) rfl hrd
  have hlt := World.ownsRow.lt ho
  refine ⟨ad, cap, by rw [hv, hlz], by rw [← hlz]; exact l1, l2, fun i hi => ?_⟩
  have hgi : i < gs.length := by rw [h.len]; exact hi
  obtain ⟨b, o, u, rfl, hu, hc⟩ := e i (by rw [hlz]; exact hi)
  have hu' : u = .slice (some ⟨gs[i], 0, none⟩) K[i].length K[i].length := by
    have : [u] = _ := hu
    simpa using this
  subst hu'
  have hb := hlt b (by rw [hv]; rfl)
  obtain ⟨r1, r2, r3⟩ := h.row i hgi hi
  obtain ⟨f1, f2⟩ := h.fit _ (List.getElem_mem hi)
  refine ⟨b, o, [_], rfl, hb.1, hb.2, ⟨_, _, rfl, Nat.le_refl _, f1, fun j hj => ⟨gs[i], 0, [.int .i64 K[i][j]], rfl, r2, (Array.getElem?_eq_some_iff.1 r1).1, ⟨rfl, f2 _ (List.getElem_mem hj)⟩, fun t u hu => ?_⟩⟩, fun t u hu => ?_⟩
  · match t, hu with
    | 0, hu =>
      simp at hu
      subst hu
      simp only [World.cell?, r1, Option.isSome_none, Bool.false_eq_true, if_false, show 0 + j * intR.size + 0 = j from by simp [intR]]
      exact intCells_get _ _ hj
  · match t, hu with
    | 0, hu =>
      simp at hu
      subst hu
      simpa [Rdr.slice] using hc
end Dac
namespace Dac
open Go Go.RowKit
/-- A further row: made in block g, its header appended. -/
theorem Grid.snoc {w w1 w' : World} {B : Nat} {eo ei : TypeId} {v v' : Value} {gs : List Nat} {K : List (List Int)} (h : Grid w B eo ei v gs K) (hx : Ext w w1) {g : Nat} {l : List Int}
    (hrow : w1.heap[g]? = some (.cells (intCells l) ei (0, 0))) (hg : w.heap.size ≤ g) (hB : B ≤ w.heap.size) (hb : Bld hdrR Any w' B eo v' (gs.zip (K.map List.length) ++ [(g, l.length)])) (hgr : w1.grownBy w' v.ownBlock)
    (hv : ∃ g', v'.ownBlock = some g' ∧ (v.ownBlock = some g' ∨ w1.heap.size ≤ g')) (hfit : l.length ≤ maxLen ∧ ∀ x ∈ l, I64 x) : Grid w' B eo ei v' (gs ++ [g]) (K ++ [l]) := by
  have hglt := (Array.getElem?_eq_some_iff.1 hrow).1
  obtain ⟨g', hv', hg'⟩ := hv
  have hown := h.out.lt
  refine ⟨?_, by simp [h.len], ?_, ?_, ?_⟩
  · rw [List.map_append, List.zip_append (by simp [h.len])]; exact hb
  · intro p hp hp2
    rw [List.length_append, List.length_singleton] at hp
    by_cases hlt : p < gs.length
    · have hlt2 : p < K.length := by rw [← h.len]; exact hlt
      obtain ⟨r1, r2, r3⟩ := h.row p hlt hlt2
      rw [List.getElem_append_left hlt, List.getElem_append_left hlt2]
      have hl := (h.lt _ (List.getElem_mem hlt)).2
      refine ⟨?_, r2, ?_⟩
      · rw [hgr.block _ (by have := hx.size; omega) (fun e => r3 e.symm), hx.block _ hl]; exact r1
      · rw [hv']
        rcases hg' with e | e
        · rw [← e]; exact r3
        · intro e2; simp at e2; have := hx.size; omega
    · have he : p = gs.length := by omega
      subst he
      rw [List.getElem_append_right (Nat.le_refl _), List.getElem_append_right (by rw [h.len]; exact Nat.le_refl _)]
      simp only [Nat.sub_self, List.getElem_cons_zero, h.len]
      refine ⟨?_, by omega, ?_⟩
      · rw [hgr.block g hglt (fun e => by have := (hown g e.symm).2; omega)]; exact hrow
      · rw [hv']
        rcases hg' with e | e
        · intro e2; simp at e2; have := (hown g' e).2; omega
        · intro e2; simp at e2; omega
  · rw [List.nodup_append]
    refine ⟨h.nodup, by simp, fun a ha b hb => ?_⟩
    simp at hb
    have := (h.lt a ha).2
    omega
  · intro x hx'
    rcases List.mem_append.1 hx' with h1 | h1
    · exact h.fit x h1
    · simp at h1; subst h1; exact hfit

/-- Headers meet no memory but their own row. -/
theorem hdr_grown {F : Nat → Prop} {w w' : World} {B : Nat} {e : TypeId} {v : Value} {xs : List (Nat × Nat)} {row : Option Nat} (h : Bld hdrR F w B e v xs) (hg : w.grownBy w' row) (hne : v.ownBlock = none ∨ v.ownBlock ≠ row) : Bld hdrR F w' B e v xs := by
  obtain ⟨us, ho, hr⟩ := h
  exact ⟨us, ho.kept hg hne, fun i hi => hr i hi⟩
theorem intCells_set (l : List Int) (i : Nat) (x : Int) : (intCells l).setIfInBounds i (.int .i64 x) = intCells (l.set i x) := by
  apply Array.ext'
  simp [intCells, List.map_set]

/-- 'out[p][i] = x' -/
theorem Grid.set {w : World} {B : Nat} {eo ei : TypeId} {v : Value} {gs : List Nat} {K : List (List Int)} (h : Grid w B eo ei v gs K) {p : Nat} (hp : p < gs.length) (hp2 : p < K.length) (i : Nat) (x : Int) (hx : I64 x) :
    Grid (w.setCell ⟨gs[p], i, none⟩ (.int .i64 x)) B eo ei v gs (K.set p (K[p].set i x)) := by
  obtain ⟨r1, r2, r3⟩ := h.row p hp hp2
  have hsz : (w.setCell ⟨gs[p], i, none⟩ (.int .i64 x)).heap.size = w.heap.size := by simp [World.setCell]
  have hlen : (K.set p (K[p].set i x)).map List.length = K.map List.length := by
    apply List.ext_getElem (by simp)
    intro j h1 h2
    simp only [List.getElem_map, List.getElem_set]
    split
    · rename_i e; subst e; simp
    · rfl
  refine ⟨?_, by simp [h.len], ?_, h.nodup, ?_⟩
  · rw [hlen]
    exact hdr_grown h.out (row := some gs[p]) ⟨rfl, rfl, rfl, by rw [hsz]; exact Nat.le_refl _, fun k hk hne => Below.heap_setCell _ _ _ _ (fun e => hne (by rw [e]))⟩ (.inr r3)
  · intro q hq hq2
    rw [List.length_set] at hq2
    obtain ⟨s1, s2, s3⟩ := h.row q hq hq2
    by_cases he : q = p
    · subst he
      refine ⟨?_, s2, s3⟩
      rw [heap_setCell_same w gs[q] i _ ei _ _ s1, intCells_set]
      simp
    · refine ⟨?_, s2, s3⟩
      rw [Below.heap_setCell _ _ _ _ (fun e => he ((List.getElem_inj h.nodup).1 e)), s1]
      simp [List.getElem_set, Ne.symm he]
  · intro l hl
    rcases List.mem_or_eq_of_mem_set hl with h1 | h1
    · exact h.fit l h1
    · subst h1
      obtain ⟨f1, f2⟩ := h.fit _ (List.getElem_mem hp2)
      refine ⟨by simpa using f1, fun y hy => ?_⟩
      rcases List.mem_or_eq_of_mem_set hy with h2 | h2
      · exact f2 y h2
      · rw [h2]; exact hx
end Dac
namespace Dac
open Go Go.RowKit
/-- The headers' cells. -/
theorem Grid.hdr {w : World} {B : Nat} {eo ei : TypeId} {v : Value} {gs : List Nat} {K : List (List Int)} (h : Grid w B eo ei v gs K) (hne : 0 < K.length) :
    ∃ gv cap, v = .slice (some ⟨gv, 0, none⟩) K.length cap ∧ B ≤ gv ∧ K.length ≤ 9223372036854775807 ∧ ∀ p (hp : p < gs.length) (hp2 : p < K.length), w.cell? ⟨gv, p, none⟩ = some (.slice (some ⟨gs[p], 0, none⟩) K[p].length K[p].length) := by
  have hlz : (gs.zip (K.map List.length)).length = K.length := by simp [h.len]
  obtain ⟨us, ho, hr⟩ := h.out
  have hrd := h.out.read (G := Any) (fun _ _ => trivial) (fun _ _ => trivial)
  obtain ⟨ad, cap, hv, l1, l2, e⟩ := Rdr.slice1 (R := hdrR) rfl hrd
  have hlt := World.ownsRow.lt ho
  rcases ho.2 with ⟨hn, h0⟩ | ⟨g, cap', cur, hv', hg, _⟩
  · rw [hlz] at h0; omega
  · rw [hv'] at hv
    simp only [Value.slice.injEq] at hv
    obtain ⟨rfl, -, rfl⟩ := hv
    refine ⟨g, cap', by rw [hv', hlz], hg, by rw [hlz] at l1; simp only [maxLen] at l2; omega, fun p hp hp2 => ?_⟩
    obtain ⟨b, o, u, he, hu, hc⟩ := e p (by rw [hlz]; exact hp2)
    simp only [Option.some.injEq, Addr.mk.injEq, and_true] at he
    obtain ⟨rfl, rfl⟩ := he
    have hu' : u = .slice (some ⟨gs[p], 0, none⟩) K[p].length K[p].length := by
      have : [u] = _ := hu
      simpa using this
    rw [Nat.zero_add, hu'] at hc
    exact hc
theorem Grid.rowCell {w : World} {B : Nat} {eo ei : TypeId} {v : Value} {gs : List Nat} {K : List (List Int)} (h : Grid w B eo ei v gs K) {p : Nat} (hp : p < gs.length) (hp2 : p < K.length) {i : Nat} (hi : i < K[p].length) :
    w.cell? ⟨gs[p], i, none⟩ = some (.int .i64 K[p][i]) ∧ w.frozen? ⟨gs[p], i, none⟩ = false := by
  obtain ⟨r1, -, -⟩ := h.row p hp hp2
  constructor
  · simp only [World.cell?, r1, Option.isSome_none, Bool.false_eq_true, if_false]
    exact intCells_get _ _ hi
  · simp [World.frozen?, r1]
theorem madeCells_int (n : Nat) : madeCells #[Value.int .i64 0] n = intCells (List.replicate n 0) := by
  apply Array.ext'
  apply List.ext_getElem?
  intro i
  simp only [intCells, List.map_replicate]
  by_cases h : i < n
  · simp [madeCells, Builtin.zeroCells, h, Nat.mod_one]
  · simp [madeCells, Builtin.zeroCells, h]
end Dac
namespace Dac
open Go Go.RowKit
/-- 'wpList_append_one', the new block's number spelled as it stands in the walk. -/
theorem wpList_append_at {P : Program} {w W : World} {ops : Array Oper} {rest : List Oper} {o : Oper} {a : Act} {Q : Exit → Act → World → Prop} {α : Type} (R : Rdr α) (F : Nat → Prop) (B : Nat) (hgd : o.guard = none) (s x : Operand) (t : TypeId)
    (ho : o.op = .call { callee := .builtin .append, args := #[s, x], argTypes := #[t, t] })
    (e : TypeId) (i : TypeInfo) (z : Value) (bytes : Nat) (ht : P.underlying t = some (.slice e)) (hi : P.info? e = some i) (hz : i.zero = some z)
    (hsize : i.size = R.size) (hby : i.bytes = bytes) (hzs : z.cells.size = R.size) (hsz : 0 < R.size)
    (v : Value) (xs : List α) (hs : a.eval s = v) (hb : Bld R F w B e v xs)
    (c N : Nat) (es : List Value) (y : α) (hx : a.eval x = .slice (some ⟨N, 0, none⟩) 1 c) (hy : R.rd w (fun k => F k ∧ some k ≠ v.ownBlock) es y)
    (h63 : xs.length + 1 ≤ 9223372036854775807) (hbytes : (xs.length + 1) * bytes ≤ 140737488355328) (hB : B ≤ w.heap.size) (hN : w.heap.size = N)
    (h : ∀ g cap w', Bld R F w' B e (.slice (some ⟨g, 0, none⟩) (xs.length + 1) cap) (xs ++ [y]) → w.grownBy w' v.ownBlock → B ≤ g → (v.ownBlock = some g ∨ w.heap.size ≤ g) →
      wpList P ops Q rest (a.put o.dst (.slice (some ⟨g, 0, none⟩) (xs.length + 1) cap)) w') (hW : W = w.alloc (.cells es.toArray e)) : wpList P ops Q (o :: rest) a W := by
  subst hN
  exact wpList_append_one R F B hgd s x t ho e i z bytes ht hi hz hsize hby hzs hsz v xs hs hb c es y hx hy h63 hbytes hB h hW
end Dac
