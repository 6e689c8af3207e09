import Derived.Test.YtehelanfgepcmaaHa
import Derived.Deep.OwnRows
set_option linter.unusedSimpArgs false
set_option linter.unusedVariables false
set_option linter.unusedSectionVars false
namespace Dac
open Go Go.RowKit

/-- A slice header over the whole of block g, read as (g, n); no memory is met. -/
def hdrR : Rdr (Nat × Nat) where
  size := 1
  rd _ _ cs x := cs = [.slice (some ⟨x.1, 0, none⟩) x.2 x.2]
  len h := by rw [h]; rfl
  one h u hu := by rw [h] at hu; simp at hu; subst hu; rfl
  stay h _ := h

def intCells (l : List Int) : Array Value := (l.map (Value.int .i64)).toArray

/-- Rows of numbers, each in a block of its own (gs), the slice of their headers being made by the call: all may be written. -/
structure Grid (w : World) (B : Nat) (eo ei : TypeId) (v : Value) (gs : List Nat) (K : List (List Int)) : Prop where
  out : Bld hdrR Any w B eo v (gs.zip (K.map List.length))
  len : gs.length = K.length
  row : ∀ p (h : p < gs.length) (h2 : p < K.length), w.heap[gs[p]]? = some (.cells (intCells K[p]) ei (0, 0)) ∧ B ≤ gs[p] ∧ v.ownBlock ≠ some gs[p]
  nodup : gs.Nodup
  fit : ∀ l ∈ K, l.length ≤ maxLen ∧ ∀ x ∈ l, I64 x

theorem Grid.nil (w : World) (B : Nat) (eo ei : TypeId) : Grid w B eo ei (.slice none 0 0) [] [] :=
  ⟨Bld.nil _ _ _ _ _, rfl, fun p h => absurd h (by simp), List.nodup_nil, fun l h => absurd h (by simp)⟩

theorem Grid.lt {w : World} {B : Nat} {eo ei : TypeId} {v : Value} {gs : List Nat} {K : List (List Int)} (h : Grid w B eo ei v gs K) : ∀ g ∈ gs, B ≤ g ∧ g < w.heap.size := by
  intro g hg
  obtain ⟨p, hp, rfl⟩ := List.getElem_of_mem hg
  have := h.row p hp (by rw [← h.len]; exact hp)
  exact ⟨this.2.1, (Array.getElem?_eq_some_iff.1 this.1).1⟩

theorem Grid.ext {w w' : World} {B : Nat} {eo ei : TypeId} {v : Value} {gs : List Nat} {K : List (List Int)} (h : Grid w B eo ei v gs K) (hx : Ext w w') : Grid w' B eo ei v gs K :=
  ⟨h.out.ext hx, h.len, fun p h1 h2 => ⟨(hx.block _ (h.lt _ (List.getElem_mem h1)).2).trans (h.row p h1 h2).1, (h.row p h1 h2).2⟩, h.nodup, h.fit⟩

theorem intCells_get (l : List Int) (i : Nat) (h : i < l.length) : (intCells l)[i]? = some (.int .i64 l[i]) := by simp [intCells, h]

/-- The grid reads as its rows. -/
theorem Grid.read {w : World} {B : Nat} {eo ei : TypeId} {v : Value} {gs : List Nat} {K : List (List Int)} (h : Grid w B eo ei v gs K) : rowsR.rd w (fun k => B ≤ k) [v] K := by
  obtain ⟨us, ho, hr⟩ := h.out
  have hlz : (gs.zip (K.map List.length)).length = K.length := by simp [h.len]
  have hrd := h.out.read (G := Any) (fun _ _ => trivial) (fun _ _ => trivial)
  obtain ⟨ad, cap, hv, l1, l2, e⟩ := Rdr.slice1 (R := hdrR) rfl hrd
  have hlt := World.ownsRow.lt ho
  refine ⟨ad, cap, by rw [hv, hlz], by rw [← hlz]; exact l1, l2, fun i hi => ?_⟩
  have hgi : i < gs.length := by rw [h.len]; exact hi
  obtain ⟨b, o, u, rfl, hu, hc⟩ := e i (by rw [hlz]; exact hi)
  have hu' : u = .slice (some ⟨gs[i], 0, none⟩) K[i].length K[i].length := by
    have : [u] = _ := hu
    simpa using this
  subst hu'
  have hb := hlt b (by rw [hv]; rfl)
  obtain ⟨r1, r2, r3⟩ := h.row i hgi hi
  obtain ⟨f1, f2⟩ := h.fit _ (List.getElem_mem hi)
  refine ⟨b, o, [_], rfl, hb.1, hb.2, ⟨_, _, rfl, Nat.le_refl _, f1, fun j hj => ⟨gs[i], 0, [.int .i64 K[i][j]], rfl, r2, (Array.getElem?_eq_some_iff.1 r1).1, ⟨rfl, f2 _ (List.getElem_mem hj)⟩, fun t u hu => ?_⟩⟩, fun t u hu => ?_⟩
  · match t, hu with
    | 0, hu =>
      simp at hu
      subst hu
      simp only [World.cell?, r1, Option.isSome_none, Bool.false_eq_true, if_false, show 0 + j * intR.size + 0 = j from by simp [intR]]
      exact intCells_get _ _ hj
  · match t, hu with
    | 0, hu =>
      simp at hu
      subst hu
      simpa [Rdr.slice] using hc
end Dac
namespace Dac
open Go Go.RowKit
/-- A further row: made in block g, its header appended. -/
theorem Grid.snoc {w w1 w' : World} {B : Nat} {eo ei : TypeId} {v v' : Value} {gs : List Nat} {K : List (List Int)} (h : Grid w B eo ei v gs K) (hx : Ext w w1) {g : Nat} {l : List Int}
    (hrow : w1.heap[g]? = some (.cells (intCells l) ei (0, 0))) (hg : w.heap.size ≤ g) (hB : B ≤ w.heap.size) (hb : Bld hdrR Any w' B eo v' (gs.zip (K.map List.length) ++ [(g, l.length)])) (hgr : w1.grownBy w' v.ownBlock)
    (hv : ∃ g', v'.ownBlock = some g' ∧ (v.ownBlock = some g' ∨ w1.heap.size ≤ g')) (hfit : l.length ≤ maxLen ∧ ∀ x ∈ l, I64 x) : Grid w' B eo ei v' (gs ++ [g]) (K ++ [l]) := by
  have hglt := (Array.getElem?_eq_some_iff.1 hrow).1
  obtain ⟨g', hv', hg'⟩ := hv
  have hown := h.out.lt
  refine ⟨?_, by simp [h.len], ?_, ?_, ?_⟩
  · rw [List.map_append, List.zip_append (by simp [h.len])]; exact hb
  · intro p hp hp2
    rw [List.length_append, List.length_singleton] at hp
    by_cases hlt : p < gs.length
    · have hlt2 : p < K.length := by rw [← h.len]; exact hlt
      obtain ⟨r1, r2, r3⟩ := h.row p hlt hlt2
      rw [List.getElem_append_left hlt, List.getElem_append_left hlt2]
      have hl := (h.lt _ (List.getElem_mem hlt)).2
      refine ⟨?_, r2, ?_⟩
      · rw [hgr.block _ (by have := hx.size; omega) (fun e => r3 e.symm), hx.block _ hl]; exact r1
      · rw [hv']
        rcases hg' with e | e
        · rw [← e]; exact r3
        · intro e2; simp at e2; have := hx.size; omega
    · have he : p = gs.length := by omega
      subst he
      rw [List.getElem_append_right (Nat.le_refl _), List.getElem_append_right (by rw [h.len]; exact Nat.le_refl _)]
      simp only [Nat.sub_self, List.getElem_cons_zero, h.len]
      refine ⟨?_, by omega, ?_⟩
      · rw [hgr.block g hglt (fun e => by have := (hown g e.symm).2; omega)]; exact hrow
      · rw [hv']
        rcases hg' with e | e
        · intro e2; simp at e2; have := (hown g' e).2; omega
        · intro e2; simp at e2; omega
  · rw [List.nodup_append]
    refine ⟨h.nodup, by simp, fun a ha b hb => ?_⟩
    simp at hb
    have := (h.lt a ha).2
    omega
  · intro x hx'
    rcases List.mem_append.1 hx' with h1 | h1
    · exact h.fit x h1
    · simp at h1; subst h1; exact hfit

/-- Headers meet no memory but their own row. -/
theorem hdr_grown {F : Nat → Prop} {w w' : World} {B : Nat} {e : TypeId} {v : Value} {xs : List (Nat × Nat)} {row : Option Nat} (h : Bld hdrR F w B e v xs) (hg : w.grownBy w' row) (hne : v.ownBlock = none ∨ v.ownBlock ≠ row) : Bld hdrR F w' B e v xs := by
  obtain ⟨us, ho, hr⟩ := h
  exact ⟨us, ho.kept hg hne, fun i hi => hr i hi⟩
theorem intCells_set (l : List Int) (i : Nat) (x : Int) : (intCells l).setIfInBounds i (.int .i64 x) = intCells (l.set i x) := by
  apply Array.ext'
  simp [intCells, List.map_set]

/-- 'out[p][i] = x' -/
theorem Grid.set {w : World} {B : Nat} {eo ei : TypeId} {v : Value} {gs : List Nat} {K : List (List Int)} (h : Grid w B eo ei v gs K) {p : Nat} (hp : p < gs.length) (hp2 : p < K.length) (i : Nat) (x : Int) (hx : I64 x) :
    Grid (w.setCell ⟨gs[p], i, none⟩ (.int .i64 x)) B eo ei v gs (K.set p (K[p].set i x)) := by
  obtain ⟨r1, r2, r3⟩ := h.row p hp hp2
  have hsz : (w.setCell ⟨gs[p], i, none⟩ (.int .i64 x)).heap.size = w.heap.size := by simp [World.setCell]
  have hlen : (K.set p (K[p].set i x)).map List.length = K.map List.length := by
    apply List.ext_getElem (by simp)
    intro j h1 h2
    simp only [List.getElem_map, List.getElem_set]
    split
    · rename_i e; subst e; simp
    · rfl
  refine ⟨?_, by simp [h.len], ?_, h.nodup, ?_⟩
  · rw [hlen]
    exact hdr_grown h.out (row := some gs[p]) ⟨rfl, rfl, rfl, by rw [hsz]; exact Nat.le_refl _, fun k hk hne => Below.heap_setCell _ _ _ _ (fun e => hne (by rw [e]))⟩ (.inr r3)
  · intro q hq hq2
    rw [List.length_set] at hq2
    obtain ⟨s1, s2, s3⟩ := h.row q hq hq2
    by_cases he : q = p
    · subst he
      refine ⟨?_, s2, s3⟩
      rw [heap_setCell_same w gs[q] i _ ei _ _ s1, intCells_set]
      simp
    · refine ⟨?_, s2, s3⟩
      rw [Below.heap_setCell _ _ _ _ (fun e => he ((List.getElem_inj h.nodup).1 e)), s1]
      simp [List.getElem_set, Ne.symm he]
  · intro l hl
    rcases List.mem_or_eq_of_mem_set hl with h1 | h1
    · exact h.fit l h1
    · subst h1
      obtain ⟨f1, f2⟩ := h.fit _ (List.getElem_mem hp2)
      refine ⟨by simpa using f1, fun y hy => ?_⟩
      rcases List.mem_or_eq_of_mem_set hy with h2 | h2
      · exact f2 y h2
      · rw [h2]; exact hx
end Dac
namespace Dac
open Go Go.RowKit
/-- The headers' cells. -/
theorem Grid.hdr {w : World} {B : Nat} {eo ei : TypeId} {v : Value} {gs : List Nat} {K : List (List Int)} (h : Grid w B eo ei v gs K) (hne : 0 < K.length) :
    ∃ gv cap, v = .slice (some ⟨gv, 0, none⟩) K.length cap ∧ B ≤ gv ∧ K.length ≤ 9223372036854775807 ∧ ∀ p (hp : p < gs.length) (hp2 : p < K.length), w.cell? ⟨gv, p, none⟩ = some (.slice (some ⟨gs[p], 0, none⟩) K[p].length K[p].length) := by
  have hlz : (gs.zip (K.map List.length)).length = K.length := by simp [h.len]
  obtain ⟨us, ho, hr⟩ := h.out
  have hrd := h.out.read (G := Any) (fun _ _ => trivial) (fun _ _ => trivial)
  obtain ⟨ad, cap, hv, l1, l2, e⟩ := Rdr.slice1 (R := hdrR) rfl hrd
  have hlt := World.ownsRow.lt ho
  rcases ho.2 with ⟨hn, h0⟩ | ⟨g, cap', cur, hv', hg, _⟩
  · rw [hlz] at h0; omega
  · rw [hv'] at hv
    simp only [Value.slice.injEq] at hv
    obtain ⟨rfl, -, rfl⟩ := hv
    refine ⟨g, cap', by rw [hv', hlz], hg, by rw [hlz] at l1; simp only [maxLen] at l2; omega, fun p hp hp2 => ?_⟩
    obtain ⟨b, o, u, he, hu, hc⟩ := e p (by rw [hlz]; exact hp2)
    simp only [Option.some.injEq, Addr.mk.injEq, and_true] at he
    obtain ⟨rfl, rfl⟩ := he
    have hu' : u = .slice (some ⟨gs[p], 0, none⟩) K[p].length K[p].length := by
      have : [u] = _ := hu
      simpa using this
    rw [Nat.zero_add, hu'] at hc
    exact hc
theorem Grid.rowCell {w : World} {B : Nat} {eo ei : TypeId} {v : Value} {gs : List Nat} {K : List (List Int)} (h : Grid w B eo ei v gs K) {p : Nat} (hp : p < gs.length) (hp2 : p < K.length) {i : Nat} (hi : i < K[p].length) :
    w.cell? ⟨gs[p], i, none⟩ = some (.int .i64 K[p][i]) ∧ w.frozen? ⟨gs[p], i, none⟩ = false := by
  obtain ⟨r1, -, -⟩ := h.row p hp hp2
  constructor
  · simp only [World.cell?, r1, Option.isSome_none, Bool.false_eq_true, if_false]
    exact intCells_get _ _ hi
  · simp [World.frozen?, r1]
theorem madeCells_int (n : Nat) : madeCells #[Value.int .i64 0] n = intCells (List.replicate n 0) := by
  apply Array.ext'
  apply List.ext_getElem?
  intro i
  simp only [intCells, List.map_replicate]
  by_cases h : i < n
  · simp [madeCells, Builtin.zeroCells, h, Nat.mod_one]
  · simp [madeCells, Builtin.zeroCells, h]
end Dac
namespace Dac
open Go Go.RowKit
/-- 'wpList_append_one', the new block's number spelled as it stands in the walk. -/
theorem wpList_append_at {P : Program} {w W : World} {ops : Array Oper} {rest : List Oper} {o : Oper} {a : Act} {Q : Exit → Act → World → Prop} {α : Type} (R : Rdr α) (F : Nat → Prop) (B : Nat) (hgd : o.guard = none) (s x : Operand) (t : TypeId)
    (ho : o.op = .call { callee := .builtin .append, args := #[s, x], argTypes := #[t, t] })
    (e : TypeId) (i : TypeInfo) (z : Value) (bytes : Nat) (ht : P.underlying t = some (.slice e)) (hi : P.info? e = some i) (hz : i.zero = some z)
    (hsize : i.size = R.size) (hby : i.bytes = bytes) (hzs : z.cells.size = R.size) (hsz : 0 < R.size)
    (v : Value) (xs : List α) (hs : a.eval s = v) (hb : Bld R F w B e v xs)
    (c N : Nat) (es : List Value) (y : α) (hx : a.eval x = .slice (some ⟨N, 0, none⟩) 1 c) (hy : R.rd w (fun k => F k ∧ some k ≠ v.ownBlock) es y)
    (h63 : xs.length + 1 ≤ 9223372036854775807) (hbytes : (xs.length + 1) * bytes ≤ 140737488355328) (hB : B ≤ w.heap.size) (hN : w.heap.size = N)
    (h : ∀ g cap w', Bld R F w' B e (.slice (some ⟨g, 0, none⟩) (xs.length + 1) cap) (xs ++ [y]) → w.grownBy w' v.ownBlock → B ≤ g → (v.ownBlock = some g ∨ w.heap.size ≤ g) →
      wpList P ops Q rest (a.put o.dst (.slice (some ⟨g, 0, none⟩) (xs.length + 1) cap)) w') (hW : W = w.alloc (.cells es.toArray e)) : wpList P ops Q (o :: rest) a W := by
  subst hN
  exact wpList_append_one R F B hgd s x t ho e i z bytes ht hi hz hsize hby hzs hsz v xs hs hb c es y hx hy h63 hbytes hB h hW
end Dac
set_option linter.unusedSimpArgs false
set_option linter.unusedVariables false
set_option linter.unusedSectionVars false
namespace Go.Proofs.Ytehelanfgepcmaa
open Go.RowKit Dac

def tblRow (X : List (List (List Int))) (width : Int) (p : Nat) : Nat → List (List Int) → List (List Int)
  | 0, K => K
  | n + 1, K => tblRow X width p n (K.set p ((K.getD p []).set n (leastL X width K (p, n)).1))
def tblAll (X : List (List (List Int))) (width : Int) : Nat → List (List Int) → List (List Int)
  | 0, K => K
  | n + 1, K => tblAll X width n (tblRow X width n (X.getD n []).length K)
/-- dactylref11.Table -/
def tableL (X : List (List (List Int))) (width : Int) : List (List Int) := tblAll X width X.length (X.map fun wd => List.replicate wd.length 0)

theorem wrap64_I64 (x : Int) : I64 (wrap64 x) := by unfold I64 wrap64; omega
theorem leastGo_I64 (X : List (List (List Int))) (width : Int) (K : List (List Int)) (f : Nat × Nat) : ∀ (n : Nat) (to : Nat × Nat) (best : Int) (a : Nat × Nat), I64 best → I64 (leastGo X width K f n to best a).1
  | 0, _, _, _, h => h
  | n + 1, to, best, a, h => by
    rw [leastGo]
    dsimp only
    split
    · exact leastGo_I64 X width K f n _ _ _ h
    · generalize (if next X to = endP X then 0 else kAt K (next X to)) = c
      split
      · exact leastGo_I64 X width K f n _ _ _ h
      · split
        · exact leastGo_I64 X width K f n _ _ _ (wrap64_I64 _)
        · exact leastGo_I64 X width K f n _ _ _ h
theorem leastL_I64 (X : List (List (List Int))) (width : Int) (K : List (List Int)) (f : Nat × Nat) : I64 (leastL X width K f).1 := leastGo_I64 _ _ _ _ _ _ _ _ (by unfold I64; omega)

/-- A table of costs has the shape of the words. -/
def Shp (X : List (List (List Int))) (K : List (List Int)) : Prop := K.length = X.length ∧ ∀ p (h : p < X.length) (h2 : p < K.length), K[p].length = X[p].length
theorem Shp.set {X : List (List (List Int))} {K : List (List Int)} (h : Shp X K) {p : Nat} (hp2 : p < K.length) (i : Nat) (x : Int) : Shp X (K.set p (K[p].set i x)) := by
  refine ⟨by rw [List.length_set]; exact h.1, fun q hq hq2 => ?_⟩
  rw [List.length_set] at hq2
  simp only [List.getElem_set]
  split
  · rename_i e; subst e; rw [List.length_set]; exact h.2 _ hq hq2
  · exact h.2 q hq hq2

/-- It returns a grid of its own that reads as T. -/
def TableQ (w : World) (T : List (List Int)) (e : Ending) (w' : World) : Prop := ∃ r gs, e = .returned r ∧ Ext w w' ∧ Grid w' w.heap.size 22 3 r gs T

set_option maxHeartbeats 2000000 in
theorem Table_ok (v : Value) (X : List (List (List Int))) (width : Int) (w : World) (hX : wordsR.rd w Any [v] X) (hV : VW X) (hw0 : 1 ≤ width ∧ width ≤ 512) :
    Calls Try.prog 43 #[v, .int .i64 width] w (TableQ w (tableL X width)) := by
  obtain ⟨ad, cap, rfl, l1, l2, el⟩ := rows hX
  unfold maxLen at l2
  obtain ⟨i0, hi, hz0, hz1, hz2⟩ := info_parts info22
  have h512 := hV.1
  have hT : tblAll X width X.length (X.map fun wd => List.replicate wd.length 0) = tableL X width := rfl
  generalize tableL X width = T at *
  have HT := hid hT; clear hT
  have HV := hid hV; clear hV
  have HX := hid hX; clear hX
  have HE := hid el; clear el
  go_enter Try.func43, Try.ntmps43
  go_wp2
  go_loopw [5, 6] (fun out i wr => ∃ (k : Nat) (gs : List Nat), k ≤ X.length ∧ i = .int .i64 k ∧ Ext w wr ∧ Grid wr w.heap.size 22 3 out gs ((X.take k).map fun wd => List.replicate wd.length 0)) (fun _ i _ => X.length - (intOf i).toNat)
  case atStart => exact ⟨0, [], by omega, rfl, Ext.rfl' _, Grid.nil _ _ _ _⟩
  case round =>
    obtain ⟨k, gs, hk, rfl, hx, hG⟩ := hrel
    have hle := hx.size
    have HGr := hid hG; clear hG
    by_cases hlt : k < X.length
    · obtain ⟨b, o, ua, uc, rfl, ru, cu, hul⟩ := HE.out k hlt
      have cu1 := hx.cell cu
      have h16 := (HV.out.2 k hlt).2.1
      have hlen : ((X.take k).map fun wd => List.replicate wd.length (0 : Int)).length = k := by rw [List.length_map, List.length_take_of_le (by omega)]
      have hzl : (gs.zip (((X.take k).map fun wd => List.replicate wd.length (0 : Int)).map List.length)).length = k := by rw [List.length_zip, List.length_map, HGr.out.len, hlen]; simp
      have hgl : gs.length = k := by rw [HGr.out.len, hlen]
      clear cu ru hul
      have hmk := run_make_row' (P := Try.prog) 22 3 (.int .i64 0) 8 Try.underlying22 info3 rfl .i64 .i64 X[k].length (by omega) (by omega)
      rw [madeCells_int] at hmk
      go_wp2_with (at_builtin; refine wpList_append_at (w := wr.alloc (.cells (intCells (List.replicate X[k].length 0)) 3)) hdrR Any w.heap.size rfl _ _ 28 rfl 22 i0 _ 24 Try.underlying28 hi hz0 hz1 hz2 rfl (by decide) _ _ rfl (HGr.out.out.ext (Ext.alloc _ _)) _ _ [_] (wr.heap.size, X[k].length) rfl rfl (by rw [hzl]; omega) (by rw [hzl]; omega) (by simp; omega) (by simp) ?_ rfl; intro g cp w1 hB1 hg1 hg2 hg3)
      go_roundw
      case rel =>
        refine ⟨k + 1, gs ++ [wr.heap.size], by omega, by go_num, Below.grown (Below.alloc hx hle _) hg1 (by simp; omega) (fun j e => (HGr.out.out.lt j e).1), ?_⟩
        have hs := Grid.snoc (l := List.replicate X[k].length 0) HGr.out (Ext.alloc _ _) (heap_alloc_new wr _) (Nat.le_refl _) hle (by rw [List.length_replicate]; exact hB1) hg1 ⟨g, rfl, hg3⟩ ⟨by unfold maxLen; simp; omega, fun x hx => by rw [List.eq_of_mem_replicate hx]; unfold I64; omega⟩
        rw [hzl] at hs
        rw [List.take_succ_eq_append_getElem hlt, List.map_append]
        exact hs
      case measure => first | (simp [intOf]; done) | (simp [intOf]; omega)
    · have hkX : X.take k = X := List.take_of_length_le (by omega)
      rw [hkX] at HGr
      have hgl : gs.length = X.length := by rw [HGr.out.len, List.length_map]
      have hsh : ∀ p (h : p < X.length) (h2 : p < (X.map fun wd => List.replicate wd.length (0 : Int)).length), ((X.map fun wd => List.replicate wd.length (0 : Int))[p]).length = X[p].length := fun p h h2 => by simp
      have hls : (X.map fun wd => List.replicate wd.length (0 : Int)).length = X.length := by simp
      have HTT := HT
      generalize (X.map fun wd => List.replicate wd.length (0 : Int)) = K0 at *
      clear HT
      have HSH : Hid (Shp X K0) := hid ⟨hls, hsh⟩
      clear hsh hls
      have HGL := hid hgl; clear hgl
      have HK := hid hkX; clear hkX
      go_wp2
      go_loopw [7] (fun i wr2 => ∃ (n : Nat) (K : List (List Int)), n ≤ X.length ∧ i = .int .i64 ((n : Int) - 1) ∧ tblAll X width n K = T ∧ Shp X K ∧ Ext w wr2 ∧ Grid wr2 w.heap.size 22 3 u5 gs K) (fun i _ => (intOf i + 1).toNat)
      case atStart => exact ⟨X.length, K0, Nat.le_refl _, rfl, HTT.out, HSH.out, hx, HGr.out⟩
      case round =>
        obtain ⟨n, K, hn, rfl, hT, hS, hx2, hG2⟩ := hrel
        have HT2 := hid hT; have HS2 := hid hS; have HX2 := hid hx2; have HG2 := hid hG2
        clear hT hS hx2 hG2 HGr HTT HSH hx
        by_cases hn0 : n = 0
        · subst hn0
          have g1 : ¬ (0 : Int) ≤ ((0 : Nat) : Int) - 1 := by omega
          go_wp2
          go_ret
          exact ⟨_, gs, rfl, HX2.out, by rw [← HT2.out]; exact HG2.out⟩
        · obtain ⟨m, rfl⟩ : ∃ m, n = m + 1 := ⟨n - 1, by omega⟩
          have hm : m < X.length := by omega
          obtain ⟨b, o, ua, uc, rfl, ru, cu, hul⟩ := HE.out m hm
          have cu1 := HX2.out.cell cu
          have h16 := (HV.out.2 m hm).2.1
          have hT3 : tblAll X width m (tblRow X width m X[m].length K) = T := by
            have := HT2.out
            rw [tblAll] at this
            rw [← this]
            simp [hm]
          have HT3 := hid hT3
          clear hT3 cu ru hul
          have g1 : (0 : Int) ≤ ((m + 1 : Nat) : Int) - 1 := by omega
          have g2 : ((m + 1 : Nat) : Int) - 1 = m := by omega
          rw [g2] at g1 ⊢
          clear g2
          go_wp2
          go_loopw [8] (fun j wr3 => ∃ (q : Nat) (K : List (List Int)), q ≤ X[m].length ∧ j = .int .i64 ((q : Int) - 1) ∧ tblAll X width m (tblRow X width m q K) = T ∧ Shp X K ∧ Ext w wr3 ∧ Grid wr3 w.heap.size 22 3 u5 gs K) (fun j _ => (intOf j + 1).toNat)
          case atStart => exact ⟨X[m].length, K, Nat.le_refl _, rfl, HT3.out, HS2.out, HX2.out, HG2.out⟩
          case round =>
            obtain ⟨q, K', hq, rfl, hT, hS, hx3, hG3⟩ := hrel
            have HT4 := hid hT; have HS4 := hid hS; have HX4 := hid hx3; have HG4 := hid hG3
            clear hT hS hx3 hG3 HT3 HT2 HS2 HX2 HG2
            by_cases hq0 : q = 0
            · subst hq0
              have g1 : ¬ (0 : Int) ≤ ((0 : Nat) : Int) - 1 := by omega
              go_wp2
              go_roundw
              case rel => exact ⟨m, K', by omega, by go_num, HT4.out, HS4.out, HX4.out, HG4.out⟩
              case measure => first | (simp [intOf]; done) | (simp [intOf]; omega)
            · obtain ⟨j, rfl⟩ : ∃ j, q = j + 1 := ⟨q - 1, by omega⟩
              have hmK : m < K'.length := by rw [HS4.out.1]; exact hm
              have hmg : m < gs.length := by rw [HGL.out]; exact hm
              have hjK : j < K'[m].length := by rw [HS4.out.2 m hm hmK]; omega
              obtain ⟨gv, cp, rfl, hgv, hKl, hh⟩ := HG4.out.hdr (by omega)
              have hc := hh m hmg hmK
              clear hh
              have g2 : ((j + 1 : Nat) : Int) - 1 = j := by omega
              have g1 : (0 : Int) ≤ (j : Int) := by omega
              rw [g2]
              clear g2
              have hL := fun W (hx : Ext wr W) => Least_ok _ _ X K' width (m, j) W (Rdr.ext _ HX.out (HX4.out.then hx)) HV.out hw0 (Rdr.any _ (Rdr.ext _ HG4.out.read hx)) HS4.out ⟨hm, (by show j < X[m].length; omega)⟩
              have HL := hid hL; clear hL
              go_wp2
              have he0 : Ext wr wr.drew := (Below.refl _ wr).drew
              have hc0 : wr.drew.cell? ⟨gv, m, none⟩ = some (.slice (some ⟨gs[m], 0, none⟩) K'[m].length K'[m].length) := hc
              have hne : gv ≠ gs[m] := fun e => (HG4.out.row m hmg hmK).2.2 (by rw [← e]; rfl)
              have HNE := hid hne; clear hne
              have HE0 := hid he0; clear he0
              have hI := leastL_I64 X width K' (m, j)
              have HI := hid hI; clear hI
              generalize hR : leastL X width K' (m, j) = R at HL HI
              obtain ⟨R1, R2, R3⟩ := R
              have HTR := hid hR; clear hR
              go_region_held3 (fun W => W.cell? ⟨gv, m, none⟩ = some (.slice (some ⟨gs[m], 0, none⟩) K'[m].length K'[m].length)) (first | exact hc0 | exact hcW | exact cell_of_heap (Below.heap_setCell _ _ _ _ HNE.out) hcW) (first | (go_at_call 44; refine (HL.out _ HE0.out).mono ?_; rintro e W ⟨rfl, hxW⟩; have hyW := hid (HE0.out.then hxW); clear hxW; have hcW := hyW.out.cell hc; obtain ⟨y1, y2⟩ := (HG4.out.ext hyW.out).rowCell hmg hmK hjK; unfold pairA))
              go_wp2
              go_roundw
              case rel =>
                refine ⟨j, K'.set m (K'[m].set j R1), by omega, by go_num, ?_, HS4.out.set hmK _ _, Below.setCell (HX4.out.then hyW.out) (HG4.out.row m hmg hmK).2.1 _, (HG4.out.ext hyW.out).set hmg hmK j R1 HI.out⟩
                have := HT4.out
                rw [tblRow, HTR.out] at this
                rw [← this]
                simp [hmK]
              case measure => first | (simp [intOf]; done) | (simp [intOf]; omega)
end Go.Proofs.Ytehelanfgepcmaa
set_option linter.unusedSimpArgs false
set_option linter.unusedVariables false
set_option linter.unusedSectionVars false
namespace Go.Proofs.Ytehelanfgepcmaa
open Go.RowKit Dac

def elOK (x : Int) : Bool := decide (0 ≤ x ∧ x ≤ 4096)
def rowOK (n i : Nat) (row : List Int) : Bool := decide (row.length = n - i) && row.all elOK
def wordOK (wd : List (List Int)) : Bool := decide (1 ≤ wd.length ∧ wd.length ≤ 16) && (List.range wd.length).all fun i => rowOK wd.length i (wd.getD i [])
def validB (X : List (List (List Int))) (width : Int) : Bool := decide (X.length ≤ 512) && decide (1 ≤ width ∧ width ≤ 512) && X.all wordOK

theorem rowOK_len {n i : Nat} {row : List Int} (h : row.length ≠ n - i) : rowOK n i row = false := by simp [rowOK, h]
theorem rowOK_el {n i j : Nat} {row : List Int} (hj : j < row.length) (h : elOK row[j] = false) : rowOK n i row = false := by
  rw [rowOK, Bool.and_eq_false_iff]; right
  rw [List.all_eq_false]; exact ⟨_, List.getElem_mem hj, by rw [h]; simp⟩
theorem wordOK_row {wd : List (List Int)} {i : Nat} (hi : i < wd.length) (h : rowOK wd.length i wd[i] = false) : wordOK wd = false := by
  rw [wordOK, Bool.and_eq_false_iff]; right
  rw [List.all_eq_false]; exact ⟨i, List.mem_range.2 hi, by simp [hi, h]⟩
theorem validB_word {X : List (List (List Int))} {width : Int} {p : Nat} (hp : p < X.length) (h : wordOK X[p] = false) : validB X width = false := by
  rw [validB, Bool.and_eq_false_iff]; right
  rw [List.all_eq_false]; exact ⟨_, List.getElem_mem hp, by rw [h]; simp⟩
theorem rowOK_mk {n i : Nat} {row : List Int} (h : row.length = n - i) (h2 : ∀ j (hj : j < row.length), elOK row[j] = true) : rowOK n i row = true := by
  simp only [rowOK, h, decide_true, Bool.true_and, List.all_eq_true]
  intro x hx
  obtain ⟨j, hj, rfl⟩ := List.getElem_of_mem hx
  exact h2 j hj
theorem wordOK_mk {wd : List (List Int)} (h : 1 ≤ wd.length ∧ wd.length ≤ 16) (h2 : ∀ i (hi : i < wd.length), rowOK wd.length i wd[i] = true) : wordOK wd = true := by
  simp only [wordOK, h, and_self, decide_true, Bool.true_and, List.all_eq_true, List.mem_range]
  intro i hi
  simp [hi, h2 i hi]
theorem validB_mk {X : List (List (List Int))} {width : Int} (h1 : X.length ≤ 512) (h2 : 1 ≤ width ∧ width ≤ 512) (h3 : ∀ p (hp : p < X.length), wordOK X[p] = true) : validB X width = true := by
  simp only [validB, h1, h2, and_self, decide_true, Bool.true_and, List.all_eq_true]
  intro x hx
  obtain ⟨j, hj, rfl⟩ := List.getElem_of_mem hx
  exact h3 j hj
theorem validB_VW {X : List (List (List Int))} {width : Int} (h : validB X width = true) : VW X ∧ 1 ≤ width ∧ width ≤ 512 := by
  simp only [validB, Bool.and_eq_true, decide_eq_true_eq, List.all_eq_true] at h
  obtain ⟨⟨h1, h2⟩, h3⟩ := h
  refine ⟨⟨h1, fun p hp => ?_⟩, h2⟩
  have hw := h3 _ (List.getElem_mem hp)
  simp only [wordOK, Bool.and_eq_true, decide_eq_true_eq, List.all_eq_true, List.mem_range] at hw
  refine ⟨hw.1.1, hw.1.2, fun i hi => ?_⟩
  have hr := hw.2 i hi
  simp only [List.getD_eq_getElem?_getD, List.getElem?_eq_getElem hi, Option.getD_some, rowOK, Bool.and_eq_true, decide_eq_true_eq, List.all_eq_true, elOK] at hr
  exact ⟨hr.1, hr.2⟩

set_option maxRecDepth 100000 in
set_option maxHeartbeats 4000000 in
theorem Valid_ok (v : Value) (X : List (List (List Int))) (width : Int) (w : World) (hX : wordsR.rd w Any [v] X) (hwi : I64 width) :
    Calls Try.prog 42 #[v, .int .i64 width] w (QRet w (.bool (validB X width))) := by
  obtain ⟨ad, cap, rfl, l1, l2, el⟩ := rows hX
  unfold maxLen at l2
  obtain ⟨wi1, wi2⟩ := hwi
  have HE := hid el; clear el hX
  by_cases c1 : X.length ≤ 512
  · by_cases c2 : width < 1
    · go_enter Try.func42, Try.ntmps42
      go_wp2
      go_ret
      exact ⟨ret_bool (by simp [validB]; omega), 0, rfl⟩
    · by_cases c3 : width ≤ 512
      · have HV := hid (fun h => validB_mk (X := X) c1 ⟨by omega, c3⟩ h)
        have HF := hid (fun p hp h => validB_word (X := X) (width := width) (p := p) hp h)
        generalize validB X width = R at HV HF
        go_enter Try.func42, Try.ntmps42
        go_wp2
        go_loop [5] (fun i => ∃ k : Nat, k ≤ X.length ∧ i = .int .i64 k ∧ ∀ p (hp : p < X.length), p < k → wordOK X[p] = true) (fun i => X.length - (intOf i).toNat)
        case atStart => exact ⟨0, by omega, rfl, fun p hp h => absurd h (by omega)⟩
        case round =>
          obtain ⟨k, hk, rfl, hall⟩ := hrel
          have HA := hid hall; clear hall
          by_cases hlt : k < X.length
          · obtain ⟨b, o, a2, c2', rfl, r2, cu, hul⟩ := HE.out k hlt
            unfold maxLen at hul
            have HR := hid r2; clear r2
            by_cases d1 : X[k].length < 1
            · go_wp2
              go_ret
              exact ⟨ret_bool (HF.out k hlt (by simp [wordOK]; omega)).symm, 0, rfl⟩
            · by_cases d2 : (16 : Int) < X[k].length
              · go_wp2
                go_ret
                exact ⟨ret_bool (HF.out k hlt (by simp [wordOK]; omega)).symm, 0, rfl⟩
              · obtain ⟨b2, o2, c2, hv2, l4, e2⟩ := rows_ne HR.out (by omega)
                simp only [Value.slice.injEq, true_and] at hv2
                obtain ⟨rfl, rfl⟩ := hv2
                have HE2 := hid e2; clear e2
                go_wp2
                go_loop [7] (fun i => ∃ q : Nat, q ≤ X[k].length ∧ i = .int .i64 q ∧ ∀ j (hj : j < X[k].length), j < q → rowOK X[k].length j X[k][j] = true) (fun i => X[k].length - (intOf i).toNat)
                case atStart => exact ⟨0, by omega, rfl, fun p hp h => absurd h (by omega)⟩
                case round =>
                  obtain ⟨q, hq, rfl, hall2⟩ := hrel
                  have HA2 := hid hall2; clear hall2
                  by_cases hlt2 : q < X[k].length
                  · obtain ⟨a3, c3, cu3, r3, l5⟩ := HE2.out q hlt2
                    by_cases e1 : X[k][q].length = X[k].length - q
                    · have e1' : ((X[k][q].length : Int) != (X[k].length : Int) - q) = false := by simp; omega
                      have HE1 := hid e1; clear e1
                      have HR3 := hid r3; clear r3
                      have hne : 0 < X[k][q].length := by rw [HE1.out]; omega
                      obtain ⟨b3, o3, c3, hv3, l6, e3⟩ := ints_ne HR3.out hne
                      simp only [Value.slice.injEq, true_and] at hv3
                      obtain ⟨rfl, rfl⟩ := hv3
                      have HE3 := hid e3; clear e3 hne
                      go_wp2
                      go_loop [8] (fun i => ∃ t : Nat, t ≤ X[k][q].length ∧ i = .int .i64 t ∧ ∀ j (hj : j < X[k][q].length), j < t → elOK X[k][q][j] = true) (fun i => X[k][q].length - (intOf i).toNat)
                      case atStart => exact ⟨0, by omega, rfl, fun p hp h => absurd h (by omega)⟩
                      case round =>
                        obtain ⟨t, ht, rfl, hall3⟩ := hrel
                        have HA3 := hid hall3; clear hall3
                        by_cases hlt3 : t < X[k][q].length
                        · have hlt4 : (t : Int) < (X[k].length : Int) - q := by have := HE1.out; omega
                          obtain ⟨-, cu4⟩ := HE3.out t hlt3
                          have HG := hid (show elOK X[k][q][t] = decide (0 ≤ X[k][q][t] ∧ X[k][q][t] ≤ 4096) from rfl)
                          by_cases f1 : X[k][q][t] < 0
                          · go_wp2
                            go_ret
                            exact ⟨ret_bool (HF.out k hlt (wordOK_row hlt2 (rowOK_el hlt3 (by rw [HG.out]; simp; omega)))).symm, 0, rfl⟩
                          · by_cases f2 : 4096 < X[k][q][t]
                            · go_wp2
                              go_ret
                              exact ⟨ret_bool (HF.out k hlt (wordOK_row hlt2 (rowOK_el hlt3 (by rw [HG.out]; simp; omega)))).symm, 0, rfl⟩
                            · go_wp2
                              go_round
                              case rel =>
                                refine ⟨t + 1, by omega, by go_num, fun j hj h => ?_⟩
                                by_cases he : j = t
                                · subst he; rw [HG.out]; simp; omega
                                · exact HA3.out j hj (by omega)
                              case measure => simp [intOf]; omega
                        · have hlt4 : ¬ (t : Int) < (X[k].length : Int) - q := by have := HE1.out; omega
                          go_wp2
                          go_round
                          case rel =>
                            refine ⟨q + 1, by omega, by go_num, fun j hj h => ?_⟩
                            by_cases he : j = q
                            · subst he; exact rowOK_mk HE1.out fun j hj => HA3.out j hj (by omega)
                            · exact HA2.out j hj (by omega)
                          case measure => simp [intOf]; omega
                    · have e1' : ((X[k][q].length : Int) != (X[k].length : Int) - q) = !false := by simp; omega
                      have HE1 := hid e1; clear e1
                      go_wp2
                      go_ret
                      exact ⟨ret_bool (HF.out k hlt (wordOK_row hlt2 (rowOK_len HE1.out))).symm, 0, rfl⟩
                  · go_wp2
                    go_round
                    case rel =>
                      refine ⟨k + 1, by omega, by go_num, fun j hj h => ?_⟩
                      by_cases he : j = k
                      · subst he; exact wordOK_mk ⟨by omega, by omega⟩ fun j hj => HA2.out j hj (by omega)
                      · exact HA.out j hj (by omega)
                    case measure => simp [intOf]; omega
          · go_wp2
            go_ret
            exact ⟨ret_bool (HV.out fun p hp => HA.out p hp (by omega)).symm, 0, rfl⟩
      · go_enter Try.func42, Try.ntmps42
        go_wp2
        go_ret
        exact ⟨ret_bool (by simp [validB]; omega), 0, rfl⟩
  · go_enter Try.func42, Try.ntmps42
    go_wp2
    go_ret
    exact ⟨ret_bool (by simp [validB]; omega), 0, rfl⟩
end Go.Proofs.Ytehelanfgepcmaa
set_option linter.unusedSimpArgs false
set_option linter.unusedVariables false
set_option linter.unusedSectionVars false
namespace Go.Proofs.Ytehelanfgepcmaa
open Go.RowKit Dac

abbrev Place := Nat × Nat
def laters (X : List (List (List Int))) : Nat → Place → List Place
  | 0, _ => []
  | n + 1, p => next X p :: laters X n (next X p)
/-- The places behind f, in their order, the end the last one. -/
def lat (X : List (List (List Int))) (f : Place) : List Place := laters X (rem X f) f
/-- The lines that begin at f, with what they and what follows them cost (T: the least cost of each place). -/
def cand (X : List (List (List Int))) (width : Int) (T : Place → Option Int) (f t : Place) : Option (Place × Int) :=
  if width < sizeL X f t then none else (T t).map fun c => (t, c + priceL X width f t)
def pickStep (acc : Option (Int × Place)) (x : Option (Place × Int)) : Option (Int × Place) :=
  match x with
  | none => acc
  | some (t, v) => match acc with
    | none => some (v, t)
    | some (b, a) => if v ≤ b then some (v, t) else some (b, a)
/-- The least cost at f, and the last line that has it. -/
def pick (X : List (List (List Int))) (width : Int) (T : Place → Option Int) (f : Place) : Option (Int × Place) :=
  (lat X f).foldl (fun acc t => pickStep acc (cand X width T f t)) none
def tOf (X : List (List (List Int))) (K : List (List Int)) (t : Place) : Option Int := if t = endP X then some 0 else if kAt K t < 0 then none else some (kAt K t)
def encB : Option (Int × Place) → Int
  | none => -1
  | some (b, _) => b
def encA (f : Place) : Option (Int × Place) → Place
  | none => f
  | some (_, a) => a
/-- A table of least costs. -/
def IsTab (X : List (List (List Int))) (width : Int) (K : List (List Int)) : Prop := Shp X K ∧ ∀ f, Pl X f → kAt K f = encB (pick X width (tOf X K) f)
/-- The ends of the lines of the best division from f on. -/
def IsEnds (X : List (List (List Int))) (width : Int) (K : List (List Int)) : Place → List Place → Prop
  | f, [] => f = endP X
  | f, t :: r => Pl X f ∧ (∃ b, pick X width (tOf X K) f = some (b, t)) ∧ IsEnds X width K t r

/-- Costs of the places behind f are within bounds. -/
def Bd (X : List (List (List Int))) (K : List (List Int)) (f : Place) : Prop := ∀ t, Pl X t → Lt f t → -1 ≤ kAt K t ∧ kAt K t ≤ rem X t * 10000000000000

theorem laters_mem {X : List (List (List Int))} (hV : VW X) : ∀ (n : Nat) (p : Place), En X p → rem X p = n → ∀ t ∈ laters X n p, Lt p t ∧ En X t
  | 0, _, _, _, t, h => by simp [laters] at h
  | n + 1, p, he, hn, t, h => by
    have hp : Pl X p := by
      rcases he with h0 | h0
      · have : p = endP X := Prod.ext h0.1 h0.2
        rw [this, rem_end] at hn; omega
      · exact h0
    obtain ⟨h1, h2, h3⟩ := next_ok hV hp
    simp only [laters, List.mem_cons] at h
    rcases h with rfl | h
    · exact ⟨h2, h1⟩
    · obtain ⟨k1, k2⟩ := laters_mem hV n (next X p) h1 (by omega) t h
      exact ⟨h2.trans k1, k2⟩
theorem lat_mem {X : List (List (List Int))} (hV : VW X) {f : Place} (hf : Pl X f) : ∀ t ∈ lat X f, Lt f t ∧ En X t := laters_mem hV _ f (.inr hf) rfl

theorem rem_le {X : List (List (List Int))} (hV : VW X) (p : Place) : rem X p ≤ 8192 := by
  have h : ∀ l : List (List (List Int)), (∀ x ∈ l, x.length ≤ 16) → (l.map List.length).sum ≤ 16 * l.length := by
    intro l
    induction l with
    | nil => simp
    | cons a l ih =>
      intro h
      have h1 := h a (by simp)
      have h2 := ih (fun x hx => h x (by simp [hx]))
      simp only [List.map_cons, List.sum_cons, List.length_cons]
      omega
  have h1 := h (X.drop p.1) (fun x hx => by
    obtain ⟨j, hj, rfl⟩ := List.getElem_of_mem (List.mem_of_mem_drop hx)
    exact (hV.2 j hj).2.1)
  have h2 : (X.drop p.1).length ≤ 512 := by rw [List.length_drop]; have := hV.1; omega
  unfold rem
  omega

theorem priceL_bd {X : List (List (List Int))} {width : Int} (hV : VW X) (hw : 1 ≤ width ∧ width ≤ 512) {f t : Place} (hf : Pl X f) (hl : Lt f t) (ht : En X t) : 4294967296 ≤ priceL X width f t ∧ priceL X width f t ≤ 10000000000000 := by
  have h1 := sizeL_bd hV hf hl ht
  have h2 := sq_bd (width - sizeL X f t) (by omega)
  unfold priceL
  split <;> omega

theorem rem_lt {X : List (List (List Int))} (hV : VW X) {f t : Place} (hf : Pl X f) (hl : Lt f t) (ht : En X t) : rem X t < rem X f := by
  rcases ht with h | ht
  · have : t = endP X := Prod.ext h.1 h.2
    rw [this, rem_end]; exact rem_pos hf
  · obtain ⟨p, i⟩ := f
    obtain ⟨q, j⟩ := t
    obtain ⟨hp, hi⟩ := hf
    obtain ⟨hq, hj⟩ := ht
    dsimp only at hp hi hq hj
    rcases hl with h | ⟨h, h2⟩
    · dsimp only at h
      have h3 : ∀ d, p + 1 + d = q → ((X.drop q).map List.length).sum ≤ ((X.drop (p + 1)).map List.length).sum := by
        intro d hd
        rw [← hd, ← List.drop_drop]
        have : ∀ (l : List (List (List Int))) (d : Nat), ((l.drop d).map List.length).sum ≤ (l.map List.length).sum := by
          intro l
          induction l with
          | nil => simp
          | cons a l ih =>
            intro d
            cases d with
            | zero => simp
            | succ d => have := ih d; simp only [List.drop_succ_cons, List.map_cons, List.sum_cons]; omega
        exact this _ _
      have h4 := h3 (q - p - 1) (by omega)
      have h5 := rem_drop X p hp
      have h6 := rem_drop X q hq
      simp only [rem]
      omega
    · dsimp only at h h2
      subst h
      have h5 := rem_drop X p hp
      simp only [rem]
      omega

/-- What Least reckons is the pick. -/
theorem leastGo_pick {X : List (List (List Int))} {width : Int} {K : List (List Int)} (hV : VW X) (hw : 1 ≤ width ∧ width ≤ 512) {f : Place} (hf : Pl X f) (hB : Bd X K f) :
    ∀ (n : Nat) (to : Place) (acc : Option (Int × Place)), En X to → (f = to ∨ Lt f to) → rem X to = n → (∀ b a, acc = some (b, a) → 0 ≤ b) →
      leastGo X width K f n to (encB acc) (encA f acc) = (encB ((laters X n to).foldl (fun acc t => pickStep acc (cand X width (tOf X K) f t)) acc), encA f ((laters X n to).foldl (fun acc t => pickStep acc (cand X width (tOf X K) f t)) acc))
  | 0, _, _, _, _, _, _ => rfl
  | n + 1, to, acc, he, hl, hn, hacc => by
    have hp : Pl X to := by
      rcases he with h0 | h0
      · have : to = endP X := Prod.ext h0.1 h0.2
        rw [this, rem_end] at hn; omega
      · exact h0
    obtain ⟨h1, h2, h3⟩ := next_ok hV hp
    have hlt : Lt f (next X to) := by
      rcases hl with h | h
      · rw [h]; exact h2
      · exact h.trans h2
    have ih := fun acc' h => leastGo_pick hV hw hf hB n (next X to) acc' h1 (.inr hlt) (by omega) h
    rw [leastGo]
    simp only [laters, List.foldl_cons]
    by_cases c1 : width < sizeL X f (next X to)
    · rw [if_pos c1]
      have : cand X width (tOf X K) f (next X to) = none := by rw [cand, if_pos c1]
      rw [this]
      exact ih acc hacc
    · rw [if_neg c1]
      have hpr := priceL_bd hV hw hf hlt h1
      by_cases c2 : next X to = endP X
      · have hc : cand X width (tOf X K) f (next X to) = some (next X to, 0 + priceL X width f (next X to)) := by rw [cand, if_neg c1, tOf, if_pos c2]; rfl
        rw [hc, if_pos c2, if_neg (by omega), wrap64_id (by omega) (by omega)]
        cases acc with
        | none =>
          rw [if_pos (.inl (by simp [encB]))]
          exact ih (some (_, _)) (fun b a h => by cases h; omega)
        | some x =>
          obtain ⟨b, a⟩ := x
          have hb := hacc b a rfl
          by_cases h : 0 + priceL X width f (next X to) ≤ b
          · have hs : pickStep (some (b, a)) (some (next X to, 0 + priceL X width f (next X to))) = some (0 + priceL X width f (next X to), next X to) := by simp only [pickStep, if_pos h]
            rw [hs, if_pos (show encB (some (b, a)) < 0 ∨ 0 + priceL X width f (next X to) ≤ encB (some (b, a)) from .inr h)]
            exact ih (some (_, _)) (fun b a h => by cases h; omega)
          · have hs : pickStep (some (b, a)) (some (next X to, 0 + priceL X width f (next X to))) = some (b, a) := by simp only [pickStep, if_neg h]
            rw [hs, if_neg (show ¬ (encB (some (b, a)) < 0 ∨ 0 + priceL X width f (next X to) ≤ encB (some (b, a))) from fun h2 => by rcases h2 with h2 | h2; exact absurd h2 (by show ¬ b < 0; omega); exact h h2)]
            exact ih (some (b, a)) (fun b' a' h => by cases h; exact hb)
      · have hpt : Pl X (next X to) := by
          rcases h1 with h | h
          · exact absurd (Prod.ext h.1 h.2) c2
          · exact h
        obtain ⟨b1, b2⟩ := hB _ hpt hlt
        have hr := rem_le hV (next X to)
        rw [if_neg c2]
        by_cases c3 : kAt K (next X to) < 0
        · rw [if_pos c3]
          have hc : cand X width (tOf X K) f (next X to) = none := by rw [cand, if_neg c1, tOf, if_neg c2, if_pos c3]; rfl
          rw [hc]
          exact ih acc hacc
        · rw [if_neg c3]
          have hc : cand X width (tOf X K) f (next X to) = some (next X to, kAt K (next X to) + priceL X width f (next X to)) := by rw [cand, if_neg c1, tOf, if_neg c2, if_neg c3]; rfl
          rw [hc, wrap64_id (by omega) (by omega)]
          cases acc with
          | none =>
            rw [if_pos (.inl (by simp [encB]))]
            exact ih (some (_, _)) (fun b a h => by cases h; omega)
          | some x =>
            obtain ⟨b, a⟩ := x
            have hb := hacc b a rfl
            by_cases h : kAt K (next X to) + priceL X width f (next X to) ≤ b
            · have hs : pickStep (some (b, a)) (some (next X to, kAt K (next X to) + priceL X width f (next X to))) = some (kAt K (next X to) + priceL X width f (next X to), next X to) := by simp only [pickStep, if_pos h]
              rw [hs, if_pos (show encB (some (b, a)) < 0 ∨ kAt K (next X to) + priceL X width f (next X to) ≤ encB (some (b, a)) from .inr h)]
              exact ih (some (_, _)) (fun b a h => by cases h; omega)
            · have hs : pickStep (some (b, a)) (some (next X to, kAt K (next X to) + priceL X width f (next X to))) = some (b, a) := by simp only [pickStep, if_neg h]
              rw [hs, if_neg (show ¬ (encB (some (b, a)) < 0 ∨ kAt K (next X to) + priceL X width f (next X to) ≤ encB (some (b, a))) from fun h2 => by rcases h2 with h2 | h2; exact absurd h2 (by show ¬ b < 0; omega); exact h h2)]
              exact ih (some (b, a)) (fun b' a' h => by cases h; exact hb)
theorem leastL_pick {X : List (List (List Int))} {width : Int} {K : List (List Int)} (hV : VW X) (hw : 1 ≤ width ∧ width ≤ 512) {f : Place} (hf : Pl X f) (hB : Bd X K f) :
    leastL X width K f = (encB (pick X width (tOf X K) f), encA f (pick X width (tOf X K) f)) :=
  leastGo_pick hV hw hf hB _ f none (.inr hf) (.inl rfl) rfl (fun _ _ h => by cases h)
end Go.Proofs.Ytehelanfgepcmaa
set_option linter.unusedSimpArgs false
set_option linter.unusedVariables false
set_option linter.unusedSectionVars false
namespace Go.Proofs.Ytehelanfgepcmaa
open Go.RowKit Dac

theorem fold_mem {X : List (List (List Int))} {width : Int} {T : Place → Option Int} {f : Place} : ∀ (l : List Place) (acc : Option (Int × Place)) (b : Int) (a : Place),
    l.foldl (fun acc t => pickStep acc (cand X width T f t)) acc = some (b, a) → acc = some (b, a) ∨ (a ∈ l ∧ cand X width T f a = some (a, b))
  | [], _, _, _, h => .inl h
  | t :: l, acc, b, a, h => by
    rw [List.foldl_cons] at h
    rcases fold_mem l _ b a h with h1 | ⟨h1, h2⟩
    · cases hc : cand X width T f t with
      | none => rw [hc] at h1; exact .inl h1
      | some y =>
        obtain ⟨t', v⟩ := y
        have ht' : t' = t := by
          rw [cand] at hc
          split at hc
          · cases hc
          · cases hT : T t with
            | none => rw [hT] at hc; cases hc
            | some c => rw [hT] at hc; simp at hc; exact hc.1.symm
        subst ht'
        rw [hc] at h1
        cases acc with
        | none =>
          simp only [pickStep, Option.some.injEq, Prod.mk.injEq] at h1
          obtain ⟨rfl, rfl⟩ := h1
          exact .inr ⟨by simp, hc⟩
        | some z =>
          obtain ⟨b0, a0⟩ := z
          simp only [pickStep] at h1
          split at h1
          · simp only [Option.some.injEq, Prod.mk.injEq] at h1
            obtain ⟨rfl, rfl⟩ := h1
            exact .inr ⟨by simp, hc⟩
          · exact .inl h1
    · exact .inr ⟨by simp [h1], h2⟩
theorem pick_mem {X : List (List (List Int))} {width : Int} {T : Place → Option Int} {f : Place} {b : Int} {a : Place} (h : pick X width T f = some (b, a)) :
    a ∈ lat X f ∧ ¬ width < sizeL X f a ∧ ∃ c, T a = some c ∧ b = c + priceL X width f a := by
  rcases fold_mem _ _ _ _ h with h1 | ⟨h1, h2⟩
  · cases h1
  · refine ⟨h1, ?_⟩
    rw [cand] at h2
    split at h2
    · cases h2
    · rename_i h3
      refine ⟨h3, ?_⟩
      cases hT : T a with
      | none => rw [hT] at h2; cases h2
      | some c => rw [hT] at h2; simp at h2; exact ⟨c, rfl, h2.symm⟩
theorem pick_congr {X : List (List (List Int))} {width : Int} {T T' : Place → Option Int} {f : Place} (h : ∀ t ∈ lat X f, T t = T' t) : pick X width T f = pick X width T' f := by
  unfold pick
  have : ∀ (l : List Place) (acc : Option (Int × Place)), (∀ t ∈ l, T t = T' t) → l.foldl (fun acc t => pickStep acc (cand X width T f t)) acc = l.foldl (fun acc t => pickStep acc (cand X width T' f t)) acc := by
    intro l
    induction l with
    | nil => intros; rfl
    | cons t l ih =>
      intro acc hl
      rw [List.foldl_cons, List.foldl_cons, show cand X width T f t = cand X width T' f t from by rw [cand, cand, hl t (by simp)]]
      exact ih _ fun t ht => hl t (by simp [ht])
  exact this _ _ h

theorem tOf_congr {X : List (List (List Int))} {K K' : List (List Int)} {t : Place} (h : t = endP X ∨ kAt K t = kAt K' t) : tOf X K t = tOf X K' t := by
  unfold tOf
  rcases h with h | h
  · rw [if_pos h, if_pos h]
  · rw [h]
theorem En.cases {X : List (List (List Int))} {t : Place} (h : En X t) : t = endP X ∨ Pl X t := by
  rcases h with h | h
  · exact .inl (Prod.ext h.1 h.2)
  · exact .inr h
theorem pick_bd {X : List (List (List Int))} {width : Int} {K : List (List Int)} (hV : VW X) (hw : 1 ≤ width ∧ width ≤ 512) {f : Place} (hf : Pl X f) (hB : Bd X K f) :
    -1 ≤ encB (pick X width (tOf X K) f) ∧ encB (pick X width (tOf X K) f) ≤ rem X f * 10000000000000 := by
  cases hp : pick X width (tOf X K) f with
  | none => simp only [encB]; omega
  | some x =>
    obtain ⟨b, a⟩ := x
    obtain ⟨h1, h2, c, h3, rfl⟩ := pick_mem hp
    obtain ⟨h4, h5⟩ := lat_mem hV hf a h1
    have h6 := priceL_bd hV hw hf h4 h5
    have h7 := rem_lt hV hf h4 h5
    simp only [encB]
    unfold tOf at h3
    split at h3
    · cases h3; omega
    · rename_i hne
      have hpa := h5.cases.resolve_left hne
      obtain ⟨k1, k2⟩ := hB a hpa h4
      split at h3
      · cases h3
      · simp only [Option.some.injEq] at h3
        omega

theorem kAt_set {K : List (List Int)} {p i : Nat} (hp : p < K.length) (hi : i < K[p].length) (x : Int) (t : Place) : kAt (K.set p (K[p].set i x)) t = if t = (p, i) then x else kAt K t := by
  obtain ⟨q, j⟩ := t
  simp only [kAt, Prod.mk.injEq]
  by_cases hq : q = p
  · subst hq
    have : (K.set q (K[q].set i x)).getD q [] = K[q].set i x := by simp [hp]
    rw [this]
    have h2 : K.getD q [] = K[q] := by simp [hp]
    rw [h2]
    by_cases hj : j = i
    · subst hj; simp [hi]
    · simp [hj, List.getElem?_set, Ne.symm hj]
  · have : (K.set p (K[p].set i x)).getD q [] = K.getD q [] := by simp [List.getElem?_set, Ne.symm hq]
    rw [this]; simp [hq]

/-- From place (p, n) on the table is right, and within bounds. -/
def Good (X : List (List (List Int))) (width : Int) (K : List (List Int)) (p n : Nat) : Prop :=
  ∀ t, Pl X t → (p < t.1 ∨ (p = t.1 ∧ n ≤ t.2)) → kAt K t = encB (pick X width (tOf X K) t) ∧ -1 ≤ kAt K t ∧ kAt K t ≤ rem X t * 10000000000000

theorem good_step {X : List (List (List Int))} {width : Int} {K : List (List Int)} (hV : VW X) (hw : 1 ≤ width ∧ width ≤ 512) (hS : Shp X K) {p n : Nat} (hp : p < X.length) (hn : n < X[p].length) (hG : Good X width K p (n + 1)) :
    Shp X (K.set p ((K.getD p []).set n (leastL X width K (p, n)).1)) ∧ Good X width (K.set p ((K.getD p []).set n (leastL X width K (p, n)).1)) p n := by
  have hpK : p < K.length := by rw [hS.1]; exact hp
  have hg : K.getD p [] = K[p] := by simp [hpK]
  have hnK : n < K[p].length := by rw [hS.2 p hp hpK]; exact hn
  have hf : Pl X (p, n) := ⟨hp, hn⟩
  have hB : Bd X K (p, n) := fun t ht hl => by
    have := hG t ht (by rcases hl with h | ⟨h, h2⟩; exact .inl h; exact .inr ⟨h, h2⟩)
    exact this.2
  rw [hg, leastL_pick hV hw hf hB]
  dsimp only
  have hbd := pick_bd hV hw hf hB
  generalize hv : encB (pick X width (tOf X K) (p, n)) = val at *
  refine ⟨hS.set hpK _ _, fun t ht hl => ?_⟩
  have hsame : ∀ s, s ≠ (p, n) → tOf X (K.set p (K[p].set n val)) s = tOf X K s := fun s hs => tOf_congr (.inr (by rw [kAt_set hpK hnK, if_neg hs]))
  have hpk : pick X width (tOf X (K.set p (K[p].set n val))) t = pick X width (tOf X K) t := pick_congr fun s hs => hsame s (by
    obtain ⟨h1, _⟩ := lat_mem hV ht s hs
    intro e; subst e
    rcases h1 with h | ⟨h, h2⟩ <;> dsimp only at h <;> (try dsimp only at h2) <;> omega)
  rw [hpk, kAt_set hpK hnK]
  split
  · rename_i e; subst e; exact ⟨hv.symm, hbd⟩
  · rename_i e
    refine hG t ht ?_
    rcases hl with h | ⟨h, h2⟩
    · exact .inl h
    · refine .inr ⟨h, ?_⟩
      have : t.2 ≠ n := fun e2 => e (Prod.ext h.symm e2)
      omega
theorem good_row {X : List (List (List Int))} {width : Int} (hV : VW X) (hw : 1 ≤ width ∧ width ≤ 512) {p : Nat} (hp : p < X.length) : ∀ (n : Nat) (K : List (List Int)), n ≤ X[p].length → Shp X K → Good X width K p n →
    Shp X (tblRow X width p n K) ∧ Good X width (tblRow X width p n K) p 0
  | 0, K, _, hS, hG => ⟨hS, hG⟩
  | n + 1, K, hn, hS, hG => by
    obtain ⟨h1, h2⟩ := good_step hV hw hS hp (by omega) hG
    rw [tblRow]
    exact good_row hV hw hp n _ (by omega) h1 h2
theorem good_all {X : List (List (List Int))} {width : Int} (hV : VW X) (hw : 1 ≤ width ∧ width ≤ 512) : ∀ (n : Nat) (K : List (List Int)), n ≤ X.length → Shp X K → Good X width K n 0 →
    Shp X (tblAll X width n K) ∧ Good X width (tblAll X width n K) 0 0
  | 0, K, _, hS, hG => ⟨hS, hG⟩
  | n + 1, K, hn, hS, hG => by
    have hp : n < X.length := by omega
    have hg : X.getD n [] = X[n] := by simp [hp]
    obtain ⟨h1, h2⟩ := good_row hV hw hp X[n].length K (Nat.le_refl _) hS (fun t ht hl => hG t ht (by
      obtain ⟨a, b⟩ := ht
      rcases hl with h | ⟨h, h2⟩
      · by_cases h3 : t.1 = n + 1
        · exact .inr ⟨h3.symm, Nat.zero_le _⟩
        · exact .inl (by omega)
      · have : X[t.1].length = X[n].length := by simp only [← h]
        omega))
    rw [tblAll, hg]
    exact good_all hV hw n _ (by omega) h1 h2

theorem tableL_tab {X : List (List (List Int))} {width : Int} (hV : VW X) (hw : 1 ≤ width ∧ width ≤ 512) : IsTab X width (tableL X width) := by
  obtain ⟨h1, h2⟩ := good_all (width := width) hV hw X.length (X.map fun wd => List.replicate wd.length 0) (Nat.le_refl _) ⟨by simp, fun p h h2 => by simp⟩ (fun t ht hl => by
    obtain ⟨a, b⟩ := ht
    rcases hl with h | ⟨h, _⟩ <;> omega)
  exact ⟨h1, fun f hf => (h2 f hf (by by_cases h : f.1 = 0; exact .inr ⟨h.symm, Nat.zero_le _⟩; exact .inl (by omega))).1⟩

theorem IsTab.bd {X : List (List (List Int))} {width : Int} {K : List (List Int)} (hV : VW X) (hw : 1 ≤ width ∧ width ≤ 512) (h : IsTab X width K) : ∀ (n : Nat) (t : Place), Pl X t → rem X t ≤ n → -1 ≤ kAt K t ∧ kAt K t ≤ rem X t * 10000000000000
  | 0, t, ht, hr => by have := rem_pos ht; omega
  | n + 1, t, ht, hr => by
    rw [h.2 t ht]
    exact pick_bd hV hw ht fun s hs hl => IsTab.bd hV hw h n s hs (by have := rem_lt hV ht hl (.inr hs); omega)
theorem IsTab.Bd {X : List (List (List Int))} {width : Int} {K : List (List Int)} (hV : VW X) (hw : 1 ≤ width ∧ width ≤ 512) (h : IsTab X width K) (f : Place) : Bd X K f := fun t ht _ => h.bd hV hw _ t ht (Nat.le_refl _)

/-- There is one table. -/
theorem IsTab.uniq {X : List (List (List Int))} {width : Int} {K K' : List (List Int)} (hV : VW X) (h : IsTab X width K) (h' : IsTab X width K') : K = K' := by
  have key : ∀ (n : Nat) (t : Place), Pl X t → rem X t ≤ n → kAt K t = kAt K' t := by
    intro n
    induction n with
    | zero => intro t ht hr; have := rem_pos ht; omega
    | succ n ih =>
      intro t ht hr
      rw [h.2 t ht, h'.2 t ht]
      congr 1
      refine pick_congr fun s hs => ?_
      obtain ⟨h1, h2⟩ := lat_mem hV ht s hs
      have h3 := rem_lt hV ht h1 h2
      rcases h2.cases with h4 | h4
      · exact tOf_congr (.inl h4)
      · exact tOf_congr (.inr (ih s h4 (by omega)))
  apply List.ext_getElem (by rw [h.1.1, h'.1.1])
  intro p hp hp'
  have hpX : p < X.length := by rw [← h.1.1]; exact hp
  apply List.ext_getElem (by rw [h.1.2 p hpX hp, h'.1.2 p hpX hp'])
  intro i hi hi'
  have hiX : i < X[p].length := by rw [← h.1.2 p hpX hp]; exact hi
  have := key _ (p, i) ⟨hpX, hiX⟩ (Nat.le_refl _)
  simpa [kAt, hp, hp', hi, hi'] using this
theorem IsEnds.uniq {X : List (List (List Int))} {width : Int} {K : List (List Int)} : ∀ (r r' : List Place) (f : Place), IsEnds X width K f r → IsEnds X width K f r' → r = r'
  | [], [], _, _, _ => rfl
  | [], t :: r', f, h, ⟨⟨h1, _⟩, _⟩ => by rw [h] at h1; simp at h1
  | t :: r, [], f, ⟨⟨h1, _⟩, _⟩, h => by rw [h] at h1; simp at h1
  | t :: r, t' :: r', f, ⟨_, ⟨b, h1⟩, h2⟩, ⟨_, ⟨b', h1'⟩, h2'⟩ => by
    rw [h1] at h1'
    simp only [Option.some.injEq, Prod.mk.injEq] at h1'
    obtain ⟨_, rfl⟩ := h1'
    rw [IsEnds.uniq r r' t h2 h2']
end Go.Proofs.Ytehelanfgepcmaa
set_option linter.unusedSimpArgs false
set_option linter.unusedVariables false
set_option linter.unusedSectionVars false
namespace Dac
open Go Go.RowKit
theorem Rdr.slice_v {α : Type} {R : Rdr α} {w : World} {F : Nat → Prop} {v : Value} {xs : List α} (h : R.slice.rd w F [v] xs) : ∃ ad cap, v = .slice ad xs.length cap := by
  obtain ⟨ad, cap, hv, _⟩ := h; exact ⟨ad, cap, by simpa using hv⟩
/-- Block b holds two cells, not frozen. -/
def Box2 (t : TypeId) (w : World) (b : Nat) (x y : Value) : Prop := w.heap[b]? = some (.cells #[x, y] t (0, 0))
theorem Box2.cells {t : TypeId} {w : World} {b : Nat} {x y : Value} (h : Box2 t w b x y) : w.cell? ⟨b, 0, none⟩ = some x ∧ w.cell? ⟨b, 1, none⟩ = some y ∧ w.frozen? ⟨b, 0, none⟩ = false ∧ w.frozen? ⟨b, 1, none⟩ = false := by
  unfold Box2 at h
  refine ⟨?_, ?_, ?_, ?_⟩ <;> simp [World.cell?, World.frozen?, h]
theorem Box2.lt {t : TypeId} {w : World} {b : Nat} {x y : Value} (h : Box2 t w b x y) : b < w.heap.size := (Array.getElem?_eq_some_iff.1 h).1
theorem Box2.ext {t : TypeId} {w w' : World} {b : Nat} {x y : Value} (h : Box2 t w b x y) (hx : Ext w w') : Box2 t w' b x y := (hx.block b h.lt).trans h
theorem Box2.other {t : TypeId} {w : World} {b : Nat} {x y : Value} (h : Box2 t w b x y) {a : Addr} (v : Value) (hb : b ≠ a.block) : Box2 t (w.setCell a v) b x y :=
  (Below.heap_setCell w a v b hb).trans h
theorem Box2.grown {t : TypeId} {w w' : World} {b : Nat} {x y : Value} {row : Option Nat} (h : Box2 t w b x y) (hg : w.grownBy w' row) (hb : some b ≠ row) : Box2 t w' b x y :=
  (hg.block b h.lt hb).trans h
theorem Box2.new {t : TypeId} (w : World) (x y : Value) {B : Nat} (hB : B = w.heap.size) : Box2 t (w.alloc (.cells #[x, y] t)) B x y := by subst hB; exact heap_alloc_new w _
/-- A store, as a change of one row. -/
theorem grownBy_setCell (w : World) (a : Addr) (v : Value) : w.grownBy (w.setCell a v) (some a.block) :=
  ⟨rfl, rfl, rfl, by simp [World.setCell], fun k _ hne => Below.heap_setCell w a v k (fun e => hne (by rw [e]))⟩
/-- Elements that meet no memory stay whatever is written elsewhere. -/
theorem Bld.free {α : Type} {R : Rdr α} (hR : ∀ {w w' F G cs x}, R.rd w F cs x → R.rd w' G cs x) {F : Nat → Prop} {w w' : World} {B : Nat} {e : TypeId} {v : Value} {xs : List α} {row : Option Nat} (h : Bld R F w B e v xs) (hg : w.grownBy w' row) (hne : ∀ k, v.ownBlock = some k → some k ≠ row) : Bld R F w' B e v xs := by
  obtain ⟨us, ho, hr⟩ := h
  refine ⟨us, ho.kept hg ?_, fun i hi => hR (hr i hi)⟩
  cases hv : v.ownBlock with
  | none => exact .inl rfl
  | some k => exact .inr (hne k hv)
theorem Bld.refoot {α : Type} {R : Rdr α} (hR : ∀ {w w' F G cs x}, R.rd w F cs x → R.rd w' G cs x) {F G : Nat → Prop} {w : World} {B : Nat} {e : TypeId} {v : Value} {xs : List α} (h : Bld R F w B e v xs) : Bld R G w B e v xs := by
  obtain ⟨us, ho, hr⟩ := h
  exact ⟨us, ho, fun i hi => hR (hr i hi)⟩
theorem pairR_free : ∀ {w w' : World} {F G : Nat → Prop} {cs : List Value} {x : Int × Int}, pairR.rd w F cs x → pairR.rd w' G cs x := fun h => h
theorem intR_free : ∀ {w w' : World} {F G : Nat → Prop} {cs : List Value} {x : Int}, intR.rd w F cs x → intR.rd w' G cs x := fun h => h
theorem boolR_free : ∀ {w w' : World} {F G : Nat → Prop} {cs : List Value} {x : Bool}, boolR.rd w F cs x → boolR.rd w' G cs x := fun h => h
theorem Box2.set0 {t : TypeId} {w : World} {b : Nat} {x y : Value} (h : Box2 t w b x y) (v : Value) : Box2 t (w.setCell ⟨b, 0, none⟩ v) b v y := heap_setCell_same w b 0 _ t _ v h
theorem Box2.set1 {t : TypeId} {w : World} {b : Nat} {x y : Value} (h : Box2 t w b x y) (v : Value) : Box2 t (w.setCell ⟨b, 1, none⟩ v) b x v := heap_setCell_same w b 1 _ t _ v h
end Dac
namespace Go.Proofs.Ytehelanfgepcmaa
open Go.RowKit Dac

/-- Places as pairs of ints. -/
def toI (l : List Place) : List (Int × Int) := l.map fun p => ((p.1 : Int), (p.2 : Int))
def nilCert : Value := .agg #[.slice none 0 0, .slice none 0 0]
/-- What both Fills return. -/
def FillQ (X : List (List (List Int))) (width : Int) (w : World) (e : Ending) (w' : World) : Prop :=
  Ext w w' ∧ ((validB X width = false ∧ e = .returned (.tuple #[nilCert, .int .i64 1])) ∨
    (validB X width = true ∧ ∃ K, IsTab X width K ∧ ((0 < X.length ∧ kAt K (0, 0) < 0 ∧ e = .returned (.tuple #[nilCert, .int .i64 14])) ∨
      (∃ ends ve vl, IsEnds X width K (0, 0) ends ∧ e = .returned (.tuple #[.agg #[ve, vl], .int .i64 0]) ∧ pairR.slice.rd w' (fun k => w.heap.size ≤ k) [ve] (toI ends) ∧ rowsR.rd w' (fun k => w.heap.size ≤ k) [vl] K))))

/-- A table that is read in blocks of P, and in which each row has a block of its own (so it stood at an elder world, and nothing in P has turned since). -/
def RowsG (w : World) (P : Nat → Prop) (v : Value) (K : List (List Int)) : Prop :=
  rowsR.rd w P [v] K ∧ ∃ (W3 : World) (B : Nat) (gs : List Nat), Grid W3 B 22 3 v gs K ∧ (∀ g ∈ gs, P g) ∧ (∀ g, v.ownBlock = some g → P g) ∧ ∀ k, P k → k < W3.heap.size → w.heap[k]? = W3.heap[k]?
theorem RowsG.stay {w w' : World} {P : Nat → Prop} {v : Value} {K : List (List Int)} (h : RowsG w P v K) (hs : ∀ k, P k → k < w.heap.size → w'.heap[k]? = w.heap[k]?) : RowsG w' P v K := by
  obtain ⟨h1, W3, B, gs, h2, h3, h4, h5⟩ := h
  refine ⟨Rdr.stay _ h1 fun k hk hl => ⟨hs k hk hl, hk⟩, W3, B, gs, h2, h3, h4, fun k hk hl => ?_⟩
  have h6 := h5 k hk hl
  rw [← h6]
  refine hs k hk ?_
  rw [Array.getElem?_eq_getElem hl] at h6
  exact (Array.getElem?_eq_some_iff.1 h6).1
theorem RowsG.grown {w w' : World} {P : Nat → Prop} {v : Value} {K : List (List Int)} {row : Option Nat} (h : RowsG w P v K) (hg : w.grownBy w' row) (hF : ∀ k, P k → some k ≠ row) : RowsG w' P v K := h.stay fun k hk hl => hg.block k hl (hF k hk)
/-- What Fill itself returns: its table lies ahead of the ends. -/
def FillQ2 (X : List (List (List Int))) (width : Int) (w : World) (e : Ending) (w' : World) : Prop :=
  Ext w w' ∧ ((validB X width = false ∧ e = .returned (.tuple #[nilCert, .int .i64 1])) ∨
    (validB X width = true ∧ ∃ K, IsTab X width K ∧ ((0 < X.length ∧ kAt K (0, 0) < 0 ∧ e = .returned (.tuple #[nilCert, .int .i64 14])) ∨
      (∃ ends ve vl lo n3, IsEnds X width K (0, 0) ends ∧ e = .returned (.tuple #[.agg #[ve, vl], .int .i64 0]) ∧ w.heap.size ≤ lo ∧ lo ≤ n3 ∧ pairR.slice.rd w' (fun k => n3 ≤ k) [ve] (toI ends) ∧ RowsG w' (fun k => lo ≤ k ∧ k < n3) vl K))))
theorem FillQ2.q {X : List (List (List Int))} {width : Int} {w : World} {e : Ending} {w' : World} (h : FillQ2 X width w e w') : FillQ X width w e w' := by
  obtain ⟨h0, h | ⟨h1, K, h2, h3 | ⟨ends, ve, vl, lo, n3, h4, h5, h6, h6', h7, h8⟩⟩⟩ := h
  · exact ⟨h0, .inl h⟩
  · exact ⟨h0, .inr ⟨h1, K, h2, .inl h3⟩⟩
  · exact ⟨h0, .inr ⟨h1, K, h2, .inr ⟨ends, ve, vl, h4, h5, Rdr.mono _ h7 (fun k hk _ => by omega), Rdr.mono _ h8.1 (fun k hk _ => by have := hk.1; omega)⟩⟩⟩
theorem toI_snoc (l : List Place) (p : Place) : toI (l ++ [p]) = toI l ++ [((p.1 : Int), (p.2 : Int))] := by simp [toI]

theorem pick_pl {X : List (List (List Int))} {width : Int} {K : List (List Int)} (hV : VW X) (hT : IsTab X width K) {f t : Place} {b : Int} (hf : Pl X f) (h : pick X width (tOf X K) f = some (b, t)) : Lt f t ∧ En X t ∧ (Pl X t → 0 ≤ kAt K t) := by
  obtain ⟨h1, h2, c, h3, _⟩ := pick_mem h
  obtain ⟨h4, h5⟩ := lat_mem hV hf t h1
  refine ⟨h4, h5, fun hp => ?_⟩
  unfold tOf at h3
  split at h3
  · rename_i e; obtain ⟨a, _⟩ := hp; rw [e] at a; simp at a
  · split at h3
    · cases h3
    · omega

set_option maxRecDepth 100000 in
set_option maxHeartbeats 4000000 in
theorem RefFill_ok (v : Value) (X : List (List (List Int))) (width : Int) (w : World) (hX : wordsR.rd w Any [v] X) (hwi : I64 width) :
    Calls Try.prog 15 #[v, .int .i64 width] w (FillQ X width w) := by
  obtain ⟨ad, cap, rfl, l1, l2, el⟩ := rows hX
  unfold maxLen at l2
  have hVal := fun W (h : Ext w W) => toRet (Valid_ok _ X width W (Rdr.ext _ hX h) hwi)
  by_cases hv : validB X width = true
  · obtain ⟨hV, hw⟩ := validB_VW hv
    rw [hv] at hVal
    have hTab := fun W (h : Ext w W) => Table_ok _ X width W (Rdr.ext _ hX h) hV hw
    have hT := tableL_tab hV hw
    have hS := hT.1
    generalize tableL X width = K at *
    have HV := hid hv; have HVW := hid hV; have HT := hid hT; have HVal := hid hVal; have HTab := hid hTab; have HS := hid hS
    have HX := hid hX; have HW := hid hw
    clear hv hV hT hVal hTab hS el hX hw
    by_cases hX0 : X.length = 0
    · obtain rfl : X = [] := List.eq_nil_of_length_eq_zero hX0
      have heq := fun W => neq_pair isPair 0 0 0 0 W
      simp only [beq_self_eq_true, Bool.and_self, Bool.not_true] at heq
      clear hX0
      go_enter Try.func15, Try.ntmps15
      go_wp2_with (first
        | (go_at_call 42; refine (HVal.out _ (by repeat (first | exact Below.refl _ _ | refine Below.alloc ?_ (by simp) _))).mono ?_; rintro e w1 ⟨rfl, x1⟩; have HX1 := hid ((Ext.alloc _ _).then x1); have HB1 := hid ((Box2.new (t := 36) w (.slice none 0 0) (.slice none 0 0) rfl).ext x1); have hs1 := x1.size; clear x1; obtain ⟨p0, p1, p2, p3⟩ := HB1.out.cells)
        | (go_at_call 43; refine (HTab.out _ HX1.out).mono ?_; rintro e w2 ⟨r, gs, rfl, x2, hG⟩; have HX2 := hid (HX1.out.then x2); have HR2 := hid hG.read; have HB2 := hid (HB1.out.ext x2); obtain ⟨ra, rc, rfl⟩ := Rdr.slice_v hG.read; have HB3 := hid ((HB2.out.ext (Ext.alloc _ (.cells #[.slice none 0 0, .slice ra K.length rc] 36))).ext (Ext.alloc _ (.cells #[.int .i64 0, .int .i64 0] 64))); obtain ⟨q0, q1, q2, q3⟩ := HB3.out.cells; clear x2 hG))
      refine wp_loop_rounds 1 ?_; rw [rounds_succ]
      go_wp2
      obtain ⟨z0, z1, -, -⟩ := ((HB3.out.set0 (.slice none 0 0)).set1 (.slice ra K.length rc)).cells
      refine bodyPost_ret (v := .tuple #[.agg #[.slice none 0 0, .slice ra K.length rc], .int .i64 0]) (by simp [results, Try.results15, go_sem, z0, z1]) rfl ⟨?_, .inr ⟨HV.out, K, HT.out, .inr ⟨[], _, _, rfl, rfl, ⟨none, 0, rfl, by simp [toI], by simp, fun i hi => absurd hi (by simp [toI])⟩, ?_⟩⟩⟩
      · refine Below.setCell (Below.setCell (below_ext HX2.out ((Ext.alloc _ _).then (Ext.alloc _ _)) HX2.out.size) ?_ _) ?_ _ <;> simp
      · refine Rdr.stay _ HR2.out fun k hk hl => ⟨?_, (by have := HX1.out.size; omega)⟩
        have hne : k ≠ w.heap.size := by have := HB1.out.lt; omega
        rw [Below.heap_setCell _ _ _ _ hne, Below.heap_setCell _ _ _ _ hne, heap_alloc_old _ _ (by simp; omega), heap_alloc_old _ _ hl]
    · have hp0 : 0 < X.length := by omega
      have hpl0 : Pl X (0, 0) := ⟨hp0, (HVW.out.2 0 hp0).1⟩
      by_cases hk0 : kAt K (0, 0) < 0
      · go_enter Try.func15, Try.ntmps15
        go_wp2_with (first
          | (go_at_call 42; refine (HVal.out _ (by repeat (first | exact Below.refl _ _ | refine Below.alloc ?_ (by simp) _))).mono ?_; rintro e w1 ⟨rfl, x1⟩; have HX1 := hid ((Ext.alloc _ _).then x1); have HB1 := hid ((Box2.new (t := 36) w (.slice none 0 0) (.slice none 0 0) rfl).ext x1); have hs1 := x1.size; clear x1; obtain ⟨p0, p1, p2, p3⟩ := HB1.out.cells)
          | (go_at_call 43; refine (HTab.out _ HX1.out).mono ?_; rintro e w2 ⟨r, gs, rfl, x2, hG⟩; have HX2 := hid (HX1.out.then x2); have HR2 := hid hG.read; have HB2 := hid (HB1.out.ext x2); obtain ⟨kb, ko, kc, k2, k3, kc2, N, rfl, n1, n2, c1, n3, n4, c2⟩ := k_cells (Rdr.any _ hG.read) HS.out hpl0; have j0 := (HB2.out.ext (Ext.alloc _ (.cells #[.slice none 0 0, .slice (some ⟨kb, ko, none⟩) K.length kc] 36))).cells; obtain ⟨q0, q1, q2, q3⟩ := j0; have d1 := (Ext.alloc w2 (.cells #[.slice none 0 0, .slice (some ⟨kb, ko, none⟩) K.length kc] 36)).cell c1; have d2 := (Ext.alloc w2 (.cells #[.slice none 0 0, .slice (some ⟨kb, ko, none⟩) K.length kc] 36)).cell c2; rw [Nat.add_zero] at d1 d2; have HG2 := hid hG; clear x2 hG c1 c2))
        have HZ := hid (HB2.out.ext (Ext.alloc _ (.cells #[.slice none 0 0, .slice (some ⟨kb, ko, none⟩) K.length kc] 36)))
        obtain ⟨z0, z1, -, -⟩ := ((HZ.out.set0 (.slice none 0 0)).set1 (.slice none 0 0)).cells
        refine bodyPost_ret (v := .tuple #[nilCert, .int .i64 14]) (by simp [results, Try.results15, go_sem, nilCert, z0, z1]) rfl ⟨?_, .inr ⟨HV.out, K, HT.out, .inl ⟨hp0, hk0, rfl⟩⟩⟩
        refine Below.setCell (Below.setCell (below_ext HX2.out (Ext.alloc _ _) HX2.out.size) ?_ _) ?_ _ <;> simp
      · go_enter Try.func15, Try.ntmps15
        go_wp2_with (first
          | (go_at_call 42; refine (HVal.out _ (by repeat (first | exact Below.refl _ _ | refine Below.alloc ?_ (by simp) _))).mono ?_; rintro e w1 ⟨rfl, x1⟩; have HX1 := hid ((Ext.alloc _ _).then x1); have HB1 := hid ((Box2.new (t := 36) w (.slice none 0 0) (.slice none 0 0) rfl).ext x1); have hs1 := x1.size; clear x1; obtain ⟨p0, p1, p2, p3⟩ := HB1.out.cells)
          | (go_at_call 43; refine (HTab.out _ HX1.out).mono ?_; rintro e w2 ⟨r, gs, rfl, x2, hG⟩; have HX2 := hid (HX1.out.then x2); have HR2 := hid hG.read; have HB2 := hid (HB1.out.ext x2); obtain ⟨kb, ko, kc, k2, k3, kc2, N, rfl, n1, n2, c1, n3, n4, c2⟩ := k_cells (Rdr.any _ hG.read) HS.out hpl0; have j0 := (HB2.out.ext (Ext.alloc _ (.cells #[.slice none 0 0, .slice (some ⟨kb, ko, none⟩) K.length kc] 36))).cells; obtain ⟨q0, q1, q2, q3⟩ := j0; have d1 := (Ext.alloc w2 (.cells #[.slice none 0 0, .slice (some ⟨kb, ko, none⟩) K.length kc] 36)).cell c1; have d2 := (Ext.alloc w2 (.cells #[.slice none 0 0, .slice (some ⟨kb, ko, none⟩) K.length kc] 36)).cell c2; rw [Nat.add_zero] at d1 d2; have HG2 := hid hG; clear x2 hG c1 c2))
        go_loopg [] (rem X (0, 0)) (fun gk wr => ∃ (p : Place) (ends : List Place) (ve : Value), En X p ∧ rem X p = gk ∧ (Pl X p → 0 ≤ kAt K p) ∧ (∀ r, IsEnds X width K p r → IsEnds X width K (0, 0) (ends ++ r)) ∧ ends.length + gk ≤ 8192 ∧ Ext w2 wr ∧ Box2 36 wr w2.heap.size ve (.slice (some ⟨kb, ko, none⟩) K.length kc) ∧ PairBox 64 wr (w2.heap.size + 1) (p.1, p.2) ∧ Bld pairR Any wr (w2.heap.size + 2) 64 ve (toI ends))
        case atStart =>
          refine ⟨(0, 0), [], .slice none 0 0, .inr hpl0, rfl, fun _ => by omega, fun r h => h, ?_, (Ext.alloc _ _).then (Ext.alloc _ _), ?_, ?_, Bld.nil _ _ _ _ _⟩
          · have := rem_le HVW.out (0, 0); simpa using this
          · exact (Box2.new _ _ _ rfl).ext (Ext.alloc _ _)
          · exact PairBox.new' _ _ _ (by simp)
        case round =>
          obtain ⟨⟨p, i⟩, ends, ve, he, hg, hk, hends, hlen, hx, hb, ht, hB⟩ := hrel
          obtain ⟨t0, t1, t2, t3⟩ := ht.cells
          obtain ⟨b0, b1, b2, b3⟩ := hb.cells
          have HK2 := hid hk; have HE := hid hends; have HX3 := hid hx; have HCB := hid hb; have HPB := hid ht; have HBl := hid hB
          clear hk hends hx hb ht hB d1 d2 q0 q1 q2 q3 p0 p1 p2 p3
          by_cases hend : (p, i) = endP X
          · obtain ⟨rfl, rfl⟩ := Prod.mk.inj hend
            have hneq := fun W => neq_pair isPair X.length 0 X.length 0 W
            simp only [show ((0 : Nat) : Int) = 0 from rfl, beq_self_eq_true, Bool.and_self, Bool.not_true] at *
            have HR := hid (HB2.out.ext HX3.out)
            obtain ⟨r0, r1, r2, r3⟩ := HR.out.cells
            clear he hg hend hlen
            have hv : ∃ va vl vc, ve = .slice va vl vc := by
              obtain ⟨a, c, h⟩ := Rdr.slice_v (HBl.out.read (G := Any) (fun _ _ => trivial) (fun _ _ => trivial))
              exact ⟨a, _, c, h⟩
            obtain ⟨va, vl, vc, rfl⟩ := hv
            go_wp2
            obtain ⟨z0, z1, -, -⟩ := ((HR.out.set0 (.slice va vl vc)).set1 (.slice (some ⟨kb, ko, none⟩) K.length kc)).cells
            have hends := HE.out [] rfl
            rw [List.append_nil] at hends
            have hlt := HB1.out.lt
            refine bodyPost_ret (v := .tuple #[.agg #[.slice va vl vc, .slice (some ⟨kb, ko, none⟩) K.length kc], .int .i64 0]) (by simp [results, Try.results15, go_sem, z0, z1]) rfl ⟨?_, .inr ⟨HV.out, K, HT.out, .inr ⟨ends, _, _, hends, rfl, ?_, ?_⟩⟩⟩
            · refine Below.setCell (Below.setCell (below_ext HX2.out HX3.out HX2.out.size) ?_ _) ?_ _ <;> simp
            · have hrd := (Bld.refoot pairR_free (G := fun k => w2.heap.size ≤ k) HBl.out).read (G := fun k => w2.heap.size ≤ k) (fun k hk => by have := (HBl.out.lt k hk).1; omega) (fun _ h => h)
              refine Rdr.stay _ hrd fun k hk hl => ⟨?_, (by have := HX2.out.size; omega)⟩
              have hne : k ≠ w.heap.size := by have := HB2.out.lt; omega
              rw [Below.heap_setCell _ _ _ _ hne, Below.heap_setCell _ _ _ _ hne]
            · refine Rdr.stay _ (Rdr.ext _ HR2.out HX3.out) fun k hk hl => ⟨?_, (by have := HX1.out.size; omega)⟩
              have hne : k ≠ w.heap.size := by omega
              rw [Below.heap_setCell _ _ _ _ hne, Below.heap_setCell _ _ _ _ hne]
          · have hpl : Pl X (p, i) := he.cases.resolve_left hend
            have hneq1 : ((p : Int) == X.length && (i : Int) == 0) = false := by
              rw [Bool.eq_false_iff]; intro h; simp at h; exact hend (Prod.ext (by simp; omega) h.2)
            have hneq := fun W => neq_pair isPair p i X.length 0 W
            simp only [hneq1, Bool.not_false] at hneq
            clear hneq1
            have hkk := HK2.out hpl
            rw [HT.out.2 _ hpl] at hkk
            obtain ⟨bb, t, hpk⟩ : ∃ bb t, pick X width (tOf X K) (p, i) = some (bb, t) := by
              cases h : pick X width (tOf X K) (p, i) with
              | none => rw [h] at hkk; simp [encB] at hkk
              | some x => exact ⟨x.1, x.2, rfl⟩
            have hLe := leastL_pick HVW.out HW.out hpl (HT.out.Bd HVW.out HW.out (p, i))
            rw [hpk] at hLe
            obtain ⟨tq, tj⟩ := t
            simp only [encB, encA] at hLe
            obtain ⟨m1, m2, m3⟩ := pick_pl HVW.out HT.out hpl hpk
            have hrl := rem_lt HVW.out hpl m1 m2
            have hL := fun W (hx : Ext wr W) => Least_ok _ (.slice (some ⟨kb, ko, none⟩) K.length kc) X K width (p, i) W (Rdr.ext _ HX.out (HX2.out.then (HX3.out.then hx))) HVW.out HW.out (Rdr.ext _ (Rdr.any _ HR2.out) (HX3.out.then hx)) HS.out hpl
            rw [hLe] at hL
            have hq : I64 (tq : Int) ∧ I64 (tj : Int) := by
              have h5 := HVW.out.1
              rcases m2.cases with h | ⟨h, h2⟩
              · obtain ⟨rfl, rfl⟩ := Prod.mk.inj h
                unfold I64; omega
              · have := (HVW.out.2 _ h).2.1
                dsimp only at h h2 this
                unfold I64; omega
            have HL := hid hL; have HQ := hid hq; have HPK := hid hpk; have HM := hid m3; have HM2 := hid m2; have HRL := hid hrl
            have htl : (toI ends).length = ends.length := by simp [toI]
            have HTL := hid htl
            have hv : ∃ va vl vc, ve = .slice va vl vc := by
              obtain ⟨a, c, h⟩ := Rdr.slice_v (HBl.out.read (G := Any) (fun _ _ => trivial) (fun _ _ => trivial))
              exact ⟨a, _, c, h⟩
            obtain ⟨va, vl, vc, rfl⟩ := hv
            clear hL hq hpk m3 m2 hrl htl hLe hkk m1 he
            unfold pairA at HL
            obtain ⟨i0, hi, hz0, hz1, hz2⟩ := info_parts info64
            go_wp2_with (first
              | (go_at_call 44; refine (HL.out _ (Below.refl _ _)).mono ?_; rintro e w3 ⟨rfl, x3⟩; have X3 := hid x3; clear x3; have HP3 := hid (HPB.out.ext X3.out); have HC3 := hid (HCB.out.ext X3.out); obtain ⟨u0, u1, u2, u3⟩ := HP3.out.cells; obtain ⟨v0, v1, v2, v3⟩ := HC3.out.cells; have HB3 := hid (Bld.free pairR_free (Bld.free pairR_free (HBl.out.ext X3.out) (grownBy_setCell _ ⟨w2.heap.size + 1, 0, none⟩ (.int .i64 tq)) (fun k hk e => by have := (HBl.out.lt k hk).1; simp at e; omega)) (grownBy_setCell _ ⟨w2.heap.size + 1, 1, none⟩ (.int .i64 tj)) (fun k hk e => by have := (HBl.out.lt k hk).1; simp at e; omega)); have hs3 := X3.out.size)
              | (at_builtin; refine wpList_append_at (w := (w3.setCell ⟨w2.heap.size + 1, 0, none⟩ (.int .i64 tq)).setCell ⟨w2.heap.size + 1, 1, none⟩ (.int .i64 tj)) pairR Any (w2.heap.size + 2) rfl _ _ 27 rfl 64 i0 _ 16 Try.underlying27 hi hz0 hz1 hz2 rfl (by decide) _ _ rfl HB3.out _ _ [.int .i64 tq, .int .i64 tj] ((tq : Int), (tj : Int)) rfl ⟨[_], [_], rfl, ⟨rfl, HQ.out.1⟩, ⟨rfl, HQ.out.2⟩⟩ (by rw [HTL.out]; omega) (by rw [HTL.out]; omega) (by have := HPB.out.lt; simp; omega) (by simp) ?_ rfl; intro g cp w4 hB4 hg4 hg5 hg6; rw [HTL.out] at hB4 ⊢; have HB4 := hid hB4; have HG4 := hid hg4; clear hB4 hg4; have HC4 := hid (Box2.grown ((HC3.out.other (a := ⟨w2.heap.size + 1, 0, none⟩) (.int .i64 tq) (by simp)).other (a := ⟨w2.heap.size + 1, 1, none⟩) (.int .i64 tj) (by simp)) HG4.out (fun e => by have := (HBl.out.lt _ e.symm).1; omega)); obtain ⟨y0, y1, y2, y3⟩ := HC4.out.cells))
            have hHR := HRL.out
            go_roundg (rem X (tq, tj))
            case measure => omega
            case rel =>
              refine ⟨(tq, tj), ends ++ [(tq, tj)], .slice (some ⟨g, 0, none⟩) (ends.length + 1) cp, HM2.out, rfl, HM.out, fun r hr => ?_, ?_, ?_, ?_, ?_, ?_⟩
              · rw [List.append_assoc]
                exact HE.out ((tq, tj) :: r) ⟨hpl, ⟨bb, HPK.out⟩, hr⟩
              · rw [List.length_append, List.length_singleton]; omega
              · refine Below.setCell (Below.grown (Below.setCell (Below.setCell (HX3.out.then X3.out) ?_ _) ?_ _) HG4.out ?_ ?_) ?_ _
                · simp
                · simp
                · have := HX3.out.size; have := X3.out.size; simp; omega
                · intro k hk; have := (HBl.out.lt k hk).1; omega
                · simp
              · exact HC4.out.set0 _
              · refine PairBox.other ?_ _ (by simp)
                have h1 := HP3.out.set tq tj
                exact (HG4.out.block _ h1.lt (fun e => by have := (HBl.out.lt _ e.symm).1; omega)).trans h1
              · rw [toI_snoc]
                exact Bld.free pairR_free HB4.out (grownBy_setCell _ _ _) (fun k hk e => by simp [Value.ownBlock] at hk; simp at e; omega)
  · rw [Bool.not_eq_true] at hv
    rw [hv] at hVal
    have HV := hid hv; have HVal := hid hVal
    clear hv hVal el hX
    go_enter Try.func15, Try.ntmps15
    go_wp2_with (go_at_call 42; refine (HVal.out _ (by repeat (first | exact Below.refl _ _ | refine Below.alloc ?_ (by simp) _))).mono ?_; rintro e w1 ⟨rfl, x1⟩; have HX1 := hid ((Ext.alloc _ _).then x1); have HB1 := hid ((Box2.new (t := 36) w (.slice none 0 0) (.slice none 0 0) rfl).ext x1); clear x1; obtain ⟨p0, p1, p2, p3⟩ := HB1.out.cells)
    obtain ⟨z0, z1, -, -⟩ := ((HB1.out.set0 (.slice none 0 0)).set1 (.slice none 0 0)).cells
    refine bodyPost_ret (v := .tuple #[nilCert, .int .i64 1]) (by simp [results, Try.results15, go_sem, nilCert, z0, z1]) rfl ⟨?_, .inl ⟨HV.out, rfl⟩⟩
    refine Below.setCell (Below.setCell HX1.out ?_ _) ?_ _ <;> simp
end Go.Proofs.Ytehelanfgepcmaa
