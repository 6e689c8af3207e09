import Derived.WalkKit
import Derived.WalkSpells
import Derived.WalkLawsBesides
import Derived.BigQuiet
import Derived.Deep.QuietTactic
import Derived.Deep.RegionHeld3
import Derived.Laws.StructEq
import Derived.Test.YtehelanfgepcmaaRows
import Derived.Deep.LoopGhost
set_option linter.unusedSimpArgs false
set_option linter.unusedVariables false
set_option linter.unusedSectionVars false
namespace Dac
open Go Go.RowKit

/-- w' goes on from w: nothing that was there has turned. -/
theorem hid {p : Prop} (h : p) : RowKit.Hid p := h
abbrev Ext (w w' : World) : Prop := Below w.heap.size w w'

theorem Ext.rfl' (w : World) : Ext w w := Below.refl _ _
theorem Ext.then {a b c : World} (h : Ext a b) (k : Ext b c) : Ext a c := Below.trans h (k.mono h.size)
theorem Ext.drewN (w : World) (n : Nat) : Ext w (w.drewN n) := ⟨rfl, rfl, rfl, Nat.le_refl _, fun _ _ => rfl⟩
theorem Ext.alloc (w : World) (o : Obj) : Ext w (w.alloc o) := (Below.refl _ w).alloc (Nat.le_refl _) o
theorem Ext.cell {w w' : World} (h : Ext w w') {a : Addr} {v : Value} (hc : w.cell? a = some v) : w'.cell? a = some v :=
  (Below.cell h (World.block_lt_of_cell? w a hc)).trans hc

/-- A number that fits an int. Kept closed so that its bounds do not stand open in a walk. -/
def I64 (n : Int) : Prop := -9223372036854775808 ≤ n ∧ n ≤ 9223372036854775807

/-- How cells read as data of a type: each reading names the blocks that it may meet (F). -/
structure Rdr (α : Type) where
  size : Nat
  rd : World → (Nat → Prop) → List Value → α → Prop
  len : ∀ {w F cs x}, rd w F cs x → cs.length = size
  one : ∀ {w F cs x}, rd w F cs x → ∀ u ∈ cs, u.oneCell' = true
  stay : ∀ {w w' F G cs x}, rd w F cs x → (∀ k, F k → k < w.heap.size → w'.heap[k]? = w.heap[k]? ∧ G k) → rd w' G cs x

/-- Any block. -/
abbrev Any : Nat → Prop := fun _ => True

theorem Rdr.ext {α : Type} (R : Rdr α) {w w' : World} {F : Nat → Prop} {cs : List Value} {x : α} (h : R.rd w F cs x) (e : Ext w w') : R.rd w' F cs x :=
  R.stay h fun k hF hk => ⟨e.block k hk, hF⟩
theorem Rdr.any {α : Type} (R : Rdr α) {w : World} {F : Nat → Prop} {cs : List Value} {x : α} (h : R.rd w F cs x) : R.rd w Any cs x :=
  R.stay h fun _ _ _ => ⟨rfl, trivial⟩
theorem Rdr.mono {α : Type} (R : Rdr α) {w : World} {F G : Nat → Prop} {cs : List Value} {x : α} (h : R.rd w F cs x) (hm : ∀ k, F k → k < w.heap.size → G k) : R.rd w G cs x :=
  R.stay h fun k hF hk => ⟨rfl, hm k hF hk⟩
/-- Behind a change of one row, which the reading does not meet. -/
theorem Rdr.grown {α : Type} (R : Rdr α) {w w' : World} {F : Nat → Prop} {cs : List Value} {x : α} {row : Option Nat} (h : R.rd w F cs x) (hg : w.grownBy w' row) (hF : ∀ k, F k → some k ≠ row) : R.rd w' F cs x :=
  R.stay h fun k hk hl => ⟨hg.block k hl (hF k hk), hk⟩

def intR : Rdr Int where
  size := 1
  rd _ _ cs x := cs = [.int .i64 x] ∧ I64 x
  len h := by rw [h.1]; rfl
  one h u hu := by rw [h.1] at hu; simp at hu; subst hu; rfl
  stay h _ := h

def boolR : Rdr Bool where
  size := 1
  rd _ _ cs x := cs = [.bool x]
  len h := by rw [h]; rfl
  one h u hu := by rw [h] at hu; simp at hu; subst hu; rfl
  stay h _ := h

/-- Two parts one behind the other (a struct's fields, an array of two). -/
def Rdr.prod {α β : Type} (R : Rdr α) (S : Rdr β) : Rdr (α × β) where
  size := R.size + S.size
  rd w F cs x := ∃ c1 c2, cs = c1 ++ c2 ∧ R.rd w F c1 x.1 ∧ S.rd w F c2 x.2
  len := by rintro w F cs x ⟨c1, c2, rfl, h1, h2⟩; rw [List.length_append, R.len h1, S.len h2]
  one := by
    rintro w F cs x ⟨c1, c2, rfl, h1, h2⟩ u hu
    rcases List.mem_append.1 hu with h | h
    · exact R.one h1 u h
    · exact S.one h2 u h
  stay := by rintro w w' F G cs x ⟨c1, c2, rfl, h1, h2⟩ hs; exact ⟨c1, c2, rfl, R.stay h1 hs, S.stay h2 hs⟩

theorem cell_of_heap {w w' : World} {a : Addr} (h : w'.heap[a.block]? = w.heap[a.block]?) {v : Value} (hc : w.cell? a = some v) : w'.cell? a = some v :=
  (World.cell?_of_block h).trans hc

theorem add0 (g j : Nat) : (⟨g, 0, none⟩ : Addr).add j = ⟨g, j, none⟩ := by unfold Addr.add; split <;> simp_all
theorem add_block (a : Addr) (n : Nat) : (a.add n).block = a.block := by unfold Addr.add; split <;> rfl

theorem heap_lt {w w' : World} {k : Nat} (h : w'.heap[k]? = w.heap[k]?) (hk : k < w.heap.size) : k < w'.heap.size := by
  rw [Array.getElem?_eq_getElem hk] at h
  exact (Array.getElem?_eq_some_iff.1 h).1

/-- A slice: its elements' cells lie one behind the other. -/
def Rdr.slice {α : Type} (R : Rdr α) : Rdr (List α) where
  size := 1
  rd w F cs xs := ∃ ad cap, cs = [.slice ad xs.length cap] ∧ xs.length ≤ cap ∧ cap ≤ maxLen ∧
    ∀ i (h : i < xs.length), ∃ b o es, ad = some ⟨b, o, none⟩ ∧ F b ∧ b < w.heap.size ∧ R.rd w F es xs[i] ∧ ∀ j u, es[j]? = some u → w.cell? ⟨b, o + i * R.size + j, none⟩ = some u
  len := by rintro w F cs x ⟨ad, cap, rfl, _⟩; rfl
  one := by rintro w F cs x ⟨ad, cap, rfl, _⟩ u hu; simp at hu; subst hu; rfl
  stay := by
    rintro w w' F G cs xs ⟨ad, cap, rfl, h1, h2, h3⟩ hs
    refine ⟨ad, cap, rfl, h1, h2, fun i hi => ?_⟩
    obtain ⟨b, o, es, rfl, hF, hlt, hr, hc⟩ := h3 i hi
    have hb := hs b hF hlt
    exact ⟨b, o, es, rfl, hb.2, heap_lt hb.1 hlt, R.stay hr hs, fun j u hu => cell_of_heap hb.1 (hc j u hu)⟩

/-- A slice of elements of one cell, opened. -/
theorem Rdr.slice1 {α : Type} {R : Rdr α} (hR : R.size = 1) {w : World} {F : Nat → Prop} {v : Value} {xs : List α} (h : R.slice.rd w F [v] xs) :
    ∃ ad cap, v = .slice ad xs.length cap ∧ xs.length ≤ cap ∧ cap ≤ maxLen ∧ ∀ i (h : i < xs.length), ∃ b o u, ad = some ⟨b, o, none⟩ ∧ R.rd w F [u] xs[i] ∧ w.cell? ⟨b, o + i, none⟩ = some u := by
  obtain ⟨ad, cap, hv, h1, h2, h3⟩ := h
  refine ⟨ad, cap, by simpa using hv, h1, h2, fun i hi => ?_⟩
  obtain ⟨b, o, es, rfl, hF, hlt, hr, hc⟩ := h3 i hi
  have hl := R.len hr
  rw [hR] at hl
  obtain ⟨u, rfl⟩ := List.length_eq_one_iff.1 hl
  exact ⟨b, o, u, rfl, hr, by have := hc 0 u rfl; simpa [hR] using this⟩

theorem ints {w : World} {F : Nat → Prop} {v : Value} {xs : List Int} (h : intR.slice.rd w F [v] xs) :
    ∃ ad cap, v = .slice ad xs.length cap ∧ xs.length ≤ cap ∧ cap ≤ maxLen ∧ ∀ i (h : i < xs.length), ∃ b o, ad = some ⟨b, o, none⟩ ∧ I64 xs[i] ∧ w.cell? ⟨b, o + i, none⟩ = some (.int .i64 xs[i]) := by
  obtain ⟨ad, cap, hv, h1, h2, h3⟩ := Rdr.slice1 (R := intR) rfl h
  refine ⟨ad, cap, hv, h1, h2, fun i hi => ?_⟩
  obtain ⟨b, o, u, rfl, hr, hc⟩ := h3 i hi
  have := hr.1
  simp at this
  subst this
  exact ⟨b, o, rfl, hr.2, hc⟩

/-- A slice that the call itself is making: it owns its row (block B or a later one), its elements are read in other blocks, in F. -/
def Bld {α : Type} (R : Rdr α) (F : Nat → Prop) (w : World) (B : Nat) (e : TypeId) (v : Value) (xs : List α) : Prop :=
  ∃ us : List Value, w.ownsRow B e R.size v xs.length us ∧ ∀ i (h : i < xs.length), R.rd w (fun k => F k ∧ some k ≠ v.ownBlock) ((us.drop (i * R.size)).take R.size) xs[i]

theorem Bld.nil {α : Type} (R : Rdr α) (F : Nat → Prop) (w : World) (B : Nat) (e : TypeId) : Bld R F w B e (.slice none 0 0) [] :=
  ⟨[], World.ownsRow_nil _ _ _ _, fun i h => absurd h (by simp)⟩

theorem ownsRow.block_lt {w : World} {B : Nat} {e : TypeId} {size : Nat} {v : Value} {n : Nat} {us : List Value} (h : w.ownsRow B e size v n us) : ∀ k, v.ownBlock = some k → B ≤ k ∧ k < w.heap.size := World.ownsRow.lt h

theorem Bld.ext {α : Type} {R : Rdr α} {F : Nat → Prop} {w w' : World} {B : Nat} {e : TypeId} {v : Value} {xs : List α} (h : Bld R F w B e v xs) (hx : Ext w w') : Bld R F w' B e v xs := by
  obtain ⟨us, ho, hr⟩ := h
  refine ⟨us, ?_, fun i hi => R.ext (hr i hi) hx⟩
  refine ho.kept (row := none) ⟨hx.os, hx.tape, hx.output, hx.size, fun k hk _ => hx.block k hk⟩ ?_
  cases v.ownBlock <;> simp

theorem Bld.grown {α : Type} {R : Rdr α} {F : Nat → Prop} {w w' : World} {B : Nat} {e : TypeId} {v : Value} {xs : List α} {row : Option Nat} (h : Bld R F w B e v xs) (hg : w.grownBy w' row)
    (hne : v.ownBlock = none ∨ v.ownBlock ≠ row) (hF : ∀ k, F k → some k ≠ row) : Bld R F w' B e v xs := by
  obtain ⟨us, ho, hr⟩ := h
  exact ⟨us, ho.kept hg hne, fun i hi => R.grown (hr i hi) hg fun k hk => hF k hk.1⟩

theorem Bld.F_mono {α : Type} {R : Rdr α} {F G : Nat → Prop} {w : World} {B : Nat} {e : TypeId} {v : Value} {xs : List α} (h : Bld R F w B e v xs) (hm : ∀ k, F k → k < w.heap.size → G k) : Bld R G w B e v xs := by
  obtain ⟨us, ho, hr⟩ := h
  exact ⟨us, ho, fun i hi => R.mono (hr i hi) fun k hk hl => ⟨hm k hk.1 hl, hk.2⟩⟩

/-- What has been made reads as what it holds. -/
theorem Bld.read {α : Type} {R : Rdr α} {F G : Nat → Prop} {w : World} {B : Nat} {e : TypeId} {v : Value} {xs : List α} (h : Bld R F w B e v xs)
    (hG : ∀ k, v.ownBlock = some k → G k) (hm : ∀ k, F k → G k) : R.slice.rd w G [v] xs := by
  obtain ⟨us, ho, hr⟩ := h
  have hlt := World.ownsRow.lt ho
  obtain ⟨hl, h2⟩ := ho
  rcases h2 with ⟨rfl, h0⟩ | ⟨g, cap, cur, rfl, hb, hh, hn, hc, hs, ht⟩
  · have : xs = [] := List.eq_nil_of_length_eq_zero h0
    subst this
    exact ⟨none, 0, rfl, by simp, by simp, fun i hi => absurd hi (by simp)⟩
  · refine ⟨_, cap, rfl, hn, hc, fun i hi => ?_⟩
    have hr' := hr i hi
    refine ⟨g, 0, _, rfl, hG g rfl, (hlt g rfl).2, R.mono hr' (fun k hk _ => hm k hk.1), fun j u hu => ?_⟩
    have hcells := World.ownsRow.cells (w := w) (base := B) (e := e) (size := R.size) (v := .slice (some ⟨g, 0, none⟩) xs.length cap) (n := xs.length) (xs := us)
      ⟨hl, .inr ⟨g, cap, cur, rfl, hb, hh, hn, hc, hs, ht⟩⟩ (g := g) rfl (i * R.size + j) u
    rw [show (⟨g, 0 + i * R.size + j, none⟩ : Addr) = (⟨g, 0, none⟩ : Addr).add (i * R.size + j) from by rw [add0]; simp]
    apply hcells
    rw [List.getElem?_take] at hu
    split at hu
    · rw [List.getElem?_drop] at hu; exact hu
    · cases hu

/-- The row's cells behind an append of the cells es. -/
theorem own_append {P : Program} (w : World) (t ty e : TypeId) (i : TypeInfo) (z : Value) (size bytes B : Nat) (ht : P.underlying t = some (.slice e)) (hi : P.info? e = some i) (hz : i.zero = some z)
    (hsize : i.size = size) (hby : i.bytes = bytes) (hzs : z.cells.size = size) (hsz : 0 < size)
    (v : Value) (n : Nat) (us : List Value) (hown : w.ownsRow B e size v n us)
    (a : Addr) (m c : Nat) (es : List Value) (hl : es.length = m * size) (hes : ∀ j u, es[j]? = some u → w.cell? (a.add j) = some u) (h1 : ∀ u ∈ es, u.oneCell' = true)
    (hm : 0 < m) (h63 : n + m ≤ 9223372036854775807) (hbytes : (n + m) * bytes ≤ 140737488355328) (hB : B ≤ w.heap.size) :
    ∃ v' w', (Builtin.append_ #[t, t] ty #[v, .slice (some a) m c]).run P w = .ok v' w' ∧ w'.ownsRow B e size v' (n + m) (us ++ es) ∧ w.grownBy w' v.ownBlock ∧
      (v'.ownBlock = v.ownBlock ∨ v'.ownBlock = some w.heap.size) ∧ ∃ g cap, v' = .slice (some ⟨g, 0, none⟩) (n + m) cap := by
  obtain ⟨v', w', hr, hown', hg, hnil⟩ := run_append_own (P := P) w B t ty e i z size bytes ht hi hz hsize hby hzs hsz v n us hown a m c es hl hes h1 (by simp only [maxLen]; omega) hbytes hB
  refine ⟨v', w', hr, hown', hg, ?_, ?_⟩
  · subst hsize; subst hby
    rcases hown.2 with ⟨rfl, rfl⟩ | ⟨g, cap, cur, rfl, hbg, hgg, hnc, hcm, hcs, htake⟩
    · have hr2 := run_append_nil (P := P) w t ty e i z ht hi hz a m c es hl hes hm (by omega) (by simp only [Nat.zero_add] at hbytes; omega)
      rw [hr2] at hr
      simp only [Result.ok.injEq] at hr
      exact .inr (by rw [← hr.1]; rfl)
    · by_cases hroom : n + m ≤ cap
      · have hfit : n * i.size + es.length ≤ cur.size := by rw [hl, hcs, ← Nat.add_mul]; exact Nat.mul_le_mul_right _ hroom
        have hr2 := run_append_room (P := P) w t ty e i ht hi g n cap cur hgg a m c es hl hes h1 hroom hfit
        rw [hr2] at hr
        simp only [Result.ok.injEq] at hr
        exact .inl (by rw [← hr.1]; rfl)
      · have hold : ∀ j u, us[j]? = some u → w.cell? ((⟨g, 0, none⟩ : Addr).add j) = some u := hown.cells (g := g) rfl
        have hr2 := run_append_grow (P := P) w t ty e i z ht hi hz ⟨g, 0, none⟩ n cap us hown.1 hold a m c es hl hes (by omega) (by omega) (growslice_fits (by omega) hbytes)
        rw [hr2] at hr
        simp only [Result.ok.injEq] at hr
        exact .inr (by rw [← hr.1]; rfl)
  · rcases hown'.2 with ⟨rfl, h0⟩ | ⟨g, cap, cur, rfl, _⟩
    · omega
    · exact ⟨g, cap, rfl⟩

theorem take_chunk {us es : List Value} {n i size : Nat} (hl : us.length = n * size) (hi : i < n) : ((us ++ es).drop (i * size)).take size = (us.drop (i * size)).take size := by
  have h1 : i * size + size ≤ us.length := by rw [hl]; have := Nat.mul_le_mul_right size (show i + 1 ≤ n from hi); rw [Nat.add_mul] at this; omega
  rw [List.drop_append_of_le_length (by omega), List.take_append_of_le_length (by rw [List.length_drop]; omega)]

theorem Bld.snoc {α : Type} {R : Rdr α} {F : Nat → Prop} {w w' : World} {B : Nat} {e : TypeId} {v v' : Value} {xs : List α} {x : α} {us es : List Value}
    (ho : w.ownsRow B e R.size v xs.length us) (hr : ∀ i (h : i < xs.length), R.rd w (fun k => F k ∧ some k ≠ v.ownBlock) ((us.drop (i * R.size)).take R.size) xs[i])
    (hx : R.rd w (fun k => F k ∧ some k ≠ v.ownBlock) es x) (ho' : w'.ownsRow B e R.size v' (xs.length + 1) (us ++ es)) (hg : w.grownBy w' v.ownBlock)
    (hv : v'.ownBlock = v.ownBlock ∨ v'.ownBlock = some w.heap.size) : Bld R F w' B e v' (xs ++ [x]) := by
  have keep : ∀ {cs y}, R.rd w (fun k => F k ∧ some k ≠ v.ownBlock) cs y → R.rd w' (fun k => F k ∧ some k ≠ v'.ownBlock) cs y := by
    intro cs y h
    refine R.stay h fun k hk hl => ⟨hg.block k hl hk.2, hk.1, ?_⟩
    rcases hv with hv | hv
    · rw [hv]; exact hk.2
    · rw [hv]; intro h; simp at h; omega
  refine ⟨us ++ es, by simpa using ho', fun i hi => ?_⟩
  rw [List.length_append, List.length_singleton] at hi
  by_cases hlt : i < xs.length
  · rw [List.getElem_append_left hlt, take_chunk ho.1 hlt]
    exact keep (hr i hlt)
  · have : i = xs.length := by omega
    subst this
    rw [List.getElem_append_right (Nat.le_refl _)]
    have hd : (us ++ es).drop (xs.length * R.size) = es := by rw [← ho.1]; simp
    rw [hd, List.take_of_length_le (by rw [R.len hx]; exact Nat.le_refl _)]
    simpa using keep hx

/-- 'out = append(out, x)': x was laid in a new block of its own (es), out is the call's own. -/
theorem wpList_append_one {P : Program} {w W : World} {ops : Array Oper} {rest : List Oper} {o : Oper} {a : Act} {Q : Exit → Act → World → Prop} {α : Type} (R : Rdr α) (F : Nat → Prop) (B : Nat) (hgd : o.guard = none) (s x : Operand) (t : TypeId)
    (ho : o.op = .call { callee := .builtin .append, args := #[s, x], argTypes := #[t, t] })
    (e : TypeId) (i : TypeInfo) (z : Value) (bytes : Nat) (ht : P.underlying t = some (.slice e)) (hi : P.info? e = some i) (hz : i.zero = some z)
    (hsize : i.size = R.size) (hby : i.bytes = bytes) (hzs : z.cells.size = R.size) (hsz : 0 < R.size)
    (v : Value) (xs : List α) (hs : a.eval s = v) (hb : Bld R F w B e v xs)
    (c : Nat) (es : List Value) (y : α) (hx : a.eval x = .slice (some ⟨w.heap.size, 0, none⟩) 1 c) (hy : R.rd w (fun k => F k ∧ some k ≠ v.ownBlock) es y)
    (h63 : xs.length + 1 ≤ 9223372036854775807) (hbytes : (xs.length + 1) * bytes ≤ 140737488355328) (hB : B ≤ w.heap.size)
    (h : ∀ g cap w', Bld R F w' B e (.slice (some ⟨g, 0, none⟩) (xs.length + 1) cap) (xs ++ [y]) → w.grownBy w' v.ownBlock → B ≤ g → (v.ownBlock = some g ∨ w.heap.size ≤ g) →
      wpList P ops Q rest (a.put o.dst (.slice (some ⟨g, 0, none⟩) (xs.length + 1) cap)) w') (hW : W = w.alloc (.cells es.toArray e)) : wpList P ops Q (o :: rest) a W := by
  subst hW
  have hext := Ext.alloc w (.cells es.toArray e)
  obtain ⟨us, hown, hrd⟩ := hb
  have hown1 := hown.alloc (.cells es.toArray e)
  have hcell : ∀ j u, es[j]? = some u → (w.alloc (.cells es.toArray e)).cell? ((⟨w.heap.size, 0, none⟩ : Addr).add j) = some u := by
    intro j u hu
    have hadd : (⟨w.heap.size, 0, none⟩ : Addr).add j = ⟨w.heap.size, j, none⟩ := by unfold Addr.add; split <;> simp_all
    rw [hadd]
    unfold World.cell?
    rw [heap_alloc_new w (.cells es.toArray e)]
    simpa using hu
  obtain ⟨v', w', hr, hown', hg, hv, g, cap, rfl⟩ := own_append (P := P) _ t o.type e i z R.size bytes B ht hi hz hsize hby hzs hsz v xs.length us hown1 ⟨w.heap.size, 0, none⟩ 1 c es (by rw [R.len hy, Nat.one_mul]) hcell (R.one hy) (by omega) h63 hbytes (by rw [World.size_alloc]; omega)
  have hg0 : w.grownBy w' v.ownBlock := ⟨hg.os, hg.tape, hg.output, Nat.le_trans (by simp) hg.size, fun k hk hne => (hg.block k (by simp; omega) hne).trans (heap_alloc_old w _ hk)⟩
  have hb' := Bld.snoc hown1 (fun j hj => R.ext (hrd j hj) hext) (R.ext hy hext) hown' hg hv
  refine wpList_plain hgd fun K hK => ?_
  unfold Oper.wp execOp
  simp only [ho, resolve, invoke, builtin, Sem.run_bind, Sem.run_pure, Result.andThen_ok, List.map_toArray, List.map_cons, List.map_nil, hs, hx, hr]
  refine hK _ _ (h g cap w' hb' hg0 ((World.ownsRow.lt hown') g rfl).1 ?_)
  rcases hv with hv | hv
  · exact .inl hv.symm
  · simp [Value.ownBlock] at hv; exact .inr (by omega)
end Dac
namespace Dac
open Go Go.RowKit
/-- It returns v; of memory that was there nothing has turned. -/
def Ret (w : World) (v : Value) (e : Ending) (w' : World) : Prop := e = .returned v ∧ Ext w w'
/-- It returns v and only reads. -/
def QRet (w : World) (v : Value) (e : Ending) (w' : World) : Prop := e = .returned v ∧ ∃ n, w' = w.drewN n
theorem QRet.ret {w : World} {v : Value} {e : Ending} {w' : World} (h : QRet w v e w') : Ret w v e w' := by
  obtain ⟨h1, n, rfl⟩ := h; exact ⟨h1, Ext.drewN w n⟩
end Dac
namespace Dac
open Go
theorem drew2 (w : World) (n m : Nat) : ∃ k, (w.drewN n).drewN m = w.drewN k := ⟨_, World.drewN_drewN _ _ _⟩
end Dac
namespace Dac
open Go
theorem ret_bool {a b : Bool} (h : a = b) : Ending.returned (.bool a) = .returned (.bool b) := by rw [h]
theorem ret_int {k : IntKind} {a b : Int} (h : a = b) : Ending.returned (.int k a) = .returned (.int k b) := by rw [h]
end Dac
namespace Dac
open Go Go.RowKit
/-- An array of two numbers. -/
def pairR : Rdr (Int × Int) := intR.prod intR
theorem pairs {w : World} {F : Nat → Prop} {v : Value} {xs : List (Int × Int)} (h : pairR.slice.rd w F [v] xs) :
    ∃ ad cap, v = .slice ad xs.length cap ∧ xs.length ≤ cap ∧ cap ≤ maxLen ∧ ∀ i (h : i < xs.length), ∃ b o, ad = some ⟨b, o, none⟩ ∧ I64 xs[i].1 ∧ I64 xs[i].2 ∧ w.cell? ⟨b, o + i * 2, none⟩ = some (.int .i64 xs[i].1) ∧ w.cell? ⟨b, o + i * 2 + 1, none⟩ = some (.int .i64 xs[i].2) := by
  obtain ⟨ad, cap, hv, h1, h2, h3⟩ := h
  refine ⟨ad, cap, by simpa using hv, h1, h2, fun i hi => ?_⟩
  obtain ⟨b, o, es, rfl, hF, hlt, ⟨c1, c2, rfl, r1, r2⟩, hc⟩ := h3 i hi
  have e1 := r1.1
  have e2 := r2.1
  rw [e1, e2] at hc
  exact ⟨b, o, rfl, r1.2, r2.2, hc 0 _ rfl, hc 1 _ rfl⟩
/-- Rows of numbers. -/
abbrev rowsR : Rdr (List (List Int)) := intR.slice.slice
/-- Words: each a struct of one field, rows of numbers. -/
abbrev wordsR : Rdr (List (List (List Int))) := rowsR.slice
theorem rows {α : Type} {R : Rdr α} {w : World} {F : Nat → Prop} {v : Value} {xs : List (List α)} (h : R.slice.slice.rd w F [v] xs) :
    ∃ ad cap, v = .slice ad xs.length cap ∧ xs.length ≤ cap ∧ cap ≤ maxLen ∧ ∀ i (h : i < xs.length), ∃ b o ad2 cap2, ad = some ⟨b, o, none⟩ ∧ R.slice.rd w F [.slice ad2 xs[i].length cap2] xs[i] ∧ w.cell? ⟨b, o + i, none⟩ = some (.slice ad2 xs[i].length cap2) ∧ xs[i].length ≤ maxLen := by
  obtain ⟨ad, cap, hv, h1, h2, h3⟩ := Rdr.slice1 (R := R.slice) rfl h
  refine ⟨ad, cap, hv, h1, h2, fun i hi => ?_⟩
  obtain ⟨b, o, u, rfl, hr, hc⟩ := h3 i hi
  obtain ⟨ad2, cap2, hu, l1, l2, r⟩ := hr
  obtain rfl : u = _ := by simpa using hu
  exact ⟨b, o, ad2, cap2, rfl, ⟨ad2, cap2, rfl, l1, l2, r⟩, hc, Nat.le_trans l1 l2⟩
end Dac
namespace Dac
open Go Go.RowKit
theorem cell_alloc (w : World) (cs : Array Value) (e : TypeId) (j : Nat) {u : Value} (h : cs[j]? = some u) : (w.alloc (.cells cs e)).cell? ((⟨w.heap.size, 0, none⟩ : Addr).add j) = some u := by
  rw [add0]
  unfold World.cell?
  rw [heap_alloc_new w (.cells cs e)]
  simpa using h
/-- A literal slice of one-cell elements, just laid. -/
theorem lit_read {α : Type} {R : Rdr α} (hR : R.size = 1) (w : World) (e : TypeId) (us : List Value) (xs : List α) (F : Nat → Prop) (hF : F w.heap.size) (hl : us.length = xs.length) (hm : xs.length ≤ maxLen)
    (h : ∀ i (h1 : i < xs.length) (h2 : i < us.length), R.rd w F [us[i]] xs[i]) :
    R.slice.rd (w.alloc (.cells us.toArray e)) F [.slice (some ⟨w.heap.size, 0, none⟩) xs.length xs.length] xs := by
  refine ⟨_, _, rfl, Nat.le_refl _, hm, fun i hi => ⟨w.heap.size, 0, [us[i]'(by omega)], rfl, hF, by simp, R.ext (h i hi (by omega)) (Ext.alloc _ _), fun j u hu => ?_⟩⟩
  have : j = 0 := by
    rcases j with _ | j
    · rfl
    · simp at hu
  subst this
  have hu' : us[i]'(by omega) = u := by simpa using hu
  rw [← add0]
  refine cell_alloc w _ e _ ?_
  rw [hR, Nat.mul_one, Nat.add_zero, Nat.zero_add, List.getElem?_toArray, List.getElem?_eq_getElem (by omega), hu']
theorem ints_lit (w : World) (e : TypeId) (xs : List Int) (F : Nat → Prop) (hF : F w.heap.size) (hm : xs.length ≤ maxLen) (h : ∀ x ∈ xs, I64 x) :
    intR.slice.rd (w.alloc (.cells (xs.map (Value.int .i64)).toArray e)) F [.slice (some ⟨w.heap.size, 0, none⟩) xs.length xs.length] xs :=
  lit_read rfl w e _ xs F hF (by simp) hm fun i h1 h2 => ⟨by simp, h _ (List.getElem_mem _)⟩
end Dac
namespace Dac
open Go Go.RowKit
theorem toRet {P : Program} {f : FuncId} {args : Array Value} {w : World} {v : Value} (h : Calls P f args w (QRet w v)) : Calls P f args w (Ret w v) :=
  h.mono fun _ _ q => q.ret
end Dac
namespace Dac
open Go Go.RowKit
theorem cell_alloc0 (w : World) (cs : Array Value) (e : TypeId) (j : Nat) {u : Value} (h : cs[j]? = some u) : (w.alloc (.cells cs e)).cell? ⟨w.heap.size, j, none⟩ = some u := by
  rw [← add0]; exact cell_alloc w cs e j h
theorem cells1 {w w2 : World} {a : Value} {t : TypeId} (h : Ext (w.alloc (.cells #[a] t)) w2) : w2.cell? ⟨w.heap.size, 0, none⟩ = some a :=
  h.cell (cell_alloc0 w _ t 0 rfl)
theorem cells2 {w w2 : World} {a b : Value} {t : TypeId} (h : Ext (w.alloc (.cells #[a, b] t)) w2) : w2.cell? ⟨w.heap.size, 0, none⟩ = some a ∧ w2.cell? ⟨w.heap.size, 1, none⟩ = some b :=
  ⟨h.cell (cell_alloc0 w _ t 0 rfl), h.cell (cell_alloc0 w _ t 1 rfl)⟩
theorem cells4 {w w2 : World} {a b c d : Value} {t : TypeId} (h : Ext (w.alloc (.cells #[a, b, c, d] t)) w2) : w2.cell? ⟨w.heap.size, 0, none⟩ = some a ∧ w2.cell? ⟨w.heap.size, 1, none⟩ = some b ∧ w2.cell? ⟨w.heap.size, 2, none⟩ = some c ∧ w2.cell? ⟨w.heap.size, 3, none⟩ = some d :=
  ⟨h.cell (cell_alloc0 w _ t 0 rfl), h.cell (cell_alloc0 w _ t 1 rfl), h.cell (cell_alloc0 w _ t 2 rfl), h.cell (cell_alloc0 w _ t 3 rfl)⟩
theorem cells5 {w w2 : World} {a b c d e : Value} {t : TypeId} (h : Ext (w.alloc (.cells #[a, b, c, d, e] t)) w2) : w2.cell? ⟨w.heap.size, 0, none⟩ = some a ∧ w2.cell? ⟨w.heap.size, 1, none⟩ = some b ∧ w2.cell? ⟨w.heap.size, 2, none⟩ = some c ∧ w2.cell? ⟨w.heap.size, 3, none⟩ = some d ∧ w2.cell? ⟨w.heap.size, 4, none⟩ = some e :=
  ⟨h.cell (cell_alloc0 w _ t 0 rfl), h.cell (cell_alloc0 w _ t 1 rfl), h.cell (cell_alloc0 w _ t 2 rfl), h.cell (cell_alloc0 w _ t 3 rfl), h.cell (cell_alloc0 w _ t 4 rfl)⟩
end Dac
namespace Dac
open Go Go.RowKit
/-- w' is w behind some draws. -/
def Drawn (w w' : World) : Prop := ∃ n, w' = w.drewN n
theorem Drawn.refl (w : World) : Drawn w w := ⟨0, rfl⟩
theorem Drawn.ext {w w' : World} (h : Drawn w w') : Ext w w' := by obtain ⟨n, rfl⟩ := h; exact Ext.drewN w n
theorem Drawn.drewN {w w' : World} (h : Drawn w w') (n : Nat) : Drawn w (w'.drewN n) := by obtain ⟨m, rfl⟩ := h; exact ⟨_, World.drewN_drewN _ _ _⟩
theorem Drawn.out {w w' : World} (h : Drawn w w') : ∃ n, w' = w.drewN n := h
end Dac
namespace Dac
open Go Go.RowKit
theorem Bld.lt {α : Type} {R : Rdr α} {F : Nat → Prop} {w : World} {B : Nat} {e : TypeId} {v : Value} {xs : List α} (h : Bld R F w B e v xs) : ∀ k, v.ownBlock = some k → B ≤ k ∧ k < w.heap.size := by
  obtain ⟨us, ho, _⟩ := h; exact World.ownsRow.lt ho
/-- What was there before does not meet what the call makes. -/
theorem Rdr.apart {α β : Type} {R : Rdr α} {S : Rdr β} {F G : Nat → Prop} {w w' : World} {e : TypeId} {v : Value} {ys : List β} {cs : List Value} {x : α} (h : R.rd w F cs x) (hx : Ext w w') (hB : Bld S G w' w.heap.size e v ys) :
    R.rd w' (fun k => F k ∧ some k ≠ v.ownBlock) cs x :=
  R.stay h fun k hF hk => ⟨hx.block k hk, hF, fun e => by have := (hB.lt k e.symm).1; omega⟩
end Dac
namespace Dac
open Go Go.RowKit
theorem below_dn {B : Nat} {a w : World} (h : Below B a w) (n : Nat) : Below B a (w.drewN n) := h.trans ⟨rfl, rfl, rfl, Nat.le_refl _, fun _ _ => rfl⟩
/-- A step of the call's own behind what has been kept so far. -/
theorem below_ext {B : Nat} {a w w' : World} (h : Below B a w) (hx : Ext w w') (hB : B ≤ w.heap.size) : Below B a w' := h.trans (hx.mono hB)
end Dac
namespace Dac
open Go Go.RowKit
theorem ints_ne {w : World} {F : Nat → Prop} {v : Value} {xs : List Int} (h : intR.slice.rd w F [v] xs) (hne : 0 < xs.length) :
    ∃ b o cap, v = .slice (some ⟨b, o, none⟩) xs.length cap ∧ xs.length ≤ 9223372036854775807 ∧ ∀ i (h : i < xs.length), I64 xs[i] ∧ w.cell? ⟨b, o + i, none⟩ = some (.int .i64 xs[i]) := by
  obtain ⟨ad, cap, rfl, l1, l2, e⟩ := ints h
  obtain ⟨b, o, rfl, _, _⟩ := e 0 hne
  refine ⟨b, o, cap, rfl, by unfold maxLen at l2; omega, fun i hi => ?_⟩
  obtain ⟨b', o', he, h1, h2⟩ := e i hi
  simp only [Option.some.injEq, Addr.mk.injEq, and_true] at he
  obtain ⟨rfl, rfl⟩ := he
  exact ⟨h1, h2⟩
theorem pairs_ne {w : World} {F : Nat → Prop} {v : Value} {xs : List (Int × Int)} (h : pairR.slice.rd w F [v] xs) (hne : 0 < xs.length) :
    ∃ b o cap, v = .slice (some ⟨b, o, none⟩) xs.length cap ∧ xs.length ≤ 9223372036854775807 ∧ ∀ i (h : i < xs.length), I64 xs[i].1 ∧ I64 xs[i].2 ∧ w.cell? ⟨b, o + i * 2, none⟩ = some (.int .i64 xs[i].1) ∧ w.cell? ⟨b, o + i * 2 + 1, none⟩ = some (.int .i64 xs[i].2) := by
  obtain ⟨ad, cap, rfl, l1, l2, e⟩ := pairs h
  obtain ⟨b, o, rfl, _, _⟩ := e 0 hne
  refine ⟨b, o, cap, rfl, by unfold maxLen at l2; omega, fun i hi => ?_⟩
  obtain ⟨b', o', he, h1, h2⟩ := e i hi
  simp only [Option.some.injEq, Addr.mk.injEq, and_true] at he
  obtain ⟨rfl, rfl⟩ := he
  exact ⟨h1, h2⟩
theorem rows_ne {α : Type} {R : Rdr α} {w : World} {F : Nat → Prop} {v : Value} {xs : List (List α)} (h : R.slice.slice.rd w F [v] xs) (hne : 0 < xs.length) :
    ∃ b o cap, v = .slice (some ⟨b, o, none⟩) xs.length cap ∧ xs.length ≤ 9223372036854775807 ∧ ∀ i (h : i < xs.length), ∃ a2 c2, w.cell? ⟨b, o + i, none⟩ = some (.slice a2 xs[i].length c2) ∧ R.slice.rd w F [.slice a2 xs[i].length c2] xs[i] ∧ xs[i].length ≤ 9223372036854775807 := by
  obtain ⟨ad, cap, rfl, l1, l2, e⟩ := rows h
  obtain ⟨b, o, _, _, rfl, _⟩ := e 0 hne
  refine ⟨b, o, cap, rfl, by unfold maxLen at l2; omega, fun i hi => ?_⟩
  obtain ⟨b', o', a2, c2, he, h1, h2, h3⟩ := e i hi
  simp only [Option.some.injEq, Addr.mk.injEq, and_true] at he
  obtain ⟨rfl, rfl⟩ := he
  exact ⟨a2, c2, h2, h1, by unfold maxLen at h3; omega⟩
end Dac
namespace Dac
open Go Go.RowKit

/-- The type t is an array of two ints. -/
structure IsPair (P : Program) (t e : TypeId) : Prop where
  ht : P.underlying t = some (.array 2 e)
  he : P.underlying e = some (.int .i64)
  hi : (P.info? e).map (·.size) = some 1
  hq : P.eqGuardType P.depth t = false
  hs : (P.info? t).map (·.size) = some 2

theorem run_part_int {P : Program} {e : TypeId} {k : IntKind} (he : P.underlying e = some (.int k)) (cs : Array Value) (off : Nat) {v : Value} (h : cs[off]? = some v) (w : World) : (part e cs off).run P w = .ok v w := by
  simp [part, isAgg, run_underlying he, h]
theorem IsPair.size {P : Program} {t e : TypeId} (h : IsPair P t e) (w : World) : (Go.sizeOf e).run P w = .ok 1 w := by
  have h1 := h.hi
  cases hi : P.info? e with
  | none => rw [hi] at h1; cases h1
  | some i => rw [hi] at h1; have h2 := Option.some.inj h1; simp only [] at h2; simp [Go.sizeOf, typeInfo, hi, h2]

theorem IsPair.size2 {P : Program} {t e : TypeId} (h : IsPair P t e) (w : World) : (Go.sizeOf t).run P w = .ok 2 w := by
  have h1 := h.hs
  cases hi : P.info? t with
  | none => rw [hi] at h1; cases h1
  | some i => rw [hi] at h1; have h2 := Option.some.inj h1; simp only [] at h2; simp [Go.sizeOf, typeInfo, hi, h2]
theorem add_add (a : Addr) (n m : Nat) : (a.add n).add m = a.add (n + m) := by
  obtain ⟨b, o, s⟩ := a
  unfold Addr.add
  by_cases h1 : n = 0 <;> by_cases h2 : m = 0 <;> simp [h1, h2, Nat.add_assoc]
/-- A pair in memory, loaded whole. -/
theorem load_pair {P : Program} {t e : TypeId} (h : IsPair P t e) {w : World} {a : Addr} {u v : Value} (h0 : w.cell? a = some u) (h1 : w.cell? (a.add 1) = some v) :
    (Instr.loadAt t (.pointer (some a))).run P w = .ok (.agg #[u, v]) w := by
  have hl := run_loadCells_list (P := P) (w := w) a [u, v] (fun j x hx => by
    match j, hx with
    | 0, hx => simp at hx; subst hx; rw [show a.add 0 = a from rfl]; exact h0
    | 1, hx => simp at hx; subst hx; exact h1)
  simp only [List.length_cons, List.length_nil] at hl
  simp only [Instr.loadAt, Instr.sureAddr, loadVar, isAgg, Sem.run_bind, Sem.run_pure, Result.andThen_ok, run_underlying h.ht, if_true, h.size2, hl]
theorem equalIn_pair {P : Program} {t e : TypeId} (h : IsPair P t e) (d : Nat) (a b c e2 : Int) (w : World) :
    (Op.equalIn (d + 2) t (.agg #[.int .i64 a, .int .i64 b]) (.agg #[.int .i64 c, .int .i64 e2])).run P w = .ok (a == c && b == e2) w := by
  rw [Op.equalIn]
  simp only [Sem.run_bind, run_underlying h.ht, Result.andThen_ok, h.size]
  have p0 : ∀ x y : Int, ∀ w, (part e #[.int .i64 x, .int .i64 y] (0 * 1)).run P w = .ok (.int .i64 x) w := fun x y w => run_part_int h.he _ _ rfl w
  have p1 : ∀ x y : Int, ∀ w, (part e #[.int .i64 x, .int .i64 y] (1 * 1)).run P w = .ok (.int .i64 y) w := fun x y w => run_part_int h.he _ _ rfl w
  have q : ∀ x y : Int, ∀ w, (Op.equalIn (d + 1) e (.int .i64 x) (.int .i64 y)).run P w = .ok (x == y) w := fun x y w => run_equalIn_int w d e _ _ x y h.he
  simp [Std.Legacy.Range.forIn_eq_forIn_range', List.range', p0, p1, q]
  by_cases h1 : a = c <;> by_cases h2 : b = e2 <;> simp [h1, h2]
theorem equal_pair {P : Program} {t e : TypeId} (h : IsPair P t e) (a b c d : Int) (w : World) :
    (Op.equal t (.agg #[.int .i64 a, .int .i64 b]) (.agg #[.int .i64 c, .int .i64 d])).run P w = .ok (a == c && b == d) w :=
  equalIn_pair h 9998 a b c d w
theorem eql_pair {P : Program} {t e : TypeId} (h : IsPair P t e) (a b c d : Int) (w : World) :
    (binOp .eql t (.agg #[.int .i64 a, .int .i64 b]) (.agg #[.int .i64 c, .int .i64 d])).run P w = .ok (.bool (a == c && b == d)) w := by
  rw [run_eql_struct, equalIn_pair h 9998]; rfl
theorem neq_pair {P : Program} {t e : TypeId} (h : IsPair P t e) (a b c d : Int) (w : World) :
    (binOp .neq t (.agg #[.int .i64 a, .int .i64 b]) (.agg #[.int .i64 c, .int .i64 d])).run P w = .ok (.bool (!(a == c && b == d))) w := by
  rw [run_neq_struct, equalIn_pair h 9998]; rfl

/-- How keys of a map stand as values, and that Go tells them apart as Lean does. -/
structure Keys (P : Program) (kt : TypeId) {κ : Type} [DecidableEq κ] (enc : κ → Value) : Prop where
  eq : ∀ a b w, (Op.equal kt (enc a) (enc b)).run P w = .ok (decide (a = b)) w
  chk : ∀ a b w, (Instr.checkKey b 10000 kt (enc a)).run P w = .ok () w
  same : ∀ a, Instr.sameBits 10000 (enc a) (enc a) = true
  kind : ∃ d, P.underlying kt = some d ∧ ∀ a b, Instr.sameNow d (enc a) (enc b) = none ∨ Instr.sameNow d (enc a) (enc b) = some (decide (a = b))

/-- Which entry bears the key, and what it holds. -/
def mfind {κ : Type} [DecidableEq κ] (k : κ) : List (κ × Value) → Nat → Option (Nat × Value)
  | [], _ => none
  | p :: ps, i => if k = p.1 then some (i, p.2) else mfind k ps (i + 1)
def mget {κ : Type} [DecidableEq κ] (ks : List (κ × Value)) (k : κ) : Option Value := (mfind k ks 0).map (·.2)
def mset {κ : Type} [DecidableEq κ] (ks : List (κ × Value)) (k : κ) (v : Value) : List (κ × Value) :=
  match mfind k ks 0 with
  | some (i, _) => ks.modify i fun p => (p.1, v)
  | none => ks ++ [(k, v)]
/-- Block r is a map whose entries, in their order, are ks. -/
def MapAt {κ : Type} (enc : κ → Value) (w : World) (r : Nat) (ks : List (κ × Value)) : Prop :=
  ∃ es clock, w.heap[r]? = some (.map es clock) ∧ es.toList.map (fun e => (e.key, e.val)) = ks.map fun p => (enc p.1, p.2)

theorem findAsking_run {P : Program} {kt : TypeId} {κ : Type} [DecidableEq κ] {enc : κ → Value} (K : Keys P kt enc) (k : κ) (w : World) : ∀ (es : List MapEntry) (ks : List (κ × Value)) (i : Nat),
    es.map (fun e => (e.key, e.val)) = ks.map (fun p => (enc p.1, p.2)) → (Instr.findAsking kt (enc k) es i).run P w = .ok (mfind k ks i) w
  | [], ks, i, h => by
    cases ks with
    | nil => simp [Instr.findAsking, mfind]
    | cons p ps => simp at h
  | e :: es, ks, i, h => by
    cases ks with
    | nil => simp at h
    | cons p ps =>
      simp only [List.map_cons, List.cons.injEq, Prod.mk.injEq] at h
      obtain ⟨⟨h1, h2⟩, h3⟩ := h
      simp only [Instr.findAsking, Sem.run_bind, h1, K.eq, Result.andThen_ok, mfind]
      by_cases hk : k = p.1
      · simp [hk, h2]
      · simp only [hk, decide_false, Bool.false_eq_true, if_false]
        exact findAsking_run K k w es ps (i + 1) h3
theorem findNow_run {P : Program} {kt : TypeId} {κ : Type} [DecidableEq κ] {enc : κ → Value} {d : TypeDesc} (K : ∀ a b, Instr.sameNow d (enc a) (enc b) = none ∨ Instr.sameNow d (enc a) (enc b) = some (decide (a = b))) (k : κ) : ∀ (es : List MapEntry) (ks : List (κ × Value)) (i : Nat),
    es.map (fun e => (e.key, e.val)) = ks.map (fun p => (enc p.1, p.2)) → Instr.findNow d (enc k) es i = none ∨ Instr.findNow d (enc k) es i = some (mfind k ks i)
  | [], ks, i, h => by
    cases ks with
    | nil => exact .inr rfl
    | cons p ps => simp at h
  | e :: es, ks, i, h => by
    cases ks with
    | nil => simp at h
    | cons p ps =>
      simp only [List.map_cons, List.cons.injEq, Prod.mk.injEq] at h
      obtain ⟨⟨h1, h2⟩, h3⟩ := h
      simp only [Instr.findNow, h1, mfind]
      rcases K k p.1 with hn | hn
      · rw [hn]; exact .inl rfl
      · rw [hn]
        by_cases hk : k = p.1
        · simp [hk, h2]
        · simp only [hk, decide_false, if_false]
          exact findNow_run (P := P) (kt := kt) K k es ps (i + 1) h3
theorem findKey_run {P : Program} {kt : TypeId} {κ : Type} [DecidableEq κ] {enc : κ → Value} (K : Keys P kt enc) (k : κ) (w : World) (es : List MapEntry) (ks : List (κ × Value))
    (h : es.map (fun e => (e.key, e.val)) = ks.map (fun p => (enc p.1, p.2))) : (Instr.findKey kt (enc k) es).run P w = .ok (mfind k ks 0) w := by
  obtain ⟨d, hd, hs⟩ := K.kind
  simp only [Instr.findKey, Sem.run_bind, run_underlying hd, Result.andThen_ok]
  rcases findNow_run (P := P) (kt := kt) hs k es ks 0 h with hn | hn
  · rw [hn]; exact findAsking_run K k w es ks 0 h
  · rw [hn]; rfl

/-- 'v, ok := m[k]' -/
theorem run_lookup_ok {P : Program} {t kt et : TypeId} {κ : Type} [DecidableEq κ] {enc : κ → Value} (K : Keys P kt enc) (ht : P.underlying t = some (.map kt et)) {z : Value} (hz : ∀ w, (zeroValue et).run P w = .ok z w)
    {w : World} {r : Nat} {ks : List (κ × Value)} (h : MapAt enc w r ks) (k : κ) :
    (Instr.lookup t (.map (some r)) (enc k) true).run P w = .ok (.tuple #[(mget ks k).getD z, .bool (mget ks k).isSome]) w := by
  obtain ⟨es, clock, hr, he⟩ := h
  have hf := findKey_run K k w es.toList ks he
  simp only [Instr.lookup, Sem.run_bind, run_underlying ht, Result.andThen_ok, getObj, Sem.run, hr, K.chk, mget]
  cases hm : mfind k ks 0 with
  | none => rw [hm] at hf; simp [Sem.run, hz, hf]
  | some p => obtain ⟨i, v⟩ := p; rw [hm] at hf; simp [Sem.run, hf]
/-- 'm[k]' -/
theorem run_lookup_plain {P : Program} {t kt et : TypeId} {κ : Type} [DecidableEq κ] {enc : κ → Value} (K : Keys P kt enc) (ht : P.underlying t = some (.map kt et)) {z : Value} (hz : ∀ w, (zeroValue et).run P w = .ok z w)
    {w : World} {r : Nat} {ks : List (κ × Value)} (h : MapAt enc w r ks) (k : κ) :
    (Instr.lookup t (.map (some r)) (enc k) false).run P w = .ok ((mget ks k).getD z) w := by
  obtain ⟨es, clock, hr, he⟩ := h
  have hf := findKey_run K k w es.toList ks he
  simp only [Instr.lookup, Sem.run_bind, run_underlying ht, Result.andThen_ok, getObj, Sem.run, hr, K.chk, mget]
  cases hm : mfind k ks 0 with
  | none => rw [hm] at hf; simp [Sem.run, hz, hf]
  | some p => obtain ⟨i, v⟩ := p; rw [hm] at hf; simp [Sem.run, hf]

theorem mfind_lt {κ : Type} [DecidableEq κ] (k : κ) : ∀ (ks : List (κ × Value)) (i j : Nat) (v : Value), mfind k ks i = some (j, v) → i ≤ j ∧ ks[j - i]? = some (k, v)
  | [], _, _, _, h => by simp [mfind] at h
  | p :: ps, i, j, v, h => by
    simp only [mfind] at h
    split at h
    · rename_i hk
      simp only [Option.some.injEq, Prod.mk.injEq] at h
      obtain ⟨rfl, rfl⟩ := h
      subst hk
      exact ⟨Nat.le_refl _, by simp⟩
    · obtain ⟨h1, h2⟩ := mfind_lt k ps (i + 1) j v h
      refine ⟨by omega, ?_⟩
      rw [show j - i = (j - (i + 1)) + 1 from by omega, List.getElem?_cons_succ]
      exact h2

theorem modify_map {α β : Type} (f : α → β) (g : α → α) (g' : β → β) : ∀ (l : List α) (i : Nat), (∀ x, l[i]? = some x → f (g x) = g' (f x)) → (l.modify i g).map f = (l.map f).modify i g'
  | [], i, _ => by simp
  | x :: l, 0, h => by simp [h x rfl]
  | x :: l, i + 1, h => by
    simp only [List.modify_succ_cons, List.map_cons]
    rw [modify_map f g g' l i (fun y hy => h y (by simpa using hy))]

/-- 'm[k] = v' -/
theorem run_mapUpdate {P : Program} {t kt et : TypeId} {κ : Type} [DecidableEq κ] {enc : κ → Value} (K : Keys P kt enc) (ht : P.underlying t = some (.map kt et))
    {w : World} {r : Nat} {ks : List (κ × Value)} (h : MapAt enc w r ks) (k : κ) (v : Value) :
    ∃ w', (Instr.mapUpdate t (.map (some r)) (enc k) v).run P w = .ok () w' ∧ MapAt enc w' r (mset ks k v) ∧ w.grownBy w' (some r) := by
  obtain ⟨es, clock, hr, he⟩ := h
  have hf := findKey_run K k w es.toList ks he
  have hlt : r < w.heap.size := (Array.getElem?_eq_some_iff.1 hr).1
  have hg : ∀ o, w.grownBy { w with heap := w.heap.setIfInBounds r o } (some r) := fun o =>
    ⟨rfl, rfl, rfl, by simp, fun j hj hne => by
      show (w.heap.setIfInBounds r o)[j]? = _
      rw [Array.getElem?_setIfInBounds_ne (fun e => hne (by rw [e]))]⟩
  cases hm : mfind k ks 0 with
  | none =>
    rw [hm] at hf
    refine ⟨_, ?_, ?_, hg (.map (es.push { key := enc k, val := v, born := clock }) (clock + 1))⟩
    · simp [Instr.mapUpdate, run_underlying ht, getObj, setObj, Sem.run, hr, K.chk, hf]
    · refine ⟨_, _, by show (w.heap.setIfInBounds r _)[r]? = _; rw [Array.getElem?_setIfInBounds_self_of_lt hlt], ?_⟩
      simp [mset, hm, he]
  | some p =>
    obtain ⟨i, v0⟩ := p
    rw [hm] at hf
    obtain ⟨_, hi⟩ := mfind_lt k ks 0 i v0 hm
    rw [Nat.sub_zero] at hi
    have hei : ∃ e, es[i]? = some e ∧ e.key = enc k := by
      have h1 : (es.toList.map (fun e => (e.key, e.val)))[i]? = some (enc k, v0) := by rw [he]; simp [hi]
      rw [List.getElem?_map] at h1
      cases h2 : es.toList[i]? with
      | none => rw [h2] at h1; simp at h1
      | some e =>
        rw [h2] at h1
        simp only [Option.map_some, Option.some.injEq, Prod.mk.injEq] at h1
        exact ⟨e, by simpa using h2, h1.1⟩
    obtain ⟨e, he1, he2⟩ := hei
    refine ⟨_, ?_, ?_, hg (.map (es.modify i fun e => { e with key := enc k, val := v }) clock)⟩
    · simp [Instr.mapUpdate, run_underlying ht, getObj, setObj, Sem.run, hr, K.chk, hf, he1, he2, Instr.keyThatStays, K.same]
    · refine ⟨_, _, by show (w.heap.setIfInBounds r _)[r]? = _; rw [Array.getElem?_setIfInBounds_self_of_lt hlt], ?_⟩
      simp only [mset, hm, Array.toList_modify]
      rw [modify_map _ _ (fun q : Value × Value => (q.1, v)) es.toList i (fun x hx => by
        have : x = e := by rw [← Array.getElem?_toList] at he1; rw [he1] at hx; exact (Option.some.inj hx).symm
        subst this; simp [he2]), he, modify_map (fun p : κ × Value => (enc p.1, p.2)) (fun p => (p.1, v)) (fun q : Value × Value => (q.1, v)) ks i (fun _ _ => rfl)]

theorem mfind_none {κ : Type} [DecidableEq κ] (k : κ) : ∀ (ks : List (κ × Value)) (i : Nat), mfind k ks i = none ↔ ∀ p ∈ ks, p.1 ≠ k
  | [], _ => by simp [mfind]
  | p :: ps, i => by
    simp only [mfind]
    split
    · rename_i h; simp [h]
    · rename_i h
      rw [mfind_none k ps (i + 1)]
      simp only [List.mem_cons, forall_eq_or_imp]
      exact ⟨fun h2 => ⟨fun e => h e.symm, h2⟩, fun h2 => h2.2⟩
theorem mfind_snd {κ : Type} [DecidableEq κ] (k : κ) : ∀ (ks : List (κ × Value)) (i j : Nat), (mfind k ks i).map (·.2) = (mfind k ks j).map (·.2)
  | [], _, _ => rfl
  | p :: ps, i, j => by
    simp only [mfind]
    split
    · rfl
    · exact mfind_snd k ps _ _
theorem mget_nil {κ : Type} [DecidableEq κ] (k : κ) : mget [] k = none := rfl
theorem mget_cons {κ : Type} [DecidableEq κ] (p : κ × Value) (ps : List (κ × Value)) (k : κ) : mget (p :: ps) k = if k = p.1 then some p.2 else mget ps k := by
  simp only [mget, mfind]
  split
  · rfl
  · exact mfind_snd k ps _ _
theorem mget_append {κ : Type} [DecidableEq κ] (k : κ) : ∀ (ps qs : List (κ × Value)), mget (ps ++ qs) k = (mget ps k).or (mget qs k)
  | [], qs => by simp [mget_nil]
  | p :: ps, qs => by
    rw [List.cons_append, mget_cons, mget_cons, mget_append k ps qs]
    split <;> simp
theorem mget_modify {κ : Type} [DecidableEq κ] (k k' : κ) (v : Value) : ∀ (ks : List (κ × Value)) (i : Nat) (j : Nat) (u : Value), mfind k ks i = some (j, u) → mget (ks.modify (j - i) fun p => (p.1, v)) k' = if k' = k then some v else mget ks k'
  | [], _, _, _, h => by simp [mfind] at h
  | p :: ps, i, j, u, h => by
    simp only [mfind] at h
    split at h
    · rename_i hk
      simp only [Option.some.injEq, Prod.mk.injEq] at h
      obtain ⟨rfl, rfl⟩ := h
      subst hk
      simp only [Nat.sub_self, List.modify_zero_cons, mget_cons]
      split <;> rfl
    · rename_i hk
      have hle := (mfind_lt k ps (i + 1) j u h).1
      have ih := mget_modify k k' v ps (i + 1) j u h
      rw [show j - i = (j - (i + 1)) + 1 from by omega, List.modify_succ_cons, mget_cons, mget_cons, ih]
      by_cases h1 : k' = p.1
      · rw [if_pos h1, if_pos h1, if_neg (fun e => hk (by rw [← e, h1]))]
      · rw [if_neg h1, if_neg h1]
/-- What a store does, seen by keys. -/
theorem mget_mset {κ : Type} [DecidableEq κ] (ks : List (κ × Value)) (k : κ) (v : Value) (k' : κ) : mget (mset ks k v) k' = if k' = k then some v else mget ks k' := by
  simp only [mset]
  cases hm : mfind k ks 0 with
  | none =>
    simp only []
    rw [mget_append]
    by_cases h : k' = k
    · subst h
      have : mget ks k' = none := by simp [mget, hm]
      rw [this, mget_cons]; simp
    · rw [mget_cons, if_neg h, if_neg h, mget_nil]; simp
  | some p =>
    obtain ⟨i, u⟩ := p
    exact mget_modify k k' v ks 0 i u hm

def pairV (p : Int × Int) : Value := .agg #[.int .i64 p.1, .int .i64 p.2]
theorem pairKeys {P : Program} {t e : TypeId} (h : IsPair P t e) : Keys P t pairV where
  eq a b w := by
    rw [pairV, pairV, equal_pair h]
    congr 1
    obtain ⟨a1, a2⟩ := a
    obtain ⟨b1, b2⟩ := b
    by_cases h1 : a1 = b1 <;> by_cases h2 : a2 = b2 <;> simp [h1, h2]
  chk a b w := by
    have p0 : ∀ x y : Int, ∀ w, (part e #[.int .i64 x, .int .i64 y] (0 * 1)).run P w = .ok (.int .i64 x) w := fun x y w => run_part_int h.he _ _ rfl w
    have p1 : ∀ x y : Int, ∀ w, (part e #[.int .i64 x, .int .i64 y] (1 * 1)).run P w = .ok (.int .i64 y) w := fun x y w => run_part_int h.he _ _ rfl w
    have c : ∀ x : Int, ∀ w, (Instr.checkKey b 9999 e (.int .i64 x)).run P w = .ok () w := fun x w => by
      rw [Instr.checkKey]; simp [run_underlying h.he]
    rw [Instr.checkKey, pairV]
    simp only [Sem.run_bind, run_underlying h.ht, Result.andThen_ok]
    simp [Std.Legacy.Range.forIn_eq_forIn_range', List.range', h.size, p0, p1, c]
  same a := by simp [Instr.sameBits, pairV]
  kind := ⟨_, h.ht, fun a b => .inl rfl⟩
theorem intKeys {P : Program} {t : TypeId} (h : P.underlying t = some (.int .i64)) : Keys P t (fun n : Int => Value.int .i64 n) where
  eq a b w := by rw [Op.equal]; rw [show Op.maxDepth = 9999 + 1 from rfl, run_equalIn_int w 9999 t _ _ a b h]; congr 1
  chk a b w := by rw [Instr.checkKey]; simp [run_underlying h]
  same a := by simp [Instr.sameBits]
  kind := ⟨_, h, fun a b => .inr (by simp only [Instr.sameNow, if_true]; by_cases e : a = b <;> simp [e])⟩
end Dac
set_option linter.unusedSimpArgs false
set_option linter.unusedVariables false
set_option linter.unusedSectionVars false
namespace Go.Proofs.Ytehelanfgepcmaa
open Go.RowKit Dac

/-- dactylref01.Around -/
def around (n most : Int) : Int := if most < 1 then 0 else (if n < 0 then -(n + 1) else n) % most

set_option maxHeartbeats 400000 in
theorem Around_ok (n most : Int) (w : World) (hn : I64 n) (hm : I64 most) :
    Calls Try.prog 19 #[.int .i64 n, .int .i64 most] w (QRet w (.int .i64 (around n most))) := by
  obtain ⟨h1, h2⟩ := hn
  obtain ⟨h3, h4⟩ := hm
  go_enter Try.func19, Try.ntmps19
  by_cases a : n < 0 <;> by_cases b : most < 1
  all_goals
    go_wp2
    go_ret
    refine ⟨?_, 0, rfl⟩
    simp [around, a, b]
  · rw [if_neg (by omega), ← Int.neg_tmod, Int.tmod_eq_emod_of_nonneg (by omega)]
  · rw [if_neg (by omega), if_neg (by omega)]

theorem take_succ_eq {A B : List Int} {k : Nat} (h : A.take k = B.take k) (ha : k < A.length) (hb : k < B.length) (he : A[k] = B[k]) : A.take (k + 1) = B.take (k + 1) := by
  rw [List.take_succ_eq_append_getElem ha, List.take_succ_eq_append_getElem hb, h, he]

set_option maxHeartbeats 400000 in
theorem SameInts_ok (va vb : Value) (A B : List Int) (w : World) (ha : intR.slice.rd w Any [va] A) (hb : intR.slice.rd w Any [vb] B) :
    Calls Try.prog 25 #[va, vb] w (QRet w (.bool (A == B))) := by
  obtain ⟨aa, ca, rfl, l1, l2, ea⟩ := ints ha
  obtain ⟨ab, cb, rfl, l3, l4, eb⟩ := ints hb
  unfold maxLen at l2 l4
  by_cases hl : A.length = B.length
  · have hl2 : ((A.length : Int) != B.length) = false := by simp [hl]
    have HL := hid hl; clear hl
    go_enter Try.func25, Try.ntmps25
    go_wp2
    go_loopw [5] (fun i wr => ∃ k : Nat, k ≤ A.length ∧ A.take k = B.take k ∧ i = .int .i64 k ∧ ∃ n, wr = w.drewN n) (fun i _ => A.length - (intOf i).toNat)
    case atStart => exact ⟨0, by omega, by simp, rfl, 0, rfl⟩
    case round =>
      obtain ⟨k, hk, ht, rfl, n, rfl⟩ := hrel
      have HT := hid ht; clear ht
      by_cases hlt : k < A.length
      · have hltB : k < B.length := by rw [← HL.out]; exact hlt
        obtain ⟨bx, ox, rfl, ix, cx⟩ := ea k hlt
        obtain ⟨by_, oy, rfl, iy, cy⟩ := eb k hltB
        by_cases he : A[k] = B[k]
        · have he2 : (A[k] != B[k]) = false := by simp [he]
          have HE := hid he; clear he
          go_wp2
          go_quiet (fail)
          go_wp2
          go_roundw
          case rel => exact ⟨k + 1, by omega, take_succ_eq HT.out hlt hltB HE.out, by go_num, _, rfl⟩
          case measure => simp [intOf]; omega
        · have he2 : (A[k] != B[k]) = !false := by simp [he]
          have HE := hid he; clear he
          go_wp2
          go_quiet (fail)
          go_wp2
          go_ret
          refine ⟨ret_bool (Eq.symm ?_), drew2 _ _ _⟩
          rw [beq_eq_false_iff_ne]; intro h; subst h; exact HE.out rfl
      · have hkA : k = A.length := by omega
        go_wp2
        go_ret
        refine ⟨?_, n, rfl⟩
        have : A = B := by
          have := HT.out
          rw [hkA, List.take_length, HL.out, List.take_length] at this
          exact this
        simp [this]
  · have hl2 : ((A.length : Int) != B.length) = !false := by simp; omega
    have HL := hid hl; clear hl
    go_enter Try.func25, Try.ntmps25
    go_wp2
    go_ret
    refine ⟨ret_bool (Eq.symm ?_), 0, rfl⟩
    rw [beq_eq_false_iff_ne]; intro h; subst h; exact HL.out rfl
end Go.Proofs.Ytehelanfgepcmaa
set_option linter.unusedSimpArgs false
set_option linter.unusedVariables false
set_option linter.unusedSectionVars false
namespace Go.Proofs.Ytehelanfgepcmaa
open Go.RowKit Dac

/-- dactylref01.At -/
def at_ (l : List Int) (i most : Int) : Int := if i < 0 ∨ i ≥ l.length then 0 else around (l.getD i.toNat 0) most

set_option maxHeartbeats 400000 in
theorem At_ok (v : Value) (l : List Int) (i most : Int) (w : World) (hl : intR.slice.rd w Any [v] l) (hm : I64 most) :
    Calls Try.prog 34 #[v, .int .i64 i, .int .i64 most] w (QRet w (.int .i64 (at_ l i most))) := by
  obtain ⟨aa, ca, rfl, l1, l2, ea⟩ := ints hl
  unfold maxLen at l2
  by_cases a : i < 0
  · go_enter Try.func34, Try.ntmps34
    go_wp2
    go_ret
    exact ⟨ret_int (by simp [at_, a]), 0, rfl⟩
  · by_cases b : (l.length : Int) ≤ i
    · go_enter Try.func34, Try.ntmps34
      go_wp2
      go_ret
      exact ⟨ret_int (by simp [at_, b]), 0, rfl⟩
    · obtain ⟨k, rfl⟩ := Int.eq_ofNat_of_zero_le (Int.not_lt.1 a)
      have hk : k < l.length := by omega
      obtain ⟨bx, ox, rfl, ix, cx⟩ := ea k hk
      clear ea hl
      go_enter Try.func34, Try.ntmps34
      go_wp2_with (go_at_call 19; refine (Around_ok _ _ _ ix hm).mono ?_; rintro e w' ⟨rfl, n, rfl⟩)
      go_ret
      refine ⟨ret_int ?_, n, rfl⟩
      have : ¬ ((k : Int) < 0 ∨ (k : Int) ≥ l.length) := by omega
      rw [at_, if_neg this]
      simp [hk]

set_option maxHeartbeats 400000 in
theorem price_last (n : Int) (w : World) : Calls Try.prog 41 #[.bool true, .int .i64 n] w (QRet w (.int .i64 4294967296)) := by
  go_enter Try.func41, Try.ntmps41
  go_wp2
  go_ret
  exact ⟨rfl, 0, rfl⟩
set_option maxHeartbeats 400000 in
theorem price_free (n : Int) (w : World) : Calls Try.prog 41 #[.bool false, .int .i64 n] w (QRet w (.int .i64 (wrap64 (4294967296 + wrap64 (n * n))))) := by
  go_enter Try.func41, Try.ntmps41
  go_wp2
  go_ret
  exact ⟨rfl, 0, rfl⟩

theorem around5 (n : Int) : around n 5 = 0 ∨ around n 5 = 1 ∨ around n 5 = 2 ∨ around n 5 = 3 ∨ around n 5 = 4 := by
  unfold around; rw [if_neg (by omega)]; split <;> omega
theorem around_lt (n m : Int) (h : 1 ≤ m) : 0 ≤ around n m ∧ around n m < m := by
  unfold around; rw [if_neg (by omega)]
  exact ⟨Int.emod_nonneg _ (by omega), Int.emod_lt_of_pos _ (by omega)⟩

set_option maxHeartbeats 1000000 in
theorem widths_ok (n : Int) (w : World) (hn : I64 n) :
    Calls Try.prog 12 #[.int .i64 n] w fun e w' => ∃ v, e = .returned v ∧ Ext w w' ∧ intR.slice.rd w' Any [v] [1 + around n 20, [0, 513, 512, 1, -1].getD (around n 5).toNat 0] := by
  have b20 := around_lt n 20 (by omega)
  have c20 := fun W => Around_ok n 20 W hn (by unfold I64; omega)
  generalize around n 20 = a at *
  rcases around5 n with h | h | h | h | h
  all_goals
    have c5 := fun W => Around_ok n 5 W hn (by unfold I64; omega)
    rw [h] at c5 ⊢
    have C5 := hid c5; clear c5 h
    have C20 := hid c20; clear c20
    go_enter Try.func12, Try.ntmps12
    go_wp2_with (first | (go_at_call_of 19 (Value.int IntKind.i64 20); refine (toRet (C20.out _)).mono ?_; rintro e w1 ⟨rfl, hx1⟩) | (go_at_call_of 19 (Value.int IntKind.i64 5); refine (toRet (C5.out _)).mono ?_; rintro e w2 ⟨rfl, hx2⟩; obtain ⟨k0, k1, k2, k3, k4⟩ := cells5 hx2))
    go_ret
    refine ⟨_, rfl, hx1.then ((Ext.alloc _ _).then (hx2.then (Ext.alloc _ _))), ints_lit _ 3 [_, _] Any trivial (by simp [maxLen]) ?_⟩
    unfold I64
    simp
    omega
end Go.Proofs.Ytehelanfgepcmaa
set_option linter.unusedSimpArgs false
set_option linter.unusedVariables false
set_option linter.unusedSectionVars false
namespace Go.Proofs.Ytehelanfgepcmaa
open Go.RowKit Dac

theorem isPair : IsPair Try.prog 64 3 := ⟨Try.underlying64, Try.underlying3, by kernel_rfl, by kernel_rfl, by kernel_rfl⟩

theorem take_succ_eq' {α : Type} {A B : List α} {k : Nat} (h : A.take k = B.take k) (ha : k < A.length) (hb : k < B.length) (he : A[k] = B[k]) : A.take (k + 1) = B.take (k + 1) := by
  rw [List.take_succ_eq_append_getElem ha, List.take_succ_eq_append_getElem hb, h, he]

set_option maxHeartbeats 400000 in
theorem SameEnds_ok (va vb : Value) (A B : List (Int × Int)) (w : World) (ha : pairR.slice.rd w Any [va] A) (hb : pairR.slice.rd w Any [vb] B) :
    Calls Try.prog 16 #[va, vb] w (QRet w (.bool (decide (A = B)))) := by
  obtain ⟨aa, ca, rfl, l1, l2, ea⟩ := pairs ha
  obtain ⟨ab, cb, rfl, l3, l4, eb⟩ := pairs hb
  clear ha hb
  unfold maxLen at l2 l4
  by_cases hl : A.length = B.length
  · have hl2 : ((A.length : Int) != B.length) = false := by simp [hl]
    have HL := hid hl; clear hl
    go_enter Try.func16, Try.ntmps16
    go_wp2
    go_loopw [5] (fun i wr => ∃ k : Nat, k ≤ A.length ∧ A.take k = B.take k ∧ i = .int .i64 k ∧ ∃ n, wr = w.drewN n) (fun i _ => A.length - (intOf i).toNat)
    case atStart => exact ⟨0, by omega, by simp, rfl, 0, rfl⟩
    case round =>
      obtain ⟨k, hk, ht, rfl, n, rfl⟩ := hrel
      have HT := hid ht; clear ht
      by_cases hlt : k < A.length
      · have hltB : k < B.length := by rw [← HL.out]; exact hlt
        obtain ⟨bx, ox, rfl, _, _, cx, cx2⟩ := ea k hlt
        obtain ⟨by_, oy, rfl, _, _, cy, cy2⟩ := eb k hltB
        have hneq := fun W => neq_pair isPair A[k].1 A[k].2 B[k].1 B[k].2 W
        clear ea eb
        by_cases he : A[k] = B[k]
        · have he1 : (A[k].1 == B[k].1) = true := by simp [he]
          have he2 : (A[k].2 == B[k].2) = true := by simp [he]
          simp only [he1, he2] at hneq
          have HE := hid he; clear he
          clear he1 he2
          go_wp2
          go_quiet (fail)
          go_wp2
          go_roundw
          case rel => exact ⟨k + 1, by omega, take_succ_eq' HT.out hlt hltB HE.out, by go_num, _, rfl⟩
          case measure => simp [intOf]; omega
        · have he1 : (A[k].1 == B[k].1 && A[k].2 == B[k].2) = false := by
            rw [Bool.eq_false_iff]; intro h; simp at h; exact he (Prod.ext h.1 h.2)
          simp only [he1] at hneq
          have HE := hid he; clear he
          clear he1
          go_wp2
          go_quiet (fail)
          go_wp2
          go_ret
          refine ⟨ret_bool (Eq.symm ?_), drew2 _ _ _⟩
          rw [decide_eq_false_iff_not]; intro h; subst h; exact HE.out rfl
      · have hkA : k = A.length := by omega
        have HK := hid hkA; clear hkA
        go_wp2
        go_ret
        refine ⟨ret_bool (Eq.symm ?_), n, rfl⟩
        rw [decide_eq_true_eq]
        have := HT.out
        rw [HK.out, List.take_length, HL.out, List.take_length] at this
        exact this
  · have hl2 : ((A.length : Int) != B.length) = !false := by simp; omega
    have HL := hid hl; clear hl
    go_enter Try.func16, Try.ntmps16
    go_wp2
    go_ret
    refine ⟨ret_bool (Eq.symm ?_), 0, rfl⟩
    rw [decide_eq_false_iff_not]; intro h; subst h; exact HL.out rfl
end Go.Proofs.Ytehelanfgepcmaa
set_option linter.unusedSimpArgs false
set_option linter.unusedVariables false
set_option linter.unusedSectionVars false
namespace Go.Proofs.Ytehelanfgepcmaa
open Go.RowKit Dac

set_option maxHeartbeats 400000 in
theorem Same_ok (va vb : Value) (A B : List (List Int)) (w : World) (ha : rowsR.rd w Any [va] A) (hb : rowsR.rd w Any [vb] B) :
    Calls Try.prog 17 #[va, vb] w (QRet w (.bool (decide (A = B)))) := by
  obtain ⟨aa, ca, rfl, l1, l2, ea⟩ := rows ha
  obtain ⟨ab, cb, rfl, l3, l4, eb⟩ := rows hb
  clear ha hb
  unfold maxLen at l2 l4
  by_cases hl : A.length = B.length
  · have hl2 : ((A.length : Int) != B.length) = false := by simp [hl]
    have HL := hid hl; clear hl
    go_enter Try.func17, Try.ntmps17
    go_wp2
    go_loopw [5] (fun i wr => ∃ k : Nat, k ≤ A.length ∧ A.take k = B.take k ∧ i = .int .i64 k ∧ Drawn w wr) (fun i _ => A.length - (intOf i).toNat)
    case atStart => exact ⟨0, by omega, by simp, rfl, Drawn.refl _⟩
    case round =>
      obtain ⟨k, hk, ht, rfl, hw⟩ := hrel
      have hx := hw.ext
      have HT := hid ht; clear ht
      by_cases hlt : k < A.length
      · have hltB : k < B.length := by rw [← HL.out]; exact hlt
        obtain ⟨bx, ox, xa, xc, rfl, rx, cx, _⟩ := ea k hlt
        obtain ⟨by_, oy, ya, yc, rfl, ry, cy, _⟩ := eb k hltB
        have hs := fun m => SameInts_ok _ _ A[k] B[k] (wr.drewN m) (Rdr.ext _ rx (hx.then (Ext.drewN _ _))) (Rdr.ext _ ry (hx.then (Ext.drewN _ _)))
        have cx1 := hx.cell cx
        have cy1 := hx.cell cy
        clear ea eb rx ry cx cy hx
        by_cases he : A[k] = B[k]
        · have he1 : (A[k] == B[k]) = true := by simp [he]
          rw [he1] at hs
          have HS := hid hs; clear hs
          have HE := hid he; clear he
          clear he1
          go_wp2
          go_quiet ((go_at_call 25; exact Calls.quiet_of (HS.out _)))
          go_wp2
          go_roundw
          case rel => exact ⟨k + 1, by omega, take_succ_eq' HT.out hlt hltB HE.out, by go_num, hw.drewN _⟩
          case measure => simp [intOf]; omega
        · have he1 : (A[k] == B[k]) = false := by simp [he]
          rw [he1] at hs
          have HS := hid hs; clear hs
          have HE := hid he; clear he
          clear he1
          go_wp2
          go_quiet ((go_at_call 25; exact Calls.quiet_of (HS.out _)))
          go_wp2
          go_ret
          refine ⟨ret_bool (Eq.symm ?_), (hw.drewN _).out⟩
          rw [decide_eq_false_iff_not]; intro h; subst h; exact HE.out rfl
      · have hkA : k = A.length := by omega
        have HK := hid hkA; clear hkA
        go_wp2
        go_ret
        refine ⟨ret_bool (Eq.symm ?_), hw.out⟩
        rw [decide_eq_true_eq]
        have := HT.out
        rw [HK.out, List.take_length, HL.out, List.take_length] at this
        exact this
  · have hl2 : ((A.length : Int) != B.length) = !false := by simp; omega
    have HL := hid hl; clear hl
    go_enter Try.func17, Try.ntmps17
    go_wp2
    go_ret
    refine ⟨ret_bool (Eq.symm ?_), 0, rfl⟩
    rw [decide_eq_false_iff_not]; intro h; subst h; exact HL.out rfl

theorem info42 : (Try.prog.info? 42).map (fun i => (i.zero, i.size, i.bytes)) = some (some (.agg #[.slice none 0 0]), 1, 24) := by kernel_rfl
theorem info47 : (Try.prog.info? 47).map (fun i => (i.zero, i.size, i.bytes)) = some (some (.agg #[.slice none 0 0]), 1, 24) := by kernel_rfl
theorem info22 : (Try.prog.info? 22).map (fun i => (i.zero, i.size, i.bytes)) = some (some (.slice none 0 0), 1, 24) := by kernel_rfl
theorem info28 : (Try.prog.info? 28).map (fun i => (i.zero, i.size, i.bytes)) = some (some (.slice none 0 0), 1, 24) := by kernel_rfl
theorem info3 : (Try.prog.info? 3).map (fun i => (i.zero, i.size, i.bytes)) = some (some (.int .i64 0), 1, 8) := by kernel_rfl
theorem info64 : (Try.prog.info? 64).map (fun i => (i.zero, i.size, i.bytes)) = some (some (.agg #[.int .i64 0, .int .i64 0]), 2, 16) := by kernel_rfl

set_option maxHeartbeats 400000 in
theorem words_ok (v : Value) (X : List (List (List Int))) (w : World) (hX : wordsR.rd w Any [v] X) (hb : X.length * 24 ≤ 140737488355328) :
    Calls Try.prog 14 #[v] w fun e w' => ∃ r, e = .returned r ∧ Ext w w' ∧ wordsR.rd w' Any [r] X := by
  obtain ⟨ad, cap, rfl, l1, l2, el⟩ := rows hX
  unfold maxLen at l2
  obtain ⟨i0, hi, hz0, hz1, hz2⟩ := info_parts info42
  go_enter Try.func14, Try.ntmps14
  go_wp2
  go_loopw [3, 4] (fun out i wr => ∃ k : Nat, k ≤ X.length ∧ i = .int .i64 k ∧ Ext w wr ∧ Bld rowsR Any wr w.heap.size 42 out (X.take k)) (fun _ i _ => X.length - (intOf i).toNat)
  case atStart => exact ⟨0, by omega, rfl, Ext.rfl' _, Bld.nil _ _ _ _ _⟩
  case round =>
    obtain ⟨k, hk, rfl, hx, hB⟩ := hrel
    by_cases hlt : k < X.length
    · obtain ⟨b, o, ua, uc, rfl, ru, cu, _⟩ := el k hlt
      have cu1 := hx.cell cu
      have hle := hx.size
      have hlen : (X.take k).length = k := List.length_take_of_le (by omega)
      clear el hX cu
      go_wp2_with (at_builtin; refine wpList_append_one rowsR Any w.heap.size rfl _ _ 34 rfl 42 i0 _ 24 Try.underlying34 hi hz0 hz1 hz2 rfl (by decide) _ _ rfl hB _ [_] X[k] rfl (Rdr.apart ru hx hB) (by omega) (by omega) hle ?_ rfl; intro g cp w1 hB1 hg1 hg2 hg3)
      go_roundw
      case rel =>
        refine ⟨k + 1, by omega, by go_num, Below.grown hx hg1 hle (fun j e => (hB.lt j e).1), ?_⟩
        rw [List.take_succ_eq_append_getElem hlt]
        rw [hlen] at hB1
        exact hB1
      case measure => simp [intOf]; omega
    · have hkX : X.take k = X := List.take_of_length_le (by omega)
      rw [hkX] at hB
      have HK := hid hkX; clear hkX
      go_wp2
      go_ret
      exact ⟨_, rfl, hx, hB.read (fun _ _ => trivial) (fun _ _ => trivial)⟩
end Go.Proofs.Ytehelanfgepcmaa
set_option linter.unusedSimpArgs false
set_option linter.unusedVariables false
set_option linter.unusedSectionVars false
namespace Go.Proofs.Ytehelanfgepcmaa
open Go.RowKit Dac

/-- The cells of element (w, i) of words: what a walk reads on its way to row i of word w. -/
theorem word_row {w : World} {F : Nat → Prop} {v : Value} {X : List (List (List Int))} (h : wordsR.rd w F [v] X) {p : Nat} (hp : p < X.length) {i : Nat} (hi : i < X[p].length) :
    ∃ ad cap b o a2 c2 b2 o2 a3 c3, v = .slice ad X.length cap ∧ ad = some ⟨b, o, none⟩ ∧ w.cell? ⟨b, o + p, none⟩ = some (.slice a2 X[p].length c2) ∧ a2 = some ⟨b2, o2, none⟩ ∧
      w.cell? ⟨b2, o2 + i, none⟩ = some (.slice a3 X[p][i].length c3) ∧ intR.slice.rd w F [.slice a3 X[p][i].length c3] X[p][i] ∧ X[p].length ≤ maxLen ∧ X[p][i].length ≤ maxLen := by
  obtain ⟨ad, cap, rfl, _, _, e1⟩ := rows h
  obtain ⟨b, o, a2, c2, rfl, r2, hc, h2⟩ := e1 p hp
  obtain ⟨ad', cap', hv, _, _, e2⟩ := rows r2
  obtain ⟨b2, o2, a3, c3, rfl, r3, hc3, h3⟩ := e2 i hi
  simp only [Value.slice.injEq] at hv
  obtain ⟨rfl, -, rfl⟩ := hv
  exact ⟨_, cap, b, o, _, c2, b2, o2, a3, c3, rfl, rfl, hc, rfl, hc3, r3, h2, h3⟩

/-- dactylref11.Next on places of words: the place after another one. -/
def next (X : List (List (List Int))) (p : Nat × Nat) : Nat × Nat := if p.2 + 1 < (X.getD p.1 []).length then (p.1, p.2 + 1) else (p.1 + 1, 0)

def pairA (p : Nat × Nat) : Value := .agg #[.int .i64 p.1, .int .i64 p.2]

set_option maxHeartbeats 400000 in
theorem Next_ok (v : Value) (X : List (List (List Int))) (p i : Nat) (w : World) (hX : wordsR.rd w Any [v] X) (hp : p < X.length) (hi : i < X[p].length) :
    Calls Try.prog 33 #[v, .agg #[.int .i64 p, .int .i64 i]] w (Ret w (pairA (next X (p, i)))) := by
  obtain ⟨ad, cap, rfl, l1, l2, e1⟩ := rows hX
  obtain ⟨b, o, a2, c2, rfl, r2, hc, h2⟩ := e1 p hp
  unfold maxLen at h2 l2
  clear e1 hX r2
  have hgd : X.getD p [] = X[p] := by simp [hp]
  have hc1 := (Ext.alloc w (.cells #[.int .i64 p, .int .i64 i] 64)).cell hc
  have hc2 := (Ext.alloc _ (.cells #[.int .i64 0, .int .i64 0] 64)).cell hc1
  clear hc hc1
  by_cases hlt : i + 1 < X[p].length
  · have hn : next X (p, i) = (p, i + 1) := by simp only [next, hgd, if_pos hlt]
    rw [hn]
    clear hn hgd
    have hlt' : ((i : Int) + 1 < X[p].length) := by omega
    go_enter Try.func33, Try.ntmps33
    go_wp2
    go_quiet (fail)
    go_wp2
    refine bodyPost_ret (v := pairA (p, i + 1)) (by simp [results, Try.results33, go_sem, pairA]) rfl ⟨rfl, ?_⟩
    repeat (first | exact Below.refl _ _ | refine Below.setCell ?_ (by simp) _ | refine below_dn ?_ _ | refine Below.alloc ?_ (by simp) _)
  · have hn : next X (p, i) = (p + 1, 0) := by simp only [next, hgd, if_neg hlt]
    rw [hn]
    clear hn hgd
    have hlt' : ¬ ((i : Int) + 1 < X[p].length) := by omega
    go_enter Try.func33, Try.ntmps33
    go_wp2
    go_quiet (fail)
    go_wp2
    refine bodyPost_ret (v := pairA (p + 1, 0)) (by simp [results, Try.results33, go_sem, pairA]) rfl ⟨rfl, ?_⟩
    repeat (first | exact Below.refl _ _ | refine Below.setCell ?_ (by simp) _ | refine below_dn ?_ _ | refine Below.alloc ?_ (by simp) _)

end Go.Proofs.Ytehelanfgepcmaa
set_option linter.unusedSimpArgs false
set_option linter.unusedVariables false
set_option linter.unusedSectionVars false
namespace Go.Proofs.Ytehelanfgepcmaa
open Go.RowKit Dac

/-- Valid words. -/
def VW (X : List (List (List Int))) : Prop := X.length ≤ 512 ∧ ∀ p (hp : p < X.length), 1 ≤ X[p].length ∧ X[p].length ≤ 16 ∧ ∀ i (hi : i < X[p].length), X[p][i].length = X[p].length - i ∧ ∀ x ∈ X[p][i], 0 ≤ x ∧ x ≤ 4096

def rowAt (X : List (List (List Int))) (p i : Nat) : List Int := (X.getD p []).getD i []
def lastW (row : List Int) : Int := row.getD (row.length - 1) 0
/-- A line's width s so far, and n whole words from word q on, each with a blank ahead. -/
def sumS (X : List (List (List Int))) (q : Nat) (s : Int) : Nat → Int
  | 0 => s
  | n + 1 => sumS X q s n + 1 + lastW (rowAt X (q + n) 0)
/-- dactylref11.Size: the width of a line from a place to a later one. -/
def sizeL (X : List (List (List Int))) (f t : Nat × Nat) : Int :=
  if f.1 = t.1 then (rowAt X f.1 f.2).getD (t.2 - f.2 - 1) 0 + 1
  else
    let s := sumS X (f.1 + 1) (lastW (rowAt X f.1 f.2)) (t.1 - f.1 - 1)
    if t.2 = 0 then s else s + 1 + (rowAt X t.1 0).getD (t.2 - 1) 0 + 1

theorem rowAt_eq {X : List (List (List Int))} {p i : Nat} (hp : p < X.length) (hi : i < X[p].length) : rowAt X p i = X[p][i] := by simp [rowAt, hp, hi]
theorem VW.elem {X : List (List (List Int))} (h : VW X) {p i j : Nat} (hp : p < X.length) (hi : i < X[p].length) : 0 ≤ (rowAt X p i).getD j 0 ∧ (rowAt X p i).getD j 0 ≤ 4096 := by
  rw [rowAt_eq hp hi]
  by_cases hj : j < X[p][i].length
  · have := ((h.2 p hp).2.2 i hi).2 X[p][i][j] (List.getElem_mem _)
    simpa [hj] using this
  · simp [hj]
theorem VW.sum {X : List (List (List Int))} (h : VW X) {q : Nat} {s : Int} (hs : 0 ≤ s ∧ s ≤ 4096) : ∀ n, q + n ≤ X.length → 0 ≤ sumS X q s n ∧ sumS X q s n ≤ 4096 + 4097 * n
  | 0, _ => by simp [sumS]; omega
  | n + 1, hn => by
    have ih := VW.sum (q := q) h hs n (by omega)
    have hp : q + n < X.length := by omega
    have h1 := h.elem (j := (rowAt X (q + n) 0).length - 1) hp (Nat.lt_of_lt_of_le Nat.zero_lt_one (h.2 _ hp).1)
    simp only [sumS, lastW]
    generalize (rowAt X (q + n) 0).getD ((rowAt X (q + n) 0).length - 1) 0 = y at *
    omega

set_option maxHeartbeats 1000000 in
theorem Size_same (v : Value) (X : List (List (List Int))) (p i j : Nat) (w : World) (hX : wordsR.rd w Any [v] X) (hV : VW X) (hp : p < X.length) (hij : i < j) (hj : j < X[p].length) :
    Calls Try.prog 35 #[v, .agg #[.int .i64 p, .int .i64 i], .agg #[.int .i64 p, .int .i64 j]] w (Ret w (.int .i64 (sizeL X (p, i) (p, j)))) := by
  have hi : i < X[p].length := by omega
  have hsz : sizeL X (p, i) (p, j) = X[p][i].getD (j - i - 1) 0 + 1 := by simp only [sizeL, rowAt_eq hp hi, ↓reduceIte]
  obtain ⟨hr1, hr2⟩ := (hV.2 p hp).2.2 i hi
  have hlt : j - i - 1 < X[p][i].length := by rw [hr1]; omega
  have hn := (hV.2 p hp).2.1
  have hb := hr2 _ (List.getElem_mem hlt)
  have hg : X[p][i].getD (j - i - 1) 0 = X[p][i][j - i - 1] := by simp [hlt]
  rw [hsz, hg]
  clear hsz hg hr2
  obtain ⟨b, o, cap, rfl, l2, e1⟩ := rows_ne hX (by omega)
  obtain ⟨a2, c2, hc, r2, l3⟩ := e1 p hp
  obtain ⟨b2, o2, cap2, hv2, l4, e2⟩ := rows_ne r2 (by omega)
  rw [hv2] at hc
  obtain ⟨a3, c3, hc3, r3, l5⟩ := e2 i hi
  obtain ⟨b3, o3, cap3, hv3, l6, e3⟩ := ints_ne r3 (by omega)
  rw [hv3] at hc3
  obtain ⟨-, hc4⟩ := e3 _ hlt
  clear e1 e2 e3 hv2 hv3 r2 r3 hX
  have x1 := Ext.alloc w (.cells #[.int .i64 p, .int .i64 i] 64)
  have x2 := x1.then (Ext.alloc _ (.cells #[.int .i64 p, .int .i64 j] 64))
  have k1 := x2.cell hc
  have k2 := x2.cell hc3
  have k3 := x2.cell hc4
  clear hc hc3 hc4
  generalize X[p][i][j - i - 1] = x at *
  have HR := hid hr1; clear hr1
  have hidx : ((j : Int) - i - 1).toNat = j - i - 1 := by omega
  have hl1 : (j : Int) - i - 1 < X[p][i].length := by omega
  have hl0 : (0 : Int) ≤ (j : Int) - i - 1 := by omega
  clear x1 x2
  go_enter Try.func35, Try.ntmps35
  go_wp2
  go_quiet (fail)
  go_wp2
  go_ret
  refine ⟨rfl, ?_⟩
  repeat (first | exact Below.refl _ _ | refine below_dn ?_ _ | refine Below.alloc ?_ (by simp) _)

/-- What a walk reads of word p's row i, j-th cell, in whatever later world. -/
theorem word_cells {w : World} {F : Nat → Prop} {b o cap : Nat} {X : List (List (List Int))} (h : wordsR.rd w F [.slice (some ⟨b, o, none⟩) X.length cap] X) (hV : VW X) {p : Nat} (hp : p < X.length) :
    ∃ b2 o2 c2, w.cell? ⟨b, o + p, none⟩ = some (.slice (some ⟨b2, o2, none⟩) X[p].length c2) ∧ ∀ i (hi : i < X[p].length), ∃ b3 o3 c3, w.cell? ⟨b2, o2 + i, none⟩ = some (.slice (some ⟨b3, o3, none⟩) (X[p].length - i) c3) ∧
      ∀ j, j < X[p].length - i → w.cell? ⟨b3, o3 + j, none⟩ = some (.int .i64 ((rowAt X p i).getD j 0)) ∧ 0 ≤ (rowAt X p i).getD j 0 ∧ (rowAt X p i).getD j 0 ≤ 4096 := by
  obtain ⟨b', o', cap', hv, _, e1⟩ := rows_ne h (by omega)
  simp only [Value.slice.injEq, Option.some.injEq, Addr.mk.injEq, and_true, true_and] at hv
  obtain ⟨⟨rfl, rfl⟩, rfl⟩ := hv
  obtain ⟨a2, c2, hc, r2, _⟩ := e1 p hp
  obtain ⟨b2, o2, cap2, hv2, _, e2⟩ := rows_ne r2 (hV.2 p hp).1
  rw [hv2] at hc
  refine ⟨b2, o2, cap2, hc, fun i hi => ?_⟩
  obtain ⟨a3, c3, hc3, r3, _⟩ := e2 i hi
  have hl := ((hV.2 p hp).2.2 i hi).1
  obtain ⟨b3, o3, cap3, hv3, _, e3⟩ := ints_ne r3 (by rw [hl]; omega)
  rw [hv3, hl] at hc3
  refine ⟨b3, o3, cap3, hc3, fun j hj => ⟨?_, hV.elem hp hi⟩⟩
  have hj' : j < X[p][i].length := by rw [hl]; exact hj
  rw [(e3 j hj').2, rowAt_eq hp hi]
  simp [hj']

set_option maxHeartbeats 1000000 in
theorem Size_diff (v : Value) (X : List (List (List Int))) (p i q j : Nat) (w : World) (hX : wordsR.rd w Any [v] X) (hV : VW X) (hp : p < X.length) (hi : i < X[p].length) (hpq : p < q) (hq : q ≤ X.length) (hj : j = 0 ∨ ∃ h : q < X.length, j < X[q].length) :
    Calls Try.prog 35 #[v, .agg #[.int .i64 p, .int .i64 i], .agg #[.int .i64 q, .int .i64 j]] w (Ret w (.int .i64 (sizeL X (p, i) (q, j)))) := by
  have hsz : sizeL X (p, i) (q, j) = if j = 0 then sumS X (p + 1) (lastW (rowAt X p i)) (q - p - 1) else sumS X (p + 1) (lastW (rowAt X p i)) (q - p - 1) + 1 + (rowAt X q 0).getD (j - 1) 0 + 1 := by simp only [sizeL, if_neg (show ¬ p = q by omega)]
  obtain ⟨b, o, cap, rfl, l2, -⟩ := rows_ne hX (by omega)
  have hx := (Ext.alloc w (.cells #[.int .i64 p, .int .i64 i] 64)).then (Ext.alloc _ (.cells #[.int .i64 q, .int .i64 j] 64))
  have hX2 := Rdr.ext _ hX hx
  have hW := fun r (hr : r < X.length) => word_cells hX2 hV hr
  have hlast := hV.elem (j := (rowAt X p i).length - 1) hp hi
  obtain ⟨b2, o2, c2, k1, e2⟩ := hW p hp
  obtain ⟨b3, o3, c3, k2, e3⟩ := e2 i hi
  have hr1 := ((hV.2 p hp).2.2 i hi).1
  obtain ⟨k3, b31, b32⟩ := e3 (X[p].length - i - 1) (by omega)
  have hlw : (rowAt X p i).getD (X[p].length - i - 1) 0 = lastW (rowAt X p i) := by rw [lastW, rowAt_eq hp hi, hr1]
  rw [hlw] at k3 b31 b32
  have hsum := fun n (hn : p + 1 + n ≤ X.length) => hV.sum (q := p + 1) (s := lastW (rowAt X p i)) ⟨b31, b32⟩ n hn
  have h16 := (hV.2 p hp).2.1
  have h512 := hV.1
  generalize lastW (rowAt X p i) = s0 at *
  clear hX hX2 e2 e3 hlw hr1 hlast hx
  have HW := hid hW; clear hW
  have HS := hid hsum; clear hsum
  have HV := hid hV; clear hV
  have HJ := hid hj; clear hj
  have HZ := hid hsz; clear hsz
  have hidx : (((X[p].length - i : Nat) : Int) - 1).toNat = X[p].length - i - 1 := by omega
  have hl1 : ((X[p].length - i : Nat) : Int) - 1 < (X[p].length - i : Nat) := by omega
  have hl0 : (0 : Int) ≤ ((X[p].length - i : Nat) : Int) - 1 := by omega
  have hpq' : ((p : Int) == q) = false := by simp; omega
  go_enter Try.func35, Try.ntmps35
  go_wp2
  go_quiet (fail)
  go_wp2
  go_loop [7, 8, 9] (fun _ s r => ∃ n : Nat, n ≤ q - p - 1 ∧ r = .int .i64 ((p : Int) + 1 + n) ∧ s = .int .i64 (sumS X (p + 1) s0 n)) (fun _ _ r => q - (intOf r).toNat)
  case atStart => exact ⟨0, by omega, by simp, rfl⟩
  case round =>
    obtain ⟨n, hn, rfl, rfl⟩ := hrel
    obtain ⟨hs1, hs2⟩ := HS.out n (by omega)
    by_cases hlt : n < q - p - 1
    · have hr : p + 1 + n < X.length := by omega
      have h1 := (HV.out.2 (p + 1 + n) hr).1
      have h2 := (HV.out.2 (p + 1 + n) hr).2.1
      obtain ⟨bb, oo, cc, m1, ee⟩ := HW.out (p + 1 + n) hr
      obtain ⟨b3', o3', c3', m2, ee3⟩ := ee 0 (by omega)
      obtain ⟨m3, b33, b34⟩ := ee3 (X[p + 1 + n].length - 1) (by omega)
      have hl := ((HV.out.2 (p + 1 + n) hr).2.2 0 (by omega)).1
      have hlw : (rowAt X (p + 1 + n) 0).getD (X[p + 1 + n].length - 1) 0 = lastW (rowAt X (p + 1 + n) 0) := by rw [lastW, rowAt_eq hr (by omega), hl, Nat.sub_zero]
      rw [hlw] at m3 b33 b34
      have HSum := hid (show sumS X (p + 1) s0 (n + 1) = sumS X (p + 1) s0 n + 1 + lastW (rowAt X (p + 1 + n) 0) from rfl)
      generalize lastW (rowAt X (p + 1 + n) 0) = y at *
      generalize sumS X (p + 1) s0 n = sn at *
      clear ee ee3 hlw
      clear hl
      generalize hM : X[p + 1 + n].length = M at *
      clear hM
      have hM0 : (M - 0 : Nat) = M := by omega
      rw [hM0, Nat.add_zero] at m2
      clear hM0
      have e1 : ((p : Int) + 1 + n).toNat = p + 1 + n := by omega
      have e2 : ((M : Int) - 1).toNat = M - 1 := by omega
      have g1 : (0 : Int) ≤ (M : Int) - 1 := by omega
      have g2 : (p : Int) + 1 + n < X.length := by omega
      have g3 : (p : Int) + 1 + n < q := by omega
      go_wp2
      go_round
      case rel => exact ⟨n + 1, by omega, by go_num, by rw [HSum.out]⟩
      case measure => simp [intOf]; omega
    · have hn' : n = q - p - 1 := by omega
      subst hn'
      have g3 : ¬ (p : Int) + 1 + (q - p - 1 : Nat) < q := by omega
      by_cases hj0 : j = 0
      · subst hj0
        have hz : sizeL X (p, i) (q, 0) = _ := HZ.out
        rw [if_pos rfl] at hz
        clear HZ
        have HZ := hid hz; clear hz
        generalize sumS X (p + 1) s0 (q - p - 1) = sn at *
        go_wp2
        go_ret
        refine ⟨ret_int HZ.out.symm, ?_⟩
        repeat (first | exact Below.refl _ _ | refine below_dn ?_ _ | refine Below.alloc ?_ (by simp) _)
      · have hz : sizeL X (p, i) (q, j) = _ := HZ.out
        rw [if_neg hj0] at hz
        clear HZ
        have HZ := hid hz; clear hz
        obtain ⟨hr, hjq⟩ := HJ.out.resolve_left hj0
        have h1 := (HV.out.2 q hr).1
        have h2 := (HV.out.2 q hr).2.1
        obtain ⟨bb, oo, cc, m1, ee⟩ := HW.out q hr
        obtain ⟨b3', o3', c3', m2, ee3⟩ := ee 0 (by omega)
        obtain ⟨m3, b33, b34⟩ := ee3 (j - 1) (by omega)
        generalize (rowAt X q 0).getD (j - 1) 0 = y at *
        generalize sumS X (p + 1) s0 (q - p - 1) = sn at *
        clear ee ee3
        have hM0 : (X[q].length - 0 : Nat) = X[q].length := by omega
        rw [hM0, Nat.add_zero] at m2
        clear hM0
        generalize hM : X[q].length = M at *
        clear hM
        have e2 : ((j : Int) - 1).toNat = j - 1 := by omega
        have g1 : (0 : Int) ≤ (j : Int) - 1 := by omega
        have g2 : (j : Int) - 1 < M := by omega
        have g4 : (0 : Int) < (j : Int) := by omega
        have g5 : (q : Int) < X.length := by omega
        go_wp2
        go_quiet (fail)
        go_wp2
        go_ret
        refine ⟨ret_int HZ.out.symm, ?_⟩
        repeat (first | exact Below.refl _ _ | refine below_dn ?_ _ | refine Below.alloc ?_ (by simp) _)

/-- The width of a line from a place to a later one. -/
theorem Size_ok (v : Value) (X : List (List (List Int))) (p i q j : Nat) (w : World) (hX : wordsR.rd w Any [v] X) (hV : VW X) (hp : p < X.length) (hi : i < X[p].length)
    (hlt : p < q ∨ (p = q ∧ i < j)) (hq : (q = X.length ∧ j = 0) ∨ ∃ h : q < X.length, j < X[q].length) :
    Calls Try.prog 35 #[v, .agg #[.int .i64 p, .int .i64 i], .agg #[.int .i64 q, .int .i64 j]] w (Ret w (.int .i64 (sizeL X (p, i) (q, j)))) := by
  rcases hlt with h | ⟨rfl, h⟩
  · rcases hq with ⟨rfl, rfl⟩ | ⟨hq, hj⟩
    · exact Size_diff v X p i _ 0 w hX hV hp hi h (Nat.le_refl _) (.inl rfl)
    · exact Size_diff v X p i q j w hX hV hp hi h (by omega) (.inr ⟨hq, hj⟩)
  · rcases hq with ⟨rfl, rfl⟩ | ⟨hq, hj⟩
    · omega
    · exact Size_same v X p i j w hX hV hp h hj
end Go.Proofs.Ytehelanfgepcmaa
set_option linter.unusedSimpArgs false
set_option linter.unusedVariables false
set_option linter.unusedSectionVars false
namespace Go.Proofs.Ytehelanfgepcmaa
open Go.RowKit Dac

/-- A place where a line can begin. -/
def Pl (X : List (List (List Int))) (p : Nat × Nat) : Prop := ∃ h : p.1 < X.length, p.2 < X[p.1].length
/-- A place where a line can end. -/
def En (X : List (List (List Int))) (p : Nat × Nat) : Prop := (p.1 = X.length ∧ p.2 = 0) ∨ Pl X p
def Lt (a b : Nat × Nat) : Prop := a.1 < b.1 ∨ (a.1 = b.1 ∧ a.2 < b.2)

theorem sizeL_bd {X : List (List (List Int))} (hV : VW X) {f t : Nat × Nat} (hf : Pl X f) (hl : Lt f t) (ht : En X t) : 0 ≤ sizeL X f t ∧ sizeL X f t ≤ 3000000 := by
  obtain ⟨p, i⟩ := f
  obtain ⟨q, j⟩ := t
  obtain ⟨hp, hi⟩ := hf
  simp only [sizeL]
  split
  · have := hV.elem (j := j - i - 1) hp hi
    dsimp only at *
    omega
  · rename_i hne
    have h0 := hV.elem (j := (rowAt X p i).length - 1) hp hi
    have hpq : p < q := by
      rcases hl with h | h
      · exact h
      · exact absurd h.1 hne
    have hq : q ≤ X.length := by
      rcases ht with h | ⟨h, _⟩
      · exact Nat.le_of_eq h.1
      · exact Nat.le_of_lt h
    have hs := hV.sum (q := p + 1) (s := lastW (rowAt X p i)) h0 (q - p - 1) (by omega)
    have h512 := hV.1
    split
    · dsimp only at *; omega
    · rename_i hj
      rcases ht with h | ⟨h, h2⟩
      · exact absurd h.2 hj
      · have h3 := hV.elem (j := j - 1) h (Nat.lt_of_lt_of_le Nat.zero_lt_one (hV.2 q h).1)
        dsimp only at *
        omega

/-- dactylref11.Price -/
def priceL (X : List (List (List Int))) (width : Int) (f t : Nat × Nat) : Int :=
  if t = (X.length, 0) then 4294967296 else 4294967296 + (width - sizeL X f t) * (width - sizeL X f t)

theorem sq_bd (n : Int) (h : -3000000 ≤ n ∧ n ≤ 3000000) : 0 ≤ n * n ∧ n * n ≤ 9000000000000 := by
  constructor
  · by_cases h0 : 0 ≤ n
    · exact Int.mul_nonneg h0 h0
    · have := Int.mul_nonneg (a := -n) (b := -n) (by omega) (by omega); rw [Int.neg_mul_neg] at this; exact this
  · have h1 : n.natAbs ≤ 3000000 := by omega
    have h2 := Nat.mul_le_mul h1 h1
    have h3 : ((n.natAbs * n.natAbs : Nat) : Int) = n * n := by simp
    omega

theorem wrap64_id {x : Int} (h1 : -9223372036854775808 ≤ x) (h2 : x ≤ 9223372036854775807) : wrap64 x = x := by unfold wrap64; omega

set_option maxHeartbeats 1000000 in
theorem Price_ok (v : Value) (X : List (List (List Int))) (width : Int) (f t : Nat × Nat) (w : World) (hX : wordsR.rd w Any [v] X) (hV : VW X) (hw : 1 ≤ width ∧ width ≤ 512) (hf : Pl X f) (hl : Lt f t) (ht : En X t) :
    Calls Try.prog 50 #[v, .int .i64 width, pairA f, pairA t] w (Ret w (.int .i64 (priceL X width f t))) := by
  have hb := sizeL_bd hV hf hl ht
  obtain ⟨p, i⟩ := f
  obtain ⟨q, j⟩ := t
  obtain ⟨hp, hi⟩ := hf
  have hS := fun W (h : Ext w W) => Size_ok v X p i q j W (Rdr.ext _ hX h) hV hp hi hl ht
  have hP := priceL.eq_1 X width (p, i) (q, j)
  unfold pairA
  obtain ⟨b, o, cap, rfl, l2, -⟩ := rows_ne hX (Nat.lt_of_le_of_lt (Nat.zero_le _) hp)
  generalize sizeL X (p, i) (q, j) = s at *
  have hq := sq_bd (width - s) (by omega)
  have HS := hid hS; clear hS
  have HP := hid hP; clear hP
  have heq := fun W => eql_pair isPair q j X.length 0 W
  clear hX hV hl ht
  obtain ⟨w1, w2⟩ := hw
  obtain ⟨s1, s2⟩ := hb
  obtain ⟨q1, q2⟩ := hq
  have hx := (Ext.alloc w (.cells #[.int .i64 p, .int .i64 i] 64)).then (Ext.alloc _ (.cells #[.int .i64 q, .int .i64 j] 64))
  by_cases he : q = X.length ∧ j = 0
  · obtain ⟨rfl, rfl⟩ := he
    simp only [show ((0 : Nat) : Int) = 0 from rfl, beq_self_eq_true, Bool.and_self] at heq
    have hz := HP.out
    rw [if_pos rfl] at hz
    clear HP
    have HP := hid hz; clear hz
    have HX := hid hx; clear hx
    go_enter Try.func50, Try.ntmps50
    go_wp2_with (go_at_call 35; refine (HS.out _ (by repeat (first | exact Below.refl _ _ | refine Below.alloc ?_ (by simp) _))).mono ?_; rintro e W ⟨rfl, hxW⟩; have hc := hxW.cell (cell_alloc0 _ _ 64 0 rfl); have hc2 := hxW.cell (cell_alloc0 _ _ 64 1 rfl); simp only [World.size_alloc] at hc hc2; have HXW := hid (HX.out.then hxW); clear hxW)
    go_ret
    exact ⟨ret_int HP.out.symm, HXW.out⟩
  · have he1 : ((q : Int) == X.length && (j : Int) == 0) = false := by
      rw [Bool.eq_false_iff]; intro h; simp at h; exact he ⟨by omega, h.2⟩
    simp only [show ((0 : Nat) : Int) = 0 from rfl, he1] at heq
    have hz := HP.out
    rw [if_neg (by intro h; simp at h; exact he h)] at hz
    clear HP
    have HP := hid hz; clear hz
    have HX := hid hx; clear hx
    clear he1 he
    have hww := wrap64_id (x := (width - s) * (width - s)) (by omega) (by omega)
    have hww2 := wrap64_id (x := 4294967296 + (width - s) * (width - s)) (by omega) (by omega)
    have HW := hid hww; clear hww
    have HW2 := hid hww2; clear hww2
    go_enter Try.func50, Try.ntmps50
    go_wp2_with (go_at_call 35; refine (HS.out _ (by repeat (first | exact Below.refl _ _ | refine Below.alloc ?_ (by simp) _))).mono ?_; rintro e W ⟨rfl, hxW⟩; have hc := hxW.cell (cell_alloc0 _ _ 64 0 rfl); have hc2 := hxW.cell (cell_alloc0 _ _ 64 1 rfl); simp only [World.size_alloc] at hc hc2; have HXW := hid (HX.out.then hxW); clear hxW)
    go_ret
    refine ⟨ret_int ?_, HXW.out⟩
    rw [HP.out]
    first | rfl | (rw [HW.out, HW2.out]) | rw [HW2.out] | rw [HW.out] | skip
end Go.Proofs.Ytehelanfgepcmaa
set_option linter.unusedSimpArgs false
set_option linter.unusedVariables false
set_option linter.unusedSectionVars false
namespace Dac
open Go Go.RowKit
/-- Block b is a pair, not frozen. -/
def PairBox (t : TypeId) (w : World) (b : Nat) (p : Int × Int) : Prop := w.heap[b]? = some (.cells #[.int .i64 p.1, .int .i64 p.2] t (0, 0))
theorem PairBox.cells {t : TypeId} {w : World} {b : Nat} {p : Int × Int} (h : PairBox t w b p) : w.cell? ⟨b, 0, none⟩ = some (.int .i64 p.1) ∧ w.cell? ⟨b, 1, none⟩ = some (.int .i64 p.2) ∧ w.frozen? ⟨b, 0, none⟩ = false ∧ w.frozen? ⟨b, 1, none⟩ = false := by
  unfold PairBox at h
  refine ⟨?_, ?_, ?_, ?_⟩ <;> simp [World.cell?, World.frozen?, h]
theorem PairBox.lt {t : TypeId} {w : World} {b : Nat} {p : Int × Int} (h : PairBox t w b p) : b < w.heap.size := (Array.getElem?_eq_some_iff.1 h).1
theorem PairBox.ext {t : TypeId} {w w' : World} {b : Nat} {p : Int × Int} (h : PairBox t w b p) (hx : Ext w w') : PairBox t w' b p := (hx.block b h.lt).trans h
theorem PairBox.drewN {t : TypeId} {w : World} {b : Nat} {p : Int × Int} (h : PairBox t w b p) (n : Nat) : PairBox t (w.drewN n) b p := h
theorem PairBox.other {t : TypeId} {w : World} {b : Nat} {p : Int × Int} (h : PairBox t w b p) {a : Addr} (v : Value) (hb : b ≠ a.block) : PairBox t (w.setCell a v) b p :=
  (Below.heap_setCell w a v b hb).trans h
theorem PairBox.new {t : TypeId} (w : World) (x y : Int) : PairBox t (w.alloc (.cells #[.int .i64 x, .int .i64 y] t)) w.heap.size (x, y) := heap_alloc_new w _
theorem heap_setCell_same (w : World) (g i : Nat) (cur : Array Value) (t : TypeId) (fr : Nat × Nat) (v : Value) (h : w.heap[g]? = some (.cells cur t fr)) :
    (w.setCell ⟨g, i, none⟩ v).heap[g]? = some (.cells (cur.setIfInBounds i v) t fr) := by
  simp only [World.setCell, Array.getElem?_modify, h, if_true, Option.map_some]
  simp
theorem PairBox.set {t : TypeId} {w : World} {b : Nat} {p : Int × Int} (h : PairBox t w b p) (x y : Int) : PairBox t ((w.setCell ⟨b, 0, none⟩ (.int .i64 x)).setCell ⟨b, 1, none⟩ (.int .i64 y)) b (x, y) := by
  have h1 := heap_setCell_same w b 0 _ t _ (.int .i64 x) h
  have h2 := heap_setCell_same _ b 1 _ t _ (.int .i64 y) h1
  exact h2
end Dac
namespace Go.Proofs.Ytehelanfgepcmaa
open Go.RowKit Dac

abbrev endP (X : List (List (List Int))) : Nat × Nat := (X.length, 0)
/-- How many places are to come. -/
def rem (X : List (List (List Int))) (p : Nat × Nat) : Nat := ((X.drop p.1).map List.length).sum - p.2
def kAt (K : List (List Int)) (p : Nat × Nat) : Int := (K.getD p.1 []).getD p.2 0
/-- dactylref11.Least, from one round on. -/
def leastGo (X : List (List (List Int))) (width : Int) (K : List (List Int)) (f : Nat × Nat) : Nat → Nat × Nat → Int → Nat × Nat → Int × (Nat × Nat)
  | 0, _, best, a => (best, a)
  | n + 1, to, best, a =>
    let t := next X to
    if width < sizeL X f t then leastGo X width K f n t best a
    else
      let c := if t = endP X then 0 else kAt K t
      if c < 0 then leastGo X width K f n t best a
      else
        let c2 := wrap64 (c + priceL X width f t)
        if best < 0 ∨ c2 ≤ best then leastGo X width K f n t c2 t else leastGo X width K f n t best a
def leastL (X : List (List (List Int))) (width : Int) (K : List (List Int)) (f : Nat × Nat) : Int × (Nat × Nat) := leastGo X width K f (rem X f) f (-1) f

theorem rem_end (X : List (List (List Int))) : rem X (endP X) = 0 := by simp [rem]
theorem rem_drop (X : List (List (List Int))) (p : Nat) (hp : p < X.length) : ((X.drop p).map List.length).sum = X[p].length + ((X.drop (p + 1)).map List.length).sum := by
  rw [List.drop_eq_getElem_cons hp, List.map_cons, List.sum_cons]
theorem next_ok {X : List (List (List Int))} (hV : VW X) {p : Nat × Nat} (h : Pl X p) : En X (next X p) ∧ Lt p (next X p) ∧ rem X (next X p) + 1 = rem X p := by
  obtain ⟨p, i⟩ := p
  obtain ⟨hp, hi⟩ := h
  have hgd : X.getD p [] = X[p] := by simp at hp; simp [hp]
  dsimp only at hp hi
  have hr := rem_drop X p hp
  simp only [next, hgd]
  split
  · rename_i h
    refine ⟨.inr ⟨hp, h⟩, .inr ⟨rfl, by simp⟩, ?_⟩
    simp only [rem]; omega
  · rename_i h
    refine ⟨?_, .inl (by simp), ?_⟩
    · by_cases hq : p + 1 = X.length
      · exact .inl ⟨hq, rfl⟩
      · have hq' : p + 1 < X.length := by omega
        exact .inr ⟨hq', Nat.lt_of_lt_of_le Nat.zero_lt_one (hV.2 _ hq').1⟩
    · simp only [rem]
      omega
theorem Lt.trans {a b c : Nat × Nat} (h : Lt a b) (k : Lt b c) : Lt a c := by
  unfold Lt at *; omega
theorem rem_pos {X : List (List (List Int))} {p : Nat × Nat} (h : Pl X p) : 0 < rem X p := by
  obtain ⟨p, i⟩ := p
  obtain ⟨hp, hi⟩ := h
  dsimp only at hp hi
  have := rem_drop X p hp
  simp only [rem]; omega
theorem rem_zero {X : List (List (List Int))} {p : Nat × Nat} (h : En X p) (h0 : rem X p = 0) : p = endP X := by
  rcases h with h | h
  · exact Prod.ext h.1 h.2
  · have := rem_pos h; omega
end Go.Proofs.Ytehelanfgepcmaa
set_option linter.unusedSimpArgs false
set_option linter.unusedVariables false
set_option linter.unusedSectionVars false
namespace Go.Proofs.Ytehelanfgepcmaa
open Go.RowKit Dac

theorem PairBox.new' {t : TypeId} (w : World) (x y : Int) {B : Nat} (hB : B = w.heap.size) : PairBox t (w.alloc (.cells #[.int .i64 x, .int .i64 y] t)) B (x, y) := by subst hB; exact PairBox.new w x y
/-- The local variables of Least that lie in memory, from block B on. -/
structure LBox (w : World) (B : Nat) (f at_ to : Nat × Nat) (n : Nat) : Prop where
  f : PairBox 64 w B (f.1, f.2)
  r : PairBox 64 w (B + 1) (0, 0)
  e : PairBox 64 w (B + 2) (n, 0)
  a : PairBox 64 w (B + 3) (at_.1, at_.2)
  t : PairBox 64 w (B + 4) (to.1, to.2)
theorem LBox.ext {w w' : World} {B : Nat} {f at_ to : Nat × Nat} {n : Nat} (h : LBox w B f at_ to n) (hx : Ext w w') : LBox w' B f at_ to n :=
  ⟨h.f.ext hx, h.r.ext hx, h.e.ext hx, h.a.ext hx, h.t.ext hx⟩
theorem LBox.setTo {w : World} {B : Nat} {f at_ to : Nat × Nat} {n : Nat} (h : LBox w B f at_ to n) (x y : Nat) :
    LBox ((w.setCell ⟨B + 4, 0, none⟩ (.int .i64 x)).setCell ⟨B + 4, 1, none⟩ (.int .i64 y)) B f at_ (x, y) n :=
  ⟨(h.f.other _ (by simp)).other _ (by simp), (h.r.other _ (by simp)).other _ (by simp), (h.e.other _ (by simp)).other _ (by simp), (h.a.other _ (by simp)).other _ (by simp), h.t.set _ _⟩
theorem LBox.setAt {w : World} {B : Nat} {f at_ to : Nat × Nat} {n : Nat} (h : LBox w B f at_ to n) (x y : Nat) :
    LBox ((w.setCell ⟨B + 3, 0, none⟩ (.int .i64 x)).setCell ⟨B + 3, 1, none⟩ (.int .i64 y)) B f (x, y) to n :=
  ⟨(h.f.other _ (by simp)).other _ (by simp), (h.r.other _ (by simp)).other _ (by simp), (h.e.other _ (by simp)).other _ (by simp), h.a.set _ _, (h.t.other _ (by simp)).other _ (by simp)⟩

/-- The cells on the way to an element of a table of costs. -/
theorem k_cells {w : World} {kv : Value} {X : List (List (List Int))} {K : List (List Int)} (hK : rowsR.rd w Any [kv] K) (hKl : K.length = X.length ∧ ∀ p (h : p < X.length) (h2 : p < K.length), K[p].length = X[p].length) {t : Nat × Nat} (ht : Pl X t) :
    ∃ kb ko kc k2 k3 kc2 N, kv = .slice (some ⟨kb, ko, none⟩) K.length kc ∧ t.1 < K.length ∧ K.length ≤ 9223372036854775807 ∧ w.cell? ⟨kb, ko + t.1, none⟩ = some (.slice (some ⟨k2, k3, none⟩) N kc2) ∧
      t.2 < N ∧ N ≤ 9223372036854775807 ∧ w.cell? ⟨k2, k3 + t.2, none⟩ = some (.int .i64 (kAt K t)) := by
  obtain ⟨h1, h2⟩ := ht
  have h3 : t.1 < K.length := by rw [hKl.1]; exact h1
  have h4 : t.2 < K[t.1].length := by rw [hKl.2 _ h1 h3]; exact h2
  obtain ⟨kb, ko, kc, rfl, l1, e1⟩ := rows_ne hK (by omega)
  obtain ⟨a2, c2, hc, r2, _⟩ := e1 _ h3
  obtain ⟨k2, k3, kc2, hv, l2, e2⟩ := ints_ne r2 (by omega)
  rw [hv] at hc
  refine ⟨kb, ko, kc, k2, k3, kc2, K[t.1].length, rfl, h3, l1, hc, h4, l2, ?_⟩
  rw [(e2 _ h4).2]
  simp [kAt, h3, h4]

set_option maxHeartbeats 2000000 in
theorem Least_ok (v kv : Value) (X : List (List (List Int))) (K : List (List Int)) (width : Int) (f : Nat × Nat) (w : World) (hX : wordsR.rd w Any [v] X) (hV : VW X) (hw0 : 1 ≤ width ∧ width ≤ 512)
    (hK : rowsR.rd w Any [kv] K) (hKl : K.length = X.length ∧ ∀ p (h : p < X.length) (h2 : p < K.length), K[p].length = X[p].length) (hf : Pl X f) :
    Calls Try.prog 44 #[v, .int .i64 width, kv, .agg #[.int .i64 f.1, .int .i64 f.2]] w (Ret w (.tuple #[.int .i64 (leastL X width K f).1, pairA (leastL X width K f).2])) := by
  obtain ⟨p, i⟩ := f
  have hR : leastGo X width K (p, i) (rem X (p, i)) (p, i) (-1) (p, i) = leastL X width K (p, i) := rfl
  generalize leastL X width K (p, i) = R at *
  obtain ⟨b, o, cap, rfl, l2, -⟩ := rows_ne hX (by obtain ⟨h, _⟩ := hf; omega)
  obtain ⟨R1, R2, R3⟩ := R
  unfold pairA
  have HX := hid hX; clear hX
  have HK := hid hK; clear hK
  have HV := hid hV; clear hV
  have HF := hid hf; clear hf
  have HR := hid hR; clear hR
  have HL := hid hKl; clear hKl
  go_enter Try.func44, Try.ntmps44
  go_wp2
  go_loopg [11] (rem X (p, i)) (fun gk u wr => ∃ (to at_ : Nat × Nat) (best : Int), En X to ∧ ((p, i) = to ∨ Lt (p, i) to) ∧ rem X to = gk ∧ u = .int .i64 best ∧ leastGo X width K (p, i) gk to best at_ = (R1, R2, R3) ∧ Below w.heap.size w wr ∧ LBox wr w.heap.size (p, i) at_ to X.length)
  case atStart =>
    refine ⟨(p, i), (p, i), -1, .inr HF.out, .inl rfl, rfl, rfl, HR.out, ?_, ?_⟩
    · repeat (first | exact Below.refl _ _ | refine Below.alloc ?_ (by simp; try omega) _)
    · refine ⟨?_, ?_, ?_, ?_, ?_⟩
      · exact ((((PairBox.new' w _ _ rfl).ext (Ext.alloc _ _)).ext (Ext.alloc _ _)).ext (Ext.alloc _ _)).ext (Ext.alloc _ _)
      · exact (((PairBox.new' _ _ _ (by simp)).ext (Ext.alloc _ _)).ext (Ext.alloc _ _)).ext (Ext.alloc _ _)
      · exact ((PairBox.new' _ _ _ (by simp)).ext (Ext.alloc _ _)).ext (Ext.alloc _ _)
      · exact (PairBox.new' _ _ _ (by simp)).ext (Ext.alloc _ _)
      · exact PairBox.new' _ _ _ (by simp)
  case round =>
    obtain ⟨⟨q, j⟩, ⟨aq, aj⟩, best, he, hlt, hg, rfl, hgo, hw, hb⟩ := hrel
    obtain ⟨f0, f1, f2, f3⟩ := hb.f.cells
    obtain ⟨e0, e1, -, -⟩ := hb.e.cells
    obtain ⟨t0, t1, t2, t3⟩ := hb.t.cells
    by_cases hend : (q, j) = endP X
    · obtain ⟨rfl, rfl⟩ := Prod.mk.inj hend
      obtain rfl : gk = 0 := by rw [← hg, rem_end]
      obtain ⟨rfl, hgo2⟩ := Prod.mk.inj hgo
      obtain ⟨rfl, rfl⟩ := Prod.mk.inj hgo2
      obtain ⟨a0, a1, -, -⟩ := hb.a.cells
      obtain ⟨r0, r1, r2, r3⟩ := hb.r.cells
      have hneq := fun W => neq_pair isPair X.length 0 X.length 0 W
      simp only [show ((0 : Nat) : Int) = 0 from rfl, beq_self_eq_true, Bool.and_self, Bool.not_true] at *
      have HW := hid hw; clear hw
      have HB := hid hb; clear hb
      clear he hlt hg hgo hgo2 hend f0 f1 f2 f3
      go_wp2
      go_region
      all_goals
        go_wp2
        obtain ⟨z0, z1, -, -⟩ := (HB.out.r.set aq aj).cells
        refine bodyPost_ret (v := .tuple #[.int .i64 best, .agg #[.int .i64 aq, .int .i64 aj]]) (by simp [results, Try.results44, go_sem, z0, z1]) rfl ⟨rfl, ?_⟩
        refine Below.setCell (Below.setCell (Below.drew HW.out) ?_ _) ?_ _ <;> first | (simp; done) | (simp; omega)
    · have hpl : Pl X (q, j) := by
        rcases he with h | h
        · exact absurd (Prod.ext h.1 h.2) hend
        · exact h
      have hneq1 : ((q : Int) == X.length && (j : Int) == 0) = false := by
        rw [Bool.eq_false_iff]; intro h; simp at h; exact hend (Prod.ext (by simp; omega) h.2)
      have hneq := fun W => neq_pair isPair q j X.length 0 W
      simp only [hneq1, Bool.not_false] at hneq
      clear hneq1
      obtain ⟨hn1, hn2, hn3⟩ := next_ok HV.out hpl
      have hnx := fun W (hx : Ext w W) => Next_ok _ X q j W (Rdr.ext _ HX.out hx) hpl.1 hpl.2
      have hlt2 : Lt (p, i) (next X (q, j)) := by
        rcases hlt with h | h
        · rw [h]; exact hn2
        · exact h.trans hn2
      have hsz := fun W (hx : Ext w W) => Size_ok _ X p i (next X (q, j)).1 (next X (q, j)).2 W (Rdr.ext _ HX.out hx) HV.out HF.out.1 HF.out.2 hlt2 hn1
      have hpr := fun W (hx : Ext w W) => Price_ok _ X width (p, i) (next X (q, j)) W (Rdr.ext _ HX.out hx) HV.out hw0 HF.out hlt2 hn1
      obtain ⟨m, rfl⟩ : ∃ m, gk = m + 1 := ⟨rem X (next X (q, j)), by omega⟩
      have hgm : rem X (next X (q, j)) = m := by omega
      rw [leastGo] at hgo
      unfold pairA at hnx hpr
      have hkat := fun (h : Pl X (next X (q, j))) => k_cells HK.out HL.out h
      generalize next X (q, j) = t at *
      obtain ⟨tq, tj⟩ := t
      generalize sizeL X (p, i) (tq, tj) = sz at *
      generalize priceL X width (p, i) (tq, tj) = pr at *
      have heneq := fun W => neq_pair isPair tq tj X.length 0 W
      have HN := hid hnx; have HS := hid hsz; have HP := hid hpr; have HW := hid hw; have HB := hid hb
      clear hnx hsz hpr hw hb hn2 hn3 hpl he hlt hg hend
      dsimp only at hgo hkat
      by_cases c1 : width < sz
      · rw [if_pos c1] at hgo
        have HG := hid hgo; clear hgo hkat heneq
        go_wp2_with (first | (go_at_call 33; refine (HN.out _ HW.out).mono ?_; rintro e w1 ⟨rfl, x1⟩; have HB1 := hid (HB.out.ext x1); have HW1 := hid (below_ext HW.out x1 HW.out.size); have m1 := x1.size; clear x1; obtain ⟨p0, p1, p2, p3⟩ := HB1.out.t.cells; obtain ⟨p4, p5, -, -⟩ := HB1.out.f.cells) | (go_at_call 35; refine (HS.out _ (by refine Below.setCell (Below.setCell HW1.out ?_ _) ?_ _ <;> first | (simp; done) | (simp; omega))).mono ?_; rintro e w2 ⟨rfl, x2⟩; have HB2 := hid ((HB1.out.setTo tq tj).ext x2); have HW2 := hid (below_ext (Below.setCell (Below.setCell HW1.out (p := ⟨w.heap.size + 4, 0, none⟩) (by simp) _) (p := ⟨w.heap.size + 4, 1, none⟩) (by simp) _) x2 (by have := HW1.out.size; simp; omega)); clear x2; obtain ⟨q0, q1, q2, q3⟩ := HB2.out.t.cells; obtain ⟨q4, q5, -, -⟩ := HB2.out.f.cells; obtain ⟨q6, q7, -, -⟩ := HB2.out.e.cells; obtain ⟨q8, q9, q10, q11⟩ := HB2.out.a.cells) | (go_at_call 50; refine (HP.out _ HW2.out).mono ?_; rintro e w3 ⟨rfl, x3⟩; have HB3 := hid ((HB2.out).ext x3); have HW3 := hid (below_ext HW2.out x3 (by have := HW2.out.size; simp; omega)); clear x3; obtain ⟨z0, z1, z2, z3⟩ := HB3.out.t.cells; obtain ⟨z8, z9, z10, z11⟩ := HB3.out.a.cells))
        go_roundg m
        case measure => omega
        case rel => exact ⟨(tq, tj), (aq, aj), best, hn1, .inr hlt2, hgm, by go_num, HG.out, HW2.out, HB2.out⟩
      · rw [if_neg c1] at hgo
        by_cases c2 : (tq, tj) = endP X
        · obtain ⟨rfl, rfl⟩ := Prod.mk.inj c2
          rw [if_pos rfl, if_neg (by omega), Int.zero_add] at hgo
          simp only [show ((0 : Nat) : Int) = 0 from rfl, beq_self_eq_true, Bool.and_self, Bool.not_true] at heneq
          clear c2 hkat
          by_cases b1 : best < 0
          · rw [if_pos (.inl b1)] at hgo
            have HG := hid hgo; clear hgo
            go_wp2_with (first | (go_at_call 33; refine (HN.out _ HW.out).mono ?_; rintro e w1 ⟨rfl, x1⟩; have HB1 := hid (HB.out.ext x1); have HW1 := hid (below_ext HW.out x1 HW.out.size); have m1 := x1.size; clear x1; obtain ⟨p0, p1, p2, p3⟩ := HB1.out.t.cells; obtain ⟨p4, p5, -, -⟩ := HB1.out.f.cells) | (go_at_call 35; refine (HS.out _ (by refine Below.setCell (Below.setCell HW1.out ?_ _) ?_ _ <;> first | (simp; done) | (simp; omega))).mono ?_; rintro e w2 ⟨rfl, x2⟩; have HB2 := hid ((HB1.out.setTo X.length 0).ext x2); have HW2 := hid (below_ext (Below.setCell (Below.setCell HW1.out (p := ⟨w.heap.size + 4, 0, none⟩) (by simp) _) (p := ⟨w.heap.size + 4, 1, none⟩) (by simp) _) x2 (by have := HW1.out.size; simp; omega)); clear x2; obtain ⟨q0, q1, q2, q3⟩ := HB2.out.t.cells; obtain ⟨q4, q5, -, -⟩ := HB2.out.f.cells; obtain ⟨q6, q7, -, -⟩ := HB2.out.e.cells; obtain ⟨q8, q9, q10, q11⟩ := HB2.out.a.cells) | (go_at_call 50; refine (HP.out _ HW2.out).mono ?_; rintro e w3 ⟨rfl, x3⟩; have HB3 := hid ((HB2.out).ext x3); have HW3 := hid (below_ext HW2.out x3 (by have := HW2.out.size; simp; omega)); clear x3; obtain ⟨z0, z1, z2, z3⟩ := HB3.out.t.cells; obtain ⟨z8, z9, z10, z11⟩ := HB3.out.a.cells))
            go_roundg m
            case measure => omega
            case rel => exact ⟨(X.length, 0), (X.length, 0), _, hn1, .inr hlt2, hgm, by go_num, HG.out, (by refine Below.setCell (Below.setCell HW3.out ?_ _) ?_ _ <;> first | (simp; done) | (simp; omega)), (HB3.out.setAt X.length 0)⟩
          · by_cases b2 : wrap64 pr ≤ best
            · rw [if_pos (.inr b2)] at hgo
              have HG := hid hgo; clear hgo
              go_wp2_with (first | (go_at_call 33; refine (HN.out _ HW.out).mono ?_; rintro e w1 ⟨rfl, x1⟩; have HB1 := hid (HB.out.ext x1); have HW1 := hid (below_ext HW.out x1 HW.out.size); have m1 := x1.size; clear x1; obtain ⟨p0, p1, p2, p3⟩ := HB1.out.t.cells; obtain ⟨p4, p5, -, -⟩ := HB1.out.f.cells) | (go_at_call 35; refine (HS.out _ (by refine Below.setCell (Below.setCell HW1.out ?_ _) ?_ _ <;> first | (simp; done) | (simp; omega))).mono ?_; rintro e w2 ⟨rfl, x2⟩; have HB2 := hid ((HB1.out.setTo X.length 0).ext x2); have HW2 := hid (below_ext (Below.setCell (Below.setCell HW1.out (p := ⟨w.heap.size + 4, 0, none⟩) (by simp) _) (p := ⟨w.heap.size + 4, 1, none⟩) (by simp) _) x2 (by have := HW1.out.size; simp; omega)); clear x2; obtain ⟨q0, q1, q2, q3⟩ := HB2.out.t.cells; obtain ⟨q4, q5, -, -⟩ := HB2.out.f.cells; obtain ⟨q6, q7, -, -⟩ := HB2.out.e.cells; obtain ⟨q8, q9, q10, q11⟩ := HB2.out.a.cells) | (go_at_call 50; refine (HP.out _ HW2.out).mono ?_; rintro e w3 ⟨rfl, x3⟩; have HB3 := hid ((HB2.out).ext x3); have HW3 := hid (below_ext HW2.out x3 (by have := HW2.out.size; simp; omega)); clear x3; obtain ⟨z0, z1, z2, z3⟩ := HB3.out.t.cells; obtain ⟨z8, z9, z10, z11⟩ := HB3.out.a.cells))
              go_roundg m
              case measure => omega
              case rel => exact ⟨(X.length, 0), (X.length, 0), _, hn1, .inr hlt2, hgm, by go_num, HG.out, (by refine Below.setCell (Below.setCell HW3.out ?_ _) ?_ _ <;> first | (simp; done) | (simp; omega)), (HB3.out.setAt X.length 0)⟩
            · rw [if_neg (by intro h; rcases h with h | h; exact b1 h; exact b2 h)] at hgo
              have HG := hid hgo; clear hgo
              go_wp2_with (first | (go_at_call 33; refine (HN.out _ HW.out).mono ?_; rintro e w1 ⟨rfl, x1⟩; have HB1 := hid (HB.out.ext x1); have HW1 := hid (below_ext HW.out x1 HW.out.size); have m1 := x1.size; clear x1; obtain ⟨p0, p1, p2, p3⟩ := HB1.out.t.cells; obtain ⟨p4, p5, -, -⟩ := HB1.out.f.cells) | (go_at_call 35; refine (HS.out _ (by refine Below.setCell (Below.setCell HW1.out ?_ _) ?_ _ <;> first | (simp; done) | (simp; omega))).mono ?_; rintro e w2 ⟨rfl, x2⟩; have HB2 := hid ((HB1.out.setTo X.length 0).ext x2); have HW2 := hid (below_ext (Below.setCell (Below.setCell HW1.out (p := ⟨w.heap.size + 4, 0, none⟩) (by simp) _) (p := ⟨w.heap.size + 4, 1, none⟩) (by simp) _) x2 (by have := HW1.out.size; simp; omega)); clear x2; obtain ⟨q0, q1, q2, q3⟩ := HB2.out.t.cells; obtain ⟨q4, q5, -, -⟩ := HB2.out.f.cells; obtain ⟨q6, q7, -, -⟩ := HB2.out.e.cells; obtain ⟨q8, q9, q10, q11⟩ := HB2.out.a.cells) | (go_at_call 50; refine (HP.out _ HW2.out).mono ?_; rintro e w3 ⟨rfl, x3⟩; have HB3 := hid ((HB2.out).ext x3); have HW3 := hid (below_ext HW2.out x3 (by have := HW2.out.size; simp; omega)); clear x3; obtain ⟨z0, z1, z2, z3⟩ := HB3.out.t.cells; obtain ⟨z8, z9, z10, z11⟩ := HB3.out.a.cells))
              go_roundg m
              case measure => omega
              case rel => exact ⟨(X.length, 0), (aq, aj), best, hn1, .inr hlt2, hgm, by go_num, HG.out, HW3.out, HB3.out⟩
        · rw [if_neg c2] at hgo
          have hpt : Pl X (tq, tj) := by
            rcases hn1 with h | h
            · exact absurd (Prod.ext h.1 h.2) c2
            · exact h
          have hne1 : ((tq : Int) == X.length && (tj : Int) == 0) = false := by
            rw [Bool.eq_false_iff]; intro h; simp at h; exact c2 (Prod.ext (by simp; omega) h.2)
          simp only [hne1, Bool.not_false] at heneq
          clear hne1 c2
          obtain ⟨kb, ko, kc, kk2, kk3, kc2, N, rfl, n1, n2, k1, n3, n4, k2⟩ := hkat hpt
          generalize kAt K (tq, tj) = c at *
          try dsimp only at k1 k2 n1 n3
          clear hkat hpt
          by_cases c3 : c < 0
          · rw [if_pos c3] at hgo
            have HG := hid hgo; clear hgo
            go_wp2_with (first | (go_at_call 33; refine (HN.out _ HW.out).mono ?_; rintro e w1 ⟨rfl, x1⟩; have HB1 := hid (HB.out.ext x1); have HW1 := hid (below_ext HW.out x1 HW.out.size); have m1 := x1.size; clear x1; obtain ⟨p0, p1, p2, p3⟩ := HB1.out.t.cells; obtain ⟨p4, p5, -, -⟩ := HB1.out.f.cells) | (go_at_call 35; refine (HS.out _ (by refine Below.setCell (Below.setCell HW1.out ?_ _) ?_ _ <;> first | (simp; done) | (simp; omega))).mono ?_; rintro e w2 ⟨rfl, x2⟩; have HB2 := hid ((HB1.out.setTo tq tj).ext x2); have HW2 := hid (below_ext (Below.setCell (Below.setCell HW1.out (p := ⟨w.heap.size + 4, 0, none⟩) (by simp) _) (p := ⟨w.heap.size + 4, 1, none⟩) (by simp) _) x2 (by have := HW1.out.size; simp; omega)); clear x2; obtain ⟨q0, q1, q2, q3⟩ := HB2.out.t.cells; obtain ⟨q4, q5, -, -⟩ := HB2.out.f.cells; obtain ⟨q6, q7, -, -⟩ := HB2.out.e.cells; obtain ⟨q8, q9, q10, q11⟩ := HB2.out.a.cells; have y1 := Ext.cell HW2.out k1; have y2 := Ext.cell HW2.out k2))
            go_quiet (fail)
            go_wp2
            go_roundg m
            case measure => omega
            case rel => exact ⟨(tq, tj), (aq, aj), best, hn1, .inr hlt2, hgm, by go_num, HG.out, (below_dn HW2.out _), (HB2.out.ext (Ext.drewN _ _))⟩
          · rw [if_neg c3] at hgo
            by_cases b1 : best < 0
            · rw [if_pos (.inl b1)] at hgo
              have HG := hid hgo; clear hgo
              go_wp2_with (first | (go_at_call 33; refine (HN.out _ HW.out).mono ?_; rintro e w1 ⟨rfl, x1⟩; have HB1 := hid (HB.out.ext x1); have HW1 := hid (below_ext HW.out x1 HW.out.size); have m1 := x1.size; clear x1; obtain ⟨p0, p1, p2, p3⟩ := HB1.out.t.cells; obtain ⟨p4, p5, -, -⟩ := HB1.out.f.cells) | (go_at_call 35; refine (HS.out _ (by refine Below.setCell (Below.setCell HW1.out ?_ _) ?_ _ <;> first | (simp; done) | (simp; omega))).mono ?_; rintro e w2 ⟨rfl, x2⟩; have HB2 := hid ((HB1.out.setTo tq tj).ext x2); have HW2 := hid (below_ext (Below.setCell (Below.setCell HW1.out (p := ⟨w.heap.size + 4, 0, none⟩) (by simp) _) (p := ⟨w.heap.size + 4, 1, none⟩) (by simp) _) x2 (by have := HW1.out.size; simp; omega)); clear x2; obtain ⟨q0, q1, q2, q3⟩ := HB2.out.t.cells; obtain ⟨q4, q5, -, -⟩ := HB2.out.f.cells; obtain ⟨q6, q7, -, -⟩ := HB2.out.e.cells; obtain ⟨q8, q9, q10, q11⟩ := HB2.out.a.cells; have y1 := Ext.cell HW2.out k1; have y2 := Ext.cell HW2.out k2))
              go_quiet (fail)
              go_wp2_with (go_at_call 50; refine (HP.out _ (below_dn HW2.out _)).mono ?_; rintro e w3 ⟨rfl, x3⟩; have HB3 := hid ((LBox.ext HB2.out (Ext.drewN _ _)).ext x3); have HW3 := hid (below_ext (below_dn HW2.out _) x3 (by have := HW2.out.size; simp; omega)); clear x3; obtain ⟨z0, z1, z2, z3⟩ := HB3.out.t.cells; obtain ⟨z8, z9, z10, z11⟩ := HB3.out.a.cells)
              go_roundg m
              case measure => omega
              case rel => exact ⟨(tq, tj), (tq, tj), _, hn1, .inr hlt2, hgm, by go_num, HG.out, (by refine Below.setCell (Below.setCell HW3.out ?_ _) ?_ _ <;> first | (simp; done) | (simp; omega)), (HB3.out.setAt tq tj)⟩
            · by_cases b2 : wrap64 (c + pr) ≤ best
              · rw [if_pos (.inr b2)] at hgo
                have HG := hid hgo; clear hgo
                go_wp2_with (first | (go_at_call 33; refine (HN.out _ HW.out).mono ?_; rintro e w1 ⟨rfl, x1⟩; have HB1 := hid (HB.out.ext x1); have HW1 := hid (below_ext HW.out x1 HW.out.size); have m1 := x1.size; clear x1; obtain ⟨p0, p1, p2, p3⟩ := HB1.out.t.cells; obtain ⟨p4, p5, -, -⟩ := HB1.out.f.cells) | (go_at_call 35; refine (HS.out _ (by refine Below.setCell (Below.setCell HW1.out ?_ _) ?_ _ <;> first | (simp; done) | (simp; omega))).mono ?_; rintro e w2 ⟨rfl, x2⟩; have HB2 := hid ((HB1.out.setTo tq tj).ext x2); have HW2 := hid (below_ext (Below.setCell (Below.setCell HW1.out (p := ⟨w.heap.size + 4, 0, none⟩) (by simp) _) (p := ⟨w.heap.size + 4, 1, none⟩) (by simp) _) x2 (by have := HW1.out.size; simp; omega)); clear x2; obtain ⟨q0, q1, q2, q3⟩ := HB2.out.t.cells; obtain ⟨q4, q5, -, -⟩ := HB2.out.f.cells; obtain ⟨q6, q7, -, -⟩ := HB2.out.e.cells; obtain ⟨q8, q9, q10, q11⟩ := HB2.out.a.cells; have y1 := Ext.cell HW2.out k1; have y2 := Ext.cell HW2.out k2))
                go_quiet (fail)
                go_wp2_with (go_at_call 50; refine (HP.out _ (below_dn HW2.out _)).mono ?_; rintro e w3 ⟨rfl, x3⟩; have HB3 := hid ((LBox.ext HB2.out (Ext.drewN _ _)).ext x3); have HW3 := hid (below_ext (below_dn HW2.out _) x3 (by have := HW2.out.size; simp; omega)); clear x3; obtain ⟨z0, z1, z2, z3⟩ := HB3.out.t.cells; obtain ⟨z8, z9, z10, z11⟩ := HB3.out.a.cells)
                go_roundg m
                case measure => omega
                case rel => exact ⟨(tq, tj), (tq, tj), _, hn1, .inr hlt2, hgm, by go_num, HG.out, (by refine Below.setCell (Below.setCell HW3.out ?_ _) ?_ _ <;> first | (simp; done) | (simp; omega)), (HB3.out.setAt tq tj)⟩
              · rw [if_neg (by intro h; rcases h with h | h; exact b1 h; exact b2 h)] at hgo
                have HG := hid hgo; clear hgo
                go_wp2_with (first | (go_at_call 33; refine (HN.out _ HW.out).mono ?_; rintro e w1 ⟨rfl, x1⟩; have HB1 := hid (HB.out.ext x1); have HW1 := hid (below_ext HW.out x1 HW.out.size); have m1 := x1.size; clear x1; obtain ⟨p0, p1, p2, p3⟩ := HB1.out.t.cells; obtain ⟨p4, p5, -, -⟩ := HB1.out.f.cells) | (go_at_call 35; refine (HS.out _ (by refine Below.setCell (Below.setCell HW1.out ?_ _) ?_ _ <;> first | (simp; done) | (simp; omega))).mono ?_; rintro e w2 ⟨rfl, x2⟩; have HB2 := hid ((HB1.out.setTo tq tj).ext x2); have HW2 := hid (below_ext (Below.setCell (Below.setCell HW1.out (p := ⟨w.heap.size + 4, 0, none⟩) (by simp) _) (p := ⟨w.heap.size + 4, 1, none⟩) (by simp) _) x2 (by have := HW1.out.size; simp; omega)); clear x2; obtain ⟨q0, q1, q2, q3⟩ := HB2.out.t.cells; obtain ⟨q4, q5, -, -⟩ := HB2.out.f.cells; obtain ⟨q6, q7, -, -⟩ := HB2.out.e.cells; obtain ⟨q8, q9, q10, q11⟩ := HB2.out.a.cells; have y1 := Ext.cell HW2.out k1; have y2 := Ext.cell HW2.out k2))
                go_quiet (fail)
                go_wp2_with (go_at_call 50; refine (HP.out _ (below_dn HW2.out _)).mono ?_; rintro e w3 ⟨rfl, x3⟩; have HB3 := hid ((LBox.ext HB2.out (Ext.drewN _ _)).ext x3); have HW3 := hid (below_ext (below_dn HW2.out _) x3 (by have := HW2.out.size; simp; omega)); clear x3; obtain ⟨z0, z1, z2, z3⟩ := HB3.out.t.cells; obtain ⟨z8, z9, z10, z11⟩ := HB3.out.a.cells)
                go_roundg m
                case measure => omega
                case rel => exact ⟨(tq, tj), (aq, aj), best, hn1, .inr hlt2, hgm, by go_num, HG.out, HW3.out, HB3.out⟩
end Go.Proofs.Ytehelanfgepcmaa
