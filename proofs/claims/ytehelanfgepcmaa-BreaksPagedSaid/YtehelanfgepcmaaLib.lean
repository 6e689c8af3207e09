/- Readings of memory: how Go values (cells) read as plain Lean data, how a reading stays while the world goes on, and laws on slices and maps that a call makes. No statement of the seat stands here. -/
import Derived.WalkKit
import Derived.WalkSpells
import Derived.WalkLawsBesides
import Derived.BigQuiet
import Derived.Deep.QuietTactic
import Derived.Deep.RegionHeld3
import Derived.Laws.StructEq
set_option linter.unusedSimpArgs false
set_option linter.unusedVariables false
set_option linter.unusedSectionVars false
namespace Dac
open Go Go.RowKit

/-- w' goes on from w: nothing that was there has turned. -/
theorem hid {p : Prop} (h : p) : RowKit.Hid p := h
abbrev Ext (w w' : World) : Prop := Below w.heap.size w w'

theorem Ext.rfl' (w : World) : Ext w w := Below.refl _ _
theorem Ext.then {a b c : World} (h : Ext a b) (k : Ext b c) : Ext a c := Below.trans h (k.mono h.size)
theorem Ext.drewN (w : World) (n : Nat) : Ext w (w.drewN n) := ⟨rfl, rfl, rfl, Nat.le_refl _, fun _ _ => rfl⟩
theorem Ext.alloc (w : World) (o : Obj) : Ext w (w.alloc o) := (Below.refl _ w).alloc (Nat.le_refl _) o
theorem Ext.cell {w w' : World} (h : Ext w w') {a : Addr} {v : Value} (hc : w.cell? a = some v) : w'.cell? a = some v :=
  (Below.cell h (World.block_lt_of_cell? w a hc)).trans hc

/-- A number that fits an int. Kept closed so that its bounds do not stand open in a walk. -/
def I64 (n : Int) : Prop := -9223372036854775808 ≤ n ∧ n ≤ 9223372036854775807

/-- How cells read as data of a type: each reading names the blocks that it may meet (F). -/
structure Rdr (α : Type) where
  size : Nat
  rd : World → (Nat → Prop) → List Value → α → Prop
  len : ∀ {w F cs x}, rd w F cs x → cs.length = size
  one : ∀ {w F cs x}, rd w F cs x → ∀ u ∈ cs, u.oneCell' = true
  stay : ∀ {w w' F G cs x}, rd w F cs x → (∀ k, F k → k < w.heap.size → w'.heap[k]? = w.heap[k]? ∧ G k) → rd w' G cs x

/-- Any block. -/
abbrev Any : Nat → Prop := fun _ => True

theorem Rdr.ext {α : Type} (R : Rdr α) {w w' : World} {F : Nat → Prop} {cs : List Value} {x : α} (h : R.rd w F cs x) (e : Ext w w') : R.rd w' F cs x :=
  R.stay h fun k hF hk => ⟨e.block k hk, hF⟩
theorem Rdr.any {α : Type} (R : Rdr α) {w : World} {F : Nat → Prop} {cs : List Value} {x : α} (h : R.rd w F cs x) : R.rd w Any cs x :=
  R.stay h fun _ _ _ => ⟨rfl, trivial⟩
theorem Rdr.mono {α : Type} (R : Rdr α) {w : World} {F G : Nat → Prop} {cs : List Value} {x : α} (h : R.rd w F cs x) (hm : ∀ k, F k → k < w.heap.size → G k) : R.rd w G cs x :=
  R.stay h fun k hF hk => ⟨rfl, hm k hF hk⟩
/-- Behind a change of one row, which the reading does not meet. -/
theorem Rdr.grown {α : Type} (R : Rdr α) {w w' : World} {F : Nat → Prop} {cs : List Value} {x : α} {row : Option Nat} (h : R.rd w F cs x) (hg : w.grownBy w' row) (hF : ∀ k, F k → some k ≠ row) : R.rd w' F cs x :=
  R.stay h fun k hk hl => ⟨hg.block k hl (hF k hk), hk⟩

def intR : Rdr Int where
  size := 1
  rd _ _ cs x := cs = [.int .i64 x] ∧ I64 x
  len h := by rw [h.1]; rfl
  one h u hu := by rw [h.1] at hu; simp at hu; subst hu; rfl
  stay h _ := h

def boolR : Rdr Bool where
  size := 1
  rd _ _ cs x := cs = [.bool x]
  len h := by rw [h]; rfl
  one h u hu := by rw [h] at hu; simp at hu; subst hu; rfl
  stay h _ := h

/-- Two parts one behind the other (a struct's fields, an array of two). -/
def Rdr.prod {α β : Type} (R : Rdr α) (S : Rdr β) : Rdr (α × β) where
  size := R.size + S.size
  rd w F cs x := ∃ c1 c2, cs = c1 ++ c2 ∧ R.rd w F c1 x.1 ∧ S.rd w F c2 x.2
  len := by rintro w F cs x ⟨c1, c2, rfl, h1, h2⟩; rw [List.length_append, R.len h1, S.len h2]
  one := by
    rintro w F cs x ⟨c1, c2, rfl, h1, h2⟩ u hu
    rcases List.mem_append.1 hu with h | h
    · exact R.one h1 u h
    · exact S.one h2 u h
  stay := by rintro w w' F G cs x ⟨c1, c2, rfl, h1, h2⟩ hs; exact ⟨c1, c2, rfl, R.stay h1 hs, S.stay h2 hs⟩

theorem cell_of_heap {w w' : World} {a : Addr} (h : w'.heap[a.block]? = w.heap[a.block]?) {v : Value} (hc : w.cell? a = some v) : w'.cell? a = some v :=
  (World.cell?_of_block h).trans hc

theorem add0 (g j : Nat) : (⟨g, 0, none⟩ : Addr).add j = ⟨g, j, none⟩ := by unfold Addr.add; split <;> simp_all
theorem add_block (a : Addr) (n : Nat) : (a.add n).block = a.block := by unfold Addr.add; split <;> rfl

theorem heap_lt {w w' : World} {k : Nat} (h : w'.heap[k]? = w.heap[k]?) (hk : k < w.heap.size) : k < w'.heap.size := by
  rw [Array.getElem?_eq_getElem hk] at h
  exact (Array.getElem?_eq_some_iff.1 h).1

/-- A slice: its elements' cells lie one behind the other. -/
def Rdr.slice {α : Type} (R : Rdr α) : Rdr (List α) where
  size := 1
  rd w F cs xs := ∃ ad cap, cs = [.slice ad xs.length cap] ∧ xs.length ≤ cap ∧ cap ≤ maxLen ∧
    ∀ i (h : i < xs.length), ∃ b o es, ad = some ⟨b, o, none⟩ ∧ F b ∧ b < w.heap.size ∧ R.rd w F es xs[i] ∧ ∀ j u, es[j]? = some u → w.cell? ⟨b, o + i * R.size + j, none⟩ = some u
  len := by rintro w F cs x ⟨ad, cap, rfl, _⟩; rfl
  one := by rintro w F cs x ⟨ad, cap, rfl, _⟩ u hu; simp at hu; subst hu; rfl
  stay := by
    rintro w w' F G cs xs ⟨ad, cap, rfl, h1, h2, h3⟩ hs
    refine ⟨ad, cap, rfl, h1, h2, fun i hi => ?_⟩
    obtain ⟨b, o, es, rfl, hF, hlt, hr, hc⟩ := h3 i hi
    have hb := hs b hF hlt
    exact ⟨b, o, es, rfl, hb.2, heap_lt hb.1 hlt, R.stay hr hs, fun j u hu => cell_of_heap hb.1 (hc j u hu)⟩

/-- A slice of elements of one cell, opened. -/
theorem Rdr.slice1 {α : Type} {R : Rdr α} (hR : R.size = 1) {w : World} {F : Nat → Prop} {v : Value} {xs : List α} (h : R.slice.rd w F [v] xs) :
    ∃ ad cap, v = .slice ad xs.length cap ∧ xs.length ≤ cap ∧ cap ≤ maxLen ∧ ∀ i (h : i < xs.length), ∃ b o u, ad = some ⟨b, o, none⟩ ∧ R.rd w F [u] xs[i] ∧ w.cell? ⟨b, o + i, none⟩ = some u := by
  obtain ⟨ad, cap, hv, h1, h2, h3⟩ := h
  refine ⟨ad, cap, by simpa using hv, h1, h2, fun i hi => ?_⟩
  obtain ⟨b, o, es, rfl, hF, hlt, hr, hc⟩ := h3 i hi
  have hl := R.len hr
  rw [hR] at hl
  obtain ⟨u, rfl⟩ := List.length_eq_one_iff.1 hl
  exact ⟨b, o, u, rfl, hr, by have := hc 0 u rfl; simpa [hR] using this⟩

theorem ints {w : World} {F : Nat → Prop} {v : Value} {xs : List Int} (h : intR.slice.rd w F [v] xs) :
    ∃ ad cap, v = .slice ad xs.length cap ∧ xs.length ≤ cap ∧ cap ≤ maxLen ∧ ∀ i (h : i < xs.length), ∃ b o, ad = some ⟨b, o, none⟩ ∧ I64 xs[i] ∧ w.cell? ⟨b, o + i, none⟩ = some (.int .i64 xs[i]) := by
  obtain ⟨ad, cap, hv, h1, h2, h3⟩ := Rdr.slice1 (R := intR) rfl h
  refine ⟨ad, cap, hv, h1, h2, fun i hi => ?_⟩
  obtain ⟨b, o, u, rfl, hr, hc⟩ := h3 i hi
  have := hr.1
  simp at this
  subst this
  exact ⟨b, o, rfl, hr.2, hc⟩

/-- A slice that the call itself is making: it owns its row (block B or a later one), its elements are read in other blocks, in F. -/
def Bld {α : Type} (R : Rdr α) (F : Nat → Prop) (w : World) (B : Nat) (e : TypeId) (v : Value) (xs : List α) : Prop :=
  ∃ us : List Value, w.ownsRow B e R.size v xs.length us ∧ ∀ i (h : i < xs.length), R.rd w (fun k => F k ∧ some k ≠ v.ownBlock) ((us.drop (i * R.size)).take R.size) xs[i]

theorem Bld.nil {α : Type} (R : Rdr α) (F : Nat → Prop) (w : World) (B : Nat) (e : TypeId) : Bld R F w B e (.slice none 0 0) [] :=
  ⟨[], World.ownsRow_nil _ _ _ _, fun i h => absurd h (by simp)⟩

theorem ownsRow.block_lt {w : World} {B : Nat} {e : TypeId} {size : Nat} {v : Value} {n : Nat} {us : List Value} (h : w.ownsRow B e size v n us) : ∀ k, v.ownBlock = some k → B ≤ k ∧ k < w.heap.size := World.ownsRow.lt h

theorem Bld.ext {α : Type} {R : Rdr α} {F : Nat → Prop} {w w' : World} {B : Nat} {e : TypeId} {v : Value} {xs : List α} (h : Bld R F w B e v xs) (hx : Ext w w') : Bld R F w' B e v xs := by
  obtain ⟨us, ho, hr⟩ := h
  refine ⟨us, ?_, fun i hi => R.ext (hr i hi) hx⟩
  refine ho.kept (row := none) ⟨hx.os, hx.tape, hx.output, hx.size, fun k hk _ => hx.block k hk⟩ ?_
  cases v.ownBlock <;> simp

theorem Bld.grown {α : Type} {R : Rdr α} {F : Nat → Prop} {w w' : World} {B : Nat} {e : TypeId} {v : Value} {xs : List α} {row : Option Nat} (h : Bld R F w B e v xs) (hg : w.grownBy w' row)
    (hne : v.ownBlock = none ∨ v.ownBlock ≠ row) (hF : ∀ k, F k → some k ≠ row) : Bld R F w' B e v xs := by
  obtain ⟨us, ho, hr⟩ := h
  exact ⟨us, ho.kept hg hne, fun i hi => R.grown (hr i hi) hg fun k hk => hF k hk.1⟩

theorem Bld.F_mono {α : Type} {R : Rdr α} {F G : Nat → Prop} {w : World} {B : Nat} {e : TypeId} {v : Value} {xs : List α} (h : Bld R F w B e v xs) (hm : ∀ k, F k → k < w.heap.size → G k) : Bld R G w B e v xs := by
  obtain ⟨us, ho, hr⟩ := h
  exact ⟨us, ho, fun i hi => R.mono (hr i hi) fun k hk hl => ⟨hm k hk.1 hl, hk.2⟩⟩

/-- What has been made reads as what it holds. -/
theorem Bld.read {α : Type} {R : Rdr α} {F G : Nat → Prop} {w : World} {B : Nat} {e : TypeId} {v : Value} {xs : List α} (h : Bld R F w B e v xs)
    (hG : ∀ k, v.ownBlock = some k → G k) (hm : ∀ k, F k → G k) : R.slice.rd w G [v] xs := by
  obtain ⟨us, ho, hr⟩ := h
  have hlt := World.ownsRow.lt ho
  obtain ⟨hl, h2⟩ := ho
  rcases h2 with ⟨rfl, h0⟩ | ⟨g, cap, cur, rfl, hb, hh, hn, hc, hs, ht⟩
  · have : xs = [] := List.eq_nil_of_length_eq_zero h0
    subst this
    exact ⟨none, 0, rfl, by simp, by simp, fun i hi => absurd hi (by simp)⟩
  · refine ⟨_, cap, rfl, hn, hc, fun i hi => ?_⟩
    have hr' := hr i hi
    refine ⟨g, 0, _, rfl, hG g rfl, (hlt g rfl).2, R.mono hr' (fun k hk _ => hm k hk.1), fun j u hu => ?_⟩
    have hcells := World.ownsRow.cells (w := w) (base := B) (e := e) (size := R.size) (v := .slice (some ⟨g, 0, none⟩) xs.length cap) (n := xs.length) (xs := us)
      ⟨hl, .inr ⟨g, cap, cur, rfl, hb, hh, hn, hc, hs, ht⟩⟩ (g := g) rfl (i * R.size + j) u
    rw [show (⟨g, 0 + i * R.size + j, none⟩ : Addr) = (⟨g, 0, none⟩ : Addr).add (i * R.size + j) from by rw [add0]; simp]
    apply hcells
    rw [List.getElem?_take] at hu
    split at hu
    · rw [List.getElem?_drop] at hu; exact hu
    · cases hu

/-- The row's cells behind an append of the cells es. -/
theorem own_append {P : Program} (w : World) (t ty e : TypeId) (i : TypeInfo) (z : Value) (size bytes B : Nat) (ht : P.underlying t = some (.slice e)) (hi : P.info? e = some i) (hz : i.zero = some z)
    (hsize : i.size = size) (hby : i.bytes = bytes) (hzs : z.cells.size = size) (hsz : 0 < size)
    (v : Value) (n : Nat) (us : List Value) (hown : w.ownsRow B e size v n us)
    (a : Addr) (m c : Nat) (es : List Value) (hl : es.length = m * size) (hes : ∀ j u, es[j]? = some u → w.cell? (a.add j) = some u) (h1 : ∀ u ∈ es, u.oneCell' = true)
    (hm : 0 < m) (h63 : n + m ≤ 9223372036854775807) (hbytes : (n + m) * bytes ≤ 140737488355328) (hB : B ≤ w.heap.size) :
    ∃ v' w', (Builtin.append_ #[t, t] ty #[v, .slice (some a) m c]).run P w = .ok v' w' ∧ w'.ownsRow B e size v' (n + m) (us ++ es) ∧ w.grownBy w' v.ownBlock ∧
      (v'.ownBlock = v.ownBlock ∨ v'.ownBlock = some w.heap.size) ∧ ∃ g cap, v' = .slice (some ⟨g, 0, none⟩) (n + m) cap := by
  obtain ⟨v', w', hr, hown', hg, hnil⟩ := run_append_own (P := P) w B t ty e i z size bytes ht hi hz hsize hby hzs hsz v n us hown a m c es hl hes h1 (by simp only [maxLen]; omega) hbytes hB
  refine ⟨v', w', hr, hown', hg, ?_, ?_⟩
  · subst hsize; subst hby
    rcases hown.2 with ⟨rfl, rfl⟩ | ⟨g, cap, cur, rfl, hbg, hgg, hnc, hcm, hcs, htake⟩
    · have hr2 := run_append_nil (P := P) w t ty e i z ht hi hz a m c es hl hes hm (by omega) (by simp only [Nat.zero_add] at hbytes; omega)
      rw [hr2] at hr
      simp only [Result.ok.injEq] at hr
      exact .inr (by rw [← hr.1]; rfl)
    · by_cases hroom : n + m ≤ cap
      · have hfit : n * i.size + es.length ≤ cur.size := by rw [hl, hcs, ← Nat.add_mul]; exact Nat.mul_le_mul_right _ hroom
        have hr2 := run_append_room (P := P) w t ty e i ht hi g n cap cur hgg a m c es hl hes h1 hroom hfit
        rw [hr2] at hr
        simp only [Result.ok.injEq] at hr
        exact .inl (by rw [← hr.1]; rfl)
      · have hold : ∀ j u, us[j]? = some u → w.cell? ((⟨g, 0, none⟩ : Addr).add j) = some u := hown.cells (g := g) rfl
        have hr2 := run_append_grow (P := P) w t ty e i z ht hi hz ⟨g, 0, none⟩ n cap us hown.1 hold a m c es hl hes (by omega) (by omega) (growslice_fits (by omega) hbytes)
        rw [hr2] at hr
        simp only [Result.ok.injEq] at hr
        exact .inr (by rw [← hr.1]; rfl)
  · rcases hown'.2 with ⟨rfl, h0⟩ | ⟨g, cap, cur, rfl, _⟩
    · omega
    · exact ⟨g, cap, rfl⟩

theorem take_chunk {us es : List Value} {n i size : Nat} (hl : us.length = n * size) (hi : i < n) : ((us ++ es).drop (i * size)).take size = (us.drop (i * size)).take size := by
  have h1 : i * size + size ≤ us.length := by rw [hl]; have := Nat.mul_le_mul_right size (show i + 1 ≤ n from hi); rw [Nat.add_mul] at this; omega
  rw [List.drop_append_of_le_length (by omega), List.take_append_of_le_length (by rw [List.length_drop]; omega)]

theorem Bld.snoc {α : Type} {R : Rdr α} {F : Nat → Prop} {w w' : World} {B : Nat} {e : TypeId} {v v' : Value} {xs : List α} {x : α} {us es : List Value}
    (ho : w.ownsRow B e R.size v xs.length us) (hr : ∀ i (h : i < xs.length), R.rd w (fun k => F k ∧ some k ≠ v.ownBlock) ((us.drop (i * R.size)).take R.size) xs[i])
    (hx : R.rd w (fun k => F k ∧ some k ≠ v.ownBlock) es x) (ho' : w'.ownsRow B e R.size v' (xs.length + 1) (us ++ es)) (hg : w.grownBy w' v.ownBlock)
    (hv : v'.ownBlock = v.ownBlock ∨ v'.ownBlock = some w.heap.size) : Bld R F w' B e v' (xs ++ [x]) := by
  have keep : ∀ {cs y}, R.rd w (fun k => F k ∧ some k ≠ v.ownBlock) cs y → R.rd w' (fun k => F k ∧ some k ≠ v'.ownBlock) cs y := by
    intro cs y h
    refine R.stay h fun k hk hl => ⟨hg.block k hl hk.2, hk.1, ?_⟩
    rcases hv with hv | hv
    · rw [hv]; exact hk.2
    · rw [hv]; intro h; simp at h; omega
  refine ⟨us ++ es, by simpa using ho', fun i hi => ?_⟩
  rw [List.length_append, List.length_singleton] at hi
  by_cases hlt : i < xs.length
  · rw [List.getElem_append_left hlt, take_chunk ho.1 hlt]
    exact keep (hr i hlt)
  · have : i = xs.length := by omega
    subst this
    rw [List.getElem_append_right (Nat.le_refl _)]
    have hd : (us ++ es).drop (xs.length * R.size) = es := by rw [← ho.1]; simp
    rw [hd, List.take_of_length_le (by rw [R.len hx]; exact Nat.le_refl _)]
    simpa using keep hx

/-- 'out = append(out, x)': x was laid in a new block of its own (es), out is the call's own. -/
theorem wpList_append_one {P : Program} {w W : World} {ops : Array Oper} {rest : List Oper} {o : Oper} {a : Act} {Q : Exit → Act → World → Prop} {α : Type} (R : Rdr α) (F : Nat → Prop) (B : Nat) (hgd : o.guard = none) (s x : Operand) (t : TypeId)
    (ho : o.op = .call { callee := .builtin .append, args := #[s, x], argTypes := #[t, t] })
    (e : TypeId) (i : TypeInfo) (z : Value) (bytes : Nat) (ht : P.underlying t = some (.slice e)) (hi : P.info? e = some i) (hz : i.zero = some z)
    (hsize : i.size = R.size) (hby : i.bytes = bytes) (hzs : z.cells.size = R.size) (hsz : 0 < R.size)
    (v : Value) (xs : List α) (hs : a.eval s = v) (hb : Bld R F w B e v xs)
    (c : Nat) (es : List Value) (y : α) (hx : a.eval x = .slice (some ⟨w.heap.size, 0, none⟩) 1 c) (hy : R.rd w (fun k => F k ∧ some k ≠ v.ownBlock) es y)
    (h63 : xs.length + 1 ≤ 9223372036854775807) (hbytes : (xs.length + 1) * bytes ≤ 140737488355328) (hB : B ≤ w.heap.size)
    (h : ∀ g cap w', Bld R F w' B e (.slice (some ⟨g, 0, none⟩) (xs.length + 1) cap) (xs ++ [y]) → w.grownBy w' v.ownBlock → B ≤ g → (v.ownBlock = some g ∨ w.heap.size ≤ g) →
      wpList P ops Q rest (a.put o.dst (.slice (some ⟨g, 0, none⟩) (xs.length + 1) cap)) w') (hW : W = w.alloc (.cells es.toArray e)) : wpList P ops Q (o :: rest) a W := by
  subst hW
  have hext := Ext.alloc w (.cells es.toArray e)
  obtain ⟨us, hown, hrd⟩ := hb
  have hown1 := hown.alloc (.cells es.toArray e)
  have hcell : ∀ j u, es[j]? = some u → (w.alloc (.cells es.toArray e)).cell? ((⟨w.heap.size, 0, none⟩ : Addr).add j) = some u := by
    intro j u hu
    have hadd : (⟨w.heap.size, 0, none⟩ : Addr).add j = ⟨w.heap.size, j, none⟩ := by unfold Addr.add; split <;> simp_all
    rw [hadd]
    unfold World.cell?
    rw [heap_alloc_new w (.cells es.toArray e)]
    simpa using hu
  obtain ⟨v', w', hr, hown', hg, hv, g, cap, rfl⟩ := own_append (P := P) _ t o.type e i z R.size bytes B ht hi hz hsize hby hzs hsz v xs.length us hown1 ⟨w.heap.size, 0, none⟩ 1 c es (by rw [R.len hy, Nat.one_mul]) hcell (R.one hy) (by omega) h63 hbytes (by rw [World.size_alloc]; omega)
  have hg0 : w.grownBy w' v.ownBlock := ⟨hg.os, hg.tape, hg.output, Nat.le_trans (by simp) hg.size, fun k hk hne => (hg.block k (by simp; omega) hne).trans (heap_alloc_old w _ hk)⟩
  have hb' := Bld.snoc hown1 (fun j hj => R.ext (hrd j hj) hext) (R.ext hy hext) hown' hg hv
  refine wpList_plain hgd fun K hK => ?_
  unfold Oper.wp execOp
  simp only [ho, resolve, invoke, builtin, Sem.run_bind, Sem.run_pure, Result.andThen_ok, List.map_toArray, List.map_cons, List.map_nil, hs, hx, hr]
  refine hK _ _ (h g cap w' hb' hg0 ((World.ownsRow.lt hown') g rfl).1 ?_)
  rcases hv with hv | hv
  · exact .inl hv.symm
  · simp [Value.ownBlock] at hv; exact .inr (by omega)
end Dac
namespace Dac
open Go Go.RowKit
/-- It returns v; of memory that was there nothing has turned. -/
def Ret (w : World) (v : Value) (e : Ending) (w' : World) : Prop := e = .returned v ∧ Ext w w'
/-- It returns v and only reads. -/
def QRet (w : World) (v : Value) (e : Ending) (w' : World) : Prop := e = .returned v ∧ ∃ n, w' = w.drewN n
theorem QRet.ret {w : World} {v : Value} {e : Ending} {w' : World} (h : QRet w v e w') : Ret w v e w' := by
  obtain ⟨h1, n, rfl⟩ := h; exact ⟨h1, Ext.drewN w n⟩
end Dac
namespace Dac
open Go
theorem drew2 (w : World) (n m : Nat) : ∃ k, (w.drewN n).drewN m = w.drewN k := ⟨_, World.drewN_drewN _ _ _⟩
end Dac
namespace Dac
open Go
theorem ret_bool {a b : Bool} (h : a = b) : Ending.returned (.bool a) = .returned (.bool b) := by rw [h]
theorem ret_int {k : IntKind} {a b : Int} (h : a = b) : Ending.returned (.int k a) = .returned (.int k b) := by rw [h]
end Dac
namespace Dac
open Go Go.RowKit
/-- An array of two numbers. -/
def pairR : Rdr (Int × Int) := intR.prod intR
theorem pairs {w : World} {F : Nat → Prop} {v : Value} {xs : List (Int × Int)} (h : pairR.slice.rd w F [v] xs) :
    ∃ ad cap, v = .slice ad xs.length cap ∧ xs.length ≤ cap ∧ cap ≤ maxLen ∧ ∀ i (h : i < xs.length), ∃ b o, ad = some ⟨b, o, none⟩ ∧ I64 xs[i].1 ∧ I64 xs[i].2 ∧ w.cell? ⟨b, o + i * 2, none⟩ = some (.int .i64 xs[i].1) ∧ w.cell? ⟨b, o + i * 2 + 1, none⟩ = some (.int .i64 xs[i].2) := by
  obtain ⟨ad, cap, hv, h1, h2, h3⟩ := h
  refine ⟨ad, cap, by simpa using hv, h1, h2, fun i hi => ?_⟩
  obtain ⟨b, o, es, rfl, hF, hlt, ⟨c1, c2, rfl, r1, r2⟩, hc⟩ := h3 i hi
  have e1 := r1.1
  have e2 := r2.1
  rw [e1, e2] at hc
  exact ⟨b, o, rfl, r1.2, r2.2, hc 0 _ rfl, hc 1 _ rfl⟩
/-- Rows of numbers. -/
abbrev rowsR : Rdr (List (List Int)) := intR.slice.slice
/-- Words: each a struct of one field, rows of numbers. -/
abbrev wordsR : Rdr (List (List (List Int))) := rowsR.slice
theorem rows {α : Type} {R : Rdr α} {w : World} {F : Nat → Prop} {v : Value} {xs : List (List α)} (h : R.slice.slice.rd w F [v] xs) :
    ∃ ad cap, v = .slice ad xs.length cap ∧ xs.length ≤ cap ∧ cap ≤ maxLen ∧ ∀ i (h : i < xs.length), ∃ b o ad2 cap2, ad = some ⟨b, o, none⟩ ∧ R.slice.rd w F [.slice ad2 xs[i].length cap2] xs[i] ∧ w.cell? ⟨b, o + i, none⟩ = some (.slice ad2 xs[i].length cap2) ∧ xs[i].length ≤ maxLen := by
  obtain ⟨ad, cap, hv, h1, h2, h3⟩ := Rdr.slice1 (R := R.slice) rfl h
  refine ⟨ad, cap, hv, h1, h2, fun i hi => ?_⟩
  obtain ⟨b, o, u, rfl, hr, hc⟩ := h3 i hi
  obtain ⟨ad2, cap2, hu, l1, l2, r⟩ := hr
  obtain rfl : u = _ := by simpa using hu
  exact ⟨b, o, ad2, cap2, rfl, ⟨ad2, cap2, rfl, l1, l2, r⟩, hc, Nat.le_trans l1 l2⟩
end Dac
namespace Dac
open Go Go.RowKit
theorem cell_alloc (w : World) (cs : Array Value) (e : TypeId) (j : Nat) {u : Value} (h : cs[j]? = some u) : (w.alloc (.cells cs e)).cell? ((⟨w.heap.size, 0, none⟩ : Addr).add j) = some u := by
  rw [add0]
  unfold World.cell?
  rw [heap_alloc_new w (.cells cs e)]
  simpa using h
/-- A literal slice of one-cell elements, just laid. -/
theorem lit_read {α : Type} {R : Rdr α} (hR : R.size = 1) (w : World) (e : TypeId) (us : List Value) (xs : List α) (F : Nat → Prop) (hF : F w.heap.size) (hl : us.length = xs.length) (hm : xs.length ≤ maxLen)
    (h : ∀ i (h1 : i < xs.length) (h2 : i < us.length), R.rd w F [us[i]] xs[i]) :
    R.slice.rd (w.alloc (.cells us.toArray e)) F [.slice (some ⟨w.heap.size, 0, none⟩) xs.length xs.length] xs := by
  refine ⟨_, _, rfl, Nat.le_refl _, hm, fun i hi => ⟨w.heap.size, 0, [us[i]'(by omega)], rfl, hF, by simp, R.ext (h i hi (by omega)) (Ext.alloc _ _), fun j u hu => ?_⟩⟩
  have : j = 0 := by
    rcases j with _ | j
    · rfl
    · simp at hu
  subst this
  have hu' : us[i]'(by omega) = u := by simpa using hu
  rw [← add0]
  refine cell_alloc w _ e _ ?_
  rw [hR, Nat.mul_one, Nat.add_zero, Nat.zero_add, List.getElem?_toArray, List.getElem?_eq_getElem (by omega), hu']
theorem ints_lit (w : World) (e : TypeId) (xs : List Int) (F : Nat → Prop) (hF : F w.heap.size) (hm : xs.length ≤ maxLen) (h : ∀ x ∈ xs, I64 x) :
    intR.slice.rd (w.alloc (.cells (xs.map (Value.int .i64)).toArray e)) F [.slice (some ⟨w.heap.size, 0, none⟩) xs.length xs.length] xs :=
  lit_read rfl w e _ xs F hF (by simp) hm fun i h1 h2 => ⟨by simp, h _ (List.getElem_mem _)⟩
end Dac
namespace Dac
open Go Go.RowKit
theorem toRet {P : Program} {f : FuncId} {args : Array Value} {w : World} {v : Value} (h : Calls P f args w (QRet w v)) : Calls P f args w (Ret w v) :=
  h.mono fun _ _ q => q.ret
end Dac
namespace Dac
open Go Go.RowKit
theorem cell_alloc0 (w : World) (cs : Array Value) (e : TypeId) (j : Nat) {u : Value} (h : cs[j]? = some u) : (w.alloc (.cells cs e)).cell? ⟨w.heap.size, j, none⟩ = some u := by
  rw [← add0]; exact cell_alloc w cs e j h
theorem cells1 {w w2 : World} {a : Value} {t : TypeId} (h : Ext (w.alloc (.cells #[a] t)) w2) : w2.cell? ⟨w.heap.size, 0, none⟩ = some a :=
  h.cell (cell_alloc0 w _ t 0 rfl)
theorem cells2 {w w2 : World} {a b : Value} {t : TypeId} (h : Ext (w.alloc (.cells #[a, b] t)) w2) : w2.cell? ⟨w.heap.size, 0, none⟩ = some a ∧ w2.cell? ⟨w.heap.size, 1, none⟩ = some b :=
  ⟨h.cell (cell_alloc0 w _ t 0 rfl), h.cell (cell_alloc0 w _ t 1 rfl)⟩
theorem cells4 {w w2 : World} {a b c d : Value} {t : TypeId} (h : Ext (w.alloc (.cells #[a, b, c, d] t)) w2) : w2.cell? ⟨w.heap.size, 0, none⟩ = some a ∧ w2.cell? ⟨w.heap.size, 1, none⟩ = some b ∧ w2.cell? ⟨w.heap.size, 2, none⟩ = some c ∧ w2.cell? ⟨w.heap.size, 3, none⟩ = some d :=
  ⟨h.cell (cell_alloc0 w _ t 0 rfl), h.cell (cell_alloc0 w _ t 1 rfl), h.cell (cell_alloc0 w _ t 2 rfl), h.cell (cell_alloc0 w _ t 3 rfl)⟩
theorem cells5 {w w2 : World} {a b c d e : Value} {t : TypeId} (h : Ext (w.alloc (.cells #[a, b, c, d, e] t)) w2) : w2.cell? ⟨w.heap.size, 0, none⟩ = some a ∧ w2.cell? ⟨w.heap.size, 1, none⟩ = some b ∧ w2.cell? ⟨w.heap.size, 2, none⟩ = some c ∧ w2.cell? ⟨w.heap.size, 3, none⟩ = some d ∧ w2.cell? ⟨w.heap.size, 4, none⟩ = some e :=
  ⟨h.cell (cell_alloc0 w _ t 0 rfl), h.cell (cell_alloc0 w _ t 1 rfl), h.cell (cell_alloc0 w _ t 2 rfl), h.cell (cell_alloc0 w _ t 3 rfl), h.cell (cell_alloc0 w _ t 4 rfl)⟩
end Dac
namespace Dac
open Go Go.RowKit
/-- w' is w behind some draws. -/
def Drawn (w w' : World) : Prop := ∃ n, w' = w.drewN n
theorem Drawn.refl (w : World) : Drawn w w := ⟨0, rfl⟩
theorem Drawn.ext {w w' : World} (h : Drawn w w') : Ext w w' := by obtain ⟨n, rfl⟩ := h; exact Ext.drewN w n
theorem Drawn.drewN {w w' : World} (h : Drawn w w') (n : Nat) : Drawn w (w'.drewN n) := by obtain ⟨m, rfl⟩ := h; exact ⟨_, World.drewN_drewN _ _ _⟩
theorem Drawn.out {w w' : World} (h : Drawn w w') : ∃ n, w' = w.drewN n := h
end Dac
namespace Dac
open Go Go.RowKit
theorem Bld.lt {α : Type} {R : Rdr α} {F : Nat → Prop} {w : World} {B : Nat} {e : TypeId} {v : Value} {xs : List α} (h : Bld R F w B e v xs) : ∀ k, v.ownBlock = some k → B ≤ k ∧ k < w.heap.size := by
  obtain ⟨us, ho, _⟩ := h; exact World.ownsRow.lt ho
/-- What was there before does not meet what the call makes. -/
theorem Rdr.apart {α β : Type} {R : Rdr α} {S : Rdr β} {F G : Nat → Prop} {w w' : World} {e : TypeId} {v : Value} {ys : List β} {cs : List Value} {x : α} (h : R.rd w F cs x) (hx : Ext w w') (hB : Bld S G w' w.heap.size e v ys) :
    R.rd w' (fun k => F k ∧ some k ≠ v.ownBlock) cs x :=
  R.stay h fun k hF hk => ⟨hx.block k hk, hF, fun e => by have := (hB.lt k e.symm).1; omega⟩
end Dac
namespace Dac
open Go Go.RowKit
theorem below_dn {B : Nat} {a w : World} (h : Below B a w) (n : Nat) : Below B a (w.drewN n) := h.trans ⟨rfl, rfl, rfl, Nat.le_refl _, fun _ _ => rfl⟩
/-- A step of the call's own behind what has been kept so far. -/
theorem below_ext {B : Nat} {a w w' : World} (h : Below B a w) (hx : Ext w w') (hB : B ≤ w.heap.size) : Below B a w' := h.trans (hx.mono hB)
end Dac
namespace Dac
open Go Go.RowKit
theorem ints_ne {w : World} {F : Nat → Prop} {v : Value} {xs : List Int} (h : intR.slice.rd w F [v] xs) (hne : 0 < xs.length) :
    ∃ b o cap, v = .slice (some ⟨b, o, none⟩) xs.length cap ∧ xs.length ≤ 9223372036854775807 ∧ ∀ i (h : i < xs.length), I64 xs[i] ∧ w.cell? ⟨b, o + i, none⟩ = some (.int .i64 xs[i]) := by
  obtain ⟨ad, cap, rfl, l1, l2, e⟩ := ints h
  obtain ⟨b, o, rfl, _, _⟩ := e 0 hne
  refine ⟨b, o, cap, rfl, by unfold maxLen at l2; omega, fun i hi => ?_⟩
  obtain ⟨b', o', he, h1, h2⟩ := e i hi
  simp only [Option.some.injEq, Addr.mk.injEq, and_true] at he
  obtain ⟨rfl, rfl⟩ := he
  exact ⟨h1, h2⟩
theorem pairs_ne {w : World} {F : Nat → Prop} {v : Value} {xs : List (Int × Int)} (h : pairR.slice.rd w F [v] xs) (hne : 0 < xs.length) :
    ∃ b o cap, v = .slice (some ⟨b, o, none⟩) xs.length cap ∧ xs.length ≤ 9223372036854775807 ∧ ∀ i (h : i < xs.length), I64 xs[i].1 ∧ I64 xs[i].2 ∧ w.cell? ⟨b, o + i * 2, none⟩ = some (.int .i64 xs[i].1) ∧ w.cell? ⟨b, o + i * 2 + 1, none⟩ = some (.int .i64 xs[i].2) := by
  obtain ⟨ad, cap, rfl, l1, l2, e⟩ := pairs h
  obtain ⟨b, o, rfl, _, _⟩ := e 0 hne
  refine ⟨b, o, cap, rfl, by unfold maxLen at l2; omega, fun i hi => ?_⟩
  obtain ⟨b', o', he, h1, h2⟩ := e i hi
  simp only [Option.some.injEq, Addr.mk.injEq, and_true] at he
  obtain ⟨rfl, rfl⟩ := he
  exact ⟨h1, h2⟩
theorem rows_ne {α : Type} {R : Rdr α} {w : World} {F : Nat → Prop} {v : Value} {xs : List (List α)} (h : R.slice.slice.rd w F [v] xs) (hne : 0 < xs.length) :
    ∃ b o cap, v = .slice (some ⟨b, o, none⟩) xs.length cap ∧ xs.length ≤ 9223372036854775807 ∧ ∀ i (h : i < xs.length), ∃ a2 c2, w.cell? ⟨b, o + i, none⟩ = some (.slice a2 xs[i].length c2) ∧ R.slice.rd w F [.slice a2 xs[i].length c2] xs[i] ∧ xs[i].length ≤ 9223372036854775807 := by
  obtain ⟨ad, cap, rfl, l1, l2, e⟩ := rows h
  obtain ⟨b, o, _, _, rfl, _⟩ := e 0 hne
  refine ⟨b, o, cap, rfl, by unfold maxLen at l2; omega, fun i hi => ?_⟩
  obtain ⟨b', o', a2, c2, he, h1, h2, h3⟩ := e i hi
  simp only [Option.some.injEq, Addr.mk.injEq, and_true] at he
  obtain ⟨rfl, rfl⟩ := he
  exact ⟨a2, c2, h2, h1, by unfold maxLen at h3; omega⟩
end Dac
namespace Dac
open Go Go.RowKit

/-- The type t is an array of two ints. -/
structure IsPair (P : Program) (t e : TypeId) : Prop where
  ht : P.underlying t = some (.array 2 e)
  he : P.underlying e = some (.int .i64)
  hi : (P.info? e).map (·.size) = some 1
  hq : P.eqGuardType P.depth t = false
  hs : (P.info? t).map (·.size) = some 2

theorem run_part_int {P : Program} {e : TypeId} {k : IntKind} (he : P.underlying e = some (.int k)) (cs : Array Value) (off : Nat) {v : Value} (h : cs[off]? = some v) (w : World) : (part e cs off).run P w = .ok v w := by
  simp [part, isAgg, run_underlying he, h]
theorem IsPair.size {P : Program} {t e : TypeId} (h : IsPair P t e) (w : World) : (Go.sizeOf e).run P w = .ok 1 w := by
  have h1 := h.hi
  cases hi : P.info? e with
  | none => rw [hi] at h1; cases h1
  | some i => rw [hi] at h1; have h2 := Option.some.inj h1; simp only [] at h2; simp [Go.sizeOf, typeInfo, hi, h2]

theorem IsPair.size2 {P : Program} {t e : TypeId} (h : IsPair P t e) (w : World) : (Go.sizeOf t).run P w = .ok 2 w := by
  have h1 := h.hs
  cases hi : P.info? t with
  | none => rw [hi] at h1; cases h1
  | some i => rw [hi] at h1; have h2 := Option.some.inj h1; simp only [] at h2; simp [Go.sizeOf, typeInfo, hi, h2]
theorem add_add (a : Addr) (n m : Nat) : (a.add n).add m = a.add (n + m) := by
  obtain ⟨b, o, s⟩ := a
  unfold Addr.add
  by_cases h1 : n = 0 <;> by_cases h2 : m = 0 <;> simp [h1, h2, Nat.add_assoc]
/-- A pair in memory, loaded whole. -/
theorem load_pair {P : Program} {t e : TypeId} (h : IsPair P t e) {w : World} {a : Addr} {u v : Value} (h0 : w.cell? a = some u) (h1 : w.cell? (a.add 1) = some v) :
    (Instr.loadAt t (.pointer (some a))).run P w = .ok (.agg #[u, v]) w := by
  have hl := run_loadCells_list (P := P) (w := w) a [u, v] (fun j x hx => by
    match j, hx with
    | 0, hx => simp at hx; subst hx; rw [show a.add 0 = a from rfl]; exact h0
    | 1, hx => simp at hx; subst hx; exact h1)
  simp only [List.length_cons, List.length_nil] at hl
  simp only [Instr.loadAt, Instr.sureAddr, loadVar, isAgg, Sem.run_bind, Sem.run_pure, Result.andThen_ok, run_underlying h.ht, if_true, h.size2, hl]
theorem equalIn_pair {P : Program} {t e : TypeId} (h : IsPair P t e) (d : Nat) (a b c e2 : Int) (w : World) :
    (Op.equalIn (d + 2) t (.agg #[.int .i64 a, .int .i64 b]) (.agg #[.int .i64 c, .int .i64 e2])).run P w = .ok (a == c && b == e2) w := by
  rw [Op.equalIn]
  simp only [Sem.run_bind, run_underlying h.ht, Result.andThen_ok, h.size]
  have p0 : ∀ x y : Int, ∀ w, (part e #[.int .i64 x, .int .i64 y] (0 * 1)).run P w = .ok (.int .i64 x) w := fun x y w => run_part_int h.he _ _ rfl w
  have p1 : ∀ x y : Int, ∀ w, (part e #[.int .i64 x, .int .i64 y] (1 * 1)).run P w = .ok (.int .i64 y) w := fun x y w => run_part_int h.he _ _ rfl w
  have q : ∀ x y : Int, ∀ w, (Op.equalIn (d + 1) e (.int .i64 x) (.int .i64 y)).run P w = .ok (x == y) w := fun x y w => run_equalIn_int w d e _ _ x y h.he
  simp [Std.Legacy.Range.forIn_eq_forIn_range', List.range', p0, p1, q]
  by_cases h1 : a = c <;> by_cases h2 : b = e2 <;> simp [h1, h2]
theorem equal_pair {P : Program} {t e : TypeId} (h : IsPair P t e) (a b c d : Int) (w : World) :
    (Op.equal t (.agg #[.int .i64 a, .int .i64 b]) (.agg #[.int .i64 c, .int .i64 d])).run P w = .ok (a == c && b == d) w :=
  equalIn_pair h 9998 a b c d w
theorem eql_pair {P : Program} {t e : TypeId} (h : IsPair P t e) (a b c d : Int) (w : World) :
    (binOp .eql t (.agg #[.int .i64 a, .int .i64 b]) (.agg #[.int .i64 c, .int .i64 d])).run P w = .ok (.bool (a == c && b == d)) w := by
  rw [run_eql_struct, equalIn_pair h 9998]; rfl
theorem neq_pair {P : Program} {t e : TypeId} (h : IsPair P t e) (a b c d : Int) (w : World) :
    (binOp .neq t (.agg #[.int .i64 a, .int .i64 b]) (.agg #[.int .i64 c, .int .i64 d])).run P w = .ok (.bool (!(a == c && b == d))) w := by
  rw [run_neq_struct, equalIn_pair h 9998]; rfl

/-- How keys of a map stand as values, and that Go tells them apart as Lean does. -/
structure Keys (P : Program) (kt : TypeId) {κ : Type} [DecidableEq κ] (enc : κ → Value) : Prop where
  eq : ∀ a b w, (Op.equal kt (enc a) (enc b)).run P w = .ok (decide (a = b)) w
  chk : ∀ a b w, (Instr.checkKey b 10000 kt (enc a)).run P w = .ok () w
  same : ∀ a, Instr.sameBits 10000 (enc a) (enc a) = true
  kind : ∃ d, P.underlying kt = some d ∧ ∀ a b, Instr.sameNow d (enc a) (enc b) = none ∨ Instr.sameNow d (enc a) (enc b) = some (decide (a = b))

/-- Which entry bears the key, and what it holds. -/
def mfind {κ : Type} [DecidableEq κ] (k : κ) : List (κ × Value) → Nat → Option (Nat × Value)
  | [], _ => none
  | p :: ps, i => if k = p.1 then some (i, p.2) else mfind k ps (i + 1)
def mget {κ : Type} [DecidableEq κ] (ks : List (κ × Value)) (k : κ) : Option Value := (mfind k ks 0).map (·.2)
def mset {κ : Type} [DecidableEq κ] (ks : List (κ × Value)) (k : κ) (v : Value) : List (κ × Value) :=
  match mfind k ks 0 with
  | some (i, _) => ks.modify i fun p => (p.1, v)
  | none => ks ++ [(k, v)]
/-- Block r is a map whose entries, in their order, are ks. -/
def MapAt {κ : Type} (enc : κ → Value) (w : World) (r : Nat) (ks : List (κ × Value)) : Prop :=
  ∃ es clock, w.heap[r]? = some (.map es clock) ∧ es.toList.map (fun e => (e.key, e.val)) = ks.map fun p => (enc p.1, p.2)

theorem findAsking_run {P : Program} {kt : TypeId} {κ : Type} [DecidableEq κ] {enc : κ → Value} (K : Keys P kt enc) (k : κ) (w : World) : ∀ (es : List MapEntry) (ks : List (κ × Value)) (i : Nat),
    es.map (fun e => (e.key, e.val)) = ks.map (fun p => (enc p.1, p.2)) → (Instr.findAsking kt (enc k) es i).run P w = .ok (mfind k ks i) w
  | [], ks, i, h => by
    cases ks with
    | nil => simp [Instr.findAsking, mfind]
    | cons p ps => simp at h
  | e :: es, ks, i, h => by
    cases ks with
    | nil => simp at h
    | cons p ps =>
      simp only [List.map_cons, List.cons.injEq, Prod.mk.injEq] at h
      obtain ⟨⟨h1, h2⟩, h3⟩ := h
      simp only [Instr.findAsking, Sem.run_bind, h1, K.eq, Result.andThen_ok, mfind]
      by_cases hk : k = p.1
      · simp [hk, h2]
      · simp only [hk, decide_false, Bool.false_eq_true, if_false]
        exact findAsking_run K k w es ps (i + 1) h3
theorem findNow_run {P : Program} {kt : TypeId} {κ : Type} [DecidableEq κ] {enc : κ → Value} {d : TypeDesc} (K : ∀ a b, Instr.sameNow d (enc a) (enc b) = none ∨ Instr.sameNow d (enc a) (enc b) = some (decide (a = b))) (k : κ) : ∀ (es : List MapEntry) (ks : List (κ × Value)) (i : Nat),
    es.map (fun e => (e.key, e.val)) = ks.map (fun p => (enc p.1, p.2)) → Instr.findNow d (enc k) es i = none ∨ Instr.findNow d (enc k) es i = some (mfind k ks i)
  | [], ks, i, h => by
    cases ks with
    | nil => exact .inr rfl
    | cons p ps => simp at h
  | e :: es, ks, i, h => by
    cases ks with
    | nil => simp at h
    | cons p ps =>
      simp only [List.map_cons, List.cons.injEq, Prod.mk.injEq] at h
      obtain ⟨⟨h1, h2⟩, h3⟩ := h
      simp only [Instr.findNow, h1, mfind]
      rcases K k p.1 with hn | hn
      · rw [hn]; exact .inl rfl
      · rw [hn]
        by_cases hk : k = p.1
        · simp [hk, h2]
        · simp only [hk, decide_false, if_false]
          exact findNow_run (P := P) (kt := kt) K k es ps (i + 1) h3
theorem findKey_run {P : Program} {kt : TypeId} {κ : Type} [DecidableEq κ] {enc : κ → Value} (K : Keys P kt enc) (k : κ) (w : World) (es : List MapEntry) (ks : List (κ × Value))
    (h : es.map (fun e => (e.key, e.val)) = ks.map (fun p => (enc p.1, p.2))) : (Instr.findKey kt (enc k) es).run P w = .ok (mfind k ks 0) w := by
  obtain ⟨d, hd, hs⟩ := K.kind
  simp only [Instr.findKey, Sem.run_bind, run_underlying hd, Result.andThen_ok]
  rcases findNow_run (P := P) (kt := kt) hs k es ks 0 h with hn | hn
  · rw [hn]; exact findAsking_run K k w es ks 0 h
  · rw [hn]; rfl

/-- 'v, ok := m[k]' -/
theorem run_lookup_ok {P : Program} {t kt et : TypeId} {κ : Type} [DecidableEq κ] {enc : κ → Value} (K : Keys P kt enc) (ht : P.underlying t = some (.map kt et)) {z : Value} (hz : ∀ w, (zeroValue et).run P w = .ok z w)
    {w : World} {r : Nat} {ks : List (κ × Value)} (h : MapAt enc w r ks) (k : κ) :
    (Instr.lookup t (.map (some r)) (enc k) true).run P w = .ok (.tuple #[(mget ks k).getD z, .bool (mget ks k).isSome]) w := by
  obtain ⟨es, clock, hr, he⟩ := h
  have hf := findKey_run K k w es.toList ks he
  simp only [Instr.lookup, Sem.run_bind, run_underlying ht, Result.andThen_ok, getObj, Sem.run, hr, K.chk, mget]
  cases hm : mfind k ks 0 with
  | none => rw [hm] at hf; simp [Sem.run, hz, hf]
  | some p => obtain ⟨i, v⟩ := p; rw [hm] at hf; simp [Sem.run, hf]
/-- 'm[k]' -/
theorem run_lookup_plain {P : Program} {t kt et : TypeId} {κ : Type} [DecidableEq κ] {enc : κ → Value} (K : Keys P kt enc) (ht : P.underlying t = some (.map kt et)) {z : Value} (hz : ∀ w, (zeroValue et).run P w = .ok z w)
    {w : World} {r : Nat} {ks : List (κ × Value)} (h : MapAt enc w r ks) (k : κ) :
    (Instr.lookup t (.map (some r)) (enc k) false).run P w = .ok ((mget ks k).getD z) w := by
  obtain ⟨es, clock, hr, he⟩ := h
  have hf := findKey_run K k w es.toList ks he
  simp only [Instr.lookup, Sem.run_bind, run_underlying ht, Result.andThen_ok, getObj, Sem.run, hr, K.chk, mget]
  cases hm : mfind k ks 0 with
  | none => rw [hm] at hf; simp [Sem.run, hz, hf]
  | some p => obtain ⟨i, v⟩ := p; rw [hm] at hf; simp [Sem.run, hf]

theorem mfind_lt {κ : Type} [DecidableEq κ] (k : κ) : ∀ (ks : List (κ × Value)) (i j : Nat) (v : Value), mfind k ks i = some (j, v) → i ≤ j ∧ ks[j - i]? = some (k, v)
  | [], _, _, _, h => by simp [mfind] at h
  | p :: ps, i, j, v, h => by
    simp only [mfind] at h
    split at h
    · rename_i hk
      simp only [Option.some.injEq, Prod.mk.injEq] at h
      obtain ⟨rfl, rfl⟩ := h
      subst hk
      exact ⟨Nat.le_refl _, by simp⟩
    · obtain ⟨h1, h2⟩ := mfind_lt k ps (i + 1) j v h
      refine ⟨by omega, ?_⟩
      rw [show j - i = (j - (i + 1)) + 1 from by omega, List.getElem?_cons_succ]
      exact h2

theorem modify_map {α β : Type} (f : α → β) (g : α → α) (g' : β → β) : ∀ (l : List α) (i : Nat), (∀ x, l[i]? = some x → f (g x) = g' (f x)) → (l.modify i g).map f = (l.map f).modify i g'
  | [], i, _ => by simp
  | x :: l, 0, h => by simp [h x rfl]
  | x :: l, i + 1, h => by
    simp only [List.modify_succ_cons, List.map_cons]
    rw [modify_map f g g' l i (fun y hy => h y (by simpa using hy))]

/-- 'm[k] = v' -/
theorem run_mapUpdate {P : Program} {t kt et : TypeId} {κ : Type} [DecidableEq κ] {enc : κ → Value} (K : Keys P kt enc) (ht : P.underlying t = some (.map kt et))
    {w : World} {r : Nat} {ks : List (κ × Value)} (h : MapAt enc w r ks) (k : κ) (v : Value) :
    ∃ w', (Instr.mapUpdate t (.map (some r)) (enc k) v).run P w = .ok () w' ∧ MapAt enc w' r (mset ks k v) ∧ w.grownBy w' (some r) := by
  obtain ⟨es, clock, hr, he⟩ := h
  have hf := findKey_run K k w es.toList ks he
  have hlt : r < w.heap.size := (Array.getElem?_eq_some_iff.1 hr).1
  have hg : ∀ o, w.grownBy { w with heap := w.heap.setIfInBounds r o } (some r) := fun o =>
    ⟨rfl, rfl, rfl, by simp, fun j hj hne => by
      show (w.heap.setIfInBounds r o)[j]? = _
      rw [Array.getElem?_setIfInBounds_ne (fun e => hne (by rw [e]))]⟩
  cases hm : mfind k ks 0 with
  | none =>
    rw [hm] at hf
    refine ⟨_, ?_, ?_, hg (.map (es.push { key := enc k, val := v, born := clock }) (clock + 1))⟩
    · simp [Instr.mapUpdate, run_underlying ht, getObj, setObj, Sem.run, hr, K.chk, hf]
    · refine ⟨_, _, by show (w.heap.setIfInBounds r _)[r]? = _; rw [Array.getElem?_setIfInBounds_self_of_lt hlt], ?_⟩
      simp [mset, hm, he]
  | some p =>
    obtain ⟨i, v0⟩ := p
    rw [hm] at hf
    obtain ⟨_, hi⟩ := mfind_lt k ks 0 i v0 hm
    rw [Nat.sub_zero] at hi
    have hei : ∃ e, es[i]? = some e ∧ e.key = enc k := by
      have h1 : (es.toList.map (fun e => (e.key, e.val)))[i]? = some (enc k, v0) := by rw [he]; simp [hi]
      rw [List.getElem?_map] at h1
      cases h2 : es.toList[i]? with
      | none => rw [h2] at h1; simp at h1
      | some e =>
        rw [h2] at h1
        simp only [Option.map_some, Option.some.injEq, Prod.mk.injEq] at h1
        exact ⟨e, by simpa using h2, h1.1⟩
    obtain ⟨e, he1, he2⟩ := hei
    refine ⟨_, ?_, ?_, hg (.map (es.modify i fun e => { e with key := enc k, val := v }) clock)⟩
    · simp [Instr.mapUpdate, run_underlying ht, getObj, setObj, Sem.run, hr, K.chk, hf, he1, he2, Instr.keyThatStays, K.same]
    · refine ⟨_, _, by show (w.heap.setIfInBounds r _)[r]? = _; rw [Array.getElem?_setIfInBounds_self_of_lt hlt], ?_⟩
      simp only [mset, hm, Array.toList_modify]
      rw [modify_map _ _ (fun q : Value × Value => (q.1, v)) es.toList i (fun x hx => by
        have : x = e := by rw [← Array.getElem?_toList] at he1; rw [he1] at hx; exact (Option.some.inj hx).symm
        subst this; simp [he2]), he, modify_map (fun p : κ × Value => (enc p.1, p.2)) (fun p => (p.1, v)) (fun q : Value × Value => (q.1, v)) ks i (fun _ _ => rfl)]

theorem mfind_none {κ : Type} [DecidableEq κ] (k : κ) : ∀ (ks : List (κ × Value)) (i : Nat), mfind k ks i = none ↔ ∀ p ∈ ks, p.1 ≠ k
  | [], _ => by simp [mfind]
  | p :: ps, i => by
    simp only [mfind]
    split
    · rename_i h; simp [h]
    · rename_i h
      rw [mfind_none k ps (i + 1)]
      simp only [List.mem_cons, forall_eq_or_imp]
      exact ⟨fun h2 => ⟨fun e => h e.symm, h2⟩, fun h2 => h2.2⟩
theorem mfind_snd {κ : Type} [DecidableEq κ] (k : κ) : ∀ (ks : List (κ × Value)) (i j : Nat), (mfind k ks i).map (·.2) = (mfind k ks j).map (·.2)
  | [], _, _ => rfl
  | p :: ps, i, j => by
    simp only [mfind]
    split
    · rfl
    · exact mfind_snd k ps _ _
theorem mget_nil {κ : Type} [DecidableEq κ] (k : κ) : mget [] k = none := rfl
theorem mget_cons {κ : Type} [DecidableEq κ] (p : κ × Value) (ps : List (κ × Value)) (k : κ) : mget (p :: ps) k = if k = p.1 then some p.2 else mget ps k := by
  simp only [mget, mfind]
  split
  · rfl
  · exact mfind_snd k ps _ _
theorem mget_append {κ : Type} [DecidableEq κ] (k : κ) : ∀ (ps qs : List (κ × Value)), mget (ps ++ qs) k = (mget ps k).or (mget qs k)
  | [], qs => by simp [mget_nil]
  | p :: ps, qs => by
    rw [List.cons_append, mget_cons, mget_cons, mget_append k ps qs]
    split <;> simp
theorem mget_modify {κ : Type} [DecidableEq κ] (k k' : κ) (v : Value) : ∀ (ks : List (κ × Value)) (i : Nat) (j : Nat) (u : Value), mfind k ks i = some (j, u) → mget (ks.modify (j - i) fun p => (p.1, v)) k' = if k' = k then some v else mget ks k'
  | [], _, _, _, h => by simp [mfind] at h
  | p :: ps, i, j, u, h => by
    simp only [mfind] at h
    split at h
    · rename_i hk
      simp only [Option.some.injEq, Prod.mk.injEq] at h
      obtain ⟨rfl, rfl⟩ := h
      subst hk
      simp only [Nat.sub_self, List.modify_zero_cons, mget_cons]
      split <;> rfl
    · rename_i hk
      have hle := (mfind_lt k ps (i + 1) j u h).1
      have ih := mget_modify k k' v ps (i + 1) j u h
      rw [show j - i = (j - (i + 1)) + 1 from by omega, List.modify_succ_cons, mget_cons, mget_cons, ih]
      by_cases h1 : k' = p.1
      · rw [if_pos h1, if_pos h1, if_neg (fun e => hk (by rw [← e, h1]))]
      · rw [if_neg h1, if_neg h1]
/-- What a store does, seen by keys. -/
theorem mget_mset {κ : Type} [DecidableEq κ] (ks : List (κ × Value)) (k : κ) (v : Value) (k' : κ) : mget (mset ks k v) k' = if k' = k then some v else mget ks k' := by
  simp only [mset]
  cases hm : mfind k ks 0 with
  | none =>
    simp only []
    rw [mget_append]
    by_cases h : k' = k
    · subst h
      have : mget ks k' = none := by simp [mget, hm]
      rw [this, mget_cons]; simp
    · rw [mget_cons, if_neg h, if_neg h, mget_nil]; simp
  | some p =>
    obtain ⟨i, u⟩ := p
    exact mget_modify k k' v ks 0 i u hm

def pairV (p : Int × Int) : Value := .agg #[.int .i64 p.1, .int .i64 p.2]
theorem pairKeys {P : Program} {t e : TypeId} (h : IsPair P t e) : Keys P t pairV where
  eq a b w := by
    rw [pairV, pairV, equal_pair h]
    congr 1
    obtain ⟨a1, a2⟩ := a
    obtain ⟨b1, b2⟩ := b
    by_cases h1 : a1 = b1 <;> by_cases h2 : a2 = b2 <;> simp [h1, h2]
  chk a b w := by
    have p0 : ∀ x y : Int, ∀ w, (part e #[.int .i64 x, .int .i64 y] (0 * 1)).run P w = .ok (.int .i64 x) w := fun x y w => run_part_int h.he _ _ rfl w
    have p1 : ∀ x y : Int, ∀ w, (part e #[.int .i64 x, .int .i64 y] (1 * 1)).run P w = .ok (.int .i64 y) w := fun x y w => run_part_int h.he _ _ rfl w
    have c : ∀ x : Int, ∀ w, (Instr.checkKey b 9999 e (.int .i64 x)).run P w = .ok () w := fun x w => by
      rw [Instr.checkKey]; simp [run_underlying h.he]
    rw [Instr.checkKey, pairV]
    simp only [Sem.run_bind, run_underlying h.ht, Result.andThen_ok]
    simp [Std.Legacy.Range.forIn_eq_forIn_range', List.range', h.size, p0, p1, c]
  same a := by simp [Instr.sameBits, pairV]
  kind := ⟨_, h.ht, fun a b => .inl rfl⟩
theorem intKeys {P : Program} {t : TypeId} (h : P.underlying t = some (.int .i64)) : Keys P t (fun n : Int => Value.int .i64 n) where
  eq a b w := by rw [Op.equal]; rw [show Op.maxDepth = 9999 + 1 from rfl, run_equalIn_int w 9999 t _ _ a b h]; congr 1
  chk a b w := by rw [Instr.checkKey]; simp [run_underlying h]
  same a := by simp [Instr.sameBits]
  kind := ⟨_, h, fun a b => .inr (by simp only [Instr.sameNow, if_true]; by_cases e : a = b <;> simp [e])⟩
end Dac
