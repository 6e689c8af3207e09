import Derived.Test.YtehelanfgepcmaaR
import Derived.RangeFuncNested
import Derived.RangeFuncBound
import Derived.RangeFuncCalls
import Derived.RangeFuncLeaves
import Derived.OwnWalkIn
import Derived.TacticsInMore
import Derived.LoopNIn
import Derived.LoopIn
set_option linter.unusedSimpArgs false
set_option linter.unusedVariables false
set_option linter.unusedSectionVars false
namespace Go.Proofs.Ytehelanfgepcmaa
open Go.RowKit Dac
attribute [local go_sem] Oper.semAt_some

set_option maxHeartbeats 1000000 in
theorem lines_ok (v : Value) (X : List (List (List Int))) (width : Int) (f : Place) (w : World) (hX : wordsR.rd w Any [v] X) :
    Calls Try.prog 40 #[v, .int .i64 width, .agg #[.int .i64 f.1, .int .i64 f.2]] w fun e w' =>
      e = .returned (.func (.func 54) #[] #[.pointer (some ⟨w.heap.size + 2, 0, none⟩), .pointer (some ⟨w.heap.size, 0, none⟩), .pointer (some ⟨w.heap.size + 1, 0, none⟩)]) ∧
      w' = ((w.alloc (.cells #[v] 34)).alloc (.cells #[.int .i64 width] 3)).alloc (.cells #[.int .i64 f.1, .int .i64 f.2] 64) := by
  obtain ⟨ad, cap, rfl⟩ := Rdr.slice_v hX
  clear hX
  go_enter Try.func40, Try.ntmps40
  go_wp2
  go_ret
  exact ⟨rfl, rfl⟩
end Go.Proofs.Ytehelanfgepcmaa
namespace Go.Proofs.Ytehelanfgepcmaa
open Go.RowKit Dac
attribute [local go_sem] Oper.semAt_some

theorem choose_fn {α : Type} [Inhabited α] {n : Nat} {p : Nat → α → Prop} (h : ∀ i, i < n → ∃ x, p i x) : ∃ f : Nat → α, ∀ i, i < n → p i (f i) := by
  refine ⟨fun i => if hi : i < n then Classical.choose (h i hi) else default, fun i hi => ?_⟩
  simp only [dif_pos hi]
  exact Classical.choose_spec (h i hi)

/-- What lines' function reads, at addresses that are named once: the words from ⟨b, o⟩, and the variables that it captures, from block B on. -/
structure Cap (F : Nat → Prop) (W : World) (B b o cap : Nat) (width : Int) (f : Place) (X : List (List (List Int))) (A2 : Nat → Nat × Nat × Nat) (A3 : Nat → Nat → Nat × Nat × Nat) : Prop where
  F0 : F B ∧ F (B + 1) ∧ F (B + 2)
  l : W.cell? ⟨B, 0, none⟩ = some (.slice (some ⟨b, o, none⟩) X.length cap)
  w : W.cell? ⟨B + 1, 0, none⟩ = some (.int .i64 width)
  f0 : W.cell? ⟨B + 2, 0, none⟩ = some (.int .i64 f.1)
  f1 : W.cell? ⟨B + 2, 1, none⟩ = some (.int .i64 f.2)
  c1 : ∀ k, k < X.length → F b ∧ W.cell? ⟨b, o + k, none⟩ = some (.slice (some ⟨(A2 k).1, (A2 k).2.1, none⟩) (X.getD k []).length (A2 k).2.2)
  c2 : ∀ k, k < X.length → ∀ i, i < (X.getD k []).length → F (A2 k).1 ∧ W.cell? ⟨(A2 k).1, (A2 k).2.1 + i, none⟩ = some (.slice (some ⟨(A3 k i).1, (A3 k i).2.1, none⟩) ((X.getD k []).length - i) (A3 k i).2.2)
  c3 : ∀ k, k < X.length → ∀ i, i < (X.getD k []).length → ∀ j, j < (X.getD k []).length - i → F (A3 k i).1 ∧ W.cell? ⟨(A3 k i).1, (A3 k i).2.1 + j, none⟩ = some (.int .i64 ((rowAt X k i).getD j 0))

theorem Cap.move {F : Nat → Prop} {W W' : World} {B b o cap : Nat} {width : Int} {f : Place} {X : List (List (List Int))} {A2 : Nat → Nat × Nat × Nat} {A3 : Nat → Nat → Nat × Nat × Nat} (h : Cap F W B b o cap width f X A2 A3)
    (hk : ∀ (a : Addr) (u : Value), F a.block → W.cell? a = some u → W'.cell? a = some u) : Cap F W' B b o cap width f X A2 A3 :=
  ⟨h.F0, hk _ _ h.F0.1 h.l, hk _ _ h.F0.2.1 h.w, hk _ _ h.F0.2.2 h.f0, hk _ _ h.F0.2.2 h.f1, fun k h1 => ⟨(h.c1 k h1).1, hk _ _ (h.c1 k h1).1 (h.c1 k h1).2⟩,
    fun k h1 i h2 => ⟨(h.c2 k h1 i h2).1, hk _ _ (h.c2 k h1 i h2).1 (h.c2 k h1 i h2).2⟩, fun k h1 i h2 j h3 => ⟨(h.c3 k h1 i h2 j h3).1, hk _ _ (h.c3 k h1 i h2 j h3).1 (h.c3 k h1 i h2 j h3).2⟩⟩
theorem Cap.ext {F : Nat → Prop} {W W' : World} {B b o cap : Nat} {width : Int} {f : Place} {X : List (List (List Int))} {A2 : Nat → Nat × Nat × Nat} {A3 : Nat → Nat → Nat × Nat × Nat} (h : Cap F W B b o cap width f X A2 A3) (hx : Ext W W') : Cap F W' B b o cap width f X A2 A3 :=
  h.move fun _ _ _ hc => hx.cell hc

theorem words_addr {F : Nat → Prop} {w : World} {b o cap : Nat} {X : List (List (List Int))} (h : wordsR.rd w F [.slice (some ⟨b, o, none⟩) X.length cap] X) (hV : VW X) :
    ∃ (A2 : Nat → Nat × Nat × Nat) (A3 : Nat → Nat → Nat × Nat × Nat), (∀ k, k < X.length → F b ∧ w.cell? ⟨b, o + k, none⟩ = some (.slice (some ⟨(A2 k).1, (A2 k).2.1, none⟩) (X.getD k []).length (A2 k).2.2)) ∧
      (∀ k, k < X.length → ∀ i, i < (X.getD k []).length → F (A2 k).1 ∧ w.cell? ⟨(A2 k).1, (A2 k).2.1 + i, none⟩ = some (.slice (some ⟨(A3 k i).1, (A3 k i).2.1, none⟩) ((X.getD k []).length - i) (A3 k i).2.2)) ∧
      (∀ k, k < X.length → ∀ i, i < (X.getD k []).length → ∀ j, j < (X.getD k []).length - i → F (A3 k i).1 ∧ w.cell? ⟨(A3 k i).1, (A3 k i).2.1 + j, none⟩ = some (.int .i64 ((rowAt X k i).getD j 0))) := by
  obtain ⟨ad, cap', hv, h1, h2, e1⟩ := h
  have key : ∀ k, k < X.length → ∃ y : (Nat × Nat × Nat) × (Nat → Nat × Nat × Nat), (F b ∧ w.cell? ⟨b, o + k, none⟩ = some (.slice (some ⟨y.1.1, y.1.2.1, none⟩) (X.getD k []).length y.1.2.2)) ∧
      (∀ i, i < (X.getD k []).length → F y.1.1 ∧ w.cell? ⟨y.1.1, y.1.2.1 + i, none⟩ = some (.slice (some ⟨(y.2 i).1, (y.2 i).2.1, none⟩) ((X.getD k []).length - i) (y.2 i).2.2)) ∧
      (∀ i, i < (X.getD k []).length → ∀ j, j < (X.getD k []).length - i → F (y.2 i).1 ∧ w.cell? ⟨(y.2 i).1, (y.2 i).2.1 + j, none⟩ = some (.int .i64 ((rowAt X k i).getD j 0))) := by
    intro k hk
    have hg : X.getD k [] = X[k] := by simp [hk]
    rw [hg]
    obtain ⟨b', o', es, had, hF, _, ⟨ad2, cap2, rfl, _, _, e2⟩, hc⟩ := e1 k hk
    rw [had] at hv
    simp only [List.cons.injEq, Value.slice.injEq, Option.some.injEq, Addr.mk.injEq, and_true, true_and] at hv
    obtain ⟨⟨rfl, rfl⟩, -⟩ := hv
    have hc0 := hc 0 _ rfl
    simp only [Rdr.slice, Nat.mul_one, Nat.add_zero] at hc0
    have hpos := (hV.2 k hk).1
    obtain ⟨b2, o2, es0, rfl, hF2, _, _, _⟩ := e2 0 hpos
    have key2 : ∀ i, i < X[k].length → ∃ z : Nat × Nat × Nat, (F b2 ∧ w.cell? ⟨b2, o2 + i, none⟩ = some (.slice (some ⟨z.1, z.2.1, none⟩) (X[k].length - i) z.2.2)) ∧
        (∀ j, j < X[k].length - i → F z.1 ∧ w.cell? ⟨z.1, z.2.1 + j, none⟩ = some (.int .i64 ((rowAt X k i).getD j 0))) := by
      intro i hi
      obtain ⟨b2', o2', es2, he2, _, _, ⟨ad3, cap3, rfl, _, _, e3⟩, hc2⟩ := e2 i hi
      simp only [Option.some.injEq, Addr.mk.injEq, and_true] at he2
      obtain ⟨rfl, rfl⟩ := he2
      have hc20 := hc2 0 _ rfl
      simp only [Rdr.slice, Nat.mul_one, Nat.add_zero] at hc20
      have hl := ((hV.2 k hk).2.2 i hi).1
      obtain ⟨b3, o3, es3, rfl, hF3, _, _, _⟩ := e3 0 (by rw [hl]; omega)
      rw [hl] at hc20
      refine ⟨(b3, o3, cap3), ⟨hF2, hc20⟩, fun j hj => ⟨hF3, ?_⟩⟩
      have hj' : j < X[k][i].length := by rw [hl]; exact hj
      obtain ⟨b3', o3', es3', he3, _, _, hr3, hc3⟩ := e3 j hj'
      simp only [Option.some.injEq, Addr.mk.injEq, and_true] at he3
      obtain ⟨rfl, rfl⟩ := he3
      rw [hr3.1] at hc3
      have := hc3 0 _ rfl
      simp only [intR, Nat.mul_one, Nat.add_zero] at this
      rw [this, rowAt_eq hk hi]
      simp [hj']
    obtain ⟨A3, h3⟩ := choose_fn key2
    exact ⟨((b2, o2, cap2), A3), ⟨hF, hc0⟩, fun i hi => (h3 i hi).1, fun i hi => (h3 i hi).2⟩
  obtain ⟨A, hA⟩ := choose_fn key
  exact ⟨fun k => (A k).1, fun k => (A k).2, fun k hk => (hA k hk).1, fun k hk => (hA k hk).2.1, fun k hk => (hA k hk).2.2⟩

/-- A line from f that fits, as lines yields it. -/
abbrev LineOf (X : List (List (List Int))) (width : Int) (f : Place) := { x : Place × Int // x ∈ linesX X width f }
def encL {X : List (List (List Int))} {width : Int} {f : Place} (x : LineOf X width f) : Array Value := #[.agg #[.int .i64 x.1.1.1, .int .i64 x.1.1.2], .int .i64 x.1.2]

theorem map_val_inj {α : Type} {p : α → Prop} : ∀ (a c : List { x // p x }), a.map (·.1) = c.map (·.1) → a = c
  | [], [], _ => rfl
  | [], _ :: _, h => by simp at h
  | _ :: _, [], h => by simp at h
  | x :: a, y :: c, h => by
    simp only [List.map_cons, List.cons.injEq] at h
    rw [Subtype.ext h.1, map_val_inj a c h.2]
theorem all_of_map {X : List (List (List Int))} {width : Int} {f : Place} {pre : List (LineOf X width f)} (h : pre.map (·.1) = linesX X width f) : pre = (linesX X width f).attach := by
  apply map_val_inj
  rw [h, List.attach_map_subtype_val]

def curOf (f : Place) (q : Nat) : Place := (q, firstOf f q)
def plAt (X : List (List (List Int))) (f : Place) (q k : Nat) : Place := if k < (rowAt X q (firstOf f q)).length then (q, firstOf f q + k) else (q + 1, 0)
/-- What lines' function has summed up when it comes to word q. -/
def sumA (X : List (List (List Int))) (f : Place) (q : Nat) : Int := if q = f.1 then 0 else sumTo X f q - 1
end Go.Proofs.Ytehelanfgepcmaa
