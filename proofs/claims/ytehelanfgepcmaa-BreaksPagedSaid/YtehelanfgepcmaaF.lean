import Derived.Test.YtehelanfgepcmaaE
set_option linter.unusedSimpArgs false
set_option linter.unusedVariables false
set_option linter.unusedSectionVars false
namespace Go.Proofs.Ytehelanfgepcmaa
open Go.RowKit Dac

/-- Valid words. -/
def VW (X : List (List (List Int))) : Prop := X.length ≤ 512 ∧ ∀ p (hp : p < X.length), 1 ≤ X[p].length ∧ X[p].length ≤ 16 ∧ ∀ i (hi : i < X[p].length), X[p][i].length = X[p].length - i ∧ ∀ x ∈ X[p][i], 0 ≤ x ∧ x ≤ 4096

def rowAt (X : List (List (List Int))) (p i : Nat) : List Int := (X.getD p []).getD i []
def lastW (row : List Int) : Int := row.getD (row.length - 1) 0
/-- A line's width s so far, and n whole words from word q on, each with a blank ahead. -/
def sumS (X : List (List (List Int))) (q : Nat) (s : Int) : Nat → Int
  | 0 => s
  | n + 1 => sumS X q s n + 1 + lastW (rowAt X (q + n) 0)
/-- dactylref11.Size: the width of a line from a place to a later one. -/
def sizeL (X : List (List (List Int))) (f t : Nat × Nat) : Int :=
  if f.1 = t.1 then (rowAt X f.1 f.2).getD (t.2 - f.2 - 1) 0 + 1
  else
    let s := sumS X (f.1 + 1) (lastW (rowAt X f.1 f.2)) (t.1 - f.1 - 1)
    if t.2 = 0 then s else s + 1 + (rowAt X t.1 0).getD (t.2 - 1) 0 + 1

theorem rowAt_eq {X : List (List (List Int))} {p i : Nat} (hp : p < X.length) (hi : i < X[p].length) : rowAt X p i = X[p][i] := by simp [rowAt, hp, hi]
theorem VW.elem {X : List (List (List Int))} (h : VW X) {p i j : Nat} (hp : p < X.length) (hi : i < X[p].length) : 0 ≤ (rowAt X p i).getD j 0 ∧ (rowAt X p i).getD j 0 ≤ 4096 := by
  rw [rowAt_eq hp hi]
  by_cases hj : j < X[p][i].length
  · have := ((h.2 p hp).2.2 i hi).2 X[p][i][j] (List.getElem_mem _)
    simpa [hj] using this
  · simp [hj]
theorem VW.sum {X : List (List (List Int))} (h : VW X) {q : Nat} {s : Int} (hs : 0 ≤ s ∧ s ≤ 4096) : ∀ n, q + n ≤ X.length → 0 ≤ sumS X q s n ∧ sumS X q s n ≤ 4096 + 4097 * n
  | 0, _ => by simp [sumS]; omega
  | n + 1, hn => by
    have ih := VW.sum (q := q) h hs n (by omega)
    have hp : q + n < X.length := by omega
    have h1 := h.elem (j := (rowAt X (q + n) 0).length - 1) hp (Nat.lt_of_lt_of_le Nat.zero_lt_one (h.2 _ hp).1)
    simp only [sumS, lastW]
    generalize (rowAt X (q + n) 0).getD ((rowAt X (q + n) 0).length - 1) 0 = y at *
    omega

set_option maxHeartbeats 1000000 in
theorem Size_same (v : Value) (X : List (List (List Int))) (p i j : Nat) (w : World) (hX : wordsR.rd w Any [v] X) (hV : VW X) (hp : p < X.length) (hij : i < j) (hj : j < X[p].length) :
    Calls Try.prog 35 #[v, .agg #[.int .i64 p, .int .i64 i], .agg #[.int .i64 p, .int .i64 j]] w (Ret w (.int .i64 (sizeL X (p, i) (p, j)))) := by
  have hi : i < X[p].length := by omega
  have hsz : sizeL X (p, i) (p, j) = X[p][i].getD (j - i - 1) 0 + 1 := by simp only [sizeL, rowAt_eq hp hi, ↓reduceIte]
  obtain ⟨hr1, hr2⟩ := (hV.2 p hp).2.2 i hi
  have hlt : j - i - 1 < X[p][i].length := by rw [hr1]; omega
  have hn := (hV.2 p hp).2.1
  have hb := hr2 _ (List.getElem_mem hlt)
  have hg : X[p][i].getD (j - i - 1) 0 = X[p][i][j - i - 1] := by simp [hlt]
  rw [hsz, hg]
  clear hsz hg hr2
  obtain ⟨b, o, cap, rfl, l2, e1⟩ := rows_ne hX (by omega)
  obtain ⟨a2, c2, hc, r2, l3⟩ := e1 p hp
  obtain ⟨b2, o2, cap2, hv2, l4, e2⟩ := rows_ne r2 (by omega)
  rw [hv2] at hc
  obtain ⟨a3, c3, hc3, r3, l5⟩ := e2 i hi
  obtain ⟨b3, o3, cap3, hv3, l6, e3⟩ := ints_ne r3 (by omega)
  rw [hv3] at hc3
  obtain ⟨-, hc4⟩ := e3 _ hlt
  clear e1 e2 e3 hv2 hv3 r2 r3 hX
  have x1 := Ext.alloc w (.cells #[.int .i64 p, .int .i64 i] 64)
  have x2 := x1.then (Ext.alloc _ (.cells #[.int .i64 p, .int .i64 j] 64))
  have k1 := x2.cell hc
  have k2 := x2.cell hc3
  have k3 := x2.cell hc4
  clear hc hc3 hc4
  generalize X[p][i][j - i - 1] = x at *
  have HR := hid hr1; clear hr1
  have hidx : ((j : Int) - i - 1).toNat = j - i - 1 := by omega
  have hl1 : (j : Int) - i - 1 < X[p][i].length := by omega
  have hl0 : (0 : Int) ≤ (j : Int) - i - 1 := by omega
  clear x1 x2
  go_enter Try.func35, Try.ntmps35
  go_wp2
  go_quiet (fail)
  go_wp2
  go_ret
  refine ⟨rfl, ?_⟩
  repeat (first | exact Below.refl _ _ | refine below_dn ?_ _ | refine Below.alloc ?_ (by simp) _)

/-- What a walk reads of word p's row i, j-th cell, in whatever later world. -/
theorem word_cells {w : World} {F : Nat → Prop} {b o cap : Nat} {X : List (List (List Int))} (h : wordsR.rd w F [.slice (some ⟨b, o, none⟩) X.length cap] X) (hV : VW X) {p : Nat} (hp : p < X.length) :
    ∃ b2 o2 c2, w.cell? ⟨b, o + p, none⟩ = some (.slice (some ⟨b2, o2, none⟩) X[p].length c2) ∧ ∀ i (hi : i < X[p].length), ∃ b3 o3 c3, w.cell? ⟨b2, o2 + i, none⟩ = some (.slice (some ⟨b3, o3, none⟩) (X[p].length - i) c3) ∧
      ∀ j, j < X[p].length - i → w.cell? ⟨b3, o3 + j, none⟩ = some (.int .i64 ((rowAt X p i).getD j 0)) ∧ 0 ≤ (rowAt X p i).getD j 0 ∧ (rowAt X p i).getD j 0 ≤ 4096 := by
  obtain ⟨b', o', cap', hv, _, e1⟩ := rows_ne h (by omega)
  simp only [Value.slice.injEq, Option.some.injEq, Addr.mk.injEq, and_true, true_and] at hv
  obtain ⟨⟨rfl, rfl⟩, rfl⟩ := hv
  obtain ⟨a2, c2, hc, r2, _⟩ := e1 p hp
  obtain ⟨b2, o2, cap2, hv2, _, e2⟩ := rows_ne r2 (hV.2 p hp).1
  rw [hv2] at hc
  refine ⟨b2, o2, cap2, hc, fun i hi => ?_⟩
  obtain ⟨a3, c3, hc3, r3, _⟩ := e2 i hi
  have hl := ((hV.2 p hp).2.2 i hi).1
  obtain ⟨b3, o3, cap3, hv3, _, e3⟩ := ints_ne r3 (by rw [hl]; omega)
  rw [hv3, hl] at hc3
  refine ⟨b3, o3, cap3, hc3, fun j hj => ⟨?_, hV.elem hp hi⟩⟩
  have hj' : j < X[p][i].length := by rw [hl]; exact hj
  rw [(e3 j hj').2, rowAt_eq hp hi]
  simp [hj']

set_option maxHeartbeats 1000000 in
theorem Size_diff (v : Value) (X : List (List (List Int))) (p i q j : Nat) (w : World) (hX : wordsR.rd w Any [v] X) (hV : VW X) (hp : p < X.length) (hi : i < X[p].length) (hpq : p < q) (hq : q ≤ X.length) (hj : j = 0 ∨ ∃ h : q < X.length, j < X[q].length) :
    Calls Try.prog 35 #[v, .agg #[.int .i64 p, .int .i64 i], .agg #[.int .i64 q, .int .i64 j]] w (Ret w (.int .i64 (sizeL X (p, i) (q, j)))) := by
  have hsz : sizeL X (p, i) (q, j) = if j = 0 then sumS X (p + 1) (lastW (rowAt X p i)) (q - p - 1) else sumS X (p + 1) (lastW (rowAt X p i)) (q - p - 1) + 1 + (rowAt X q 0).getD (j - 1) 0 + 1 := by simp only [sizeL, if_neg (show ¬ p = q by omega)]
  obtain ⟨b, o, cap, rfl, l2, -⟩ := rows_ne hX (by omega)
  have hx := (Ext.alloc w (.cells #[.int .i64 p, .int .i64 i] 64)).then (Ext.alloc _ (.cells #[.int .i64 q, .int .i64 j] 64))
  have hX2 := Rdr.ext _ hX hx
  have hW := fun r (hr : r < X.length) => word_cells hX2 hV hr
  have hlast := hV.elem (j := (rowAt X p i).length - 1) hp hi
  obtain ⟨b2, o2, c2, k1, e2⟩ := hW p hp
  obtain ⟨b3, o3, c3, k2, e3⟩ := e2 i hi
  have hr1 := ((hV.2 p hp).2.2 i hi).1
  obtain ⟨k3, b31, b32⟩ := e3 (X[p].length - i - 1) (by omega)
  have hlw : (rowAt X p i).getD (X[p].length - i - 1) 0 = lastW (rowAt X p i) := by rw [lastW, rowAt_eq hp hi, hr1]
  rw [hlw] at k3 b31 b32
  have hsum := fun n (hn : p + 1 + n ≤ X.length) => hV.sum (q := p + 1) (s := lastW (rowAt X p i)) ⟨b31, b32⟩ n hn
  have h16 := (hV.2 p hp).2.1
  have h512 := hV.1
  generalize lastW (rowAt X p i) = s0 at *
  clear hX hX2 e2 e3 hlw hr1 hlast hx
  have HW := hid hW; clear hW
  have HS := hid hsum; clear hsum
  have HV := hid hV; clear hV
  have HJ := hid hj; clear hj
  have HZ := hid hsz; clear hsz
  have hidx : (((X[p].length - i : Nat) : Int) - 1).toNat = X[p].length - i - 1 := by omega
  have hl1 : ((X[p].length - i : Nat) : Int) - 1 < (X[p].length - i : Nat) := by omega
  have hl0 : (0 : Int) ≤ ((X[p].length - i : Nat) : Int) - 1 := by omega
  have hpq' : ((p : Int) == q) = false := by simp; omega
  go_enter Try.func35, Try.ntmps35
  go_wp2
  go_quiet (fail)
  go_wp2
  go_loop [7, 8, 9] (fun _ s r => ∃ n : Nat, n ≤ q - p - 1 ∧ r = .int .i64 ((p : Int) + 1 + n) ∧ s = .int .i64 (sumS X (p + 1) s0 n)) (fun _ _ r => q - (intOf r).toNat)
  case atStart => exact ⟨0, by omega, by simp, rfl⟩
  case round =>
    obtain ⟨n, hn, rfl, rfl⟩ := hrel
    obtain ⟨hs1, hs2⟩ := HS.out n (by omega)
    by_cases hlt : n < q - p - 1
    · have hr : p + 1 + n < X.length := by omega
      have h1 := (HV.out.2 (p + 1 + n) hr).1
      have h2 := (HV.out.2 (p + 1 + n) hr).2.1
      obtain ⟨bb, oo, cc, m1, ee⟩ := HW.out (p + 1 + n) hr
      obtain ⟨b3', o3', c3', m2, ee3⟩ := ee 0 (by omega)
      obtain ⟨m3, b33, b34⟩ := ee3 (X[p + 1 + n].length - 1) (by omega)
      have hl := ((HV.out.2 (p + 1 + n) hr).2.2 0 (by omega)).1
      have hlw : (rowAt X (p + 1 + n) 0).getD (X[p + 1 + n].length - 1) 0 = lastW (rowAt X (p + 1 + n) 0) := by rw [lastW, rowAt_eq hr (by omega), hl, Nat.sub_zero]
      rw [hlw] at m3 b33 b34
      have HSum := hid (show sumS X (p + 1) s0 (n + 1) = sumS X (p + 1) s0 n + 1 + lastW (rowAt X (p + 1 + n) 0) from rfl)
      generalize lastW (rowAt X (p + 1 + n) 0) = y at *
      generalize sumS X (p + 1) s0 n = sn at *
      clear ee ee3 hlw
      clear hl
      generalize hM : X[p + 1 + n].length = M at *
      clear hM
      have hM0 : (M - 0 : Nat) = M := by omega
      rw [hM0, Nat.add_zero] at m2
      clear hM0
      have e1 : ((p : Int) + 1 + n).toNat = p + 1 + n := by omega
      have e2 : ((M : Int) - 1).toNat = M - 1 := by omega
      have g1 : (0 : Int) ≤ (M : Int) - 1 := by omega
      have g2 : (p : Int) + 1 + n < X.length := by omega
      have g3 : (p : Int) + 1 + n < q := by omega
      go_wp2
      go_round
      case rel => exact ⟨n + 1, by omega, by go_num, by rw [HSum.out]⟩
      case measure => simp [intOf]; omega
    · have hn' : n = q - p - 1 := by omega
      subst hn'
      have g3 : ¬ (p : Int) + 1 + (q - p - 1 : Nat) < q := by omega
      by_cases hj0 : j = 0
      · subst hj0
        have hz : sizeL X (p, i) (q, 0) = _ := HZ.out
        rw [if_pos rfl] at hz
        clear HZ
        have HZ := hid hz; clear hz
        generalize sumS X (p + 1) s0 (q - p - 1) = sn at *
        go_wp2
        go_ret
        refine ⟨ret_int HZ.out.symm, ?_⟩
        repeat (first | exact Below.refl _ _ | refine below_dn ?_ _ | refine Below.alloc ?_ (by simp) _)
      · have hz : sizeL X (p, i) (q, j) = _ := HZ.out
        rw [if_neg hj0] at hz
        clear HZ
        have HZ := hid hz; clear hz
        obtain ⟨hr, hjq⟩ := HJ.out.resolve_left hj0
        have h1 := (HV.out.2 q hr).1
        have h2 := (HV.out.2 q hr).2.1
        obtain ⟨bb, oo, cc, m1, ee⟩ := HW.out q hr
        obtain ⟨b3', o3', c3', m2, ee3⟩ := ee 0 (by omega)
        obtain ⟨m3, b33, b34⟩ := ee3 (j - 1) (by omega)
        generalize (rowAt X q 0).getD (j - 1) 0 = y at *
        generalize sumS X (p + 1) s0 (q - p - 1) = sn at *
        clear ee ee3
        have hM0 : (X[q].length - 0 : Nat) = X[q].length := by omega
        rw [hM0, Nat.add_zero] at m2
        clear hM0
        generalize hM : X[q].length = M at *
        clear hM
        have e2 : ((j : Int) - 1).toNat = j - 1 := by omega
        have g1 : (0 : Int) ≤ (j : Int) - 1 := by omega
        have g2 : (j : Int) - 1 < M := by omega
        have g4 : (0 : Int) < (j : Int) := by omega
        have g5 : (q : Int) < X.length := by omega
        go_wp2
        go_quiet (fail)
        go_wp2
        go_ret
        refine ⟨ret_int HZ.out.symm, ?_⟩
        repeat (first | exact Below.refl _ _ | refine below_dn ?_ _ | refine Below.alloc ?_ (by simp) _)

/-- The width of a line from a place to a later one. -/
theorem Size_ok (v : Value) (X : List (List (List Int))) (p i q j : Nat) (w : World) (hX : wordsR.rd w Any [v] X) (hV : VW X) (hp : p < X.length) (hi : i < X[p].length)
    (hlt : p < q ∨ (p = q ∧ i < j)) (hq : (q = X.length ∧ j = 0) ∨ ∃ h : q < X.length, j < X[q].length) :
    Calls Try.prog 35 #[v, .agg #[.int .i64 p, .int .i64 i], .agg #[.int .i64 q, .int .i64 j]] w (Ret w (.int .i64 (sizeL X (p, i) (q, j)))) := by
  rcases hlt with h | ⟨rfl, h⟩
  · rcases hq with ⟨rfl, rfl⟩ | ⟨hq, hj⟩
    · exact Size_diff v X p i _ 0 w hX hV hp hi h (Nat.le_refl _) (.inl rfl)
    · exact Size_diff v X p i q j w hX hV hp hi h (by omega) (.inr ⟨hq, hj⟩)
  · rcases hq with ⟨rfl, rfl⟩ | ⟨hq, hj⟩
    · omega
    · exact Size_same v X p i j w hX hV hp h hj
end Go.Proofs.Ytehelanfgepcmaa
