import Derived.Test.YtehelanfgepcmaaF
set_option linter.unusedSimpArgs false
set_option linter.unusedVariables false
set_option linter.unusedSectionVars false
namespace Go.Proofs.Ytehelanfgepcmaa
open Go.RowKit Dac

/-- A place where a line can begin. -/
def Pl (X : List (List (List Int))) (p : Nat × Nat) : Prop := ∃ h : p.1 < X.length, p.2 < X[p.1].length
/-- A place where a line can end. -/
def En (X : List (List (List Int))) (p : Nat × Nat) : Prop := (p.1 = X.length ∧ p.2 = 0) ∨ Pl X p
def Lt (a b : Nat × Nat) : Prop := a.1 < b.1 ∨ (a.1 = b.1 ∧ a.2 < b.2)

theorem sizeL_bd {X : List (List (List Int))} (hV : VW X) {f t : Nat × Nat} (hf : Pl X f) (hl : Lt f t) (ht : En X t) : 0 ≤ sizeL X f t ∧ sizeL X f t ≤ 3000000 := by
  obtain ⟨p, i⟩ := f
  obtain ⟨q, j⟩ := t
  obtain ⟨hp, hi⟩ := hf
  simp only [sizeL]
  split
  · have := hV.elem (j := j - i - 1) hp hi
    dsimp only at *
    omega
  · rename_i hne
    have h0 := hV.elem (j := (rowAt X p i).length - 1) hp hi
    have hpq : p < q := by
      rcases hl with h | h
      · exact h
      · exact absurd h.1 hne
    have hq : q ≤ X.length := by
      rcases ht with h | ⟨h, _⟩
      · exact Nat.le_of_eq h.1
      · exact Nat.le_of_lt h
    have hs := hV.sum (q := p + 1) (s := lastW (rowAt X p i)) h0 (q - p - 1) (by omega)
    have h512 := hV.1
    split
    · dsimp only at *; omega
    · rename_i hj
      rcases ht with h | ⟨h, h2⟩
      · exact absurd h.2 hj
      · have h3 := hV.elem (j := j - 1) h (Nat.lt_of_lt_of_le Nat.zero_lt_one (hV.2 q h).1)
        dsimp only at *
        omega

/-- dactylref11.Price -/
def priceL (X : List (List (List Int))) (width : Int) (f t : Nat × Nat) : Int :=
  if t = (X.length, 0) then 4294967296 else 4294967296 + (width - sizeL X f t) * (width - sizeL X f t)

theorem sq_bd (n : Int) (h : -3000000 ≤ n ∧ n ≤ 3000000) : 0 ≤ n * n ∧ n * n ≤ 9000000000000 := by
  constructor
  · by_cases h0 : 0 ≤ n
    · exact Int.mul_nonneg h0 h0
    · have := Int.mul_nonneg (a := -n) (b := -n) (by omega) (by omega); rw [Int.neg_mul_neg] at this; exact this
  · have h1 : n.natAbs ≤ 3000000 := by omega
    have h2 := Nat.mul_le_mul h1 h1
    have h3 : ((n.natAbs * n.natAbs : Nat) : Int) = n * n := by simp
    omega

theorem wrap64_id {x : Int} (h1 : -9223372036854775808 ≤ x) (h2 : x ≤ 9223372036854775807) : wrap64 x = x := by unfold wrap64; omega

set_option maxHeartbeats 1000000 in
theorem Price_ok (v : Value) (X : List (List (List Int))) (width : Int) (f t : Nat × Nat) (w : World) (hX : wordsR.rd w Any [v] X) (hV : VW X) (hw : 1 ≤ width ∧ width ≤ 512) (hf : Pl X f) (hl : Lt f t) (ht : En X t) :
    Calls Try.prog 50 #[v, .int .i64 width, pairA f, pairA t] w (Ret w (.int .i64 (priceL X width f t))) := by
  have hb := sizeL_bd hV hf hl ht
  obtain ⟨p, i⟩ := f
  obtain ⟨q, j⟩ := t
  obtain ⟨hp, hi⟩ := hf
  have hS := fun W (h : Ext w W) => Size_ok v X p i q j W (Rdr.ext _ hX h) hV hp hi hl ht
  have hP := priceL.eq_1 X width (p, i) (q, j)
  unfold pairA
  obtain ⟨b, o, cap, rfl, l2, -⟩ := rows_ne hX (Nat.lt_of_le_of_lt (Nat.zero_le _) hp)
  generalize sizeL X (p, i) (q, j) = s at *
  have hq := sq_bd (width - s) (by omega)
  have HS := hid hS; clear hS
  have HP := hid hP; clear hP
  have heq := fun W => eql_pair isPair q j X.length 0 W
  clear hX hV hl ht
  obtain ⟨w1, w2⟩ := hw
  obtain ⟨s1, s2⟩ := hb
  obtain ⟨q1, q2⟩ := hq
  have hx := (Ext.alloc w (.cells #[.int .i64 p, .int .i64 i] 64)).then (Ext.alloc _ (.cells #[.int .i64 q, .int .i64 j] 64))
  by_cases he : q = X.length ∧ j = 0
  · obtain ⟨rfl, rfl⟩ := he
    simp only [show ((0 : Nat) : Int) = 0 from rfl, beq_self_eq_true, Bool.and_self] at heq
    have hz := HP.out
    rw [if_pos rfl] at hz
    clear HP
    have HP := hid hz; clear hz
    have HX := hid hx; clear hx
    go_enter Try.func50, Try.ntmps50
    go_wp2_with (go_at_call 35; refine (HS.out _ (by repeat (first | exact Below.refl _ _ | refine Below.alloc ?_ (by simp) _))).mono ?_; rintro e W ⟨rfl, hxW⟩; have hc := hxW.cell (cell_alloc0 _ _ 64 0 rfl); have hc2 := hxW.cell (cell_alloc0 _ _ 64 1 rfl); simp only [World.size_alloc] at hc hc2; have HXW := hid (HX.out.then hxW); clear hxW)
    go_ret
    exact ⟨ret_int HP.out.symm, HXW.out⟩
  · have he1 : ((q : Int) == X.length && (j : Int) == 0) = false := by
      rw [Bool.eq_false_iff]; intro h; simp at h; exact he ⟨by omega, h.2⟩
    simp only [show ((0 : Nat) : Int) = 0 from rfl, he1] at heq
    have hz := HP.out
    rw [if_neg (by intro h; simp at h; exact he h)] at hz
    clear HP
    have HP := hid hz; clear hz
    have HX := hid hx; clear hx
    clear he1 he
    have hww := wrap64_id (x := (width - s) * (width - s)) (by omega) (by omega)
    have hww2 := wrap64_id (x := 4294967296 + (width - s) * (width - s)) (by omega) (by omega)
    have HW := hid hww; clear hww
    have HW2 := hid hww2; clear hww2
    go_enter Try.func50, Try.ntmps50
    go_wp2_with (go_at_call 35; refine (HS.out _ (by repeat (first | exact Below.refl _ _ | refine Below.alloc ?_ (by simp) _))).mono ?_; rintro e W ⟨rfl, hxW⟩; have hc := hxW.cell (cell_alloc0 _ _ 64 0 rfl); have hc2 := hxW.cell (cell_alloc0 _ _ 64 1 rfl); simp only [World.size_alloc] at hc hc2; have HXW := hid (HX.out.then hxW); clear hxW)
    go_ret
    refine ⟨ret_int ?_, HXW.out⟩
    rw [HP.out]
    first | rfl | (rw [HW.out, HW2.out]) | rw [HW2.out] | rw [HW.out] | skip
end Go.Proofs.Ytehelanfgepcmaa
