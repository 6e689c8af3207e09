import Derived.Test.YtehelanfgepcmaaA
set_option linter.unusedSimpArgs false
set_option linter.unusedVariables false
set_option linter.unusedSectionVars false
namespace Go.Proofs.Ytehelanfgepcmaa
open Go.RowKit Dac

/-- dactylref01.At -/
def at_ (l : List Int) (i most : Int) : Int := if i < 0 ∨ i ≥ l.length then 0 else around (l.getD i.toNat 0) most

set_option maxHeartbeats 400000 in
theorem At_ok (v : Value) (l : List Int) (i most : Int) (w : World) (hl : intR.slice.rd w Any [v] l) (hm : I64 most) :
    Calls Try.prog 34 #[v, .int .i64 i, .int .i64 most] w (QRet w (.int .i64 (at_ l i most))) := by
  obtain ⟨aa, ca, rfl, l1, l2, ea⟩ := ints hl
  unfold maxLen at l2
  by_cases a : i < 0
  · go_enter Try.func34, Try.ntmps34
    go_wp2
    go_ret
    exact ⟨ret_int (by simp [at_, a]), 0, rfl⟩
  · by_cases b : (l.length : Int) ≤ i
    · go_enter Try.func34, Try.ntmps34
      go_wp2
      go_ret
      exact ⟨ret_int (by simp [at_, b]), 0, rfl⟩
    · obtain ⟨k, rfl⟩ := Int.eq_ofNat_of_zero_le (Int.not_lt.1 a)
      have hk : k < l.length := by omega
      obtain ⟨bx, ox, rfl, ix, cx⟩ := ea k hk
      clear ea hl
      go_enter Try.func34, Try.ntmps34
      go_wp2_with (go_at_call 19; refine (Around_ok _ _ _ ix hm).mono ?_; rintro e w' ⟨rfl, n, rfl⟩)
      go_ret
      refine ⟨ret_int ?_, n, rfl⟩
      have : ¬ ((k : Int) < 0 ∨ (k : Int) ≥ l.length) := by omega
      rw [at_, if_neg this]
      simp [hk]

set_option maxHeartbeats 400000 in
theorem price_last (n : Int) (w : World) : Calls Try.prog 41 #[.bool true, .int .i64 n] w (QRet w (.int .i64 4294967296)) := by
  go_enter Try.func41, Try.ntmps41
  go_wp2
  go_ret
  exact ⟨rfl, 0, rfl⟩
set_option maxHeartbeats 400000 in
theorem price_free (n : Int) (w : World) : Calls Try.prog 41 #[.bool false, .int .i64 n] w (QRet w (.int .i64 (wrap64 (4294967296 + wrap64 (n * n))))) := by
  go_enter Try.func41, Try.ntmps41
  go_wp2
  go_ret
  exact ⟨rfl, 0, rfl⟩

theorem around5 (n : Int) : around n 5 = 0 ∨ around n 5 = 1 ∨ around n 5 = 2 ∨ around n 5 = 3 ∨ around n 5 = 4 := by
  unfold around; rw [if_neg (by omega)]; split <;> omega
theorem around_lt (n m : Int) (h : 1 ≤ m) : 0 ≤ around n m ∧ around n m < m := by
  unfold around; rw [if_neg (by omega)]
  exact ⟨Int.emod_nonneg _ (by omega), Int.emod_lt_of_pos _ (by omega)⟩

set_option maxHeartbeats 1000000 in
theorem widths_ok (n : Int) (w : World) (hn : I64 n) :
    Calls Try.prog 12 #[.int .i64 n] w fun e w' => ∃ v, e = .returned v ∧ Ext w w' ∧ intR.slice.rd w' Any [v] [1 + around n 20, [0, 513, 512, 1, -1].getD (around n 5).toNat 0] := by
  have b20 := around_lt n 20 (by omega)
  have c20 := fun W => Around_ok n 20 W hn (by unfold I64; omega)
  generalize around n 20 = a at *
  rcases around5 n with h | h | h | h | h
  all_goals
    have c5 := fun W => Around_ok n 5 W hn (by unfold I64; omega)
    rw [h] at c5 ⊢
    have C5 := hid c5; clear c5 h
    have C20 := hid c20; clear c20
    go_enter Try.func12, Try.ntmps12
    go_wp2_with (first | (go_at_call_of 19 (Value.int IntKind.i64 20); refine (toRet (C20.out _)).mono ?_; rintro e w1 ⟨rfl, hx1⟩) | (go_at_call_of 19 (Value.int IntKind.i64 5); refine (toRet (C5.out _)).mono ?_; rintro e w2 ⟨rfl, hx2⟩; obtain ⟨k0, k1, k2, k3, k4⟩ := cells5 hx2))
    go_ret
    refine ⟨_, rfl, hx1.then ((Ext.alloc _ _).then (hx2.then (Ext.alloc _ _))), ints_lit _ 3 [_, _] Any trivial (by simp [maxLen]) ?_⟩
    unfold I64
    simp
    omega
end Go.Proofs.Ytehelanfgepcmaa
