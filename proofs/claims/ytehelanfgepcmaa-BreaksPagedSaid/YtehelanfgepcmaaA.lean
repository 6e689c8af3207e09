import Derived.Test.YtehelanfgepcmaaRows
import Derived.Test.YtehelanfgepcmaaLib
set_option linter.unusedSimpArgs false
set_option linter.unusedVariables false
set_option linter.unusedSectionVars false
namespace Go.Proofs.Ytehelanfgepcmaa
open Go.RowKit Dac

/-- dactylref01.Around -/
def around (n most : Int) : Int := if most < 1 then 0 else (if n < 0 then -(n + 1) else n) % most

set_option maxHeartbeats 400000 in
theorem Around_ok (n most : Int) (w : World) (hn : I64 n) (hm : I64 most) :
    Calls Try.prog 19 #[.int .i64 n, .int .i64 most] w (QRet w (.int .i64 (around n most))) := by
  obtain ⟨h1, h2⟩ := hn
  obtain ⟨h3, h4⟩ := hm
  go_enter Try.func19, Try.ntmps19
  by_cases a : n < 0 <;> by_cases b : most < 1
  all_goals
    go_wp2
    go_ret
    refine ⟨?_, 0, rfl⟩
    simp [around, a, b]
  · rw [if_neg (by omega), ← Int.neg_tmod, Int.tmod_eq_emod_of_nonneg (by omega)]
  · rw [if_neg (by omega), if_neg (by omega)]

theorem take_succ_eq {A B : List Int} {k : Nat} (h : A.take k = B.take k) (ha : k < A.length) (hb : k < B.length) (he : A[k] = B[k]) : A.take (k + 1) = B.take (k + 1) := by
  rw [List.take_succ_eq_append_getElem ha, List.take_succ_eq_append_getElem hb, h, he]

set_option maxHeartbeats 400000 in
theorem SameInts_ok (va vb : Value) (A B : List Int) (w : World) (ha : intR.slice.rd w Any [va] A) (hb : intR.slice.rd w Any [vb] B) :
    Calls Try.prog 25 #[va, vb] w (QRet w (.bool (A == B))) := by
  obtain ⟨aa, ca, rfl, l1, l2, ea⟩ := ints ha
  obtain ⟨ab, cb, rfl, l3, l4, eb⟩ := ints hb
  unfold maxLen at l2 l4
  by_cases hl : A.length = B.length
  · have hl2 : ((A.length : Int) != B.length) = false := by simp [hl]
    have HL := hid hl; clear hl
    go_enter Try.func25, Try.ntmps25
    go_wp2
    go_loopw [5] (fun i wr => ∃ k : Nat, k ≤ A.length ∧ A.take k = B.take k ∧ i = .int .i64 k ∧ ∃ n, wr = w.drewN n) (fun i _ => A.length - (intOf i).toNat)
    case atStart => exact ⟨0, by omega, by simp, rfl, 0, rfl⟩
    case round =>
      obtain ⟨k, hk, ht, rfl, n, rfl⟩ := hrel
      have HT := hid ht; clear ht
      by_cases hlt : k < A.length
      · have hltB : k < B.length := by rw [← HL.out]; exact hlt
        obtain ⟨bx, ox, rfl, ix, cx⟩ := ea k hlt
        obtain ⟨by_, oy, rfl, iy, cy⟩ := eb k hltB
        by_cases he : A[k] = B[k]
        · have he2 : (A[k] != B[k]) = false := by simp [he]
          have HE := hid he; clear he
          go_wp2
          go_quiet (fail)
          go_wp2
          go_roundw
          case rel => exact ⟨k + 1, by omega, take_succ_eq HT.out hlt hltB HE.out, by go_num, _, rfl⟩
          case measure => simp [intOf]; omega
        · have he2 : (A[k] != B[k]) = !false := by simp [he]
          have HE := hid he; clear he
          go_wp2
          go_quiet (fail)
          go_wp2
          go_ret
          refine ⟨ret_bool (Eq.symm ?_), drew2 _ _ _⟩
          rw [beq_eq_false_iff_ne]; intro h; subst h; exact HE.out rfl
      · have hkA : k = A.length := by omega
        go_wp2
        go_ret
        refine ⟨?_, n, rfl⟩
        have : A = B := by
          have := HT.out
          rw [hkA, List.take_length, HL.out, List.take_length] at this
          exact this
        simp [this]
  · have hl2 : ((A.length : Int) != B.length) = !false := by simp; omega
    have HL := hid hl; clear hl
    go_enter Try.func25, Try.ntmps25
    go_wp2
    go_ret
    refine ⟨ret_bool (Eq.symm ?_), 0, rfl⟩
    rw [beq_eq_false_iff_ne]; intro h; subst h; exact HL.out rfl
end Go.Proofs.Ytehelanfgepcmaa
