import Derived.Test.YtehelanfgepcmaaB
set_option linter.unusedSimpArgs false
set_option linter.unusedVariables false
set_option linter.unusedSectionVars false
namespace Go.Proofs.Ytehelanfgepcmaa
open Go.RowKit Dac

theorem isPair : IsPair Try.prog 64 3 := ⟨Try.underlying64, Try.underlying3, by kernel_rfl, by kernel_rfl, by kernel_rfl⟩

theorem take_succ_eq' {α : Type} {A B : List α} {k : Nat} (h : A.take k = B.take k) (ha : k < A.length) (hb : k < B.length) (he : A[k] = B[k]) : A.take (k + 1) = B.take (k + 1) := by
  rw [List.take_succ_eq_append_getElem ha, List.take_succ_eq_append_getElem hb, h, he]

set_option maxHeartbeats 400000 in
theorem SameEnds_ok (va vb : Value) (A B : List (Int × Int)) (w : World) (ha : pairR.slice.rd w Any [va] A) (hb : pairR.slice.rd w Any [vb] B) :
    Calls Try.prog 16 #[va, vb] w (QRet w (.bool (decide (A = B)))) := by
  obtain ⟨aa, ca, rfl, l1, l2, ea⟩ := pairs ha
  obtain ⟨ab, cb, rfl, l3, l4, eb⟩ := pairs hb
  clear ha hb
  unfold maxLen at l2 l4
  by_cases hl : A.length = B.length
  · have hl2 : ((A.length : Int) != B.length) = false := by simp [hl]
    have HL := hid hl; clear hl
    go_enter Try.func16, Try.ntmps16
    go_wp2
    go_loopw [5] (fun i wr => ∃ k : Nat, k ≤ A.length ∧ A.take k = B.take k ∧ i = .int .i64 k ∧ ∃ n, wr = w.drewN n) (fun i _ => A.length - (intOf i).toNat)
    case atStart => exact ⟨0, by omega, by simp, rfl, 0, rfl⟩
    case round =>
      obtain ⟨k, hk, ht, rfl, n, rfl⟩ := hrel
      have HT := hid ht; clear ht
      by_cases hlt : k < A.length
      · have hltB : k < B.length := by rw [← HL.out]; exact hlt
        obtain ⟨bx, ox, rfl, _, _, cx, cx2⟩ := ea k hlt
        obtain ⟨by_, oy, rfl, _, _, cy, cy2⟩ := eb k hltB
        have hneq := fun W => neq_pair isPair A[k].1 A[k].2 B[k].1 B[k].2 W
        clear ea eb
        by_cases he : A[k] = B[k]
        · have he1 : (A[k].1 == B[k].1) = true := by simp [he]
          have he2 : (A[k].2 == B[k].2) = true := by simp [he]
          simp only [he1, he2] at hneq
          have HE := hid he; clear he
          clear he1 he2
          go_wp2
          go_quiet (fail)
          go_wp2
          go_roundw
          case rel => exact ⟨k + 1, by omega, take_succ_eq' HT.out hlt hltB HE.out, by go_num, _, rfl⟩
          case measure => simp [intOf]; omega
        · have he1 : (A[k].1 == B[k].1 && A[k].2 == B[k].2) = false := by
            rw [Bool.eq_false_iff]; intro h; simp at h; exact he (Prod.ext h.1 h.2)
          simp only [he1] at hneq
          have HE := hid he; clear he
          clear he1
          go_wp2
          go_quiet (fail)
          go_wp2
          go_ret
          refine ⟨ret_bool (Eq.symm ?_), drew2 _ _ _⟩
          rw [decide_eq_false_iff_not]; intro h; subst h; exact HE.out rfl
      · have hkA : k = A.length := by omega
        have HK := hid hkA; clear hkA
        go_wp2
        go_ret
        refine ⟨ret_bool (Eq.symm ?_), n, rfl⟩
        rw [decide_eq_true_eq]
        have := HT.out
        rw [HK.out, List.take_length, HL.out, List.take_length] at this
        exact this
  · have hl2 : ((A.length : Int) != B.length) = !false := by simp; omega
    have HL := hid hl; clear hl
    go_enter Try.func16, Try.ntmps16
    go_wp2
    go_ret
    refine ⟨ret_bool (Eq.symm ?_), 0, rfl⟩
    rw [decide_eq_false_iff_not]; intro h; subst h; exact HL.out rfl
end Go.Proofs.Ytehelanfgepcmaa
