import Derived.Test.YtehelanfgepcmaaC
set_option linter.unusedSimpArgs false
set_option linter.unusedVariables false
set_option linter.unusedSectionVars false
namespace Go.Proofs.Ytehelanfgepcmaa
open Go.RowKit Dac

set_option maxHeartbeats 400000 in
theorem Same_ok (va vb : Value) (A B : List (List Int)) (w : World) (ha : rowsR.rd w Any [va] A) (hb : rowsR.rd w Any [vb] B) :
    Calls Try.prog 17 #[va, vb] w (QRet w (.bool (decide (A = B)))) := by
  obtain ⟨aa, ca, rfl, l1, l2, ea⟩ := rows ha
  obtain ⟨ab, cb, rfl, l3, l4, eb⟩ := rows hb
  clear ha hb
  unfold maxLen at l2 l4
  by_cases hl : A.length = B.length
  · have hl2 : ((A.length : Int) != B.length) = false := by simp [hl]
    have HL := hid hl; clear hl
    go_enter Try.func17, Try.ntmps17
    go_wp2
    go_loopw [5] (fun i wr => ∃ k : Nat, k ≤ A.length ∧ A.take k = B.take k ∧ i = .int .i64 k ∧ Drawn w wr) (fun i _ => A.length - (intOf i).toNat)
    case atStart => exact ⟨0, by omega, by simp, rfl, Drawn.refl _⟩
    case round =>
      obtain ⟨k, hk, ht, rfl, hw⟩ := hrel
      have hx := hw.ext
      have HT := hid ht; clear ht
      by_cases hlt : k < A.length
      · have hltB : k < B.length := by rw [← HL.out]; exact hlt
        obtain ⟨bx, ox, xa, xc, rfl, rx, cx, _⟩ := ea k hlt
        obtain ⟨by_, oy, ya, yc, rfl, ry, cy, _⟩ := eb k hltB
        have hs := fun m => SameInts_ok _ _ A[k] B[k] (wr.drewN m) (Rdr.ext _ rx (hx.then (Ext.drewN _ _))) (Rdr.ext _ ry (hx.then (Ext.drewN _ _)))
        have cx1 := hx.cell cx
        have cy1 := hx.cell cy
        clear ea eb rx ry cx cy hx
        by_cases he : A[k] = B[k]
        · have he1 : (A[k] == B[k]) = true := by simp [he]
          rw [he1] at hs
          have HS := hid hs; clear hs
          have HE := hid he; clear he
          clear he1
          go_wp2
          go_quiet ((go_at_call 25; exact Calls.quiet_of (HS.out _)))
          go_wp2
          go_roundw
          case rel => exact ⟨k + 1, by omega, take_succ_eq' HT.out hlt hltB HE.out, by go_num, hw.drewN _⟩
          case measure => simp [intOf]; omega
        · have he1 : (A[k] == B[k]) = false := by simp [he]
          rw [he1] at hs
          have HS := hid hs; clear hs
          have HE := hid he; clear he
          clear he1
          go_wp2
          go_quiet ((go_at_call 25; exact Calls.quiet_of (HS.out _)))
          go_wp2
          go_ret
          refine ⟨ret_bool (Eq.symm ?_), (hw.drewN _).out⟩
          rw [decide_eq_false_iff_not]; intro h; subst h; exact HE.out rfl
      · have hkA : k = A.length := by omega
        have HK := hid hkA; clear hkA
        go_wp2
        go_ret
        refine ⟨ret_bool (Eq.symm ?_), hw.out⟩
        rw [decide_eq_true_eq]
        have := HT.out
        rw [HK.out, List.take_length, HL.out, List.take_length] at this
        exact this
  · have hl2 : ((A.length : Int) != B.length) = !false := by simp; omega
    have HL := hid hl; clear hl
    go_enter Try.func17, Try.ntmps17
    go_wp2
    go_ret
    refine ⟨ret_bool (Eq.symm ?_), 0, rfl⟩
    rw [decide_eq_false_iff_not]; intro h; subst h; exact HL.out rfl

theorem info42 : (Try.prog.info? 42).map (fun i => (i.zero, i.size, i.bytes)) = some (some (.agg #[.slice none 0 0]), 1, 24) := by kernel_rfl
theorem info47 : (Try.prog.info? 47).map (fun i => (i.zero, i.size, i.bytes)) = some (some (.agg #[.slice none 0 0]), 1, 24) := by kernel_rfl
theorem info22 : (Try.prog.info? 22).map (fun i => (i.zero, i.size, i.bytes)) = some (some (.slice none 0 0), 1, 24) := by kernel_rfl
theorem info28 : (Try.prog.info? 28).map (fun i => (i.zero, i.size, i.bytes)) = some (some (.slice none 0 0), 1, 24) := by kernel_rfl
theorem info3 : (Try.prog.info? 3).map (fun i => (i.zero, i.size, i.bytes)) = some (some (.int .i64 0), 1, 8) := by kernel_rfl
theorem info64 : (Try.prog.info? 64).map (fun i => (i.zero, i.size, i.bytes)) = some (some (.agg #[.int .i64 0, .int .i64 0]), 2, 16) := by kernel_rfl

set_option maxHeartbeats 400000 in
theorem words_ok (v : Value) (X : List (List (List Int))) (w : World) (hX : wordsR.rd w Any [v] X) (hb : X.length * 24 ≤ 140737488355328) :
    Calls Try.prog 14 #[v] w fun e w' => ∃ r, e = .returned r ∧ Ext w w' ∧ wordsR.rd w' Any [r] X := by
  obtain ⟨ad, cap, rfl, l1, l2, el⟩ := rows hX
  unfold maxLen at l2
  obtain ⟨i0, hi, hz0, hz1, hz2⟩ := info_parts info42
  go_enter Try.func14, Try.ntmps14
  go_wp2
  go_loopw [3, 4] (fun out i wr => ∃ k : Nat, k ≤ X.length ∧ i = .int .i64 k ∧ Ext w wr ∧ Bld rowsR Any wr w.heap.size 42 out (X.take k)) (fun _ i _ => X.length - (intOf i).toNat)
  case atStart => exact ⟨0, by omega, rfl, Ext.rfl' _, Bld.nil _ _ _ _ _⟩
  case round =>
    obtain ⟨k, hk, rfl, hx, hB⟩ := hrel
    by_cases hlt : k < X.length
    · obtain ⟨b, o, ua, uc, rfl, ru, cu, _⟩ := el k hlt
      have cu1 := hx.cell cu
      have hle := hx.size
      have hlen : (X.take k).length = k := List.length_take_of_le (by omega)
      clear el hX cu
      go_wp2_with (at_builtin; refine wpList_append_one rowsR Any w.heap.size rfl _ _ 34 rfl 42 i0 _ 24 Try.underlying34 hi hz0 hz1 hz2 rfl (by decide) _ _ rfl hB _ [_] X[k] rfl (Rdr.apart ru hx hB) (by omega) (by omega) hle ?_ rfl; intro g cp w1 hB1 hg1 hg2 hg3)
      go_roundw
      case rel =>
        refine ⟨k + 1, by omega, by go_num, Below.grown hx hg1 hle (fun j e => (hB.lt j e).1), ?_⟩
        rw [List.take_succ_eq_append_getElem hlt]
        rw [hlen] at hB1
        exact hB1
      case measure => simp [intOf]; omega
    · have hkX : X.take k = X := List.take_of_length_le (by omega)
      rw [hkX] at hB
      have HK := hid hkX; clear hkX
      go_wp2
      go_ret
      exact ⟨_, rfl, hx, hB.read (fun _ _ => trivial) (fun _ _ => trivial)⟩
end Go.Proofs.Ytehelanfgepcmaa
