import Derived.Test.YtehelanfgepcmaaO
set_option linter.unusedSimpArgs false
set_option linter.unusedVariables false
set_option linter.unusedSectionVars false
namespace Go.Proofs.Ytehelanfgepcmaa
open Go.RowKit Dac

set_option maxHeartbeats 400000 in
theorem Bad_ok (x : Int) (w : World) : Calls Try.prog 57 #[.int .i64 x] w (QRet w (.bool (!elOK x))) := by
  have hE : elOK x = decide (0 ≤ x ∧ x ≤ 4096) := rfl
  generalize elOK x = R at *
  have HE := hid hE; clear hE
  by_cases h1 : x < 0
  · go_enter Try.func57, Try.ntmps57
    go_wp2
    go_ret
    exact ⟨ret_bool (by rw [HE.out]; simp; omega), 0, rfl⟩
  · by_cases h2 : 4096 < x
    · go_enter Try.func57, Try.ntmps57
      go_wp2
      go_ret
      exact ⟨ret_bool (by rw [HE.out]; simp; omega), 0, rfl⟩
    · go_enter Try.func57, Try.ntmps57
      go_wp2
      go_ret
      exact ⟨ret_bool (by rw [HE.out]; simp; omega), 0, rfl⟩

/-- It returns a number, not negative if and only if b. -/
def NegQ (b : Bool) (w : World) (e : Ending) (w' : World) : Prop := Ext w w' ∧ ∃ n : Int, e = .returned (.int .i64 n) ∧ decide (0 ≤ n) = b

set_option maxHeartbeats 1000000 in
theorem IndexBad_ok (v : Value) (l : List Int) (w : World) (hl : intR.slice.rd w Any [v] l) :
    Calls Try.prog 58 #[v, .func (.func 57) #[] #[]] w (NegQ (!l.all elOK) w) := by
  obtain ⟨ad, cap, rfl, l1, l2, el⟩ := ints hl
  unfold maxLen at l2
  have HE := hid el; clear el hl
  have HN := hid (fun (j : Nat) (hj : j < l.length) (h : elOK l[j] = false) => (show (!l.all elOK) = true by rw [Bool.not_eq_true', List.all_eq_false]; exact ⟨_, List.getElem_mem hj, by rw [h]; simp⟩))
  have HP := hid (fun (h : ∀ j (hj : j < l.length), elOK l[j] = true) => (show (!l.all elOK) = false by
    rw [Bool.not_eq_false', List.all_eq_true]; intro x hx; obtain ⟨j, hj, rfl⟩ := List.getElem_of_mem hx; exact h j hj))
  generalize (!l.all elOK) = R at *
  go_enter Try.func58, Try.ntmps58
  go_wp2
  go_loopw [8] (fun i wr => ∃ k : Nat, k ≤ l.length ∧ i = .int .i64 k ∧ Ext w wr ∧ ∀ j (hj : j < l.length), j < k → elOK l[j] = true) (fun i _ => l.length - (intOf i).toNat)
  case atStart => exact ⟨0, by omega, rfl, Ext.rfl' _, fun p hp h => absurd h (by omega)⟩
  case round =>
    obtain ⟨k, hk, rfl, hx, hall⟩ := hrel
    have HA := hid hall; clear hall
    have HX := hid hx; clear hx
    by_cases hlt : k < l.length
    · obtain ⟨b, o, rfl, -, cu⟩ := HE.out k hlt
      have cu1 := HX.out.cell cu
      clear cu
      cases hok : elOK l[k] with
      | true =>
        have hB := fun W => Bad_ok l[k] W
        rw [hok] at hB
        have HB := hid hB; have HO := hid hok; clear hB hok
        go_wp2_with (go_at_call 57; refine (toRet (HB.out _)).mono ?_; rintro e w1 ⟨rfl, x1⟩; have HX1 := hid (HX.out.then x1); clear x1)
        go_roundw
        case rel =>
          refine ⟨k + 1, by omega, by go_num, HX1.out, fun j hj h => ?_⟩
          by_cases he : j = k
          · subst he; exact HO.out
          · exact HA.out j hj (by omega)
        case measure => simp [intOf]; omega
      | false =>
        have hB := fun W => Bad_ok l[k] W
        rw [hok] at hB
        have HB := hid hB; have HO := hid hok; clear hB hok
        go_wp2_with (go_at_call 57; refine (toRet (HB.out _)).mono ?_; rintro e w1 ⟨rfl, x1⟩; have HX1 := hid (HX.out.then x1); clear x1)
        go_ret
        exact ⟨HX1.out, k, rfl, by rw [HN.out k hlt HO.out]; simp⟩
    · go_wp2
      go_ret
      exact ⟨HX.out, -1, rfl, by rw [HP.out fun j hj => HA.out j hj (by omega)]; simp⟩

set_option maxHeartbeats 1000000 in
theorem ContBad_ok (v : Value) (l : List Int) (w : World) (hl : intR.slice.rd w Any [v] l) :
    Calls Try.prog 56 #[v, .func (.func 57) #[] #[]] w (Ret w (.bool (!l.all elOK))) := by
  have h := IndexBad_ok v l w hl
  generalize (!l.all elOK) = R at *
  have H := hid h; clear h hl
  go_enter Try.func56, Try.ntmps56
  go_wp2_with (go_at_call 58; refine H.out.mono ?_; rintro e w1 ⟨x1, n, rfl, hn⟩; have HN := hid hn; have HX := hid x1; clear hn x1)
  go_ret
  exact ⟨ret_bool HN.out, HX.out⟩

set_option maxRecDepth 100000 in
set_option maxHeartbeats 2000000 in
theorem WordValid_ok (v : Value) (wd : List (List Int)) (w : World) (hl : rowsR.rd w Any [v] wd) :
    Calls Try.prog 53 #[.agg #[v]] w (Ret w (.bool (wordOK wd))) := by
  obtain ⟨ad, cap, rfl, l1, l2, el⟩ := rows hl
  unfold maxLen at l2
  have HE := hid el; clear el hl
  have HN := hid (fun (j : Nat) (hj : j < wd.length) (h : rowOK wd.length j wd[j] = false) => wordOK_row hj h)
  have HP := hid (fun (h1 : 1 ≤ wd.length ∧ wd.length ≤ 16) (h : ∀ j (hj : j < wd.length), rowOK wd.length j wd[j] = true) => wordOK_mk h1 h)
  have HS := hid (fun (h1 : ¬ (1 ≤ wd.length ∧ wd.length ≤ 16)) => (show wordOK wd = false by simp only [wordOK, h1, decide_false, Bool.false_and]))
  generalize wordOK wd = R at *
  go_enter Try.func53, Try.ntmps53
  go_wp2
  go_loopw [12] (fun i wr => ∃ k : Nat, k ≤ wd.length ∧ i = .int .i64 k ∧ Ext w wr ∧ ∀ j (hj : j < wd.length), j < k → rowOK wd.length j wd[j] = true) (fun i _ => wd.length - (intOf i).toNat)
  case atStart => exact ⟨0, by omega, rfl, Ext.alloc _ _, fun p hp h => absurd h (by omega)⟩
  case round =>
    obtain ⟨k, hk, rfl, hx, hall⟩ := hrel
    have HA := hid hall; clear hall
    have HX := hid hx; clear hx
    by_cases hlt : k < wd.length
    · obtain ⟨b, o, a2, c2, rfl, r2, cu, hul⟩ := HE.out k hlt
      unfold maxLen at hul
      have cu1 := HX.out.cell cu
      have hC := fun W (h : Ext wr W) => ContBad_ok _ wd[k] W (Rdr.ext _ r2 (HX.out.then h))
      clear cu r2
      have hr : rowOK wd.length k wd[k] = (decide (wd[k].length = wd.length - k) && wd[k].all elOK) := rfl
      have HR := hid hr; clear hr
      by_cases h1 : wd[k].length = wd.length - k
      · have h1' : ((wd[k].length : Int) != (wd.length : Int) - k) = false := by simp; omega
        have H1 := hid h1; clear h1
        cases hok : wd[k].all elOK with
        | true =>
          rw [hok] at hC
          have HC := hid hC; have HO := hid hok; clear hC hok
          go_wp2_with (go_at_call 56; refine (HC.out _ (Below.refl _ _)).mono ?_; rintro e w1 ⟨rfl, x1⟩; have HX1 := hid (HX.out.then x1); clear x1)
          go_roundw
          case rel =>
            refine ⟨k + 1, by omega, by go_num, HX1.out, fun j hj h => ?_⟩
            by_cases he : j = k
            · subst he; rw [HR.out, HO.out]; simp [H1.out]
            · exact HA.out j hj (by omega)
          case measure => simp [intOf]; omega
        | false =>
          rw [hok] at hC
          have HC := hid hC; have HO := hid hok; clear hC hok
          go_wp2_with (go_at_call 56; refine (HC.out _ (Below.refl _ _)).mono ?_; rintro e w1 ⟨rfl, x1⟩; have HX1 := hid (HX.out.then x1); clear x1)
          go_ret
          exact ⟨ret_bool (HN.out k hlt (by rw [HR.out, HO.out]; simp)).symm, HX1.out⟩
      · have h1' : ((wd[k].length : Int) != (wd.length : Int) - k) = !false := by simp; omega
        have H1 := hid h1; clear h1 hC
        go_wp2
        go_ret
        exact ⟨ret_bool (HN.out k hlt (by rw [HR.out]; simp [H1.out])).symm, HX.out⟩
    · by_cases h1 : 1 ≤ wd.length
      · by_cases h2 : wd.length ≤ 16
        · go_wp2
          go_ret
          exact ⟨ret_bool (by rw [HP.out ⟨h1, h2⟩ fun j hj => HA.out j hj (by omega)]; simp; omega), HX.out⟩
        · go_wp2
          go_ret
          exact ⟨ret_bool (by rw [HS.out (by omega)]; simp; omega), HX.out⟩
      · go_wp2
        go_ret
        exact ⟨ret_bool (by rw [HS.out (by omega)]), HX.out⟩

set_option maxHeartbeats 1000000 in
theorem NotWord_ok (v : Value) (wd : List (List Int)) (w : World) (hl : rowsR.rd w Any [v] wd) :
    Calls Try.prog 52 #[.agg #[v]] w (Ret w (.bool (!wordOK wd))) := by
  obtain ⟨ad, cap, rfl⟩ := Rdr.slice_v hl
  have h := fun W (hx : Ext w W) => WordValid_ok _ wd W (Rdr.ext _ hl hx)
  generalize wordOK wd = R at *
  have H := hid h; clear h hl
  go_enter Try.func52, Try.ntmps52
  go_wp2_with (go_at_call 53; refine (H.out _ (Ext.alloc _ _)).mono ?_; rintro e w1 ⟨rfl, x1⟩; have HX := hid ((Ext.alloc _ _).then x1); clear x1)
  go_ret
  exact ⟨rfl, HX.out⟩

set_option maxHeartbeats 1000000 in
theorem IndexWord_ok (v : Value) (X : List (List (List Int))) (w : World) (hl : wordsR.rd w Any [v] X) :
    Calls Try.prog 55 #[v, .func (.func 52) #[] #[]] w (NegQ (!X.all wordOK) w) := by
  obtain ⟨ad, cap, rfl, l1, l2, el⟩ := rows hl
  unfold maxLen at l2
  have HE := hid el; clear el hl
  have HN := hid (fun (j : Nat) (hj : j < X.length) (h : wordOK X[j] = false) => (show (!X.all wordOK) = true by rw [Bool.not_eq_true', List.all_eq_false]; exact ⟨_, List.getElem_mem hj, by rw [h]; simp⟩))
  have HP := hid (fun (h : ∀ j (hj : j < X.length), wordOK X[j] = true) => (show (!X.all wordOK) = false by
    rw [Bool.not_eq_false', List.all_eq_true]; intro x hx; obtain ⟨j, hj, rfl⟩ := List.getElem_of_mem hx; exact h j hj))
  generalize (!X.all wordOK) = R at *
  go_enter Try.func55, Try.ntmps55
  go_wp2
  go_loopw [8] (fun i wr => ∃ k : Nat, k ≤ X.length ∧ i = .int .i64 k ∧ Ext w wr ∧ ∀ j (hj : j < X.length), j < k → wordOK X[j] = true) (fun i _ => X.length - (intOf i).toNat)
  case atStart => exact ⟨0, by omega, rfl, Ext.rfl' _, fun p hp h => absurd h (by omega)⟩
  case round =>
    obtain ⟨k, hk, rfl, hx, hall⟩ := hrel
    have HA := hid hall; clear hall
    have HX := hid hx; clear hx
    by_cases hlt : k < X.length
    · obtain ⟨b, o, a2, c2, rfl, r2, cu, hul⟩ := HE.out k hlt
      have cu1 := HX.out.cell cu
      have hB := fun W (h : Ext wr W) => NotWord_ok _ X[k] W (Rdr.ext _ r2 (HX.out.then h))
      clear cu r2
      cases hok : wordOK X[k] with
      | true =>
        rw [hok] at hB
        have HB := hid hB; have HO := hid hok; clear hB hok
        go_wp2_with (go_at_call 52; refine (HB.out _ (Below.refl _ _)).mono ?_; rintro e w1 ⟨rfl, x1⟩; have HX1 := hid (HX.out.then x1); clear x1)
        go_roundw
        case rel =>
          refine ⟨k + 1, by omega, by go_num, HX1.out, fun j hj h => ?_⟩
          by_cases he : j = k
          · subst he; exact HO.out
          · exact HA.out j hj (by omega)
        case measure => simp [intOf]; omega
      | false =>
        rw [hok] at hB
        have HB := hid hB; have HO := hid hok; clear hB hok
        go_wp2_with (go_at_call 52; refine (HB.out _ (Below.refl _ _)).mono ?_; rintro e w1 ⟨rfl, x1⟩; have HX1 := hid (HX.out.then x1); clear x1)
        go_ret
        exact ⟨HX1.out, k, rfl, by rw [HN.out k hlt HO.out]; simp⟩
    · go_wp2
      go_ret
      exact ⟨HX.out, -1, rfl, by rw [HP.out fun j hj => HA.out j hj (by omega)]; simp⟩

set_option maxHeartbeats 1000000 in
theorem ContWord_ok (v : Value) (X : List (List (List Int))) (w : World) (hl : wordsR.rd w Any [v] X) :
    Calls Try.prog 51 #[v, .func (.func 52) #[] #[]] w (Ret w (.bool (!X.all wordOK))) := by
  have h := IndexWord_ok v X w hl
  generalize (!X.all wordOK) = R at *
  have H := hid h; clear h hl
  go_enter Try.func51, Try.ntmps51
  go_wp2_with (go_at_call 55; refine H.out.mono ?_; rintro e w1 ⟨x1, n, rfl, hn⟩; have HN := hid hn; have HX := hid x1; clear hn x1)
  go_ret
  exact ⟨ret_bool HN.out, HX.out⟩

set_option maxHeartbeats 1000000 in
theorem PValid_ok (v : Value) (X : List (List (List Int))) (width : Int) (w : World) (hl : wordsR.rd w Any [v] X) (hwi : I64 width) :
    Calls Try.prog 37 #[v, .int .i64 width] w (Ret w (.bool (validB X width))) := by
  obtain ⟨ad, cap, rfl, l1, l2, -⟩ := rows hl
  unfold maxLen at l2
  obtain ⟨wi1, wi2⟩ := hwi
  have hC := ContWord_ok _ X w hl
  have hv : validB X width = (decide (X.length ≤ 512) && decide (1 ≤ width ∧ width ≤ 512) && X.all wordOK) := rfl
  have HC := hid hC; have HV := hid hv; clear hC hv hl
  generalize validB X width = R at *
  generalize X.all wordOK = C at *
  by_cases c1 : X.length ≤ 512
  · by_cases c2 : 1 ≤ width
    · by_cases c3 : width ≤ 512
      · go_enter Try.func37, Try.ntmps37
        go_wp2_with (go_at_call 51; refine HC.out.mono ?_; rintro e w1 ⟨rfl, x1⟩; have HX := hid x1; clear x1)
        go_ret
        exact ⟨ret_bool (by rw [HV.out]; simp [c1, c2, c3]), HX.out⟩
      · go_enter Try.func37, Try.ntmps37
        go_wp2
        go_ret
        exact ⟨ret_bool (by rw [HV.out, decide_eq_false (show ¬ (1 ≤ width ∧ width ≤ 512) from by omega)]; simp), Ext.rfl' _⟩
    · go_enter Try.func37, Try.ntmps37
      go_wp2
      go_ret
      exact ⟨ret_bool (by rw [HV.out, decide_eq_false (show ¬ (1 ≤ width ∧ width ≤ 512) from by omega)]; simp), Ext.rfl' _⟩
  · go_enter Try.func37, Try.ntmps37
    go_wp2
    go_ret
    exact ⟨ret_bool (by rw [HV.out]; simp [c1]), Ext.rfl' _⟩
end Go.Proofs.Ytehelanfgepcmaa
