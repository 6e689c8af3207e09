import Derived.Test.YtehelanfgepcmaaK
set_option linter.unusedSimpArgs false
set_option linter.unusedVariables false
set_option linter.unusedSectionVars false
namespace Go.Proofs.Ytehelanfgepcmaa
open Go.RowKit Dac

def elOK (x : Int) : Bool := decide (0 ≤ x ∧ x ≤ 4096)
def rowOK (n i : Nat) (row : List Int) : Bool := decide (row.length = n - i) && row.all elOK
def wordOK (wd : List (List Int)) : Bool := decide (1 ≤ wd.length ∧ wd.length ≤ 16) && (List.range wd.length).all fun i => rowOK wd.length i (wd.getD i [])
def validB (X : List (List (List Int))) (width : Int) : Bool := decide (X.length ≤ 512) && decide (1 ≤ width ∧ width ≤ 512) && X.all wordOK

theorem rowOK_len {n i : Nat} {row : List Int} (h : row.length ≠ n - i) : rowOK n i row = false := by simp [rowOK, h]
theorem rowOK_el {n i j : Nat} {row : List Int} (hj : j < row.length) (h : elOK row[j] = false) : rowOK n i row = false := by
  rw [rowOK, Bool.and_eq_false_iff]; right
  rw [List.all_eq_false]; exact ⟨_, List.getElem_mem hj, by rw [h]; simp⟩
theorem wordOK_row {wd : List (List Int)} {i : Nat} (hi : i < wd.length) (h : rowOK wd.length i wd[i] = false) : wordOK wd = false := by
  rw [wordOK, Bool.and_eq_false_iff]; right
  rw [List.all_eq_false]; exact ⟨i, List.mem_range.2 hi, by simp [hi, h]⟩
theorem validB_word {X : List (List (List Int))} {width : Int} {p : Nat} (hp : p < X.length) (h : wordOK X[p] = false) : validB X width = false := by
  rw [validB, Bool.and_eq_false_iff]; right
  rw [List.all_eq_false]; exact ⟨_, List.getElem_mem hp, by rw [h]; simp⟩
theorem rowOK_mk {n i : Nat} {row : List Int} (h : row.length = n - i) (h2 : ∀ j (hj : j < row.length), elOK row[j] = true) : rowOK n i row = true := by
  simp only [rowOK, h, decide_true, Bool.true_and, List.all_eq_true]
  intro x hx
  obtain ⟨j, hj, rfl⟩ := List.getElem_of_mem hx
  exact h2 j hj
theorem wordOK_mk {wd : List (List Int)} (h : 1 ≤ wd.length ∧ wd.length ≤ 16) (h2 : ∀ i (hi : i < wd.length), rowOK wd.length i wd[i] = true) : wordOK wd = true := by
  simp only [wordOK, h, and_self, decide_true, Bool.true_and, List.all_eq_true, List.mem_range]
  intro i hi
  simp [hi, h2 i hi]
theorem validB_mk {X : List (List (List Int))} {width : Int} (h1 : X.length ≤ 512) (h2 : 1 ≤ width ∧ width ≤ 512) (h3 : ∀ p (hp : p < X.length), wordOK X[p] = true) : validB X width = true := by
  simp only [validB, h1, h2, and_self, decide_true, Bool.true_and, List.all_eq_true]
  intro x hx
  obtain ⟨j, hj, rfl⟩ := List.getElem_of_mem hx
  exact h3 j hj
theorem validB_VW {X : List (List (List Int))} {width : Int} (h : validB X width = true) : VW X ∧ 1 ≤ width ∧ width ≤ 512 := by
  simp only [validB, Bool.and_eq_true, decide_eq_true_eq, List.all_eq_true] at h
  obtain ⟨⟨h1, h2⟩, h3⟩ := h
  refine ⟨⟨h1, fun p hp => ?_⟩, h2⟩
  have hw := h3 _ (List.getElem_mem hp)
  simp only [wordOK, Bool.and_eq_true, decide_eq_true_eq, List.all_eq_true, List.mem_range] at hw
  refine ⟨hw.1.1, hw.1.2, fun i hi => ?_⟩
  have hr := hw.2 i hi
  simp only [List.getD_eq_getElem?_getD, List.getElem?_eq_getElem hi, Option.getD_some, rowOK, Bool.and_eq_true, decide_eq_true_eq, List.all_eq_true, elOK] at hr
  exact ⟨hr.1, hr.2⟩

set_option maxRecDepth 100000 in
set_option maxHeartbeats 4000000 in
theorem Valid_ok (v : Value) (X : List (List (List Int))) (width : Int) (w : World) (hX : wordsR.rd w Any [v] X) (hwi : I64 width) :
    Calls Try.prog 42 #[v, .int .i64 width] w (QRet w (.bool (validB X width))) := by
  obtain ⟨ad, cap, rfl, l1, l2, el⟩ := rows hX
  unfold maxLen at l2
  obtain ⟨wi1, wi2⟩ := hwi
  have HE := hid el; clear el hX
  by_cases c1 : X.length ≤ 512
  · by_cases c2 : width < 1
    · go_enter Try.func42, Try.ntmps42
      go_wp2
      go_ret
      exact ⟨ret_bool (by simp [validB]; omega), 0, rfl⟩
    · by_cases c3 : width ≤ 512
      · have HV := hid (fun h => validB_mk (X := X) c1 ⟨by omega, c3⟩ h)
        have HF := hid (fun p hp h => validB_word (X := X) (width := width) (p := p) hp h)
        generalize validB X width = R at HV HF
        go_enter Try.func42, Try.ntmps42
        go_wp2
        go_loop [5] (fun i => ∃ k : Nat, k ≤ X.length ∧ i = .int .i64 k ∧ ∀ p (hp : p < X.length), p < k → wordOK X[p] = true) (fun i => X.length - (intOf i).toNat)
        case atStart => exact ⟨0, by omega, rfl, fun p hp h => absurd h (by omega)⟩
        case round =>
          obtain ⟨k, hk, rfl, hall⟩ := hrel
          have HA := hid hall; clear hall
          by_cases hlt : k < X.length
          · obtain ⟨b, o, a2, c2', rfl, r2, cu, hul⟩ := HE.out k hlt
            unfold maxLen at hul
            have HR := hid r2; clear r2
            by_cases d1 : X[k].length < 1
            · go_wp2
              go_ret
              exact ⟨ret_bool (HF.out k hlt (by simp [wordOK]; omega)).symm, 0, rfl⟩
            · by_cases d2 : (16 : Int) < X[k].length
              · go_wp2
                go_ret
                exact ⟨ret_bool (HF.out k hlt (by simp [wordOK]; omega)).symm, 0, rfl⟩
              · obtain ⟨b2, o2, c2, hv2, l4, e2⟩ := rows_ne HR.out (by omega)
                simp only [Value.slice.injEq, true_and] at hv2
                obtain ⟨rfl, rfl⟩ := hv2
                have HE2 := hid e2; clear e2
                go_wp2
                go_loop [7] (fun i => ∃ q : Nat, q ≤ X[k].length ∧ i = .int .i64 q ∧ ∀ j (hj : j < X[k].length), j < q → rowOK X[k].length j X[k][j] = true) (fun i => X[k].length - (intOf i).toNat)
                case atStart => exact ⟨0, by omega, rfl, fun p hp h => absurd h (by omega)⟩
                case round =>
                  obtain ⟨q, hq, rfl, hall2⟩ := hrel
                  have HA2 := hid hall2; clear hall2
                  by_cases hlt2 : q < X[k].length
                  · obtain ⟨a3, c3, cu3, r3, l5⟩ := HE2.out q hlt2
                    by_cases e1 : X[k][q].length = X[k].length - q
                    · have e1' : ((X[k][q].length : Int) != (X[k].length : Int) - q) = false := by simp; omega
                      have HE1 := hid e1; clear e1
                      have HR3 := hid r3; clear r3
                      have hne : 0 < X[k][q].length := by rw [HE1.out]; omega
                      obtain ⟨b3, o3, c3, hv3, l6, e3⟩ := ints_ne HR3.out hne
                      simp only [Value.slice.injEq, true_and] at hv3
                      obtain ⟨rfl, rfl⟩ := hv3
                      have HE3 := hid e3; clear e3 hne
                      go_wp2
                      go_loop [8] (fun i => ∃ t : Nat, t ≤ X[k][q].length ∧ i = .int .i64 t ∧ ∀ j (hj : j < X[k][q].length), j < t → elOK X[k][q][j] = true) (fun i => X[k][q].length - (intOf i).toNat)
                      case atStart => exact ⟨0, by omega, rfl, fun p hp h => absurd h (by omega)⟩
                      case round =>
                        obtain ⟨t, ht, rfl, hall3⟩ := hrel
                        have HA3 := hid hall3; clear hall3
                        by_cases hlt3 : t < X[k][q].length
                        · have hlt4 : (t : Int) < (X[k].length : Int) - q := by have := HE1.out; omega
                          obtain ⟨-, cu4⟩ := HE3.out t hlt3
                          have HG := hid (show elOK X[k][q][t] = decide (0 ≤ X[k][q][t] ∧ X[k][q][t] ≤ 4096) from rfl)
                          by_cases f1 : X[k][q][t] < 0
                          · go_wp2
                            go_ret
                            exact ⟨ret_bool (HF.out k hlt (wordOK_row hlt2 (rowOK_el hlt3 (by rw [HG.out]; simp; omega)))).symm, 0, rfl⟩
                          · by_cases f2 : 4096 < X[k][q][t]
                            · go_wp2
                              go_ret
                              exact ⟨ret_bool (HF.out k hlt (wordOK_row hlt2 (rowOK_el hlt3 (by rw [HG.out]; simp; omega)))).symm, 0, rfl⟩
                            · go_wp2
                              go_round
                              case rel =>
                                refine ⟨t + 1, by omega, by go_num, fun j hj h => ?_⟩
                                by_cases he : j = t
                                · subst he; rw [HG.out]; simp; omega
                                · exact HA3.out j hj (by omega)
                              case measure => simp [intOf]; omega
                        · have hlt4 : ¬ (t : Int) < (X[k].length : Int) - q := by have := HE1.out; omega
                          go_wp2
                          go_round
                          case rel =>
                            refine ⟨q + 1, by omega, by go_num, fun j hj h => ?_⟩
                            by_cases he : j = q
                            · subst he; exact rowOK_mk HE1.out fun j hj => HA3.out j hj (by omega)
                            · exact HA2.out j hj (by omega)
                          case measure => simp [intOf]; omega
                    · have e1' : ((X[k][q].length : Int) != (X[k].length : Int) - q) = !false := by simp; omega
                      have HE1 := hid e1; clear e1
                      go_wp2
                      go_ret
                      exact ⟨ret_bool (HF.out k hlt (wordOK_row hlt2 (rowOK_len HE1.out))).symm, 0, rfl⟩
                  · go_wp2
                    go_round
                    case rel =>
                      refine ⟨k + 1, by omega, by go_num, fun j hj h => ?_⟩
                      by_cases he : j = k
                      · subst he; exact wordOK_mk ⟨by omega, by omega⟩ fun j hj => HA2.out j hj (by omega)
                      · exact HA.out j hj (by omega)
                    case measure => simp [intOf]; omega
          · go_wp2
            go_ret
            exact ⟨ret_bool (HV.out fun p hp => HA.out p hp (by omega)).symm, 0, rfl⟩
      · go_enter Try.func42, Try.ntmps42
        go_wp2
        go_ret
        exact ⟨ret_bool (by simp [validB]; omega), 0, rfl⟩
  · go_enter Try.func42, Try.ntmps42
    go_wp2
    go_ret
    exact ⟨ret_bool (by simp [validB]; omega), 0, rfl⟩
end Go.Proofs.Ytehelanfgepcmaa
