/- What the generator gives. -/
import Derived.Test.YtehelanfgepcmaaPf
set_option linter.unusedSimpArgs false
set_option linter.unusedVariables false
set_option linter.unusedSectionVars false
namespace Go.Proofs.Ytehelanfgepcmaa
open Go.RowKit Dak
theorem rowGo_len (l : List Int) (w : Nat) : ∀ (d k : Nat) (s : Int), (rowGo l w d k s).length = d
  | 0, _, _ => rfl
  | d + 1, k, s => by rw [rowGo]; simp [rowGo_len l w d]
theorem rowGo_bd (l : List Int) (w : Nat) : ∀ (d k : Nat) (s : Int), 0 ≤ s → ∀ n ∈ rowGo l w d k s, 0 ≤ n ∧ n ≤ 6 + s + 5 * d
  | 0, _, _, _, n, hn => by cases hn
  | d + 1, k, s, hs, n, hn => by
    have a1 := atL_bd l (4 + 4 * w + k) 6 (by omega)
    have a2 := atL_bd l (2 + 4 * w + k) 4 (by omega)
    rw [rowGo] at hn
    generalize hs' : (if atL l (3 + 4 * w) 7 = 0 then atL l (4 + 4 * w + k) 6 else s + 1 + atL l (2 + 4 * w + k) 4) = s' at hn
    have h1 : 0 ≤ s' ∧ s' ≤ s + 5 := by
      rw [← hs']; split <;> omega
    rcases List.mem_cons.1 hn with rfl | h
    · omega
    · have := rowGo_bd l w d (k + 1) s' h1.1 n h
      omega
/-- A word of the generator. -/
structure GenW (x : List (List Int)) : Prop where
  pos : 1 ≤ x.length
  le : x.length ≤ 3
  row : ∀ r ∈ x, r.length ≤ 3
  num : ∀ r ∈ x, ∀ n ∈ r, 0 ≤ n ∧ n ≤ 100
  fst : 1 ≤ (x.getD 0 []).length
theorem wordL_ok (l : List Int) (w : Nat) : GenW (wordL l w) := by
  have hp := pieces_bd l w
  refine ⟨by simp [wordL]; omega, by simp [wordL]; omega, fun r hr => ?_, fun r hr n hn => ?_, ?_⟩
  · obtain ⟨i, hi, rfl⟩ := List.mem_map.1 hr
    rw [rowGo_len]; omega
  · obtain ⟨i, hi, rfl⟩ := List.mem_map.1 hr
    have := rowGo_bd l w _ i 0 (by omega) n hn
    omega
  · have h0 : 0 < (wordL l w).length := by simp [wordL]; omega
    rw [List.getD_eq_getElem?_getD, List.getElem?_eq_getElem h0]
    simp [wordL, rowGo_len]; omega
theorem wordsL_ok (l : List Int) (most : Int) (h : 0 ≤ most) : ((wordsL l most).length : Int) ≤ most ∧ ∀ x ∈ wordsL l most, GenW x := by
  have := atL_bd l 0 (most + 1) (by omega)
  refine ⟨by simp [wordsL]; omega, fun x hx => ?_⟩
  obtain ⟨i, hi, rfl⟩ := List.mem_map.1 hx
  exact wordL_ok l i
theorem GenW.I64 {x : List (List Int)} (h : GenW x) : ∀ r ∈ x, I64s r := fun r hr n hn => by have := h.num r hr n hn; unfold Ytehelanfgepcmaa.I64; omega
theorem wordsL_I64 (l : List Int) (most : Int) (h : 0 ≤ most) : I64w (wordsL l most) := fun x hx => ((wordsL_ok l most h).2 x hx).I64
theorem endsGo_len (X : List (List (List Int))) (width : Int) (K : List (List Int)) : ∀ (n : Nat) (f : Place), (endsGo X width K n f).length ≤ n
  | 0, _ => Nat.le_refl _
  | n + 1, f => by
    rw [endsGo]
    split
    · simp
    · split
      · have := endsGo_len X width K n
        simp only [List.length_cons]; exact Nat.succ_le_succ (this _)
      · simp
theorem fillM_len (X : List (List (List Int))) (width : Int) : (fillM X width).2.1.length ≤ 1000000 ∧ (fillM X width).2.2.length ≤ 1000000 ∧ ∀ x ∈ (fillM X width).2.2, x.length ≤ 1000000 := by
  unfold fillM
  by_cases hv : validB X width = true
  · rw [if_pos hv]
    obtain ⟨hV, hw⟩ := validB_VW hv
    have hT := (tableL_tab (width := width) hV hw).1
    dsimp only
    split
    · simp
    · refine ⟨?_, ?_, ?_⟩
      · have h1 := endsGo_len X width (tableL X width) (rem X (0, 0)) (0, 0)
        have h2 := rem_le hV (0, 0)
        simp only [toI, List.length_map]; omega
      · have := hT.1; have := hV.1
        show (tableL X width).length ≤ _
        omega
      · intro x hx
        have hx' : x ∈ tableL X width := hx
        obtain ⟨p, hp, rfl⟩ := List.getElem_of_mem hx'
        have h1 := hT.1
        have h2 := hT.2 p (by omega) hp
        have h3 := (hV.2 p (by omega)).2.1
        omega
  · rw [if_neg hv]; simp
end Go.Proofs.Ytehelanfgepcmaa
