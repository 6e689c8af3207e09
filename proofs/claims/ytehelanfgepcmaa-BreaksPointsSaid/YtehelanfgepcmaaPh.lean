/- Spoilt words hold numbers of 64 bits. -/
import Derived.Test.YtehelanfgepcmaaPg
set_option linter.unusedSimpArgs false
set_option linter.unusedVariables false
set_option linter.unusedSectionVars false
namespace Go.Proofs.Ytehelanfgepcmaa
open Go.RowKit Dak
theorem getD0_I64 {x : List (List Int)} (hx : ∀ r ∈ x, I64s r) : I64s (x.getD 0 []) := by
  intro n hn
  cases x with
  | nil => cases hn
  | cons a l => exact hx a (by simp) n hn
theorem spoilW_I64 {x : List (List Int)} (how by_ : Int) (hx : ∀ r ∈ x, I64s r) (hb : I64 by_) : ∀ r ∈ spoilW x how by_, I64s r := by
  intro r hr
  unfold spoilW at hr
  have h4 := aroundL_bd by_ 4 (by omega)
  split at hr
  · exact hx r (List.mem_of_mem_take hr)
  · split at hr
    · rcases List.mem_append.1 hr with h | h
      · exact hx r h
      · intro n hn
        rw [List.mem_singleton.1 h] at hn
        rw [List.mem_singleton.1 hn]; exact hb
    · split at hr
      · rcases List.mem_or_eq_of_mem_set hr with h | rfl
        · exact hx r h
        · intro n hn
          rcases List.mem_or_eq_of_mem_set hn with h | rfl
          · exact getD0_I64 hx n h
          · rcases (by omega : aroundL by_ 4 = 0 ∨ aroundL by_ 4 = 1 ∨ aroundL by_ 4 = 2 ∨ aroundL by_ 4 = 3) with g | g | g | g <;> rw [g]
            · exact (show I64 (-1) from ⟨by decide, by decide⟩)
            · exact (show I64 4096 from ⟨by decide, by decide⟩)
            · exact (show I64 4097 from ⟨by decide, by decide⟩)
            · exact hb
      · rcases List.mem_or_eq_of_mem_set hr with h | rfl
        · exact hx r h
        · intro n hn
          rcases List.mem_append.1 hn with h | h
          · exact getD0_I64 hx n h
          · rw [List.mem_singleton.1 h]; exact ⟨by decide, by decide⟩
theorem spoiltL_I64 {X : List (List (List Int))} (at_ how by_ : Int) (hX : I64w X) (hb : I64 by_) : I64w (spoiltL X at_ how by_) := by
  unfold spoiltL
  split
  · intro x hx r hr
    rw [List.mem_singleton.1 hx] at hr; cases hr
  · intro x hx
    rcases List.mem_or_eq_of_mem_set hx with h | rfl
    · exact hX x h
    · refine spoilW_I64 how by_ ?_ hb
      intro r hr
      rw [List.getD_eq_getElem?_getD] at hr
      cases h : X[(aroundL at_ X.length).toNat]? with
      | none => rw [h] at hr; cases hr
      | some y => rw [h] at hr; exact hX y (List.mem_of_getElem? h) r hr
theorem spoiltL_len (X : List (List (List Int))) (at_ how by_ : Int) (h : X.length ≤ 1000) : (spoiltL X at_ how by_).length ≤ 1000 := by
  unfold spoiltL
  split
  · simp
  · simpa using h
end Go.Proofs.Ytehelanfgepcmaa
