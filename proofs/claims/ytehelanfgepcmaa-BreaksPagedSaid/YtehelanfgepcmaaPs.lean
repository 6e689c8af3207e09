/- Lists of pages checked, by contract. -/
import Derived.Test.YtehelanfgepcmaaPr
set_option linter.unusedSimpArgs false
set_option linter.unusedVariables false
set_option linter.unusedSectionVars false
namespace Go.Proofs.Ytehelanfgepcmaa
open Go.RowKit Dak
/-- Where the page after page i begins. -/
def toOf (K : List Bool) (l : List Int) (i : Nat) : Int := if i + 1 < l.length then l.getD (i + 1) 0 else K.length
def fitsL (K : List Bool) (lines f t : Int) : Bool := decide (f < t) && (decide (t - f ≤ lines) && (decide (f = 0) || !(K.getD f.toNat false)))
/-- dactylref11.Paged, page i. -/
def refAt (K : List Bool) (lines : Int) (l : List Int) (i : Nat) : Bool := decide (0 ≤ l.getD i 0) && (decide (l.getD i 0 < K.length) && fitsL K lines (l.getD i 0) (toOf K l i))
/-- breaks.Paged, page i. -/
def brAt (K : List Bool) (lines : Int) (l : List Int) (i : Nat) : Bool :=
  (decide (i ≠ 0) || decide (l.getD i 0 = 0)) && (decide (0 ≤ l.getD i 0) && (decide (l.getD i 0 < K.length) && ((decide (i = 0) || !(K.getD (l.getD i 0).toNat false)) && (decide (l.getD i 0 < toOf K l i) && decide (toOf K l i - l.getD i 0 ≤ lines)))))
def pagedR (K : List Bool) (lines : Int) (l : List Int) : Int :=
  if (pagesM K lines).1 ≠ 0 then (pagesM K lines).1 else if l.length ≠ (pagesM K lines).2.length then 19
  else if 0 < l.length ∧ l.getD 0 0 ≠ 0 then 19 else if (List.range l.length).all (refAt K lines l) then 0 else 19
def pagedB (K : List Bool) (lines : Int) (l : List Int) : Int :=
  if (pagesM K lines).1 ≠ 0 then (pagesM K lines).1 else if l.length ≠ (pagesM K lines).2.length then 19
  else if (List.range l.length).all (brAt K lines l) then 0 else 19
theorem paged_eq (K : List Bool) (lines : Int) (l : List Int) : pagedB K lines l = pagedR K lines l := by
  unfold pagedB pagedR
  by_cases h1 : (pagesM K lines).1 ≠ 0
  · rw [if_pos h1, if_pos h1]
  rw [if_neg h1, if_neg h1]
  by_cases h2 : l.length ≠ (pagesM K lines).2.length
  · rw [if_pos h2, if_pos h2]
  rw [if_neg h2, if_neg h2]
  have key : (List.range l.length).all (brAt K lines l) = true ↔ ¬ (0 < l.length ∧ l.getD 0 0 ≠ 0) ∧ (List.range l.length).all (refAt K lines l) = true := by
    simp only [List.all_eq_true, List.mem_range, brAt, refAt, fitsL, Bool.and_eq_true, Bool.or_eq_true, decide_eq_true_eq]
    constructor
    · intro h
      refine ⟨fun ⟨h3, h4⟩ => ?_, fun i hi => ?_⟩
      · obtain ⟨h5, _⟩ := h 0 h3
        omega
      · obtain ⟨a, b, c, d, e, f⟩ := h i hi
        refine ⟨b, c, e, f, ?_⟩
        rcases d with d | d
        · left; omega
        · right; exact d
    · rintro ⟨h3, h⟩ i hi
      obtain ⟨b, c, e, f, d⟩ := h i hi
      refine ⟨?_, b, c, ?_, e, f⟩
      · by_cases hi0 : i = 0
        · subst hi0; right
          by_cases h5 : l.getD 0 0 = 0
          · exact h5
          · exact absurd ⟨hi, h5⟩ h3
        · left; exact hi0
      · by_cases hi0 : i = 0
        · left; exact hi0
        · rcases d with d | d
          · exfalso
            obtain ⟨b', _, e', _⟩ := h (i - 1) (by omega)
            rw [toOf, if_pos (by omega), show i - 1 + 1 = i by omega, d] at e'
            omega
          · right; exact d
  by_cases h3 : 0 < l.length ∧ l.getD 0 0 ≠ 0
  · rw [if_pos h3, if_neg (fun h => (key.1 h).1 h3)]
  · rw [if_neg h3]
    by_cases h4 : (List.range l.length).all (refAt K lines l) = true
    · rw [if_pos h4, if_pos (key.2 ⟨h3, h4⟩)]
    · rw [if_neg h4, if_neg (fun h => h4 (key.1 h).2)]
set_option maxRecDepth 100000 in
set_option maxHeartbeats 4000000 in
theorem Fits_s (K : List Bool) (lines f t : Int) (hf : 0 ≤ f ∧ f < K.length) (hK : K.length ≤ 1000000) (ht : I64 t) : Ctr Try.prog 45 [vbools K, vi lines, vi f, vi t] (vb (fitsL K lines f t)) := by
  obtain ⟨ht1, ht2⟩ := ht
  refine specE f45 (by simp) fun F0 w0 => ?_
  obtain ⟨i, rfl⟩ : ∃ i : Nat, f = i := ⟨f.toNat, by omega⟩
  have hi : i < K.length := by omega
  by_cases h1 : (i : Int) < t
  rotate_left
  · have : fitsL K lines i t = false := by simp [fitsL, h1]
    rw [this]
    simp only [c45, go_sem, List.replicate_succ, Nat.reducePow, Nat.reduceLeDiff, ↓reduceIte, reduceCtorEq, Nat.reduceLT, Nat.reduceEqDiff, Nat.reduceAdd, Nat.reduceSub, Nat.reduceMul, Int.reduceToNat, h1]
    exact .tree _ rfl
  have w1 : IntKind.i64.wrap (t - (i : Int)) = t - (i : Int) := wrap_id (by omega) (by omega)
  by_cases h2 : t - (i : Int) ≤ lines
  rotate_left
  · have : fitsL K lines i t = false := by simp [fitsL, h1, h2]
    rw [this]
    simp only [c45, go_sem, List.replicate_succ, Nat.reducePow, Nat.reduceLeDiff, ↓reduceIte, reduceCtorEq, Nat.reduceLT, Nat.reduceEqDiff, Nat.reduceAdd, Nat.reduceSub, Nat.reduceMul, Int.reduceToNat, h1, h2, w1]
    exact .tree _ rfl
  by_cases h3 : (i : Int) = 0
  · have h3' := eq_true h3
    have : fitsL K lines i t = true := by
      have : i = 0 := by omega
      subst this
      have h1' : (0 : Int) < t := h1
      have h2' : t ≤ lines := by simpa using h2
      simp [fitsL, h1', h2']
    rw [this]
    simp only [c45, go_sem, List.replicate_succ, Nat.reducePow, Nat.reduceLeDiff, ↓reduceIte, reduceCtorEq, Nat.reduceLT, Nat.reduceEqDiff, Nat.reduceAdd, Nat.reduceSub, Nat.reduceMul, Int.reduceToNat, h1, h2, h3', w1]
    exact .tree _ rfl
  · have g1 : (0 : Int) ≤ (i : Int) := by omega
    have g2 : (i : Int) < (K.length : Int) := by omega
    have h3' : ¬ i = 0 := by omega
    have : fitsL K lines i t = !K[i] := by simp [fitsL, h1, h2, h3', hi]
    rw [this]
    simp only [c45, go_sem, List.replicate_succ, Nat.reducePow, Nat.reduceLeDiff, ↓reduceIte, reduceCtorEq, Nat.reduceLT, Nat.reduceEqDiff, Nat.reduceAdd, Nat.reduceSub, Nat.reduceMul, Int.reduceToNat, h1, h2, h3, w1, g1, g2, List.getElem?_map, List.getElem?_eq_getElem hi]
    exact .tree _ rfl
end Go.Proofs.Ytehelanfgepcmaa
