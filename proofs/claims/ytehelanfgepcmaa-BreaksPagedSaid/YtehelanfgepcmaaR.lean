import Derived.Test.YtehelanfgepcmaaQ
set_option linter.unusedSimpArgs false
set_option linter.unusedVariables false
set_option linter.unusedSectionVars false
namespace Go.Proofs.Ytehelanfgepcmaa
open Go.RowKit Dac

/-- The lines from f that fit and end behind cur, with their widths. -/
def restL (X : List (List (List Int))) (width : Int) (f cur : Place) : List (Place × Int) :=
  (laters X (rem X cur) cur).filterMap fun t => if width < sizeL X f t then none else some (t, sizeL X f t)
def linesX (X : List (List (List Int))) (width : Int) (f : Place) : List (Place × Int) := restL X width f f

theorem rest_step {X : List (List (List Int))} {width : Int} {f cur : Place} (hV : VW X) (h : Pl X cur) :
    restL X width f cur = (if width < sizeL X f (next X cur) then [] else [(next X cur, sizeL X f (next X cur))]) ++ restL X width f (next X cur) := by
  obtain ⟨h1, h2, h3⟩ := next_ok hV h
  unfold restL
  rw [← h3, laters, List.filterMap_cons]
  split <;> split <;> simp_all
theorem rest_end (X : List (List (List Int))) (width : Int) (f : Place) : restL X width f (endP X) = [] := by
  unfold restL; rw [rem_end]; rfl

theorem sumS_mono {X : List (List (List Int))} (hV : VW X) {q : Nat} {s : Int} {n : Nat} : ∀ d, q + (n + d) ≤ X.length → sumS X q s n ≤ sumS X q s (n + d)
  | 0, _ => by simp
  | d + 1, h => by
    have ih := sumS_mono (q := q) (s := s) (n := n) hV d (by omega)
    have hp : q + (n + d) < X.length := by omega
    have h1 := hV.elem (j := (rowAt X (q + (n + d)) 0).length - 1) hp (Nat.lt_of_lt_of_le Nat.zero_lt_one (hV.2 _ hp).1)
    rw [← Nat.add_assoc, sumS, lastW]
    omega
theorem rest_over {X : List (List (List Int))} {width : Int} {f : Place} (hV : VW X) {q : Nat} (hq : f.1 < q) (hqX : q ≤ X.length) (h : width < sizeL X f (q, 0)) : restL X width f (q, 0) = [] := by
  unfold restL
  rw [List.filterMap_eq_nil_iff]
  intro t ht
  have hE : En X (q, 0) := by
    by_cases h0 : q = X.length
    · exact .inl ⟨h0, rfl⟩
    · have hq' : q < X.length := by omega
      exact .inr ⟨hq', Nat.lt_of_lt_of_le Nat.zero_lt_one (hV.2 _ hq').1⟩
  obtain ⟨h1, h2⟩ := laters_mem hV _ _ hE rfl t ht
  obtain ⟨p, i⟩ := f
  obtain ⟨r, j⟩ := t
  dsimp only at hq
  have hqr : q ≤ r := by rcases h1 with h | ⟨h, _⟩ <;> dsimp only at h <;> omega
  have hrX : r ≤ X.length := by rcases h2 with ⟨h, _⟩ | ⟨h, _⟩ <;> dsimp only at h <;> omega
  have hs : sizeL X (p, i) (q, 0) = sumS X (p + 1) (lastW (rowAt X p i)) (q - p - 1) := by simp only [sizeL, if_neg (show ¬ p = q by omega), ↓reduceIte]
  rw [hs] at h
  have hm := sumS_mono (q := p + 1) (s := lastW (rowAt X p i)) (n := q - p - 1) hV (r - q) (by omega)
  rw [show q - p - 1 + (r - q) = r - p - 1 from by omega] at hm
  have : width < sizeL X (p, i) (r, j) := by
    simp only [sizeL, if_neg (show ¬ p = r by omega)]
    split
    · omega
    · rename_i hj
      rcases h2 with ⟨_, h2⟩ | ⟨h3, h4⟩
      · exact absurd h2 hj
      · have := hV.elem (j := j - 1) h3 (Nat.lt_of_lt_of_le Nat.zero_lt_one (hV.2 _ h3).1)
        dsimp only at this
        omega
  rw [if_pos this]

theorem next_in {X : List (List (List Int))} {p i : Nat} (hp : p < X.length) (h : i + 1 < X[p].length) : next X (p, i) = (p, i + 1) := by
  have hg : X.getD p [] = X[p] := by simp [hp]
  simp only [next, hg, if_pos h]
theorem next_out {X : List (List (List Int))} {p i : Nat} (hp : p < X.length) (h : i + 1 = X[p].length) : next X (p, i) = (p + 1, 0) := by
  have hg : X.getD p [] = X[p] := by simp [hp]
  simp only [next, hg, if_neg (show ¬ i + 1 < X[p].length by omega)]

/-- The width of the whole words of a line from f before word q. -/
def sumTo (X : List (List (List Int))) (f : Place) (q : Nat) : Int := if q = f.1 then 0 else sumS X (f.1 + 1) (lastW (rowAt X f.1 f.2)) (q - f.1 - 1) + 1
/-- Where the line's part of word q begins. -/
def firstOf (f : Place) (q : Nat) : Nat := if q = f.1 then f.2 else 0
theorem size_in {X : List (List (List Int))} {f : Place} {q k : Nat} (hq : f.1 ≤ q) : sizeL X f (q, firstOf f q + k + 1) = sumTo X f q + (rowAt X q (firstOf f q)).getD k 0 + 1 := by
  obtain ⟨p, i⟩ := f
  simp only [sizeL, sumTo, firstOf]
  by_cases h : p = q
  · subst h; simp only [↓reduceIte]; rw [show i + k + 1 - i - 1 = k from by omega]; omega
  · rw [if_neg h, if_neg (show ¬ q = p by omega), if_neg (show ¬ q = p by omega), if_neg (by omega)]
    rw [show 0 + k + 1 - 1 = k from by omega]
theorem size_out {X : List (List (List Int))} {f : Place} {q : Nat} (hq : f.1 ≤ q) : sizeL X f (q + 1, 0) = sumTo X f q + lastW (rowAt X q (firstOf f q)) := by
  obtain ⟨p, i⟩ := f
  dsimp only at hq
  simp only [sizeL, sumTo, firstOf]
  rw [if_neg (show ¬ p = q + 1 by omega)]
  simp only [↓reduceIte]
  by_cases h : q = p
  · subst h; simp only [↓reduceIte]
    rw [show q + 1 - q - 1 = 0 from by omega, sumS]; omega
  · rw [if_neg h, if_neg h, show q + 1 - p - 1 = (q - p - 1) + 1 from by omega, sumS, show p + 1 + (q - p - 1) = q from by omega]
theorem sumTo_next {X : List (List (List Int))} {f : Place} {q : Nat} (hq : f.1 ≤ q) : sumTo X f (q + 1) = sizeL X f (q + 1, 0) + 1 := by
  obtain ⟨p, i⟩ := f
  dsimp only at hq
  simp only [sizeL, sumTo]
  rw [if_neg (show ¬ q + 1 = p by omega), if_neg (show ¬ p = q + 1 by omega)]
  simp only [↓reduceIte]
end Go.Proofs.Ytehelanfgepcmaa
