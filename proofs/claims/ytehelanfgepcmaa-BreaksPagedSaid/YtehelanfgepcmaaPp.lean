/- Pages: the plain law. Going on as far as a page allows gives the fewest pages. -/
import Derived.Test.YtehelanfgepcmaaPc
set_option linter.unusedSimpArgs false
set_option linter.unusedVariables false
set_option linter.unusedSectionVars false
namespace Go.Proofs.Ytehelanfgepcmaa
open Go.RowKit
/-- A page can begin ahead of line k. -/
def beg (K : List Bool) (k : Nat) : Bool := decide (k = K.length) || !(K.getD k false)
/-- From a line on back to one where a page can begin, or to the page's own first line. -/
def backL (K : List Bool) (a : Nat) : Nat → Nat
  | 0 => 0
  | m + 1 => if m + 1 < K.length ∧ a < m + 1 ∧ K.getD (m + 1) false = true then backL K a m else m + 1
theorem backL_ok (K : List Bool) (a : Nat) : ∀ m, a ≤ m → m ≤ K.length → a ≤ backL K a m ∧ backL K a m ≤ m ∧ (a < backL K a m → beg K (backL K a m) = true) ∧ ∀ k, a < k → k ≤ m → beg K k = true → k ≤ backL K a m
  | 0, h, _ => ⟨h, Nat.le_refl _, fun h2 => by simp [backL] at h2, fun k h1 h2 => by omega⟩
  | m + 1, h, hm => by
    rw [backL]
    split
    · rename_i hc
      obtain ⟨h1, h2, h3, h4⟩ := backL_ok K a m (by omega) (by omega)
      refine ⟨h1, by omega, h3, fun k k1 k2 k3 => ?_⟩
      by_cases e : k = m + 1
      · subst e
        have : ¬ m + 1 = K.length := by omega
        rw [beg, hc.2.2] at k3
        simp [this] at k3
      · exact h4 k k1 (by omega) k3
    · rename_i hc
      refine ⟨h, Nat.le_refl _, fun h2 => ?_, fun k _ h2 _ => h2⟩
      unfold beg
      rw [Bool.or_eq_true]
      by_cases e : m + 1 = K.length
      · exact .inl (by simpa using e)
      · right
        cases hk : K.getD (m + 1) false with
        | false => rfl
        | true => exact absurd ⟨by omega, h2, hk⟩ hc
def farL (K : List Bool) (lines a : Nat) : Nat := backL K a (min (a + lines) K.length)
/-- breaks.Pages, from a line on. -/
def pagesGo (K : List Bool) (lines : Nat) : Nat → Nat → Option (List Nat)
  | 0, _ => some []
  | f + 1, a => if a < K.length then if farL K lines a = a then none else (pagesGo K lines f (farL K lines a)).map (a :: ·) else some []
/-- dactylref11.Pages: the least number of pages from line i on, if those of m lines behind it are looked at. -/
def bestGo (K : List Bool) (t : Nat → Int) (i : Nat) : Nat → Int
  | 0 => -1
  | m + 1 => if beg K (i + m + 1) = true ∧ 0 ≤ t (i + m + 1) ∧ (bestGo K t i m < 0 ∨ t (i + m + 1) + 1 < bestGo K t i m) then t (i + m + 1) + 1 else bestGo K t i m
structure IsLeast (K : List Bool) (lines : Nat) (t : Nat → Int) : Prop where
  last : t K.length = 0
  best : ∀ i, i < K.length → t i = bestGo K t i (min lines (K.length - i))
theorem best_ex {K : List Bool} {t : Nat → Int} {i : Nat} : ∀ m, (bestGo K t i m = -1 ∨ ∃ k, i < k ∧ k ≤ i + m ∧ beg K k = true ∧ 0 ≤ t k ∧ bestGo K t i m = t k + 1)
  | 0 => .inl rfl
  | m + 1 => by
    rw [bestGo]
    split
    · rename_i h
      exact .inr ⟨i + m + 1, by omega, by omega, h.1, h.2.1, rfl⟩
    · rcases best_ex (K := K) (t := t) (i := i) m with h | ⟨k, h1, h2, h3⟩
      · exact .inl h
      · exact .inr ⟨k, h1, by omega, h3⟩
theorem best_le {K : List Bool} {t : Nat → Int} {i : Nat} : ∀ m k, i < k → k ≤ i + m → beg K k = true → 0 ≤ t k → 0 ≤ bestGo K t i m ∧ bestGo K t i m ≤ t k + 1
  | 0, k, h1, h2, _, _ => by omega
  | m + 1, k, h1, h2, h3, h4 => by
    rw [bestGo]
    by_cases e : k = i + m + 1
    · subst e
      split
      · omega
      · rename_i hc
        have : ¬ (bestGo K t i m < 0 ∨ t (i + m + 1) + 1 < bestGo K t i m) := fun h => hc ⟨h3, h4, h⟩
        omega
    · have ih := best_le m k h1 (by omega) h3 h4
      split
      · omega
      · exact ih
section
variable {K : List Bool} {lines : Nat} {t : Nat → Int} (hT : IsLeast K lines t)
include hT
theorem IsLeast.le : ∀ d i, i + d = K.length → -1 ≤ t i ∧ (0 ≤ t i → ∀ j, i ≤ j → j ≤ K.length → 0 ≤ t j ∧ t j ≤ t i) := by
  intro d
  induction d using Nat.strongRecOn with
  | ind d ih =>
    intro i hi
    by_cases hn : i = K.length
    · subst hn
      have := hT.last
      exact ⟨by omega, fun _ j h1 h2 => by have e : j = K.length := (by omega); rw [e]; omega⟩
    have hb := hT.best i (by omega)
    rcases best_ex (K := K) (t := t) (i := i) (min lines (K.length - i)) with h | ⟨k, k1, k2, k3, k4, k5⟩
    · exact ⟨by omega, fun h0 => by omega⟩
    · refine ⟨by omega, fun h0 j j1 j2 => ?_⟩
      by_cases ej : j = i
      · subst ej; exact ⟨h0, Int.le_refl _⟩
      by_cases hjk : k ≤ j
      · obtain ⟨_, h⟩ := ih (K.length - k) (by omega) k (by omega)
        have := h k4 j hjk j2
        omega
      · have hb2 := hT.best j (by omega)
        have := best_le (K := K) (t := t) (i := j) (min lines (K.length - j)) k (by omega) (by omega) k3 k4
        omega
theorem IsLeast.far {i : Nat} (hi : i < K.length) (h0 : 0 ≤ t i) : i < farL K lines i ∧ farL K lines i ≤ K.length ∧ farL K lines i ≤ i + lines ∧ beg K (farL K lines i) = true ∧ t (farL K lines i) = t i - 1 ∧ ∀ k, farL K lines i < k → k ≤ min (i + lines) K.length → beg K k = false := by
  have hb := hT.best i hi
  rcases best_ex (K := K) (t := t) (i := i) (min lines (K.length - i)) with h | ⟨k, k1, k2, k3, k4, k5⟩
  · omega
  obtain ⟨b1, b2, b3, b4⟩ := backL_ok K i (min (i + lines) K.length) (by omega) (by omega)
  have hk := b4 k k1 (by omega) k3
  unfold farL
  generalize backL K i (min (i + lines) K.length) = g at *
  have hm := (hT.le (K.length - k) k (by omega)).2 k4 g hk (by omega)
  have hg := best_le (K := K) (t := t) (i := i) (min lines (K.length - i)) g (by omega) (by omega) (b3 (by omega)) hm.1
  refine ⟨by omega, by omega, by omega, b3 (by omega), by omega, fun k' h1 h2 => ?_⟩
  cases hbk : beg K k' with
  | false => rfl
  | true => have := b4 k' (by omega) h2 hbk; omega
/-- Where breaks.Pages comes through, there are pages. -/
theorem IsLeast.some : ∀ f a l, pagesGo K lines f a = some l → a ≤ K.length → K.length - a ≤ f → 0 ≤ t a ∧ (l.length : Int) = t a
  | 0, a, l, h, h1, h2 => by
    obtain rfl : a = K.length := by omega
    simp [pagesGo] at h
    subst h
    have := hT.last
    simp; omega
  | f + 1, a, l, h, h1, h2 => by
    rw [pagesGo] at h
    by_cases ha : a < K.length
    · rw [if_pos ha] at h
      split at h
      · cases h
      · rename_i hne
        obtain ⟨b1, b2, b3, b4⟩ := backL_ok K a (min (a + lines) K.length) (by omega) (by omega)
        unfold farL at hne h
        cases hg : pagesGo K lines f (backL K a (min (a + lines) K.length)) with
        | none => rw [hg] at h; cases h
        | some l' =>
          rw [hg] at h
          simp only [Option.map_some, Option.some.injEq] at h
          subst h
          obtain ⟨i1, i2⟩ := IsLeast.some f _ l' hg (by omega) (by omega)
          have hb := hT.best a ha
          have := best_le (K := K) (t := t) (i := a) (min lines (K.length - a)) (backL K a (min (a + lines) K.length)) (by omega) (by omega) (b3 (by omega)) i1
          have hf := hT.far ha (by omega)
          unfold farL at hf
          simp only [List.length_cons]
          omega
    · obtain rfl : a = K.length := by omega
      rw [if_neg (by omega)] at h
      simp at h; subst h
      have := hT.last
      simp; omega
theorem IsLeast.ex : ∀ f a, 0 ≤ t a → a ≤ K.length → K.length - a ≤ f → ∃ l, pagesGo K lines f a = Option.some l
  | 0, a, _, _, _ => ⟨[], rfl⟩
  | f + 1, a, h0, h1, h2 => by
    rw [pagesGo]
    by_cases ha : a < K.length
    · rw [if_pos ha]
      obtain ⟨f1, f2, f3, f4, f5, _⟩ := hT.far ha h0
      rw [if_neg (by omega)]
      have hn := (hT.le (K.length - a) a (by omega)).2 h0 (farL K lines a) (by omega) f2
      obtain ⟨l, hl⟩ := IsLeast.ex f (farL K lines a) hn.1 f2 (by omega)
      exact ⟨a :: l, by rw [hl]; rfl⟩
    · rw [if_neg ha]; exact ⟨[], rfl⟩
end
/-- dactylref11.Pages: where the next page begins, if m lines are looked at. -/
def nextUp (K : List Bool) (t : Nat → Int) (a : Nat) : Nat → Nat
  | 0 => a
  | m + 1 => if beg K (a + m + 1) = true ∧ t (a + m + 1) = t a - 1 then a + m + 1 else nextUp K t a m
theorem nextUp_far {K : List Bool} {t : Nat → Int} {a g : Nat} (h1 : beg K g = true) (h2 : t g = t a - 1) (h3 : a < g) : ∀ m, g ≤ a + m → (∀ k, g < k → k ≤ a + m → beg K k = false) → nextUp K t a m = g
  | 0, h, _ => by omega
  | m + 1, h, hk => by
    rw [nextUp]
    by_cases e : g = a + m + 1
    · subst e; rw [if_pos ⟨h1, h2⟩]
    · rw [if_neg (by rw [hk (a + m + 1) (by omega) (by omega)]; simp)]
      exact nextUp_far h1 h2 h3 m (by omega) fun k k1 k2 => hk k k1 (by omega)
theorem IsLeast.next {K : List Bool} {lines : Nat} {t : Nat → Int} (hT : IsLeast K lines t) {a : Nat} (ha : a < K.length) (h0 : 0 ≤ t a) : nextUp K t a (min lines (K.length - a)) = farL K lines a := by
  obtain ⟨f1, f2, f3, f4, f5, f6⟩ := hT.far ha h0
  exact nextUp_far f4 f5 f1 _ (by omega) fun k k1 k2 => f6 k k1 (by omega)
/-- The table, from the end on. -/
def tailT (K : List Bool) (lines : Nat) : Nat → List Int
  | 0 => [0]
  | d + 1 => bestGo K (fun k => (tailT K lines d).getD (k - (K.length - d)) 0) (K.length - (d + 1)) (min lines (d + 1)) :: tailT K lines d
theorem tailT_len (K : List Bool) (lines : Nat) : ∀ d, (tailT K lines d).length = d + 1
  | 0 => rfl
  | d + 1 => by rw [tailT, List.length_cons, tailT_len K lines d]
theorem bestGo_congr {K : List Bool} {t t' : Nat → Int} {i : Nat} : ∀ m, (∀ k, i < k → k ≤ i + m → t k = t' k) → bestGo K t i m = bestGo K t' i m
  | 0, _ => rfl
  | m + 1, h => by
    rw [bestGo, bestGo, bestGo_congr m fun k h1 h2 => h k h1 (by omega), h (i + m + 1) (by omega) (by omega)]
theorem tailT_get (K : List Bool) (lines : Nat) : ∀ d e, e ≤ d → ∀ j, j ≤ e → (tailT K lines d).getD (d - e + j) 0 = (tailT K lines e).getD j 0
  | 0, e, h, j, hj => by
    obtain rfl : e = 0 := by omega
    simp
  | d + 1, e, h, j, hj => by
    by_cases ee : e = d + 1
    · subst ee; simp
    · rw [tailT, show d + 1 - e + j = (d - e + j) + 1 by omega, List.getD_cons_succ]
      exact tailT_get K lines d e (by omega) j hj
def leastT (K : List Bool) (lines : Nat) (i : Nat) : Int := (tailT K lines K.length).getD i 0
theorem leastT_at (K : List Bool) (lines d : Nat) (hd : d ≤ K.length) (k : Nat) (h1 : K.length - d ≤ k) (h2 : k ≤ K.length) : (tailT K lines d).getD (k - (K.length - d)) 0 = leastT K lines k := by
  have := tailT_get K lines K.length d hd (k - (K.length - d)) (by omega)
  rw [show K.length - d + (k - (K.length - d)) = k by omega] at this
  exact this.symm
theorem leastT_ok (K : List Bool) (lines : Nat) : IsLeast K lines (leastT K lines) := by
  refine ⟨?_, fun i hi => ?_⟩
  · rw [← leastT_at K lines 0 (Nat.zero_le _) K.length (by omega) (Nat.le_refl _)]
    simp [tailT]
  · obtain ⟨d, hd⟩ : ∃ d, K.length = i + (d + 1) := ⟨K.length - i - 1, by omega⟩
    rw [← leastT_at K lines (d + 1) (by omega) i (by omega) (by omega)]
    rw [show i - (K.length - (d + 1)) = 0 by omega, tailT, List.getD_cons_zero, show K.length - (d + 1) = i by omega, show K.length - i = d + 1 by omega]
    refine bestGo_congr _ fun k h1 h2 => ?_
    exact leastT_at K lines d (by omega) k (by omega) (by omega)
/-- What Pages returns: the error and the pages. -/
def pagesM (K : List Bool) (lines : Int) : Int × List Nat :=
  if lines < 1 ∨ lines > 1000 ∨ K.length > 4096 then (1, []) else match pagesGo K lines.toNat K.length 0 with
    | some l => (0, l)
    | none => (14, [])
/-- Fewer lines where a page can begin: not fewer pages. -/
theorem least_mono {K K' : List Bool} {lines : Nat} {t t' : Nat → Int} (hl : K.length = K'.length) (hT : IsLeast K lines t) (hT' : IsLeast K' lines t') (hb : ∀ k, k ≤ K.length → beg K' k = true → beg K k = true) :
    ∀ d i, i + d = K.length → 0 ≤ t' i → 0 ≤ t i ∧ t i ≤ t' i := by
  intro d
  induction d using Nat.strongRecOn with
  | ind d ih =>
    intro i hi h0
    by_cases hn : i = K.length
    · subst hn
      have := hT.last
      omega
    have h2 := hT'.best i (by omega)
    rcases best_ex (K := K') (t := t') (i := i) (min lines (K'.length - i)) with h | ⟨k, k1, k2, k3, k4, k5⟩
    · omega
    · have i1 := ih (K.length - k) (by omega) k (by omega) k4
      have h3 := hT.best i (by omega)
      have := best_le (K := K) (t := t) (i := i) (min lines (K.length - i)) k k1 (by omega) (hb k (by omega) k3) i1.1
      omega
end Go.Proofs.Ytehelanfgepcmaa
