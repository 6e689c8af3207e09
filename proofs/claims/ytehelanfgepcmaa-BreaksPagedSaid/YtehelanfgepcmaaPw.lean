/- The law BreaksPaged, by contract. -/
import Derived.Test.YtehelanfgepcmaaPu
import Derived.Test.YtehelanfgepcmaaPe
import Derived.Test.YtehelanfgepcmaaDz
set_option linter.unusedSimpArgs false
set_option linter.unusedVariables false
set_option linter.unusedSectionVars false
namespace Go.Proofs.Ytehelanfgepcmaa
open Go.RowKit Dak
theorem pagesAt_least {K : List Bool} {L : Nat} {t : Nat → Int} (hT : IsLeast K L t) : (0 ≤ t 0 ∧ ∃ l, pagesAt K L 0 = some l ∧ (l.length : Int) = t 0) ∨ (t 0 < 0 ∧ pagesAt K L 0 = none) := by
  by_cases h : 0 ≤ t 0
  · obtain ⟨l, hl⟩ := hT.ex (K.length - 0) 0 h (by omega) (by omega)
    exact .inl ⟨h, l, hl, (hT.some _ _ l hl (by omega) (by omega)).2⟩
  · refine .inr ⟨by omega, ?_⟩
    cases hp : pagesAt K L 0 with
    | none => rfl
    | some l => exact absurd (hT.some _ _ l hp (by omega) (by omega)).1 h
theorem backL_free (N a : Nat) : ∀ m, backL (List.replicate N false) a m = m
  | 0 => rfl
  | m + 1 => by
    rw [backL, if_neg]
    rintro ⟨h1, _, h3⟩
    rw [List.length_replicate] at h1
    simp [h1] at h3
/-- Without lines that belong to those before them: as many pages as needed. -/
theorem pages_free (N L : Nat) (hL : 1 ≤ L) : ∀ d a, a + d = N → ∃ l, pagesAt (List.replicate N false) L a = some l ∧ l.length = (d + L - 1) / L := by
  intro d
  induction d using Nat.strongRecOn with
  | ind d ih =>
    intro a ha
    by_cases hd : d = 0
    · subst hd
      refine ⟨[], pagesAt_end (by rw [List.length_replicate]; omega), ?_⟩
      rw [Nat.zero_add, Nat.div_eq_of_lt (by omega)]; rfl
    · have hf : farL (List.replicate N false) L a = min (a + L) N := by rw [farL, List.length_replicate, backL_free]
      rw [pagesAt_step (by rw [List.length_replicate]; omega), hf, if_neg (by omega)]
      obtain ⟨l, h1, h2⟩ := ih (N - min (a + L) N) (by omega) (min (a + L) N) (by omega)
      rw [h1]
      refine ⟨a :: l, rfl, ?_⟩
      rw [List.length_cons, h2]
      by_cases h3 : a + L ≤ N
      · rw [show min (a + L) N = a + L by omega, show d + L - 1 = (N - (a + L) + L - 1) + L by omega, Nat.add_div_right _ (by omega)]
      · rw [show min (a + L) N = N by omega, Nat.sub_self, Nat.zero_add, Nat.div_eq_of_lt (show L - 1 < L by omega), show d + L - 1 = (d - 1) + L by omega, Nat.add_div_right _ (by omega), Nat.div_eq_of_lt (by omega)]
/-- The pages that Pages returns are pages. -/
theorem pages_fit {K : List Bool} {L : Nat} : ∀ d a l, a + d = K.length → pagesAt K L a = some l → (d = 0 → l = []) ∧ (0 < d → l.head? = some a) ∧ ∀ i (h : i < l.length), l[i] < K.length ∧
    (0 < i → K.getD l[i] false = false) ∧ l[i] < (if i + 1 < l.length then l.getD (i + 1) 0 else K.length) ∧ (if i + 1 < l.length then l.getD (i + 1) 0 else K.length) ≤ l[i] + L := by
  intro d
  induction d using Nat.strongRecOn with
  | ind d ih =>
    intro a l ha hl
    by_cases hd : d = 0
    · rw [pagesAt_end (by omega)] at hl
      injection hl with hl
      subst hl
      exact ⟨fun _ => rfl, fun h => by omega, fun i h => absurd h (by simp)⟩
    · rw [pagesAt_step (by omega)] at hl
      split at hl
      · cases hl
      · rename_i hne
        obtain ⟨b1, b2, b3, b4⟩ := backL_ok K a (min (a + L) K.length) (by omega) (by omega)
        unfold farL at hne hl
        generalize backL K a (min (a + L) K.length) = g at *
        cases hg : pagesAt K L g with
        | none => rw [hg] at hl; cases hl
        | some l' =>
          rw [hg] at hl
          simp only [Option.map_some, Option.some.injEq] at hl
          subst hl
          obtain ⟨i1, i2, i3⟩ := ih (K.length - g) (by omega) g l' (by omega) hg
          have hto : (if 0 + 1 < (a :: l').length then (a :: l').getD (0 + 1) 0 else K.length) = g := by
            by_cases hgn : g = K.length
            · rw [i1 (by omega)]; simp [hgn]
            · have := i2 (by omega)
              cases l' with
              | nil => simp at this
              | cons y l' =>
                simp at this
                simp [this]
          refine ⟨fun h => absurd h hd, fun _ => rfl, fun i h => ?_⟩
          cases i with
          | zero =>
            rw [hto]
            simp only [List.getElem_cons_zero]
            exact ⟨by omega, fun h => absurd h (Nat.lt_irrefl _), by omega, by omega⟩
          | succ i =>
            have h' : i < l'.length := by simpa using h
            obtain ⟨j1, j2, j3, j4⟩ := i3 i h'
            have e : (if i + 1 + 1 < (a :: l').length then (a :: l').getD (i + 1 + 1) 0 else K.length) = if i + 1 < l'.length then l'.getD (i + 1) 0 else K.length := by
              simp
            rw [e]
            simp only [List.getElem_cons_succ]
            refine ⟨j1, fun _ => ?_, j3, j4⟩
            by_cases hi0 : 0 < i
            · exact j2 hi0
            · have hi0 : i = 0 := by omega
              subst hi0
              have hg' : g < K.length := by
                by_cases h9 : g < K.length
                · exact h9
                · rw [i1 (by omega)] at h'; simp at h'
              have := i2 (by omega)
              cases l' with
              | nil => simp at h'
              | cons y l' =>
                simp at this
                subst this
                have hb := b3 (by omega)
                simp only [List.getElem_cons_zero]
                have hne' : ¬ y = K.length := by omega
                rw [beg] at hb
                simpa [hne'] using hb
theorem pagedB_self {K : List Bool} {L : Nat} (h1 : 1 ≤ L) (h2 : L ≤ 1000) (h3 : K.length ≤ 4096) {A : List Nat} (hA : pagesAt K L 0 = some A) : pagedB K L (nI A) = 0 := by
  have hM := pagesM_ok (K := K) (L := L) rfl h1 h2 h3
  rw [hA] at hM
  obtain ⟨f1, f2, f3⟩ := pages_fit K.length 0 A (by omega) hA
  rw [pagedB, hM, if_neg (by simp), if_neg (by simp [nI]), if_pos]
  rw [List.all_eq_true]
  intro i hi
  have hi : i < A.length := by simpa [nI] using hi
  obtain ⟨g1, g2, g3, g4⟩ := f3 i hi
  have hx : (nI A).getD i 0 = (A[i] : Int) := by simp [nI, hi]
  have hto : toOf K (nI A) i = ((if i + 1 < A.length then A.getD (i + 1) 0 else K.length : Nat) : Int) := by
    unfold toOf
    by_cases h : i + 1 < A.length
    · rw [if_pos (by simpa [nI] using h), if_pos h]; simp [nI, h]
    · rw [if_neg (by simpa [nI] using h), if_neg h]
  generalize (if i + 1 < A.length then A.getD (i + 1) 0 else K.length) = to at *
  simp only [brAt, hx, hto, Bool.and_eq_true, Bool.or_eq_true, decide_eq_true_eq, Int.toNat_natCast]
  refine ⟨?_, by omega, by omega, ?_, by omega, by omega⟩
  · by_cases h0 : i = 0
    · subst h0
      right
      have := f2 (by omega)
      cases A with
      | nil => simp at hi
      | cons y A => simp at this; subst this; rfl
    · exact .inl h0
  · by_cases h0 : i = 0
    · exact .inl h0
    · right; rw [g2 (by omega)]; rfl
theorem paged_law {K : List Bool} {L k : Nat} (h1 : 1 ≤ L) (h2 : L ≤ 9) (h3 : K.length ≤ 40) :
    (∃ B, pagesM (List.replicate K.length false) L = (0, B) ∧ B.length = (K.length + L - 1) / L ∧
      ((∃ A, pagesM K L = (0, A) ∧ B.length ≤ A.length ∧ pagedB K L (nI A) = 0 ∧ (pagesM (K.set k true) L = (14, []) ∨ ∃ C, pagesM (K.set k true) L = (0, C) ∧ A.length ≤ C.length)) ∨
       (pagesM K L = (14, []) ∧ pagesM (K.set k true) L = (14, [])))) := by
  have hM := pagesM_ok (K := K) (L := L) rfl h1 (by omega) (by omega)
  have hM1 := pagesM_ok (K := List.replicate K.length false) (L := L) rfl h1 (by omega) (by rw [List.length_replicate]; omega)
  have hM2 := pagesM_ok (K := K.set k true) (L := L) rfl h1 (by omega) (by rw [List.length_set]; omega)
  obtain ⟨B, hB, hBl⟩ := pages_free K.length L h1 K.length 0 (by omega)
  rw [hB] at hM1
  refine ⟨B, hM1, hBl, ?_⟩
  have T0 := leastT_ok K L
  have T1 := leastT_ok (List.replicate K.length false) L
  have T2 := leastT_ok (K.set k true) L
  have m1 := fun h => least_mono (by rw [List.length_replicate]) T1 T0 (fun k _ _ => by
    unfold beg; rw [Bool.or_eq_true]; right
    by_cases hk : k < K.length
    · simp [hk]
    · simp [hk]) (List.replicate K.length false).length 0 (by omega) h
  have m2 := fun h => least_mono (by rw [List.length_set]) T0 T2 (fun j _ hj => by
    unfold beg at hj ⊢
    rw [Bool.or_eq_true] at hj ⊢
    rcases hj with hj | hj
    · left; simpa using hj
    · right
      by_cases e : k = j
      · subst e
        by_cases hk : k < K.length
        · simp [hk] at hj
        · simp [hk]
      · rw [List.getD_eq_getElem?_getD, List.getElem?_set_ne e] at hj
        rw [List.getD_eq_getElem?_getD]; exact hj) K.length 0 (by omega) h
  have hB2 := (T1.some _ _ B hB (by omega) (by omega)).2
  rcases pagesAt_least T0 with ⟨t0, A, hA, hAl⟩ | ⟨t0, hA⟩
  · left
    rw [hA] at hM
    refine ⟨A, hM, by have := m1 t0; omega, pagedB_self h1 (by omega) (by omega) hA, ?_⟩
    rcases pagesAt_least T2 with ⟨t2, C, hC, hCl⟩ | ⟨t2, hC⟩
    · right
      rw [hC] at hM2
      exact ⟨C, hM2, by have := m2 t2; omega⟩
    · left; rw [hC] at hM2; exact hM2
  · right
    rw [hA] at hM
    refine ⟨hM, ?_⟩
    rcases pagesAt_least T2 with ⟨t2, C, hC, hCl⟩ | ⟨t2, hC⟩
    · have := m2 t2; omega
    · rw [hC] at hM2; exact hM2
end Go.Proofs.Ytehelanfgepcmaa
