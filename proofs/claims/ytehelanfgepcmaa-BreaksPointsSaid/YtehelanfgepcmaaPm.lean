/- A word that loses a division point: each division is one of the word as it was, at the same cost. -/
import Derived.Test.YtehelanfgepcmaaPl
set_option linter.unusedSimpArgs false
set_option linter.unusedVariables false
set_option linter.unusedSectionVars false
namespace Go.Proofs.Ytehelanfgepcmaa
open Go.RowKit
/-- A number, counted without c. -/
def sk (c j : Nat) : Nat := if j < c then j else j + 1
theorem filt (c : Nat) : ∀ m, c < m → (List.range m).filter (fun d => decide (d ≠ c)) = (List.range (m - 1)).map (sk c)
  | 0, h => by omega
  | m + 1, h => by
    rw [List.range_succ, List.filter_append]
    by_cases e : c = m
    · subst e
      have h1 : (List.range c).filter (fun d => decide (d ≠ c)) = List.range c := List.filter_eq_self.2 fun a ha => by simp at ha; simp; omega
      have h2 : (List.range c).map (sk c) = List.range c := by
        conv => rhs; rw [← List.map_id (List.range c)]
        exact List.map_congr_left fun a ha => by simp at ha; simp [sk, ha]
      rw [h1]; simp [h2]
    · rw [filt c m (by omega)]
      have : List.range (m + 1 - 1) = List.range (m - 1) ++ [m - 1] := by
        rw [Nat.add_sub_cancel]; conv => lhs; rw [show m = (m - 1) + 1 by omega, List.range_succ]
      rw [this, List.map_append]
      have h3 : sk c (m - 1) = m := by unfold sk; split <;> omega
      simp [h3, Ne.symm e]
theorem rowK_lt {k a n : Nat} {r : List Int} (h : a < k) (hk : k < a + n) : rowK k a r n = (List.range (n - 1)).map fun e => r.getD (sk (k - a - 1) e) 0 := by
  have : (List.range n).filter (fun d => decide (a + d + 1 ≠ k)) = (List.range n).filter (fun d => decide (d ≠ k - a - 1)) := by
    refine List.filter_congr fun d _ => ?_
    simp only [decide_eq_decide]; omega
  rw [rowK, this, filt _ _ (by omega), List.map_map]; rfl
theorem rowK_ge {k a n : Nat} {r : List Int} (h : k ≤ a) : rowK k a r n = (List.range n).map fun e => r.getD e 0 := by
  have : (List.range n).filter (fun d => decide (a + d + 1 ≠ k)) = List.range n := List.filter_eq_self.2 fun d _ => by simp; omega
  rw [rowK, this]
theorem rowsK_eq' {x : List (List Int)} {k : Nat} (h : k < x.length) : rowsK x k x.length = (List.range (x.length - 1)).map fun j => rowK k (sk k j) (x.getD (sk k j) []) (x.length - sk k j) := by
  rw [rowsK, filt _ _ h, List.map_map]; rfl
/-- A row of the merged word. -/
theorem rowsK_row {x : List (List Int)} {k : Nat} (hk : k < x.length) {j : Nat} (hj : j < x.length - 1) :
    ((rowsK x k x.length).getD j []).length = x.length - 1 - j ∧
    ∀ t, j < t → t ≤ x.length - 1 → ((rowsK x k x.length).getD j []).getD (t - j - 1) 0 = (x.getD (sk k j) []).getD (sk k t - sk k j - 1) 0 := by
  have hg : (rowsK x k x.length).getD j [] = rowK k (sk k j) (x.getD (sk k j) []) (x.length - sk k j) := by
    rw [rowsK_eq' hk]; simp [List.getD_eq_getElem?_getD, hj]
  rw [hg]
  by_cases h : j < k
  · have e : sk k j = j := by simp [sk, h]
    rw [e, rowK_lt h (by omega)]
    refine ⟨by simp; omega, fun t h1 h2 => ?_⟩
    have hlt : t - j - 1 < x.length - j - 1 := by omega
    have h3 : sk (k - j - 1) (t - j - 1) = sk k t - j - 1 := by unfold sk; split <;> split <;> omega
    simp [List.getD_eq_getElem?_getD, hlt, h3]
  · have e : sk k j = j + 1 := by simp [sk, h]
    rw [e, rowK_ge (by omega)]
    refine ⟨by simp; omega, fun t h1 h2 => ?_⟩
    have hlt : t - j - 1 < x.length - (j + 1) := by omega
    have h3 : sk k t - (j + 1) - 1 = t - j - 1 := by unfold sk; split <;> omega
    simp [List.getD_eq_getElem?_getD, hlt, h3]
section
variable {X : Words3} {i k : Nat}
/-- A place of the words with word i merged, as one of the words as they were. -/
def phi (i k : Nat) (p : Place) : Place := if p.1 = i then (p.1, sk k p.2) else p
theorem sk_lt {k a b : Nat} (h : a < b) : sk k a < sk k b := by unfold sk; split <;> split <;> omega
theorem phi_fst (p : Place) : (phi i k p).1 = p.1 := by unfold phi; split <;> rfl
theorem rowAt_ne {Z : List (List Int)} {p : Nat} (h : p ≠ i) (j : Nat) : rowAt (X.set i Z) p j = rowAt X p j := by
  simp only [rowAt, List.getD_eq_getElem?_getD, List.getElem?_set_ne (Ne.symm h)]
theorem rowAt_self {Z : List (List Int)} (h : i < X.length) (j : Nat) : rowAt (X.set i Z) i j = Z.getD j [] := by
  simp [rowAt, List.getD_eq_getElem?_getD, h]
theorem sumS_last {X Y : Words3} {q : Nat} {s s' : Int} (hs : s = s') : ∀ (n : Nat), (∀ i, lastW (rowAt X i 0) = lastW (rowAt Y i 0)) → sumS X q s n = sumS Y q s' n
  | 0, _ => hs
  | n + 1, h => by rw [sumS, sumS, sumS_last hs n h, h (q + n)]
variable (hV : VW X) (hi : i < X.length) (hk0 : 1 ≤ k) (hk : k < X[i].length)
include hV hi hk0 hk
theorem m_len : (rowsK X[i] k X[i].length).length = X[i].length - 1 := by rw [rowsK_eq' hk]; simp
theorem m_pl {p : Place} (h : Pl (X.set i (rowsK X[i] k X[i].length)) p) : Pl X (phi i k p) := by
  obtain ⟨h1, h2⟩ := h
  rw [List.length_set] at h1
  unfold phi
  by_cases e : p.1 = i
  · rw [if_pos e]
    refine ⟨h1, ?_⟩
    subst e
    rw [List.getElem_set_self, m_len hV hi hk0 hk] at h2
    dsimp only
    unfold sk; split <;> omega
  · rw [if_neg e]
    rw [List.getElem_set_ne (Ne.symm e)] at h2
    exact ⟨h1, h2⟩
theorem m_en {p : Place} (h : En (X.set i (rowsK X[i] k X[i].length)) p) : En X (phi i k p) := by
  rcases h with ⟨h1, h2⟩ | h
  · rw [List.length_set] at h1
    rw [phi, if_neg (by omega)]
    exact .inl ⟨h1, h2⟩
  · exact .inr (m_pl hV hi hk0 hk h)
theorem m_lt {p q : Place} (h : Lt p q) : Lt (phi i k p) (phi i k q) := by
  rcases h with h | ⟨h, h2⟩
  · exact .inl (by rw [phi_fst, phi_fst]; exact h)
  · refine .inr ⟨by rw [phi_fst, phi_fst]; exact h, ?_⟩
    unfold phi
    by_cases e : p.1 = i
    · rw [if_pos e, if_pos (by omega)]; exact sk_lt h2
    · rw [if_neg e, if_neg (by omega)]; exact h2
theorem m_zero (p : Nat) : phi i k (p, 0) = (p, 0) := by
  unfold phi
  split
  · simp only [sk]; rw [if_pos (by omega)]
  · rfl
theorem m_row {j t : Nat} (hj : j < X[i].length - 1) (h1 : j < t) (h2 : t ≤ X[i].length - 1) : (rowAt (X.set i (rowsK X[i] k X[i].length)) i j).getD (t - j - 1) 0 = (rowAt X i (sk k j)).getD (sk k t - sk k j - 1) 0 := by
  rw [rowAt_self hi, (rowsK_row hk hj).2 t h1 h2]
  simp [rowAt, hi]
theorem m_last {p j : Nat} (h : Pl (X.set i (rowsK X[i] k X[i].length)) (p, j)) : lastW (rowAt (X.set i (rowsK X[i] k X[i].length)) p j) = lastW (rowAt X p (phi i k (p, j)).2) := by
  by_cases e : p = i
  · subst e
    have hj : j < X[p].length - 1 := by
      obtain ⟨h1, h2⟩ := h
      rw [List.getElem_set_self, m_len hV hi hk0 hk] at h2
      exact h2
    have hs : sk k j < X[p].length := by unfold sk; split <;> omega
    have hl : (rowAt (X.set p (rowsK X[p] k X[p].length)) p j).length = X[p].length - 1 - j := by rw [rowAt_self hi]; exact (rowsK_row hk hj).1
    have hr := m_row hV hi hk0 hk hj (t := X[p].length - 1) (by omega) (Nat.le_refl _)
    have h3 : sk k (X[p].length - 1) = X[p].length := by unfold sk; split <;> omega
    have hl2 : (rowAt X p (sk k j)).length = X[p].length - sk k j := by rw [rowAt_eq hi hs]; exact ((hV.2 p hi).2.2 _ hs).1
    rw [h3] at hr
    simp only [lastW, hl, phi, if_true, hl2]
    exact hr
  · rw [rowAt_ne e]; simp only [phi, e, if_false]
theorem m_last0 (p : Nat) : lastW (rowAt (X.set i (rowsK X[i] k X[i].length)) p 0) = lastW (rowAt X p 0) := by
  by_cases e : p = i
  · have h := m_last hV hi hk0 hk (p := p) (j := 0) (by
      subst e
      exact ⟨by rw [List.length_set]; exact hi, by rw [List.getElem_set_self, m_len hV hi hk0 hk]; dsimp only; omega⟩)
    rw [m_zero hV hi hk0 hk] at h
    exact h
  · rw [rowAt_ne e]
theorem m_size {f t : Place} (hf : Pl (X.set i (rowsK X[i] k X[i].length)) f) (ht : En (X.set i (rowsK X[i] k X[i].length)) t) (hl : Lt f t) : sizeL (X.set i (rowsK X[i] k X[i].length)) f t = sizeL X (phi i k f) (phi i k t) := by
  obtain ⟨p, j⟩ := f
  obtain ⟨q, u⟩ := t
  have hju : p = i → j < X[i].length - 1 := by
    rintro rfl
    obtain ⟨h1, h2⟩ := hf
    rw [List.getElem_set_self, m_len hV hi hk0 hk] at h2
    exact h2
  have hu : q = i → u < X[i].length - 1 := by
    rintro rfl
    rcases ht with ⟨h1, h2⟩ | ⟨h1, h2⟩
    · rw [List.length_set] at h1; dsimp only at h1; omega
    · rw [List.getElem_set_self, m_len hV hi hk0 hk] at h2
      exact h2
  simp only [sizeL, phi_fst]
  by_cases e : p = q
  · subst e
    rw [if_pos rfl, if_pos rfl]
    have hlt : j < u := by
      rcases hl with h | h
      · exact absurd h (Nat.lt_irrefl _)
      · exact h.2
    by_cases ei : p = i
    · subst ei
      rw [m_row hV hi hk0 hk (hju rfl) hlt (by have := hu rfl; omega)]
      simp only [phi, if_true]
    · rw [rowAt_ne ei]; simp only [phi, ei, if_false]
  · rw [if_neg e, if_neg e, sumS_last (m_last hV hi hk0 hk hf) _ (m_last0 hV hi hk0 hk)]
    have hz : u = 0 ↔ (phi i k (q, u)).2 = 0 := by
      unfold phi
      split
      · simp only [sk]; split <;> omega
      · exact Iff.rfl
    by_cases e0 : u = 0
    · rw [if_pos e0, if_pos (hz.1 e0)]
    · rw [if_neg e0, if_neg (fun h => e0 (hz.2 h))]
      congr 2
      by_cases eq : q = i
      · subst eq
        have := m_row hV hi hk0 hk (j := 0) (t := u) (by have := hu rfl; omega) (by omega) (by have := hu rfl; omega)
        have h0 : sk k 0 = 0 := by simp only [sk]; rw [if_pos (by omega)]
        rw [h0, Nat.sub_zero, Nat.sub_zero] at this
        rw [this]; simp only [phi, if_true]
      · rw [rowAt_ne eq]; simp only [phi, eq, if_false]
theorem m_price {w : Int} {f t : Place} (hf : Pl (X.set i (rowsK X[i] k X[i].length)) f) (ht : En (X.set i (rowsK X[i] k X[i].length)) t) (hl : Lt f t) : priceL (X.set i (rowsK X[i] k X[i].length)) w f t = priceL X w (phi i k f) (phi i k t) := by
  have hz : t = ((X.set i (rowsK X[i] k X[i].length)).length, 0) ↔ phi i k t = (X.length, 0) := by
    rw [List.length_set]
    constructor
    · rintro rfl; exact m_zero hV hi hk0 hk _
    · intro h
      have h1 : t.1 = X.length := by rw [← phi_fst (i := i) (k := k) t, h]
      rw [phi, if_neg (by omega)] at h
      exact h
  simp only [priceL, m_size hV hi hk0 hk hf ht hl]
  by_cases h : t = ((X.set i (rowsK X[i] k X[i].length)).length, 0)
  · rw [if_pos h, if_pos (hz.1 h)]
  · rw [if_neg h, if_neg (fun e => h (hz.2 e))]
theorem m_div {w : Int} : ∀ (r : List Place) (f : Place), IsDiv (X.set i (rowsK X[i] k X[i].length)) w f r → IsDiv X w (phi i k f) (r.map (phi i k)) ∧ costL X w (phi i k f) (r.map (phi i k)) = costL (X.set i (rowsK X[i] k X[i].length)) w f r
  | [], f, h => by
    have : f = endP (X.set i (rowsK X[i] k X[i].length)) := h
    subst this
    refine ⟨?_, rfl⟩
    show phi i k _ = endP X
    rw [m_zero hV hi hk0 hk, List.length_set]
  | t :: r, f, ⟨h1, h2, h3, h4, h5⟩ => by
    obtain ⟨i1, i2⟩ := m_div r t h5
    refine ⟨⟨m_pl hV hi hk0 hk h1, m_lt hV hi hk0 hk h2, m_en hV hi hk0 hk h3, by rw [← m_size hV hi hk0 hk h1 h3 h2]; exact h4, i1⟩, ?_⟩
    rw [List.map_cons, costL, costL, i2, m_price hV hi hk0 hk h1 h3 h2]
end
/-- The first cost of a table. -/
theorem tab_head {X : Words3} {K : List (List Int)} (hV : VW X) (hl : 0 < X.length) (hS : Shp X K) {c : Int} (h : tOf X K (0, 0) = some c) : ∃ k kr, K = (c :: k) :: kr := by
  have hc : kAt K (0, 0) = c := by
    rw [tOf, if_neg (by intro e; have : (0 : Nat) = X.length := congrArg Prod.fst e; omega)] at h
    split at h
    · cases h
    · injection h
  match K, hS with
  | [], hS => have := hS.1; simp at this; omega
  | [] :: kr, hS =>
    have := hS.2 0 hl (by simp)
    have := (hV.2 0 hl).1
    simp at *; omega
  | (a :: k) :: kr, hS =>
    simp [kAt] at hc
    exact ⟨k, kr, by rw [hc]⟩
theorem points_law {X : Words3} {w point : Int} {i : Nat} (hX : validB X w = true) (hi : i < X.length) :
    (fillM (X.set i (mergedL X[i] point)) w).1 ≠ 0 ∨ ∃ A B c d k kr l lr, fillM X w = (0, A, (c :: k) :: kr) ∧ fillM (X.set i (mergedL X[i] point)) w = (0, B, (d :: l) :: lr) ∧ c ≤ d ∧ kr.length + 1 = X.length ∧ lr.length + 1 = X.length := by
  obtain ⟨hV, hw⟩ := validB_VW hX
  by_cases hY : validB (X.set i (mergedL X[i] point)) w = true
  rotate_left
  · left; rw [fillM, if_neg hY]; simp
  obtain ⟨hVY, _⟩ := validB_VW hY
  rcases fill_best hY with ⟨e, _⟩ | ⟨r, d1, e1, T1, c1, f1⟩
  · left; rw [e]; simp
  right
  obtain ⟨s, hs, hc⟩ : ∃ s, IsDiv X w (0, 0) s ∧ costL X w (0, 0) s = costL (X.set i (mergedL X[i] point)) w (0, 0) r := by
    by_cases h2 : X[i].length < 2
    · have : X.set i (mergedL X[i] point) = X := by rw [mergedL, if_pos h2, List.set_getElem_self]
      rw [this] at d1 ⊢
      exact ⟨r, d1, rfl⟩
    · have hb := aroundL_bd point ((X[i].length : Int) - 1) (by omega)
      have hm : mergedL X[i] point = rowsK X[i] (1 + aroundL point ((X[i].length : Int) - 1)).toNat X[i].length := by rw [mergedL, if_neg h2]
      have k0 : 1 ≤ (1 + aroundL point ((X[i].length : Int) - 1)).toNat := by omega
      have k1 : (1 + aroundL point ((X[i].length : Int) - 1)).toNat < X[i].length := by omega
      generalize (1 + aroundL point ((X[i].length : Int) - 1)).toNat = k at hm k0 k1
      rw [hm] at d1 ⊢
      obtain ⟨h1, h3⟩ := m_div hV hi k0 k1 r _ d1
      rw [m_zero hV hi k0 k1] at h1 h3
      exact ⟨_, h1, h3⟩
  rcases fill_best hX with ⟨_, e⟩ | ⟨r2, d2, e2, T2, c2, f2⟩
  · exact absurd hs (e s)
  have hlY : 0 < (X.set i (mergedL X[i] point)).length := by rw [List.length_set]; omega
  obtain ⟨l, lr, hL⟩ := tab_head hVY hlY T1.1 c1
  obtain ⟨k, kr, hK⟩ := tab_head hV (by omega) T2.1 c2
  have lY := T1.1.1
  have lX := T2.1.1
  rw [hL] at e1 lY
  rw [hK] at e2 lX
  rw [List.length_set] at lY
  have := f2 s hs
  exact ⟨_, _, _, _, k, kr, l, lr, e2, e1, by omega, by simpa using lX, by simpa using lY⟩
end Go.Proofs.Ytehelanfgepcmaa
