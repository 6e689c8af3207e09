/- Words of one piece each: as many lines as if each is put into the line as long as it fits. -/
import Derived.Test.YtehelanfgepcmaaPj
set_option linter.unusedSimpArgs false
set_option linter.unusedVariables false
set_option linter.unusedSectionVars false
namespace Go.Proofs.Ytehelanfgepcmaa
open Go.RowKit
/-- How many lines begin behind a line with so many free cells. -/
def moreL (w : Int) : Int → List Int → Nat
  | _, [] => 0
  | free, n :: ns => if free - 1 - n < 0 then 1 + moreL w (w - n) ns else moreL w (free - 1 - n) ns
theorem moreL_le (w : Int) : ∀ ns : List Int, (∀ n ∈ ns, 0 ≤ n) → (∀ a b, a ≤ b → b ≤ w + 1 → moreL w b ns ≤ moreL w a ns) ∧ (∀ a b, b ≤ w + 1 → moreL w a ns ≤ 1 + moreL w b ns)
  | [], _ => ⟨fun _ _ _ _ => Nat.le_refl _, fun _ _ _ => Nat.zero_le _⟩
  | n :: ns, h => by
    obtain ⟨m1, m2⟩ := moreL_le w ns fun x hx => h x (by simp [hx])
    have hn := h n (by simp)
    refine ⟨fun a b h1 h2 => ?_, fun a b h2 => ?_⟩
    · simp only [moreL]
      by_cases ha : a - 1 - n < 0
      · rw [if_pos ha]
        by_cases hb : b - 1 - n < 0
        · rw [if_pos hb]; exact Nat.le_refl _
        · rw [if_neg hb]; exact m2 _ _ (by omega)
      · rw [if_neg ha, if_neg (by omega)]
        exact m1 _ _ (by omega) (by omega)
    · simp only [moreL]
      by_cases ha : a - 1 - n < 0
      · rw [if_pos ha]
        by_cases hb : b - 1 - n < 0
        · rw [if_pos hb]; omega
        · rw [if_neg hb]
          have := m1 (b - 1 - n) (w - n) (by omega) (by omega)
          omega
      · rw [if_neg ha]
        by_cases hb : b - 1 - n < 0
        · rw [if_pos hb]
          have := m2 (a - 1 - n) (w - n) (by omega)
          omega
        · rw [if_neg hb]; exact m2 _ _ (by omega)
abbrev oneL (L : List Int) : Words3 := L.map fun n => [[n]]
theorem one_row {L : List Int} {p : Nat} (h : p < L.length) : rowAt (oneL L) p 0 = [L[p]] := by simp [rowAt, oneL, h]
def szL (L : List Int) (p q : Nat) : Int := sizeL (oneL L) (p, 0) (q, 0)
theorem szL_eq {L : List Int} {p q : Nat} (h : p < q) : szL L p q = sumS (oneL L) (p + 1) (lastW (rowAt (oneL L) p 0)) (q - p - 1) := by
  rw [szL, sizeL, if_neg (by dsimp only; omega)]; simp
theorem sz_one {L : List Int} {p : Nat} (h : p < L.length) : szL L p (p + 1) = L[p] := by
  rw [szL_eq (by omega), one_row h, show p + 1 - p - 1 = 0 by omega]; rfl
theorem sz_succ {L : List Int} {p q : Nat} (hp : p < q) (hq : q < L.length) : szL L p (q + 1) = szL L p q + 1 + L[q] := by
  rw [szL_eq (by omega), szL_eq hp, show q + 1 - p - 1 = (q - p - 1) + 1 by omega, sumS, show p + 1 + (q - p - 1) = q by omega, one_row hq]; rfl
theorem sz_mono {L : List Int} (hV : VW (oneL L)) {p m q : Nat} (hp : p < m) (hm : m ≤ q) (hq : q ≤ L.length) : szL L p m ≤ szL L p q := by
  rw [szL_eq hp, szL_eq (by omega)]
  have := sumS_more hV (p + 1) (lastW (rowAt (oneL L) p 0)) (q - m) (m - p - 1) (by simp [oneL]; omega)
  rwa [show m - p - 1 + (q - m) = q - p - 1 by omega] at this
theorem one_en {L : List Int} {t : Place} (h : En (oneL L) t) : t.2 = 0 ∧ t.1 ≤ L.length := by
  rcases h with ⟨h1, h2⟩ | ⟨h1, h2⟩
  · exact ⟨h2, by simpa using Nat.le_of_eq h1⟩
  · simp at h2 h1
    exact ⟨h2, by omega⟩
theorem one_ge {L : List Int} {w : Int} (hV : VW (oneL L)) (h0 : ∀ n ∈ L, 0 ≤ n) : ∀ (r : List Place) (p : Nat) (hp : p < L.length), IsDiv (oneL L) w (p, 0) r → 1 + moreL w (w - L[p]) (L.drop (p + 1)) ≤ r.length
  | [], p, hp, h => by
    have : (p, 0) = endP (oneL L) := h
    have := congrArg Prod.fst this
    simp at this; omega
  | (q, u) :: r, p, hp, ⟨h1, h2, h3, h4, h5⟩ => by
    obtain ⟨rfl, hq⟩ : u = 0 ∧ q ≤ L.length := one_en h3
    have hpq : p < q := by
      rcases h2 with h | ⟨_, h⟩
      · exact h
      · exact absurd h (Nat.lt_irrefl _)
    have step : ∀ d, p + 1 + d ≤ q → moreL w (w - L[p]) (L.drop (p + 1)) = moreL w (w - szL L p (p + 1 + d)) (L.drop (p + 1 + d)) := by
      intro d
      induction d with
      | zero => intro _; rw [Nat.add_zero, sz_one hp]
      | succ d ih =>
        intro hd
        have hl : p + 1 + d < L.length := by omega
        rw [ih (by omega), List.drop_eq_getElem_cons hl, moreL]
        have h6 := sz_succ (L := L) (p := p) (q := p + 1 + d) (by omega) hl
        have h7 := sz_mono hV (p := p) (m := p + 1 + d + 1) (q := q) (by omega) (by omega) hq
        have h8 : szL L p q ≤ w := h4
        rw [if_neg (by omega)]
        rw [show w - szL L p (p + 1 + d) - 1 - L[p + 1 + d] = w - szL L p (p + 1 + d + 1) by omega]
        rfl
    have hs := step (q - p - 1) (by omega)
    rw [show p + 1 + (q - p - 1) = q by omega] at hs
    rw [hs]
    simp only [List.length_cons]
    by_cases hql : q < L.length
    · have ih := one_ge hV h0 r q hql h5
      rw [List.drop_eq_getElem_cons hql, moreL]
      have hq0 := h0 L[q] (List.getElem_mem hql)
      split
      · omega
      · have := (moreL_le w (L.drop (q + 1)) fun n hn => h0 n (List.mem_of_mem_drop hn)).2 (w - szL L p q - 1 - L[q]) (w - L[q]) (by omega)
        omega
    · rw [List.drop_eq_nil_of_le (by omega), moreL]; omega
theorem one_pl {L : List Int} {p : Nat} (h : p < L.length) : Pl (oneL L) (p, 0) := ⟨by simpa using h, by simp⟩
theorem one_ex {L : List Int} {w : Int} (hw : ∀ n ∈ L, n ≤ w) : ∀ (d p m : Nat), p < m → m + d = L.length → szL L p m ≤ w → ∃ r, IsDiv (oneL L) w (p, 0) r ∧ r.length = 1 + moreL w (w - szL L p m) (L.drop m)
  | 0, p, m, h1, h2, h3 => by
    refine ⟨[(m, 0)], ⟨one_pl (by omega), .inl h1, .inl ⟨by simp; omega, rfl⟩, h3, ?_⟩, by rw [List.drop_eq_nil_of_le (by omega), moreL]; rfl⟩
    show (m, 0) = endP (oneL L)
    simp [endP]; omega
  | d + 1, p, m, h1, h2, h3 => by
    have hm : m < L.length := by omega
    rw [List.drop_eq_getElem_cons hm, moreL]
    by_cases hb : w - szL L p m - 1 - L[m] < 0
    · rw [if_pos hb]
      obtain ⟨r, hr, hl⟩ := one_ex hw d m (m + 1) (by omega) (by omega) (by rw [sz_one hm]; exact hw _ (List.getElem_mem hm))
      rw [sz_one hm] at hl
      exact ⟨(m, 0) :: r, ⟨one_pl (by omega), .inl h1, .inr (one_pl hm), h3, hr⟩, by simp [hl]; omega⟩
    · rw [if_neg hb]
      have hs := sz_succ (L := L) h1 hm
      obtain ⟨r, hr, hl⟩ := one_ex hw d p (m + 1) (by omega) (by omega) (by omega)
      refine ⟨r, hr, ?_⟩
      rw [hl, show w - szL L p m - 1 - L[m] = w - szL L p (m + 1) by omega]
def linesG (w : Int) : List Int → Nat
  | [] => 0
  | n :: ns => 1 + moreL w (w - n) ns
def stepG (w : Int) (s : Int × Int) (n : Int) : Int × Int := if s.2 - 1 - n < 0 ∨ s.1 = 0 then (s.1 + 1, w - n) else (s.1, s.2 - 1 - n)
theorem stepG_fold (w : Int) : ∀ (ns : List Int) (a b : Int), 1 ≤ a → (ns.foldl (stepG w) (a, b)).1 = a + moreL w b ns
  | [], a, b, _ => by simp [moreL]
  | n :: ns, a, b, h => by
    rw [List.foldl_cons, stepG, moreL]
    by_cases hb : b - 1 - n < 0
    · rw [if_pos (.inl hb), if_pos hb, stepG_fold w ns _ _ (by omega)]; omega
    · rw [if_neg (by dsimp only; omega), if_neg hb, stepG_fold w ns _ _ h]
theorem linesG_fold (w : Int) (L : List Int) : (L.foldl (stepG w) (0, -1)).1 = linesG w L := by
  cases L with
  | nil => rfl
  | cons n ns =>
    rw [List.foldl_cons, stepG, if_pos (.inr rfl), stepG_fold w ns _ _ (by omega), linesG]; omega
theorem one_law {L : List Int} {w : Int} (hl : L.length ≤ 512) (h0 : ∀ n ∈ L, 0 ≤ n ∧ n ≤ w) (hw : 1 ≤ w ∧ w ≤ 512) : ∃ A K, fillM (oneL L) w = (0, A, K) ∧ A.length = linesG w L := by
  have hv : validB (oneL L) w = true := by
    unfold validB
    rw [Bool.and_eq_true, Bool.and_eq_true, decide_eq_true_iff, decide_eq_true_iff, List.all_eq_true]
    refine ⟨⟨by simpa using hl, hw⟩, fun x hx => ?_⟩
    obtain ⟨n, hn, rfl⟩ := List.mem_map.1 hx
    have := h0 n hn
    simp [wordOK, rowOK, elOK]
    omega
  obtain ⟨hV, _⟩ := validB_VW hv
  obtain ⟨s, hs, hsl⟩ : ∃ s, IsDiv (oneL L) w (0, 0) s ∧ s.length = linesG w L := by
    cases L with
    | nil => exact ⟨[], rfl, rfl⟩
    | cons n ns =>
      have h1 : szL (n :: ns) 0 1 = n := sz_one (L := n :: ns) (p := 0) (by simp)
      obtain ⟨r, hr, hl⟩ := one_ex (w := w) (L := n :: ns) (fun x hx => (h0 x hx).2) ns.length 0 1 (by omega) (by simp; omega) (by rw [h1]; exact (h0 n (by simp)).2)
      rw [h1] at hl
      exact ⟨r, hr, hl⟩
  rcases fill_best hv with ⟨_, e⟩ | ⟨r, d1, e1, _, _, f1⟩
  · exact absurd hs (e s)
  refine ⟨_, _, e1, ?_⟩
  rw [show (toI r).length = r.length from by simp [toI]]
  have h1 := cost_lines hV hV hw hw d1 hs (f1 s hs)
  have h2 : linesG w L ≤ r.length := by
    cases L with
    | nil => exact Nat.zero_le _
    | cons n ns => exact one_ge hV (fun x hx => (h0 x hx).1) r 0 (by simp) d1
  omega
end Go.Proofs.Ytehelanfgepcmaa
