/- The greatest time: plain laws. -/
import Derived.Test.YtphcaelkpgdbcaaPo
set_option linter.unusedSimpArgs false
set_option linter.unusedVariables false
set_option linter.unusedSectionVars false
namespace Go.Proofs.Ytphcaelkpgdbcaa
open Go.RowKit Dak
/-- The greatest time within a limit. -/
def best : List Int → List Int → Nat → Int
  | a :: p, b :: o, c => if a ≤ c then max (best p o c) (b + best p o (c - a.toNat)) else best p o c
  | _, _, _ => 0
theorem head_len : ∀ (p o : List Int) (m : Nat), ((tabA p o m).headD []).length = m + 1
  | [], o, m => by unfold tabA; simp
  | a :: p, [], m => by unfold tabA; simp
  | a :: p, b :: o, m => by
    have := head_len p o m
    simp only [tabA, List.headD_cons, nextR, List.length_map, List.length_range]
    exact this
theorem head_best : ∀ (p o : List Int) (m c : Nat), c ≤ m → ((tabA p o m).headD []).getD c 0 = best p o c
  | [], o, m, c, h => by unfold tabA best; simp [List.getD_eq_getElem?_getD, List.getElem?_replicate]; split <;> rfl
  | a :: p, [], m, c, h => by unfold tabA best; simp [List.getD_eq_getElem?_getD, List.getElem?_replicate]; split <;> rfl
  | a :: p, b :: o, m, c, h => by
    have hl := head_len p o m
    have h1 := head_best p o m c h
    have h2 := head_best p o m (c - a.toNat) (by omega)
    simp only [tabA, List.headD_cons, nextR, best]
    generalize (tabA p o m).headD [] = R at *
    rw [List.getD_eq_getElem?_getD, List.getElem?_map, List.getElem?_range (by omega), Option.map_some, Option.getD_some, h1, h2]
theorem rowQ_best (p o : List Int) (m q c : Nat) (h : c ≤ m) : (rowQ p o m q).getD c 0 = best (p.drop q) (o.drop q) c := head_best _ _ m c h
theorem timeL_best (p o : List Int) (m : Nat) : timeL p o m = best p o m := by
  unfold timeL; rw [rowQ_best p o m 0 m (Nat.le_refl _)]; rfl
theorem best_nonneg : ∀ (p o : List Int) (c : Nat), 0 ≤ best p o c
  | [], o, c => by unfold best; omega
  | a :: p, [], c => by unfold best; omega
  | a :: p, b :: o, c => by
    have := best_nonneg p o c
    rw [best]; split <;> omega
theorem best_mono : ∀ (p o : List Int) (c d : Nat), c ≤ d → best p o c ≤ best p o d
  | [], o, c, d, h => by unfold best; exact Int.le_refl _
  | a :: p, [], c, d, h => by unfold best; exact Int.le_refl _
  | a :: p, b :: o, c, d, h => by
    have h1 := best_mono p o c d h
    have h2 := best_mono p o (c - a.toNat) (d - a.toNat) (by omega)
    rw [best, best]
    split <;> split <;> omega
theorem best_scale (k : Int) (hk : 0 ≤ k) : ∀ (p o : List Int) (c : Nat), best p (o.map fun x => k * x) c = k * best p o c
  | [], o, c => by unfold best; simp
  | a :: p, [], c => by simp [best]
  | a :: p, b :: o, c => by
    have h1 := best_scale k hk p o c
    have h2 := best_scale k hk p o (c - a.toNat)
    rw [List.map_cons, best, best, h1, h2]
    split
    · rw [← Int.mul_add]
      generalize best p o c = x
      generalize b + best p o (c - a.toNat) = y
      rcases Int.le_total x y with h | h
      · rw [Int.max_eq_right h, Int.max_eq_right (Int.mul_le_mul_of_nonneg_left h hk)]
      · rw [Int.max_eq_left h, Int.max_eq_left (Int.mul_le_mul_of_nonneg_left h hk)]
    · rfl
theorem best_further (x y : Int) (hy : 0 ≤ y) : ∀ (p o : List Int) (c : Nat), p.length = o.length → best p o c ≤ best (p ++ [x]) (o ++ [y]) c
  | [], o, c, h => by
    have : o = [] := List.length_eq_zero_iff.1 (by simpa using h.symm)
    subst this
    have := best_nonneg [x] [y] c
    simpa [best] using this
  | a :: p, [], c, h => by simp at h
  | a :: p, b :: o, c, h => by
    have h1 := best_further x y hy p o c (by simpa using h)
    have h2 := best_further x y hy p o (c - a.toNat) (by simpa using h)
    rw [List.cons_append, List.cons_append, best, best]
    split <;> omega
theorem best_small (k : Int) (hk : 0 ≤ k) : ∀ (p o : List Int) (c : Nat), (∀ x ∈ p, 0 ≤ x) → best p ((p.zip o).map fun q => min q.2 (k * q.1)) c ≤ k * c
  | [], o, c, _ => by simp [best]; exact Int.mul_nonneg hk (by omega)
  | a :: p, [], c, _ => by simp [best]; exact Int.mul_nonneg hk (by omega)
  | a :: p, b :: o, c, h => by
    have h1 := best_small k hk p o c (fun x hx => h x (by simp [hx]))
    have h2 := best_small k hk p o (c - a.toNat) (fun x hx => h x (by simp [hx]))
    rw [List.zip_cons_cons, List.map_cons, best]
    split
    · rename_i hac
      have ha := h a (by simp)
      have e : ((c - a.toNat : Nat) : Int) = c - a := by omega
      rw [e, Int.mul_sub] at h2
      have : min b (k * a) ≤ k * a := Int.min_le_right _ _
      dsimp only
      omega
    · exact h1
/-- A set on from question q within c takes at most the greatest time. -/
theorem sumGo_ge {l : List Int} {last acc : Int} {S : List Int} (hl : ∀ x ∈ l, 0 ≤ x) (h : sumGo l last acc S ≠ -1) : acc ≤ sumGo l last acc S := by
  induction S generalizing last acc with
  | nil => simp [sumGo]
  | cons x r ih =>
    rw [sumGo] at h ⊢
    split at h
    · rename_i hc
      rw [if_pos hc]
      have := ih h
      have h0 : 0 ≤ l.getD x.toNat 0 := by
        rw [List.getD_eq_getElem?_getD]
        cases e : l[x.toNat]? with
        | none => simp
        | some y => exact hl y (List.mem_of_getElem? e)
      omega
    · exact absurd rfl h
theorem sumGo_last {l : List Int} {last last' acc : Int} {S : List Int} (h : ∀ x ∈ S, last < x ∧ last' < x) : sumGo l last acc S = sumGo l last' acc S := by
  cases S with
  | nil => rfl
  | cons x r =>
    have := h x (by simp)
    rw [sumGo, sumGo]
    by_cases h1 : x < (l.length : Int)
    · rw [if_pos ⟨this.1, h1⟩, if_pos ⟨this.2, h1⟩]
    · rw [if_neg (fun h => h1 h.2), if_neg (fun h => h1 h.2)]
theorem sumGo_cons_last {l : List Int} {last last' acc x : Int} {r : List Int} (h1 : last < x) (h2 : last' < x) : sumGo l last acc (x :: r) = sumGo l last' acc (x :: r) := by
  rw [sumGo, sumGo]
  by_cases h3 : x < (l.length : Int)
  · rw [if_pos ⟨h1, h3⟩, if_pos ⟨h2, h3⟩]
  · rw [if_neg (fun h => h3 h.2), if_neg (fun h => h3 h.2)]
theorem best_set {p o : List Int} (hlen : p.length = o.length) (hp : ∀ x ∈ p, 0 ≤ x) : ∀ (d q : Nat) (S : List Int) (acc acc' : Int) (c : Nat), q + d = p.length → 0 ≤ acc → sumGo p ((q : Int) - 1) acc S ≠ -1 → sumGo p ((q : Int) - 1) acc S ≤ acc + c →
    sumGo o ((q : Int) - 1) acc' S ≤ acc' + best (p.drop q) (o.drop q) c
  | 0, q, S, acc, acc', c, hq, ha, h1, h2 => by
    cases S with
    | nil => simp only [sumGo]; have := best_nonneg (p.drop q) (o.drop q) c; omega
    | cons x r => rw [sumGo, if_neg (by omega)] at h1; exact absurd rfl h1
  | d + 1, q, S, acc, acc', c, hq, ha, h1, h2 => by
    have hqp : q < p.length := by omega
    have hqo : q < o.length := by omega
    have hpq := hp _ (List.getElem_mem hqp)
    have hb : best (p.drop q) (o.drop q) c = if p[q] ≤ c then max (best (p.drop (q + 1)) (o.drop (q + 1)) c) (o[q] + best (p.drop (q + 1)) (o.drop (q + 1)) (c - p[q].toNat)) else best (p.drop (q + 1)) (o.drop (q + 1)) c := by
      rw [List.drop_eq_getElem_cons hqp, List.drop_eq_getElem_cons hqo, best]
    have e1 : ((q + 1 : Nat) : Int) - 1 = (q : Int) := by omega
    cases S with
    | nil => simp only [sumGo]; have := best_nonneg (p.drop q) (o.drop q) c; omega
    | cons x r =>
      by_cases hx : x = (q : Int)
      · subst hx
        have gp : p.getD ((q : Int)).toNat 0 = p[q] := by simp [hqp]
        have go : o.getD ((q : Int)).toNat 0 = o[q] := by simp [hqo]
        rw [sumGo, if_pos (by omega), gp] at h1 h2
        rw [sumGo, if_pos (by omega), go]
        have hge := sumGo_ge hp h1
        have hle : p[q] ≤ c := by omega
        have ih := best_set hlen hp d (q + 1) r (acc + p[q]) (acc' + o[q]) (c - p[q].toNat) (by omega) (by omega) (by rw [e1]; exact h1) (by rw [e1]; omega)
        rw [e1] at ih
        rw [hb, if_pos hle]
        omega
      · have hlt : (q : Int) < x := by
          rcases Int.lt_or_le ((q : Int) - 1) x with h | h
          · omega
          · rw [sumGo, if_neg (by omega)] at h1; exact absurd rfl h1
        rw [sumGo_cons_last (last' := (q : Int)) (by omega) hlt] at h1 h2
        rw [sumGo_cons_last (last' := (q : Int)) (by omega) hlt]
        have ih := best_set hlen hp d (q + 1) (x :: r) acc acc' c (by omega) ha (by rw [e1]; exact h1) (by rw [e1]; exact h2)
        rw [e1] at ih
        rw [hb]
        split <;> omega
theorem setA_ge : ∀ (p o : List Int) (m q c : Nat), ∀ x ∈ setA p o m q c, (q : Int) ≤ x
  | [], o, m, q, c, x, hx => by unfold setA at hx; simp at hx
  | a :: p, [], m, q, c, x, hx => by unfold setA at hx; simp at hx
  | a :: p, b :: o, m, q, c, x, hx => by
    have h1 := setA_ge p o m (q + 1) (c - a.toNat) x
    have h2 := setA_ge p o m (q + 1) c x
    rw [setA] at hx
    split at hx
    · simp at hx
    split at hx
    · rcases List.mem_cons.1 hx with rfl | hx
      · omega
      · have := h1 hx; omega
    · have := h2 hx; omega
/-- The set that is returned has the greatest time, within the limit. -/
theorem set_best {p o : List Int} {lim : Int} (h : OkQ p o lim) (m : Nat) : ∀ (d q c : Nat) (acc acc' : Int), q + d = p.length → c ≤ m → 0 ≤ acc →
    (acc ≤ sumGo p ((q : Int) - 1) acc (setA (p.drop q) (o.drop q) m q c) ∧ sumGo p ((q : Int) - 1) acc (setA (p.drop q) (o.drop q) m q c) ≤ acc + c) ∧ sumGo o ((q : Int) - 1) acc' (setA (p.drop q) (o.drop q) m q c) = acc' + best (p.drop q) (o.drop q) c
  | 0, q, c, acc, acc', hq, hc, ha => by
    obtain rfl : q = p.length := by omega
    rw [setA_end, List.drop_length]
    simp only [sumGo, best]
    omega
  | d + 1, q, c, acc, acc', hq, hc, ha => by
    have hlen := h.len
    have hqp : q < p.length := by omega
    have hqo : q < o.length := by omega
    have hpq := h.p _ (List.getElem_mem hqp)
    have e1 : ((q + 1 : Nat) : Int) - 1 = (q : Int) := by omega
    have hb : best (p.drop q) (o.drop q) c = if p[q] ≤ c then max (best (p.drop (q + 1)) (o.drop (q + 1)) c) (o[q] + best (p.drop (q + 1)) (o.drop (q + 1)) (c - p[q].toNat)) else best (p.drop (q + 1)) (o.drop (q + 1)) c := by
      rw [List.drop_eq_getElem_cons hqp, List.drop_eq_getElem_cons hqo, best]
    have hr1 := rowQ_best p o m q c hc
    have hr2 := rowQ_best p o m (q + 1) (c - p[q].toNat) (by omega)
    rw [setA_step m c hqp hqo, hr1, hr2]
    have gp : p.getD ((q : Int)).toNat 0 = p[q] := by simp [hqp]
    have go : o.getD ((q : Int)).toNat 0 = o[q] := by simp [hqo]
    split
    · rename_i h0
      simp only [sumGo, h0]
      omega
    split
    · rename_i h0 h1
      obtain ⟨hle, he⟩ := h1
      have ih := set_best h m d (q + 1) (c - p[q].toNat) (acc + p[q]) (acc' + o[q]) (by omega) (by omega) (by omega)
      rw [e1] at ih
      rw [sumGo, if_pos (by omega), gp, sumGo, if_pos (by omega), go]
      rw [ih.2]
      omega
    · rename_i h0 h1
      have ih := set_best h m d (q + 1) c acc acc' (by omega) hc ha
      rw [e1] at ih
      have hs := fun x hx => setA_ge (p.drop (q + 1)) (o.drop (q + 1)) m (q + 1) c x hx
      rw [sumGo_last (l := p) (last' := (q : Int)) (fun x hx => by have := hs x hx; omega), sumGo_last (l := o) (last' := (q : Int)) (fun x hx => by have := hs x hx; omega)]
      refine ⟨ih.1, ?_⟩
      rw [ih.2, hb]
      split
      · rename_i hle
        have : o[q] + best (p.drop (q + 1)) (o.drop (q + 1)) (c - p[q].toNat) ≠ best (p.drop q) (o.drop q) c := fun e => h1 ⟨hle, e⟩
        rw [hb, if_pos hle] at this
        omega
      · rfl
/-- The fraction is the greatest one. -/
theorem bestN_ge {R : Nat → Nat} (h0 : R 0 = 0) : ∀ k, 1 ≤ (bestN R k).2 ∧ ∀ c, c < k → R c * (bestN R k).2 ≤ (bestN R k).1 * c
  | 0 => ⟨by simp [bestN], fun c hc => by omega⟩
  | k + 1 => by
    obtain ⟨i1, i2⟩ := bestN_ge h0 k
    rw [bestN]
    split
    · rename_i hlt
      have hk0 : k ≠ 0 := by rintro rfl; rw [h0, Nat.zero_mul] at hlt; omega
      refine ⟨by show 1 ≤ k; omega, fun c hc => ?_⟩
      show R c * k ≤ R k * c
      rcases (by omega : c = k ∨ c < k) with rfl | hck
      · exact Nat.le_refl _
      · have h1 := i2 c hck
        rcases Nat.eq_zero_or_pos c with rfl | hc0
        · rw [h0]; simp
        · refine Nat.le_of_mul_le_mul_left (?_ : (bestN R k).2 * (R c * k) ≤ (bestN R k).2 * (R k * c)) i1
          have h2 : R c * (bestN R k).2 * k ≤ (bestN R k).1 * c * k := Nat.mul_le_mul_right k h1
          have h3 : (bestN R k).1 * k * c ≤ R k * (bestN R k).2 * c := Nat.mul_le_mul_right c (Nat.le_of_lt hlt)
          calc (bestN R k).2 * (R c * k) = R c * (bestN R k).2 * k := by rw [← Nat.mul_assoc, Nat.mul_comm (bestN R k).2]
            _ ≤ (bestN R k).1 * c * k := h2
            _ = (bestN R k).1 * k * c := by rw [Nat.mul_right_comm]
            _ ≤ R k * (bestN R k).2 * c := h3
            _ = (bestN R k).2 * (R k * c) := by rw [← Nat.mul_assoc, Nat.mul_comm (bestN R k).2]
    · rename_i hge
      refine ⟨i1, fun c hc => ?_⟩
      rcases (by omega : c = k ∨ c < k) with rfl | hck
      · omega
      · exact i2 c hck
theorem bestN_eq {R : Nat → Nat} (h0 : R 0 = 0) : ∀ k, (bestN R k).1 ≠ 0 → (bestN R k).1 = R (bestN R k).2 ∧ (bestN R k).2 < k
  | 0, h => by simp [bestN] at h
  | k + 1, h => by
    rw [bestN] at h ⊢
    split
    · exact ⟨rfl, by show k < k + 1; omega⟩
    · rename_i hge
      rw [if_neg hge] at h
      have := bestN_eq h0 k h
      exact ⟨this.1, by omega⟩
end Go.Proofs.Ytphcaelkpgdbcaa
