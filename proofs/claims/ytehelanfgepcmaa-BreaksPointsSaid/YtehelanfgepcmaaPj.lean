/- What Fill's plain twin finds is a division of least cost, so one of the fewest lines. -/
import Derived.Test.YtehelanfgepcmaaPh
set_option linter.unusedSimpArgs false
set_option linter.unusedVariables false
set_option linter.unusedSectionVars false
namespace Go.Proofs.Ytehelanfgepcmaa
open Go.RowKit
abbrev Words3 := List (List (List Int))
theorem next_le {X : Words3} {p t : Place} (hp : Pl X p) (hl : Lt p t) (ht : En X t) : t = next X p ∨ Lt (next X p) t := by
  obtain ⟨p, i⟩ := p
  obtain ⟨q, j⟩ := t
  obtain ⟨h1, h2⟩ := hp
  dsimp only at h1 h2
  have hgd : X.getD p [] = X[p] := by simp [h1]
  simp only [next, hgd]
  split
  · rename_i h
    rcases hl with h3 | ⟨h3, h4⟩
    · exact .inr (.inl h3)
    · dsimp only at h3 h4
      subst h3
      by_cases e : j = i + 1
      · exact .inl (by rw [e])
      · exact .inr (.inr ⟨rfl, by dsimp only; omega⟩)
  · rename_i h
    rcases hl with h3 | ⟨h3, h4⟩
    · dsimp only at h3
      by_cases e : q = p + 1
      · by_cases e2 : j = 0
        · exact .inl (by rw [e, e2])
        · exact .inr (.inr ⟨e.symm, by dsimp only; omega⟩)
      · exact .inr (.inl (by dsimp only; omega))
    · dsimp only at h3 h4
      subst h3
      rcases ht with ⟨h5, _⟩ | ⟨h5, h6⟩
      · dsimp only at h5; omega
      · dsimp only at h6; omega
theorem laters_all {X : Words3} (hV : VW X) : ∀ (n : Nat) (p t : Place), En X p → rem X p = n → Lt p t → En X t → t ∈ laters X n p
  | 0, p, t, hp, hn, hl, ht => by
    rcases hp.cases with rfl | hp
    · rcases hl with h | ⟨h, h2⟩
      · rcases ht with ⟨h3, _⟩ | ⟨h3, _⟩ <;> dsimp only at h <;> omega
      · dsimp only at h h2
        rcases ht with ⟨h3, h4⟩ | ⟨h3, _⟩ <;> omega
    · have := rem_pos hp; omega
  | n + 1, p, t, hp, hn, hl, ht => by
    have hp : Pl X p := by
      rcases hp.cases with rfl | h
      · rw [rem_end] at hn; omega
      · exact h
    obtain ⟨h1, h2, h3⟩ := next_ok hV hp
    rw [laters]
    rcases next_le hp hl ht with rfl | h
    · exact List.mem_cons_self
    · exact List.mem_cons_of_mem _ (laters_all hV n _ t h1 (by omega) h ht)
theorem fold_mono {X : Words3} {width : Int} {T : Place → Option Int} {f : Place} : ∀ (l : List Place) (b0 : Int) (a0 : Place),
    ∃ b a, l.foldl (fun acc t => pickStep acc (cand X width T f t)) (some (b0, a0)) = some (b, a) ∧ b ≤ b0
  | [], b0, a0 => ⟨b0, a0, rfl, Int.le_refl _⟩
  | t :: l, b0, a0 => by
    rw [List.foldl_cons]
    cases hc : cand X width T f t with
    | none => exact fold_mono l b0 a0
    | some y =>
      obtain ⟨t', v⟩ := y
      simp only [pickStep]
      split
      · obtain ⟨b, a, h1, h2⟩ := fold_mono l v t'
        exact ⟨b, a, h1, by omega⟩
      · exact fold_mono l b0 a0
theorem fold_le {X : Words3} {width : Int} {T : Place → Option Int} {f t t' : Place} {v : Int} (hc : cand X width T f t = some (t', v)) : ∀ (l : List Place) (acc : Option (Int × Place)), t ∈ l →
    ∃ b a, l.foldl (fun acc t => pickStep acc (cand X width T f t)) acc = some (b, a) ∧ b ≤ v
  | u :: l, acc, h => by
    rw [List.foldl_cons]
    rcases List.mem_cons.1 h with rfl | h
    · rw [hc]
      cases acc with
      | none => exact fold_mono l v t'
      | some z =>
        obtain ⟨b0, a0⟩ := z
        simp only [pickStep]
        split
        · exact fold_mono l v t'
        · obtain ⟨b, a, h1, h2⟩ := fold_mono (X := X) (width := width) (T := T) (f := f) l b0 a0
          exact ⟨b, a, h1, by omega⟩
    · exact fold_le hc l _ h
/-- A division from a place on: the ends of its lines. -/
def IsDiv (X : Words3) (width : Int) : Place → List Place → Prop
  | f, [] => f = endP X
  | f, t :: r => Pl X f ∧ Lt f t ∧ En X t ∧ sizeL X f t ≤ width ∧ IsDiv X width t r
def costL (X : Words3) (width : Int) : Place → List Place → Int
  | _, [] => 0
  | f, t :: r => costL X width t r + priceL X width f t
theorem tOf_nn {X : Words3} {K : List (List Int)} {t : Place} {c : Int} (h : tOf X K t = some c) : 0 ≤ c := by
  unfold tOf at h
  split at h
  · cases h; omega
  · split at h
    · cases h
    · cases h; omega
theorem Pl.ne {X : Words3} {f : Place} (h : Pl X f) : f ≠ endP X := by
  rintro rfl
  obtain ⟨h, _⟩ := h
  simp at h
theorem tOf_pl {X : Words3} {width : Int} {K : List (List Int)} (hV : VW X) (hw : 1 ≤ width ∧ width ≤ 512) (hT : IsTab X width K) {f : Place} (hf : Pl X f) {b : Int} {a : Place} (h : pick X width (tOf X K) f = some (b, a)) : tOf X K f = some b := by
  have h1 := hT.2 f hf
  rw [h] at h1
  obtain ⟨m1, m2, c, m3, m4⟩ := pick_mem h
  obtain ⟨k1, k2⟩ := lat_mem hV hf a m1
  have h3 := priceL_bd hV hw hf k1 k2
  have h4 := tOf_nn m3
  simp only [encB] at h1
  rw [tOf, if_neg hf.ne, if_neg (by omega), h1]
theorem div_ge {X : Words3} {width : Int} {K : List (List Int)} (hV : VW X) (hw : 1 ≤ width ∧ width ≤ 512) (hT : IsTab X width K) : ∀ (r : List Place) (f : Place), IsDiv X width f r → ∃ c, tOf X K f = some c ∧ c ≤ costL X width f r
  | [], f, h => ⟨0, by rw [tOf, if_pos (show f = endP X from h)], Int.le_refl _⟩
  | t :: r, f, ⟨h1, h2, h3, h4, h5⟩ => by
    obtain ⟨c, hc, hle⟩ := div_ge hV hw hT r t h5
    have hcand : cand X width (tOf X K) f t = some (t, c + priceL X width f t) := by rw [cand, if_neg (by omega), hc]; rfl
    obtain ⟨b, a, hp, hb⟩ := fold_le hcand (lat X f) none (laters_all hV _ f t (.inr h1) rfl h2 h3)
    refine ⟨b, tOf_pl hV hw hT h1 hp, ?_⟩
    rw [costL]; omega
theorem ends_div {X : Words3} {width : Int} {K : List (List Int)} (hV : VW X) (hw : 1 ≤ width ∧ width ≤ 512) (hT : IsTab X width K) : ∀ (r : List Place) (f : Place), IsEnds X width K f r → IsDiv X width f r ∧ tOf X K f = some (costL X width f r)
  | [], f, h => ⟨h, by rw [tOf, if_pos (show f = endP X from h)]; rfl⟩
  | t :: r, f, ⟨h1, ⟨b, h2⟩, h3⟩ => by
    obtain ⟨i1, i2⟩ := ends_div hV hw hT r t h3
    obtain ⟨m1, m2, c, m3, m4⟩ := pick_mem h2
    obtain ⟨k1, k2⟩ := lat_mem hV h1 t m1
    rw [i2] at m3
    obtain rfl : costL X width t r = c := by injection m3
    exact ⟨⟨h1, k1, k2, by omega, i1⟩, by rw [tOf_pl hV hw hT h1 h2, m4]; rfl⟩
theorem ends_ex {X : Words3} {width : Int} {K : List (List Int)} (hV : VW X) (hT : IsTab X width K) : ∀ (n : Nat) (f : Place) (c : Int), En X f → tOf X K f = some c → rem X f ≤ n → ∃ r, IsEnds X width K f r
  | n, f, c, hf, hc, hn => by
    rcases hf.cases with rfl | hf
    · exact ⟨[], rfl⟩
    · match n, hn with
      | 0, hn => have := rem_pos hf; omega
      | n + 1, hn =>
        have h1 := hT.2 f hf
        cases hp : pick X width (tOf X K) f with
        | none =>
          rw [hp] at h1
          simp only [encB] at h1
          rw [tOf, if_neg hf.ne, if_pos (by omega)] at hc
          cases hc
        | some y =>
          obtain ⟨b, t⟩ := y
          obtain ⟨m1, m2, c', m3, m4⟩ := pick_mem hp
          obtain ⟨k1, k2⟩ := lat_mem hV hf t m1
          have := rem_lt hV hf k1 k2
          obtain ⟨r, hr⟩ := ends_ex hV hT n t c' k2 m3 (by omega)
          exact ⟨t :: r, hf, ⟨b, hp⟩, hr⟩
theorem div_len {X : Words3} {width : Int} (hV : VW X) : ∀ (r : List Place) (f : Place), IsDiv X width f r → r.length ≤ rem X f
  | [], _, _ => Nat.zero_le _
  | t :: r, f, ⟨h1, h2, h3, _, h5⟩ => by
    have := div_len hV r t h5
    have := rem_lt hV h1 h2 h3
    simp only [List.length_cons]; omega
theorem sq_le {n : Int} (h0 : 0 ≤ n) (h1 : n ≤ 512) : 0 ≤ n * n ∧ n * n ≤ 262144 := by
  have := Int.mul_le_mul h1 h1 h0 (by omega)
  have := Int.mul_nonneg h0 h0
  omega
theorem cost_bd {X : Words3} {width : Int} (hV : VW X) (hw : 1 ≤ width ∧ width ≤ 512) : ∀ (r : List Place) (f : Place), IsDiv X width f r → r.length * 4294967296 ≤ costL X width f r ∧ costL X width f r ≤ r.length * 4295229440
  | [], _, _ => by simp [costL]
  | t :: r, f, ⟨h1, h2, h3, h4, h5⟩ => by
    have ih := cost_bd hV hw r t h5
    have hs := sizeL_bd hV h1 h2 h3
    have hq := sq_le (n := width - sizeL X f t) (by omega) (by omega)
    have hp : 4294967296 ≤ priceL X width f t ∧ priceL X width f t ≤ 4295229440 := by unfold priceL; split <;> omega
    simp only [costL, List.length_cons]
    omega
theorem cost_lines {X Y : Words3} {w v : Int} (hX : VW X) (hY : VW Y) (hw : 1 ≤ w ∧ w ≤ 512) (hv : 1 ≤ v ∧ v ≤ 512) {r s : List Place} {f g : Place} (hr : IsDiv X w f r) (hs : IsDiv Y v g s) (h : costL X w f r ≤ costL Y v g s) : r.length ≤ s.length := by
  have h1 := cost_bd hX hw r f hr
  have h2 := cost_bd hY hv s g hs
  have h3 := div_len hY s g hs
  have h4 := rem_le hY g
  omega
theorem En.zero {X : Words3} (hV : VW X) : En X (0, 0) := by
  by_cases h : X.length = 0
  · exact .inl ⟨h.symm, rfl⟩
  · exact .inr ⟨by dsimp only; omega, (hV.2 0 (by omega)).1⟩
/-- What Fill finds. -/
theorem fill_best {X : Words3} {width : Int} (hv : validB X width = true) :
    (fillM X width = (14, [], []) ∧ ∀ r, ¬ IsDiv X width (0, 0) r) ∨
    ∃ r, IsDiv X width (0, 0) r ∧ fillM X width = (0, toI r, tableL X width) ∧ IsTab X width (tableL X width) ∧ tOf X (tableL X width) (0, 0) = some (costL X width (0, 0) r) ∧ ∀ s, IsDiv X width (0, 0) s → costL X width (0, 0) r ≤ costL X width (0, 0) s := by
  obtain ⟨hV, hw⟩ := validB_VW hv
  have hT := tableL_tab hV hw
  generalize hK : tableL X width = K at hT
  cases hc : tOf X K (0, 0) with
  | none =>
    have hne : ¬ (0, 0) = endP X := by
      intro e; rw [tOf, if_pos e] at hc; cases hc
    have hk : kAt K (0, 0) < 0 := by
      rw [tOf, if_neg hne] at hc
      split at hc
      · assumption
      · cases hc
    have hl : 0 < X.length := by
      rcases (En.zero hV).cases with h | h
      · exact absurd h hne
      · exact h.1
    refine .inl ⟨by rw [fillM, if_pos hv]; simp only [hK, hl, hk, and_self, if_true], fun r hr => ?_⟩
    obtain ⟨c, h, _⟩ := div_ge hV hw hT r _ hr
    rw [hc] at h; cases h
  | some c =>
    obtain ⟨r, hr⟩ := ends_ex hV hT _ (0, 0) c (En.zero hV) hc (Nat.le_refl _)
    obtain ⟨h1, h2⟩ := ends_div hV hw hT r _ hr
    have hno : ¬ (0 < X.length ∧ kAt K (0, 0) < 0) := by
      rintro ⟨h3, h4⟩
      rw [tOf, if_neg (by intro e; have : (0 : Nat) = X.length := congrArg Prod.fst e; omega), if_pos h4] at hc
      cases hc
    refine .inr ⟨r, h1, ?_, hT, hc ▸ h2, fun s hs => ?_⟩
    · rw [fillM, if_pos hv]
      simp only [hK, if_neg hno]
      rw [endsGo_ok _ _ r hr (ends_len hV hT r _ hr)]
    · obtain ⟨c', k1, k2⟩ := div_ge hV hw hT s _ hs
      rw [h2] at k1
      injection k1 with k1
      omega
/-- A division stays one in wider lines. -/
theorem IsDiv.wider {X : Words3} {w v : Int} (h : w ≤ v) : ∀ (r : List Place) (f : Place), IsDiv X w f r → IsDiv X v f r
  | [], _, h2 => h2
  | _ :: r, _, ⟨h1, h2, h3, h4, h5⟩ => ⟨h1, h2, h3, by omega, IsDiv.wider h r _ h5⟩
theorem sumS_more {X : Words3} (hV : VW X) (q : Nat) (s : Int) : ∀ (m n : Nat), q + (n + m) ≤ X.length → sumS X q s n ≤ sumS X q s (n + m)
  | 0, n, _ => Int.le_refl _
  | m + 1, n, h => by
    have ih := sumS_more hV q s m n (by omega)
    have hp : q + (n + m) < X.length := by omega
    have h1 := hV.elem (j := (rowAt X (q + (n + m)) 0).length - 1) hp (Nat.lt_of_lt_of_le Nat.zero_lt_one (hV.2 _ hp).1)
    show _ ≤ sumS X q s (n + m) + 1 + lastW (rowAt X (q + (n + m)) 0)
    unfold lastW
    omega
theorem sumS_congr {X Y : Words3} {q : Nat} {s : Int} : ∀ (n : Nat), (∀ i, i < q + n → rowAt X i 0 = rowAt Y i 0) → sumS X q s n = sumS Y q s n
  | 0, _ => rfl
  | n + 1, h => by rw [sumS, sumS, sumS_congr n fun i hi => h i (by omega), h (q + n) (by omega)]
theorem rowAt_take {X : Words3} {k i : Nat} (h : i < k) (j : Nat) : rowAt (X.take k) i j = rowAt X i j := by
  simp only [rowAt, List.getD_eq_getElem?_getD, List.getElem?_take, if_pos h]
theorem size_take {X : Words3} {k : Nat} {f t : Place} (h1 : f.1 < k) (h2 : t.1 < k) : sizeL (X.take k) f t = sizeL X f t := by
  simp only [sizeL, rowAt_take h1, rowAt_take h2]
  split
  · rfl
  · rw [sumS_congr (Y := X) (t.1 - f.1 - 1) fun i hi => rowAt_take (by omega) 0]
theorem size_cut {X : Words3} (hV : VW X) {k : Nat} {f t : Place} (hf : Pl X f) (ht : En X t) (h1 : f.1 < k) (h2 : k ≤ t.1) : sizeL (X.take k) f (k, 0) ≤ sizeL X f t := by
  have hq : t.1 ≤ X.length := by
    rcases ht with h | ⟨h, _⟩
    · exact Nat.le_of_eq h.1
    · exact Nat.le_of_lt h
  have e1 : ¬ f.1 = k := by omega
  have e2 : ¬ f.1 = t.1 := by omega
  simp only [sizeL, if_neg e1, if_neg e2, if_true, rowAt_take h1]
  rw [sumS_congr (Y := X) (k - f.1 - 1) fun i hi => rowAt_take (by omega) 0]
  have hm := sumS_more hV (f.1 + 1) (lastW (rowAt X f.1 f.2)) (t.1 - k) (k - f.1 - 1) (by omega)
  rw [show k - f.1 - 1 + (t.1 - k) = t.1 - f.1 - 1 by omega] at hm
  split
  · exact hm
  · rename_i hj
    rcases ht with h | ⟨h, h4⟩
    · exact absurd h.2 hj
    · have := hV.elem (j := t.2 - 1) h (Nat.lt_of_lt_of_le Nat.zero_lt_one (hV.2 _ h).1)
      omega
theorem VW.take {X : Words3} (hV : VW X) (k : Nat) : VW (X.take k) := by
  refine ⟨by rw [List.length_take]; have := hV.1; omega, fun p hp => ?_⟩
  rw [List.getElem_take]
  exact hV.2 p (by rw [List.length_take] at hp; omega)
theorem pl_take {X : Words3} {k : Nat} {f : Place} (h : Pl X f) (hk : f.1 < k) : Pl (X.take k) f := by
  obtain ⟨h1, h2⟩ := h
  exact ⟨by rw [List.length_take]; omega, by rw [List.getElem_take]; exact h2⟩
/-- A division, cut behind the first k words. -/
theorem IsDiv.cut {X : Words3} {w : Int} (hV : VW X) {k : Nat} (hk : k ≤ X.length) : ∀ (r : List Place) (f : Place), IsDiv X w f r → f.1 < k → ∃ s, IsDiv (X.take k) w f s ∧ s.length ≤ r.length
  | [], f, h, h1 => by
    have : f = endP X := h
    rw [this] at h1; dsimp only at h1; omega
  | t :: r, f, ⟨h1, h2, h3, h4, h5⟩, hf => by
    have hend : endP (X.take k) = (k, 0) := by rw [endP, List.length_take]; congr 1; omega
    by_cases ht : t.1 < k
    · have hpt : Pl X t := by
        rcases h3 with h | h
        · omega
        · exact h
      obtain ⟨s, hs, hl⟩ := IsDiv.cut hV hk r t h5 ht
      exact ⟨t :: s, ⟨pl_take h1 hf, h2, .inr (pl_take hpt ht), by rw [size_take hf ht]; exact h4, hs⟩, by simpa using hl⟩
    · refine ⟨[(k, 0)], ⟨pl_take h1 hf, .inl hf, .inl ⟨congrArg Prod.fst hend.symm, rfl⟩, ?_, hend.symm⟩, by simp⟩
      have := size_cut hV h1 h3 hf (by omega)
      omega
end Go.Proofs.Ytehelanfgepcmaa
