import Derived.Test.YtehelanfgepcmaaM
set_option linter.unusedSimpArgs false
set_option linter.unusedVariables false
set_option linter.unusedSectionVars false
namespace Go.Proofs.Ytehelanfgepcmaa
open Go.RowKit Dac

theorem fold_mem {X : List (List (List Int))} {width : Int} {T : Place → Option Int} {f : Place} : ∀ (l : List Place) (acc : Option (Int × Place)) (b : Int) (a : Place),
    l.foldl (fun acc t => pickStep acc (cand X width T f t)) acc = some (b, a) → acc = some (b, a) ∨ (a ∈ l ∧ cand X width T f a = some (a, b))
  | [], _, _, _, h => .inl h
  | t :: l, acc, b, a, h => by
    rw [List.foldl_cons] at h
    rcases fold_mem l _ b a h with h1 | ⟨h1, h2⟩
    · cases hc : cand X width T f t with
      | none => rw [hc] at h1; exact .inl h1
      | some y =>
        obtain ⟨t', v⟩ := y
        have ht' : t' = t := by
          rw [cand] at hc
          split at hc
          · cases hc
          · cases hT : T t with
            | none => rw [hT] at hc; cases hc
            | some c => rw [hT] at hc; simp at hc; exact hc.1.symm
        subst ht'
        rw [hc] at h1
        cases acc with
        | none =>
          simp only [pickStep, Option.some.injEq, Prod.mk.injEq] at h1
          obtain ⟨rfl, rfl⟩ := h1
          exact .inr ⟨by simp, hc⟩
        | some z =>
          obtain ⟨b0, a0⟩ := z
          simp only [pickStep] at h1
          split at h1
          · simp only [Option.some.injEq, Prod.mk.injEq] at h1
            obtain ⟨rfl, rfl⟩ := h1
            exact .inr ⟨by simp, hc⟩
          · exact .inl h1
    · exact .inr ⟨by simp [h1], h2⟩
theorem pick_mem {X : List (List (List Int))} {width : Int} {T : Place → Option Int} {f : Place} {b : Int} {a : Place} (h : pick X width T f = some (b, a)) :
    a ∈ lat X f ∧ ¬ width < sizeL X f a ∧ ∃ c, T a = some c ∧ b = c + priceL X width f a := by
  rcases fold_mem _ _ _ _ h with h1 | ⟨h1, h2⟩
  · cases h1
  · refine ⟨h1, ?_⟩
    rw [cand] at h2
    split at h2
    · cases h2
    · rename_i h3
      refine ⟨h3, ?_⟩
      cases hT : T a with
      | none => rw [hT] at h2; cases h2
      | some c => rw [hT] at h2; simp at h2; exact ⟨c, rfl, h2.symm⟩
theorem pick_congr {X : List (List (List Int))} {width : Int} {T T' : Place → Option Int} {f : Place} (h : ∀ t ∈ lat X f, T t = T' t) : pick X width T f = pick X width T' f := by
  unfold pick
  have : ∀ (l : List Place) (acc : Option (Int × Place)), (∀ t ∈ l, T t = T' t) → l.foldl (fun acc t => pickStep acc (cand X width T f t)) acc = l.foldl (fun acc t => pickStep acc (cand X width T' f t)) acc := by
    intro l
    induction l with
    | nil => intros; rfl
    | cons t l ih =>
      intro acc hl
      rw [List.foldl_cons, List.foldl_cons, show cand X width T f t = cand X width T' f t from by rw [cand, cand, hl t (by simp)]]
      exact ih _ fun t ht => hl t (by simp [ht])
  exact this _ _ h

theorem tOf_congr {X : List (List (List Int))} {K K' : List (List Int)} {t : Place} (h : t = endP X ∨ kAt K t = kAt K' t) : tOf X K t = tOf X K' t := by
  unfold tOf
  rcases h with h | h
  · rw [if_pos h, if_pos h]
  · rw [h]
theorem En.cases {X : List (List (List Int))} {t : Place} (h : En X t) : t = endP X ∨ Pl X t := by
  rcases h with h | h
  · exact .inl (Prod.ext h.1 h.2)
  · exact .inr h
theorem pick_bd {X : List (List (List Int))} {width : Int} {K : List (List Int)} (hV : VW X) (hw : 1 ≤ width ∧ width ≤ 512) {f : Place} (hf : Pl X f) (hB : Bd X K f) :
    -1 ≤ encB (pick X width (tOf X K) f) ∧ encB (pick X width (tOf X K) f) ≤ rem X f * 10000000000000 := by
  cases hp : pick X width (tOf X K) f with
  | none => simp only [encB]; omega
  | some x =>
    obtain ⟨b, a⟩ := x
    obtain ⟨h1, h2, c, h3, rfl⟩ := pick_mem hp
    obtain ⟨h4, h5⟩ := lat_mem hV hf a h1
    have h6 := priceL_bd hV hw hf h4 h5
    have h7 := rem_lt hV hf h4 h5
    simp only [encB]
    unfold tOf at h3
    split at h3
    · cases h3; omega
    · rename_i hne
      have hpa := h5.cases.resolve_left hne
      obtain ⟨k1, k2⟩ := hB a hpa h4
      split at h3
      · cases h3
      · simp only [Option.some.injEq] at h3
        omega

theorem kAt_set {K : List (List Int)} {p i : Nat} (hp : p < K.length) (hi : i < K[p].length) (x : Int) (t : Place) : kAt (K.set p (K[p].set i x)) t = if t = (p, i) then x else kAt K t := by
  obtain ⟨q, j⟩ := t
  simp only [kAt, Prod.mk.injEq]
  by_cases hq : q = p
  · subst hq
    have : (K.set q (K[q].set i x)).getD q [] = K[q].set i x := by simp [hp]
    rw [this]
    have h2 : K.getD q [] = K[q] := by simp [hp]
    rw [h2]
    by_cases hj : j = i
    · subst hj; simp [hi]
    · simp [hj, List.getElem?_set, Ne.symm hj]
  · have : (K.set p (K[p].set i x)).getD q [] = K.getD q [] := by simp [List.getElem?_set, Ne.symm hq]
    rw [this]; simp [hq]

/-- From place (p, n) on the table is right, and within bounds. -/
def Good (X : List (List (List Int))) (width : Int) (K : List (List Int)) (p n : Nat) : Prop :=
  ∀ t, Pl X t → (p < t.1 ∨ (p = t.1 ∧ n ≤ t.2)) → kAt K t = encB (pick X width (tOf X K) t) ∧ -1 ≤ kAt K t ∧ kAt K t ≤ rem X t * 10000000000000

theorem good_step {X : List (List (List Int))} {width : Int} {K : List (List Int)} (hV : VW X) (hw : 1 ≤ width ∧ width ≤ 512) (hS : Shp X K) {p n : Nat} (hp : p < X.length) (hn : n < X[p].length) (hG : Good X width K p (n + 1)) :
    Shp X (K.set p ((K.getD p []).set n (leastL X width K (p, n)).1)) ∧ Good X width (K.set p ((K.getD p []).set n (leastL X width K (p, n)).1)) p n := by
  have hpK : p < K.length := by rw [hS.1]; exact hp
  have hg : K.getD p [] = K[p] := by simp [hpK]
  have hnK : n < K[p].length := by rw [hS.2 p hp hpK]; exact hn
  have hf : Pl X (p, n) := ⟨hp, hn⟩
  have hB : Bd X K (p, n) := fun t ht hl => by
    have := hG t ht (by rcases hl with h | ⟨h, h2⟩; exact .inl h; exact .inr ⟨h, h2⟩)
    exact this.2
  rw [hg, leastL_pick hV hw hf hB]
  dsimp only
  have hbd := pick_bd hV hw hf hB
  generalize hv : encB (pick X width (tOf X K) (p, n)) = val at *
  refine ⟨hS.set hpK _ _, fun t ht hl => ?_⟩
  have hsame : ∀ s, s ≠ (p, n) → tOf X (K.set p (K[p].set n val)) s = tOf X K s := fun s hs => tOf_congr (.inr (by rw [kAt_set hpK hnK, if_neg hs]))
  have hpk : pick X width (tOf X (K.set p (K[p].set n val))) t = pick X width (tOf X K) t := pick_congr fun s hs => hsame s (by
    obtain ⟨h1, _⟩ := lat_mem hV ht s hs
    intro e; subst e
    rcases h1 with h | ⟨h, h2⟩ <;> dsimp only at h <;> (try dsimp only at h2) <;> omega)
  rw [hpk, kAt_set hpK hnK]
  split
  · rename_i e; subst e; exact ⟨hv.symm, hbd⟩
  · rename_i e
    refine hG t ht ?_
    rcases hl with h | ⟨h, h2⟩
    · exact .inl h
    · refine .inr ⟨h, ?_⟩
      have : t.2 ≠ n := fun e2 => e (Prod.ext h.symm e2)
      omega
theorem good_row {X : List (List (List Int))} {width : Int} (hV : VW X) (hw : 1 ≤ width ∧ width ≤ 512) {p : Nat} (hp : p < X.length) : ∀ (n : Nat) (K : List (List Int)), n ≤ X[p].length → Shp X K → Good X width K p n →
    Shp X (tblRow X width p n K) ∧ Good X width (tblRow X width p n K) p 0
  | 0, K, _, hS, hG => ⟨hS, hG⟩
  | n + 1, K, hn, hS, hG => by
    obtain ⟨h1, h2⟩ := good_step hV hw hS hp (by omega) hG
    rw [tblRow]
    exact good_row hV hw hp n _ (by omega) h1 h2
theorem good_all {X : List (List (List Int))} {width : Int} (hV : VW X) (hw : 1 ≤ width ∧ width ≤ 512) : ∀ (n : Nat) (K : List (List Int)), n ≤ X.length → Shp X K → Good X width K n 0 →
    Shp X (tblAll X width n K) ∧ Good X width (tblAll X width n K) 0 0
  | 0, K, _, hS, hG => ⟨hS, hG⟩
  | n + 1, K, hn, hS, hG => by
    have hp : n < X.length := by omega
    have hg : X.getD n [] = X[n] := by simp [hp]
    obtain ⟨h1, h2⟩ := good_row hV hw hp X[n].length K (Nat.le_refl _) hS (fun t ht hl => hG t ht (by
      obtain ⟨a, b⟩ := ht
      rcases hl with h | ⟨h, h2⟩
      · by_cases h3 : t.1 = n + 1
        · exact .inr ⟨h3.symm, Nat.zero_le _⟩
        · exact .inl (by omega)
      · have : X[t.1].length = X[n].length := by simp only [← h]
        omega))
    rw [tblAll, hg]
    exact good_all hV hw n _ (by omega) h1 h2

theorem tableL_tab {X : List (List (List Int))} {width : Int} (hV : VW X) (hw : 1 ≤ width ∧ width ≤ 512) : IsTab X width (tableL X width) := by
  obtain ⟨h1, h2⟩ := good_all (width := width) hV hw X.length (X.map fun wd => List.replicate wd.length 0) (Nat.le_refl _) ⟨by simp, fun p h h2 => by simp⟩ (fun t ht hl => by
    obtain ⟨a, b⟩ := ht
    rcases hl with h | ⟨h, _⟩ <;> omega)
  exact ⟨h1, fun f hf => (h2 f hf (by by_cases h : f.1 = 0; exact .inr ⟨h.symm, Nat.zero_le _⟩; exact .inl (by omega))).1⟩

theorem IsTab.bd {X : List (List (List Int))} {width : Int} {K : List (List Int)} (hV : VW X) (hw : 1 ≤ width ∧ width ≤ 512) (h : IsTab X width K) : ∀ (n : Nat) (t : Place), Pl X t → rem X t ≤ n → -1 ≤ kAt K t ∧ kAt K t ≤ rem X t * 10000000000000
  | 0, t, ht, hr => by have := rem_pos ht; omega
  | n + 1, t, ht, hr => by
    rw [h.2 t ht]
    exact pick_bd hV hw ht fun s hs hl => IsTab.bd hV hw h n s hs (by have := rem_lt hV ht hl (.inr hs); omega)
theorem IsTab.Bd {X : List (List (List Int))} {width : Int} {K : List (List Int)} (hV : VW X) (hw : 1 ≤ width ∧ width ≤ 512) (h : IsTab X width K) (f : Place) : Bd X K f := fun t ht _ => h.bd hV hw _ t ht (Nat.le_refl _)

/-- There is one table. -/
theorem IsTab.uniq {X : List (List (List Int))} {width : Int} {K K' : List (List Int)} (hV : VW X) (h : IsTab X width K) (h' : IsTab X width K') : K = K' := by
  have key : ∀ (n : Nat) (t : Place), Pl X t → rem X t ≤ n → kAt K t = kAt K' t := by
    intro n
    induction n with
    | zero => intro t ht hr; have := rem_pos ht; omega
    | succ n ih =>
      intro t ht hr
      rw [h.2 t ht, h'.2 t ht]
      congr 1
      refine pick_congr fun s hs => ?_
      obtain ⟨h1, h2⟩ := lat_mem hV ht s hs
      have h3 := rem_lt hV ht h1 h2
      rcases h2.cases with h4 | h4
      · exact tOf_congr (.inl h4)
      · exact tOf_congr (.inr (ih s h4 (by omega)))
  apply List.ext_getElem (by rw [h.1.1, h'.1.1])
  intro p hp hp'
  have hpX : p < X.length := by rw [← h.1.1]; exact hp
  apply List.ext_getElem (by rw [h.1.2 p hpX hp, h'.1.2 p hpX hp'])
  intro i hi hi'
  have hiX : i < X[p].length := by rw [← h.1.2 p hpX hp]; exact hi
  have := key _ (p, i) ⟨hpX, hiX⟩ (Nat.le_refl _)
  simpa [kAt, hp, hp', hi, hi'] using this
theorem IsEnds.uniq {X : List (List (List Int))} {width : Int} {K : List (List Int)} : ∀ (r r' : List Place) (f : Place), IsEnds X width K f r → IsEnds X width K f r' → r = r'
  | [], [], _, _, _ => rfl
  | [], t :: r', f, h, ⟨⟨h1, _⟩, _⟩ => by rw [h] at h1; simp at h1
  | t :: r, [], f, ⟨⟨h1, _⟩, _⟩, h => by rw [h] at h1; simp at h1
  | t :: r, t' :: r', f, ⟨_, ⟨b, h1⟩, h2⟩, ⟨_, ⟨b', h1'⟩, h2'⟩ => by
    rw [h1] at h1'
    simp only [Option.some.injEq, Prod.mk.injEq] at h1'
    obtain ⟨_, rfl⟩ := h1'
    rw [IsEnds.uniq r r' t h2 h2']
end Go.Proofs.Ytehelanfgepcmaa
