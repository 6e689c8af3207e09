import Derived.Test.YtehelanfgepcmaaT
set_option linter.unusedSimpArgs false
set_option linter.unusedVariables false
set_option linter.unusedSectionVars false
namespace Go.Proofs.Ytehelanfgepcmaa
open Go.RowKit Dac

def bestStep (X : List (List (List Int))) (T : Place → Option Int) (width : Int) (f : Place) (acc : Option Int) (x : Place × Int) : Option Int :=
  match T x.1 with
  | none => acc
  | some c => match acc with
    | none => some (c + priceL X width f x.1)
    | some b => some (if c + priceL X width f x.1 < b then c + priceL X width f x.1 else b)
def bestL (X : List (List (List Int))) (T : Place → Option Int) (width : Int) (f : Place) (l : List (Place × Int)) : Option Int := l.foldl (bestStep X T width f) none
theorem bestL_snoc {X : List (List (List Int))} {T : Place → Option Int} {width : Int} {f : Place} (l : List (Place × Int)) (x : Place × Int) :
    bestL X T width f (l ++ [x]) = bestStep X T width f (bestL X T width f l) x := by simp [bestL]
theorem best_go {X : List (List (List Int))} {T : Place → Option Int} {width : Int} {f : Place} : ∀ (l : List Place) (acc : Option (Int × Place)),
    (l.filterMap fun t => if width < sizeL X f t then none else some (t, sizeL X f t)).foldl (bestStep X T width f) (acc.map (·.1)) =
      (l.foldl (fun acc t => pickStep acc (cand X width T f t)) acc).map (·.1)
  | [], _ => rfl
  | t :: l, acc => by
    rw [List.filterMap_cons, List.foldl_cons]
    by_cases hw : width < sizeL X f t
    · have h1 : cand X width T f t = none := by rw [cand, if_pos hw]
      rw [if_pos hw, h1]
      exact best_go l acc
    · rw [if_neg hw]
      simp only [List.foldl_cons]
      have h1 : cand X width T f t = (T t).map fun c => (t, c + priceL X width f t) := by rw [cand, if_neg hw]
      rw [h1, ← best_go l]
      congr 1
      cases hT : T t with
      | none => simp [bestStep, hT, pickStep]
      | some c =>
        cases acc with
        | none => simp [bestStep, hT, pickStep]
        | some a =>
          obtain ⟨b, p⟩ := a
          simp only [bestStep, hT, pickStep, Option.map_some]
          by_cases h2 : c + priceL X width f t ≤ b
          · rw [if_pos h2]
            simp only [Option.map_some, Option.some.injEq]
            split <;> omega
          · rw [if_neg h2, if_neg (by omega)]; rfl
theorem bestL_pick {X : List (List (List Int))} {T : Place → Option Int} {width : Int} {f : Place} : bestL X T width f (linesX X width f) = (pick X width T f).map (·.1) :=
  best_go (lat X f) none

/-- The places whose least cost the map holds, when those from c on are done. -/
def In (X : List (List (List Int))) (c p : Place) : Prop := p = endP X ∨ (Pl X p ∧ ¬ Lt p c)
def Dict (X : List (List (List Int))) (K : List (List Int)) (c : Place) (T : Place → Option Int) : Prop := (∀ p, In X c p → T p = tOf X K p) ∧ (∀ p, ¬ In X c p → T p = none)
def upd (T : Place → Option Int) (f : Place) (b : Option Int) (p : Place) : Option Int := if p = f then b else T p
def noPl (X : List (List (List Int))) (p : Place) : Option Int := if p = endP X then some 0 else none

theorem dict_nil (X : List (List (List Int))) (K : List (List Int)) : Dict X K (X.length, 0) (noPl X) := by
  constructor
  · rintro p (rfl | ⟨⟨h1, h2⟩, h3⟩)
    · simp [noPl, tOf]
    · exact absurd (.inl h1) h3
  · intro p h
    rw [noPl, if_neg (fun e => h (.inl e))]
theorem dict_row {X : List (List (List Int))} {K : List (List Int)} {k : Nat} (hk : k < X.length) {T : Place → Option Int} (h : Dict X K (k + 1, 0) T) : Dict X K (k, X[k].length) T := by
  have key : ∀ p, In X (k, X[k].length) p ↔ In X (k + 1, 0) p := by
    intro p
    unfold In
    refine or_congr Iff.rfl (and_congr_right fun hp => ?_)
    obtain ⟨q, j⟩ := p
    obtain ⟨h1, h2⟩ := hp
    dsimp only at h1 h2
    unfold Lt
    dsimp only
    constructor
    · intro h3 h4
      rcases h4 with h4 | h4
      · by_cases e : q = k
        · subst e; exact h3 (.inr ⟨rfl, h2⟩)
        · exact h3 (.inl (by omega))
      · omega
    · intro h3 h4
      exact h3 (.inl (by omega))
  exact ⟨fun p hp => h.1 p ((key p).1 hp), fun p hp => h.2 p (fun e => hp ((key p).2 e))⟩
theorem dict_end {X : List (List (List Int))} {K : List (List Int)} {k : Nat} {T : Place → Option Int} (h : Dict X K (k, 0) T) (hk : k = 0) : Dict X K (0, 0) T := by subst hk; exact h
theorem pl_end {X : List (List (List Int))} {f : Place} (h : Pl X f) : f ≠ endP X := by
  rintro rfl
  obtain ⟨h1, _⟩ := h
  simp [endP] at h1
theorem dict_none {X : List (List (List Int))} {K : List (List Int)} {k n : Nat} {T : Place → Option Int} (hf : Pl X (k, n)) (h : Dict X K (k, n + 1) T) : T (k, n) = none := by
  refine h.2 _ ?_
  rintro (e | ⟨_, h2⟩)
  · exact pl_end hf e
  · exact h2 (.inr ⟨rfl, by show n < n + 1; omega⟩)
theorem dict_lat {X : List (List (List Int))} {K : List (List Int)} {k n : Nat} {T : Place → Option Int} (hV : VW X) (hf : Pl X (k, n)) (h : Dict X K (k, n + 1) T) : ∀ t ∈ lat X (k, n), T t = tOf X K t := by
  intro t ht
  obtain ⟨h1, h2⟩ := lat_mem hV hf t ht
  refine h.1 t ?_
  rcases h2.cases with e | e
  · exact .inl e
  · refine .inr ⟨e, ?_⟩
    rintro (h3 | ⟨h3, h4⟩)
    · rcases h1 with h1 | ⟨h1, h5⟩ <;> dsimp only at * <;> omega
    · rcases h1 with h1 | ⟨h1, h5⟩ <;> dsimp only at * <;> omega
theorem tOf_bd {X : List (List (List Int))} {width : Int} {K : List (List Int)} (hV : VW X) (hw : 1 ≤ width ∧ width ≤ 512) (hT : IsTab X width K) {t : Place} (ht : En X t) {c : Int} (h : tOf X K t = some c) : 0 ≤ c ∧ c ≤ 100000000000000000 := by
  unfold tOf at h
  split at h
  · cases h; omega
  · rename_i hne
    have hp := ht.cases.resolve_left hne
    split at h
    · cases h
    · have h1 := hT.bd hV hw _ t hp (Nat.le_refl _)
      have h2 := rem_le hV t
      simp only [Option.some.injEq] at h
      omega
theorem tOf_pick {X : List (List (List Int))} {width : Int} {K : List (List Int)} (hV : VW X) (hw : 1 ≤ width ∧ width ≤ 512) (hT : IsTab X width K) {f : Place} (hf : Pl X f) : tOf X K f = (pick X width (tOf X K) f).map (·.1) := by
  have h1 := hT.2 f hf
  rw [tOf, if_neg (pl_end hf), h1]
  cases hp : pick X width (tOf X K) f with
  | none => rfl
  | some x =>
    obtain ⟨b, a⟩ := x
    obtain ⟨h1, h2, c, h3, rfl⟩ := pick_mem hp
    obtain ⟨h4, h5⟩ := lat_mem hV hf a h1
    have h6 := priceL_bd hV hw hf h4 h5
    have h7 := tOf_bd hV hw hT h5 h3
    show (if c + priceL X width f a < 0 then none else some (c + priceL X width f a)) = some (c + priceL X width f a)
    exact if_neg (by omega)
theorem dict_step {X : List (List (List Int))} {width : Int} {K : List (List Int)} {k n : Nat} {T : Place → Option Int} (hV : VW X) (hw : 1 ≤ width ∧ width ≤ 512) (hT : IsTab X width K) (hf : Pl X (k, n)) (h : Dict X K (k, n + 1) T) :
    Dict X K (k, n) (upd T (k, n) (bestL X T width (k, n) (linesX X width (k, n)))) := by
  have hb : bestL X T width (k, n) (linesX X width (k, n)) = tOf X K (k, n) := by
    rw [bestL_pick, pick_congr (dict_lat hV hf h), tOf_pick hV hw hT hf]
  rw [hb]
  constructor
  · intro p hp
    by_cases e : p = (k, n)
    · rw [upd, if_pos e, e]
    · rw [upd, if_neg e]
      refine h.1 p (hp.imp_right fun h1 => ⟨h1.1, ?_⟩)
      intro h2
      obtain ⟨q, j⟩ := p
      rcases h2 with h2 | ⟨h2, h3⟩
      · exact h1.2 (.inl h2)
      · dsimp only at h2 h3
        subst h2
        by_cases e2 : j = n
        · exact e (by rw [e2])
        · exact h1.2 (.inr ⟨rfl, by show j < n; omega⟩)
  · intro p hp
    rw [upd, if_neg (fun e => hp (.inr ⟨by rw [e]; exact hf, by rw [e]; rintro (h1 | ⟨_, h1⟩) <;> dsimp only at h1 <;> omega⟩))]
    refine h.2 p (fun h1 => hp (h1.imp_right fun h2 => ⟨h2.1, fun h3 => h2.2 ?_⟩))
    rcases h3 with h3 | ⟨h3, h4⟩
    · exact .inl h3
    · exact .inr ⟨h3, by dsimp only at h4 ⊢; omega⟩
theorem upd_nil {T : Place → Option Int} {f : Place} (h : T f = none) : upd T f none = T := by
  funext p
  unfold upd
  split
  · rename_i e; rw [e, h]
  · rfl
theorem line_mem {X : List (List (List Int))} {width : Int} {f : Place} (hV : VW X) (hf : Pl X f) {x : Place × Int} (h : x ∈ linesX X width f) : x.1 ∈ lat X f ∧ Lt f x.1 ∧ En X x.1 ∧ x.2 = sizeL X f x.1 ∧ x.2 ≤ width := by
  unfold linesX restL at h
  rw [List.mem_filterMap] at h
  obtain ⟨t, ht, h2⟩ := h
  split at h2
  · cases h2
  · rename_i hw
    obtain rfl := Option.some.inj h2
    obtain ⟨h3, h4⟩ := lat_mem hV hf t ht
    exact ⟨ht, h3, h4, rfl, by dsimp only; omega⟩
end Go.Proofs.Ytehelanfgepcmaa
