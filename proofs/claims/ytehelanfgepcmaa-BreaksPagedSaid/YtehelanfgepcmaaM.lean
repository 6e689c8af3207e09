import Derived.Test.YtehelanfgepcmaaL
set_option linter.unusedSimpArgs false
set_option linter.unusedVariables false
set_option linter.unusedSectionVars false
namespace Go.Proofs.Ytehelanfgepcmaa
open Go.RowKit Dac

abbrev Place := Nat × Nat
def laters (X : List (List (List Int))) : Nat → Place → List Place
  | 0, _ => []
  | n + 1, p => next X p :: laters X n (next X p)
/-- The places behind f, in their order, the end the last one. -/
def lat (X : List (List (List Int))) (f : Place) : List Place := laters X (rem X f) f
/-- The lines that begin at f, with what they and what follows them cost (T: the least cost of each place). -/
def cand (X : List (List (List Int))) (width : Int) (T : Place → Option Int) (f t : Place) : Option (Place × Int) :=
  if width < sizeL X f t then none else (T t).map fun c => (t, c + priceL X width f t)
def pickStep (acc : Option (Int × Place)) (x : Option (Place × Int)) : Option (Int × Place) :=
  match x with
  | none => acc
  | some (t, v) => match acc with
    | none => some (v, t)
    | some (b, a) => if v ≤ b then some (v, t) else some (b, a)
/-- The least cost at f, and the last line that has it. -/
def pick (X : List (List (List Int))) (width : Int) (T : Place → Option Int) (f : Place) : Option (Int × Place) :=
  (lat X f).foldl (fun acc t => pickStep acc (cand X width T f t)) none
def tOf (X : List (List (List Int))) (K : List (List Int)) (t : Place) : Option Int := if t = endP X then some 0 else if kAt K t < 0 then none else some (kAt K t)
def encB : Option (Int × Place) → Int
  | none => -1
  | some (b, _) => b
def encA (f : Place) : Option (Int × Place) → Place
  | none => f
  | some (_, a) => a
/-- A table of least costs. -/
def IsTab (X : List (List (List Int))) (width : Int) (K : List (List Int)) : Prop := Shp X K ∧ ∀ f, Pl X f → kAt K f = encB (pick X width (tOf X K) f)
/-- The ends of the lines of the best division from f on. -/
def IsEnds (X : List (List (List Int))) (width : Int) (K : List (List Int)) : Place → List Place → Prop
  | f, [] => f = endP X
  | f, t :: r => Pl X f ∧ (∃ b, pick X width (tOf X K) f = some (b, t)) ∧ IsEnds X width K t r

/-- Costs of the places behind f are within bounds. -/
def Bd (X : List (List (List Int))) (K : List (List Int)) (f : Place) : Prop := ∀ t, Pl X t → Lt f t → -1 ≤ kAt K t ∧ kAt K t ≤ rem X t * 10000000000000

theorem laters_mem {X : List (List (List Int))} (hV : VW X) : ∀ (n : Nat) (p : Place), En X p → rem X p = n → ∀ t ∈ laters X n p, Lt p t ∧ En X t
  | 0, _, _, _, t, h => by simp [laters] at h
  | n + 1, p, he, hn, t, h => by
    have hp : Pl X p := by
      rcases he with h0 | h0
      · have : p = endP X := Prod.ext h0.1 h0.2
        rw [this, rem_end] at hn; omega
      · exact h0
    obtain ⟨h1, h2, h3⟩ := next_ok hV hp
    simp only [laters, List.mem_cons] at h
    rcases h with rfl | h
    · exact ⟨h2, h1⟩
    · obtain ⟨k1, k2⟩ := laters_mem hV n (next X p) h1 (by omega) t h
      exact ⟨h2.trans k1, k2⟩
theorem lat_mem {X : List (List (List Int))} (hV : VW X) {f : Place} (hf : Pl X f) : ∀ t ∈ lat X f, Lt f t ∧ En X t := laters_mem hV _ f (.inr hf) rfl

theorem rem_le {X : List (List (List Int))} (hV : VW X) (p : Place) : rem X p ≤ 8192 := by
  have h : ∀ l : List (List (List Int)), (∀ x ∈ l, x.length ≤ 16) → (l.map List.length).sum ≤ 16 * l.length := by
    intro l
    induction l with
    | nil => simp
    | cons a l ih =>
      intro h
      have h1 := h a (by simp)
      have h2 := ih (fun x hx => h x (by simp [hx]))
      simp only [List.map_cons, List.sum_cons, List.length_cons]
      omega
  have h1 := h (X.drop p.1) (fun x hx => by
    obtain ⟨j, hj, rfl⟩ := List.getElem_of_mem (List.mem_of_mem_drop hx)
    exact (hV.2 j hj).2.1)
  have h2 : (X.drop p.1).length ≤ 512 := by rw [List.length_drop]; have := hV.1; omega
  unfold rem
  omega

theorem priceL_bd {X : List (List (List Int))} {width : Int} (hV : VW X) (hw : 1 ≤ width ∧ width ≤ 512) {f t : Place} (hf : Pl X f) (hl : Lt f t) (ht : En X t) : 4294967296 ≤ priceL X width f t ∧ priceL X width f t ≤ 10000000000000 := by
  have h1 := sizeL_bd hV hf hl ht
  have h2 := sq_bd (width - sizeL X f t) (by omega)
  unfold priceL
  split <;> omega

theorem rem_lt {X : List (List (List Int))} (hV : VW X) {f t : Place} (hf : Pl X f) (hl : Lt f t) (ht : En X t) : rem X t < rem X f := by
  rcases ht with h | ht
  · have : t = endP X := Prod.ext h.1 h.2
    rw [this, rem_end]; exact rem_pos hf
  · obtain ⟨p, i⟩ := f
    obtain ⟨q, j⟩ := t
    obtain ⟨hp, hi⟩ := hf
    obtain ⟨hq, hj⟩ := ht
    dsimp only at hp hi hq hj
    rcases hl with h | ⟨h, h2⟩
    · dsimp only at h
      have h3 : ∀ d, p + 1 + d = q → ((X.drop q).map List.length).sum ≤ ((X.drop (p + 1)).map List.length).sum := by
        intro d hd
        rw [← hd, ← List.drop_drop]
        have : ∀ (l : List (List (List Int))) (d : Nat), ((l.drop d).map List.length).sum ≤ (l.map List.length).sum := by
          intro l
          induction l with
          | nil => simp
          | cons a l ih =>
            intro d
            cases d with
            | zero => simp
            | succ d => have := ih d; simp only [List.drop_succ_cons, List.map_cons, List.sum_cons]; omega
        exact this _ _
      have h4 := h3 (q - p - 1) (by omega)
      have h5 := rem_drop X p hp
      have h6 := rem_drop X q hq
      simp only [rem]
      omega
    · dsimp only at h h2
      subst h
      have h5 := rem_drop X p hp
      simp only [rem]
      omega

/-- What Least reckons is the pick. -/
theorem leastGo_pick {X : List (List (List Int))} {width : Int} {K : List (List Int)} (hV : VW X) (hw : 1 ≤ width ∧ width ≤ 512) {f : Place} (hf : Pl X f) (hB : Bd X K f) :
    ∀ (n : Nat) (to : Place) (acc : Option (Int × Place)), En X to → (f = to ∨ Lt f to) → rem X to = n → (∀ b a, acc = some (b, a) → 0 ≤ b) →
      leastGo X width K f n to (encB acc) (encA f acc) = (encB ((laters X n to).foldl (fun acc t => pickStep acc (cand X width (tOf X K) f t)) acc), encA f ((laters X n to).foldl (fun acc t => pickStep acc (cand X width (tOf X K) f t)) acc))
  | 0, _, _, _, _, _, _ => rfl
  | n + 1, to, acc, he, hl, hn, hacc => by
    have hp : Pl X to := by
      rcases he with h0 | h0
      · have : to = endP X := Prod.ext h0.1 h0.2
        rw [this, rem_end] at hn; omega
      · exact h0
    obtain ⟨h1, h2, h3⟩ := next_ok hV hp
    have hlt : Lt f (next X to) := by
      rcases hl with h | h
      · rw [h]; exact h2
      · exact h.trans h2
    have ih := fun acc' h => leastGo_pick hV hw hf hB n (next X to) acc' h1 (.inr hlt) (by omega) h
    rw [leastGo]
    simp only [laters, List.foldl_cons]
    by_cases c1 : width < sizeL X f (next X to)
    · rw [if_pos c1]
      have : cand X width (tOf X K) f (next X to) = none := by rw [cand, if_pos c1]
      rw [this]
      exact ih acc hacc
    · rw [if_neg c1]
      have hpr := priceL_bd hV hw hf hlt h1
      by_cases c2 : next X to = endP X
      · have hc : cand X width (tOf X K) f (next X to) = some (next X to, 0 + priceL X width f (next X to)) := by rw [cand, if_neg c1, tOf, if_pos c2]; rfl
        rw [hc, if_pos c2, if_neg (by omega), wrap64_id (by omega) (by omega)]
        cases acc with
        | none =>
          rw [if_pos (.inl (by simp [encB]))]
          exact ih (some (_, _)) (fun b a h => by cases h; omega)
        | some x =>
          obtain ⟨b, a⟩ := x
          have hb := hacc b a rfl
          by_cases h : 0 + priceL X width f (next X to) ≤ b
          · have hs : pickStep (some (b, a)) (some (next X to, 0 + priceL X width f (next X to))) = some (0 + priceL X width f (next X to), next X to) := by simp only [pickStep, if_pos h]
            rw [hs, if_pos (show encB (some (b, a)) < 0 ∨ 0 + priceL X width f (next X to) ≤ encB (some (b, a)) from .inr h)]
            exact ih (some (_, _)) (fun b a h => by cases h; omega)
          · have hs : pickStep (some (b, a)) (some (next X to, 0 + priceL X width f (next X to))) = some (b, a) := by simp only [pickStep, if_neg h]
            rw [hs, if_neg (show ¬ (encB (some (b, a)) < 0 ∨ 0 + priceL X width f (next X to) ≤ encB (some (b, a))) from fun h2 => by rcases h2 with h2 | h2; exact absurd h2 (by show ¬ b < 0; omega); exact h h2)]
            exact ih (some (b, a)) (fun b' a' h => by cases h; exact hb)
      · have hpt : Pl X (next X to) := by
          rcases h1 with h | h
          · exact absurd (Prod.ext h.1 h.2) c2
          · exact h
        obtain ⟨b1, b2⟩ := hB _ hpt hlt
        have hr := rem_le hV (next X to)
        rw [if_neg c2]
        by_cases c3 : kAt K (next X to) < 0
        · rw [if_pos c3]
          have hc : cand X width (tOf X K) f (next X to) = none := by rw [cand, if_neg c1, tOf, if_neg c2, if_pos c3]; rfl
          rw [hc]
          exact ih acc hacc
        · rw [if_neg c3]
          have hc : cand X width (tOf X K) f (next X to) = some (next X to, kAt K (next X to) + priceL X width f (next X to)) := by rw [cand, if_neg c1, tOf, if_neg c2, if_neg c3]; rfl
          rw [hc, wrap64_id (by omega) (by omega)]
          cases acc with
          | none =>
            rw [if_pos (.inl (by simp [encB]))]
            exact ih (some (_, _)) (fun b a h => by cases h; omega)
          | some x =>
            obtain ⟨b, a⟩ := x
            have hb := hacc b a rfl
            by_cases h : kAt K (next X to) + priceL X width f (next X to) ≤ b
            · have hs : pickStep (some (b, a)) (some (next X to, kAt K (next X to) + priceL X width f (next X to))) = some (kAt K (next X to) + priceL X width f (next X to), next X to) := by simp only [pickStep, if_pos h]
              rw [hs, if_pos (show encB (some (b, a)) < 0 ∨ kAt K (next X to) + priceL X width f (next X to) ≤ encB (some (b, a)) from .inr h)]
              exact ih (some (_, _)) (fun b a h => by cases h; omega)
            · have hs : pickStep (some (b, a)) (some (next X to, kAt K (next X to) + priceL X width f (next X to))) = some (b, a) := by simp only [pickStep, if_neg h]
              rw [hs, if_neg (show ¬ (encB (some (b, a)) < 0 ∨ kAt K (next X to) + priceL X width f (next X to) ≤ encB (some (b, a))) from fun h2 => by rcases h2 with h2 | h2; exact absurd h2 (by show ¬ b < 0; omega); exact h h2)]
              exact ih (some (b, a)) (fun b' a' h => by cases h; exact hb)
theorem leastL_pick {X : List (List (List Int))} {width : Int} {K : List (List Int)} (hV : VW X) (hw : 1 ≤ width ∧ width ≤ 512) {f : Place} (hf : Pl X f) (hB : Bd X K f) :
    leastL X width K f = (encB (pick X width (tOf X K) f), encA f (pick X width (tOf X K) f)) :=
  leastGo_pick hV hw hf hB _ f none (.inr hf) (.inl rfl) rfl (fun _ _ h => by cases h)
end Go.Proofs.Ytehelanfgepcmaa
