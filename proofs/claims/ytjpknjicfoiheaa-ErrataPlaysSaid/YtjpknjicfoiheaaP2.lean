/- What is done with a copy. -/
import Derived.Test.YtjpknjicfoiheaaP1
set_option linter.unusedSimpArgs false
set_option linter.unusedVariables false
set_option linter.unusedSectionVars false
namespace Go.Proofs.Ytjpknjicfoiheaa
open Go.RowKit Dak
def σC (k : Nat) : Nat → Nat
  | 1 => k
  | 2 => k + 3
  | 3 => k + 1
  | 4 => k + 2
  | i => i
theorem arrH {s : Hs} {i : Nat} (h : isArr (objsH s) i = true) : i = 1 ∨ i = 2 ∨ i = 3 ∨ i = 4 := by
  have h5 : i < 5 := isArr_lt h
  have h0 : i ≠ 0 := by rintro rfl; cases h
  omega
theorem arrH' (s : Hs) {i : Nat} (h : i = 1 ∨ i = 2 ∨ i = 3 ∨ i = 4) : isArr (objsH s) i = true := by
  rcases h with rfl | rfl | rfl | rfl <;> rfl
theorem getC (L X : List AObj) (j : Nat) : (L ++ X)[L.length + j]? = X[j]? := by rw [List.getElem?_append_right (by omega), Nat.add_sub_cancel_left]
theorem getC0 (L X : List AObj) : (L ++ X)[L.length]? = X[0]? := getC L X 0
theorem at_C (L : List AObj) (s : Hs) : ∀ (i g z : Nat) (e : TypeId) (xs : List AV), (objsH s)[i]? = some (AObj.arr g z e xs) → (L ++ newsC s L.length)[σC L.length i]? = some (AObj.arr g z e (xs.map (AV.ren (σC L.length)))) := by
  intro i g z e xs h
  rcases arrH (isArr_of h) with rfl | rfl | rfl | rfl
  · show (L ++ newsC s L.length)[L.length]? = _
    rw [getC0]
    simp only [objsH, oH, List.getElem?_cons_succ, List.getElem?_cons_zero, Option.some.injEq, AObj.arr.injEq] at h
    obtain ⟨rfl, rfl, rfl, rfl⟩ := h
    rw [ren_map (fun _ => rfl)]; rfl
  · show (L ++ newsC s L.length)[L.length + 3]? = _
    rw [getC]
    simp only [objsH, oH, List.getElem?_cons_succ, List.getElem?_cons_zero, Option.some.injEq, AObj.arr.injEq] at h
    obtain ⟨rfl, rfl, rfl, rfl⟩ := h
    rfl
  · show (L ++ newsC s L.length)[L.length + 1]? = _
    rw [getC]
    simp only [objsH, oH, List.getElem?_cons_succ, List.getElem?_cons_zero, Option.some.injEq, AObj.arr.injEq] at h
    obtain ⟨rfl, rfl, rfl, rfl⟩ := h
    rw [ren_map (fun _ => rfl)]; rfl
  · show (L ++ newsC s L.length)[L.length + 2]? = _
    rw [getC]
    simp only [objsH, oH, List.getElem?_cons_succ, List.getElem?_cons_zero, Option.some.injEq, AObj.arr.injEq] at h
    obtain ⟨rfl, rfl, rfl, rfl⟩ := h
    rw [ren_map (fun _ => rfl)]; rfl
theorem renC (L : List AObj) (s : Hs) : Ren (σC L.length) (objsH s) (L ++ newsC s L.length) := by
  refine ⟨fun i j hi hj h => ?_, at_C L s⟩
  rcases arrH hi with rfl | rfl | rfl | rfl <;> rcases arrH hj with rfl | rfl | rfl | rfl <;> simp only [σC] at h <;> omega
theorem renToC (L : List AObj) (s s' : Hs) : RenTo (σC L.length) (objsH s) (L ++ newsC s L.length) (objsH s') (L ++ newsC s' L.length) := by
  refine ⟨by simp [newsC, oC], fun i h => arrH' s' (arrH h), fun i h => ?_, at_C L s', fun k hk => ?_⟩
  · cases hh : isArr (objsH s') i with
    | false => rfl
    | true => rw [arrH' s (arrH hh)] at h; cases h
  · by_cases hl : k < L.length
    · rw [List.getElem?_append_left hl, List.getElem?_append_left hl]
    · have h0 := hk 1 (arrH' s (by simp))
      have h1 := hk 2 (arrH' s (by simp))
      have h2 := hk 3 (arrH' s (by simp))
      have h3 := hk 4 (arrH' s (by simp))
      simp only [σC] at h0 h1 h2 h3
      have e : ∀ t : Hs, (L ++ newsC t L.length)[k]? = none := fun t => List.getElem?_eq_none (by simp [newsC, oC]; omega)
      rw [e, e]
theorem inRO_B (s : Hs) (B : List AObj) (a : ∀ i, (i = 1 ∨ i = 2 ∨ i = 3 ∨ i = 4) → isArr B i = true) : ((objsH s).all fun o => o.inRO B) = true := by
  simp only [objsH, oH, List.all_cons, List.all_nil, AObj.inRO, AV.inR, AV.inR1, inR_map (f := vdv) (B := B) (fun _ => rfl), inR_map (f := vi) (B := B) (fun _ => rfl), inR_map (f := vans) (B := B) (fun _ => rfl), a 1 (by simp), a 3 (by simp), a 4 (by simp), Bool.and_true]
theorem inRO_H (s : Hs) : ((objsH s).all fun o => o.inRO (objsH s)) = true := inRO_B s _ fun _ h => arrH' s h
/-- What a function does with a hall it does with a copy. -/
theorem ctrC {f : FuncId} {xs : List AV} {s s' : Hs} {r : AV} (h : CtrM Try.prog f xs (objsH s) r (objsH s')) (L : List AObj) (hx : (xs.all fun x => x.inR (objsH s)) = true) (hr : r.inR (objsH s') = true) :
    CtrM Try.prog f (xs.map (AV.ren (σC L.length))) (L ++ newsC s L.length) (r.ren (σC L.length)) (L ++ newsC s' L.length) :=
  h.ren _ (renC L s) (renToC L s s') (inRO_H s) (inRO_H s') hx hr
theorem snap_all {α : Type} {objs : List AObj} {f : α → AV} {g s : Nat} {e : TypeId} {id : Nat} (l : List α) (n : Nat) (hn : l.length = n) (h : objs[id]? = some (.arr g s e (l.map f))) (hT : ∀ x, (f x).isT = true) : Snap objs (.own id g 0 n) (.list s (l.map f)) := by
  refine .own id g 0 n s e (l.map f) (l.map f) h (by simp; omega) (by simp; omega) fun i h => ?_
  simp only [Nat.zero_add, List.getElem_map]
  exact .tree _ (hT _)
theorem snapH (s t : Hs) (X : List AObj) : Snap (objsR (preH s) t ++ X) (.ref 2 1 0 0) (vhall s) := by
  refine .ref 2 1 0 0 [.own 1 s.devs.length 0 s.devs.length, .own 3 s.dec.length 0 s.dec.length, vi s.now, .own 4 s.ans.length 0 s.ans.length] _ rfl rfl fun i h1 h2 => ?_
  match i, h1 with
  | 0, _ => exact snap_all s.devs _ rfl rfl fun _ => rfl
  | 1, _ => exact snap_all s.dec _ rfl rfl fun _ => rfl
  | 2, _ => exact .tree _ rfl
  | 3, _ => exact snap_all s.ans _ rfl rfl fun _ => rfl
end Go.Proofs.Ytjpknjicfoiheaa
