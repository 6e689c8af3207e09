/- Lists that are looked through; each; decide. -/
import Derived.Test.YtjpknjicfoiheaaPa
set_option linter.unusedSimpArgs false
set_option linter.unusedVariables false
set_option linter.unusedSectionVars false
namespace Go.Proofs.Ytjpknjicfoiheaa
open Go.RowKit Dak
def idxGo {α : Type} (p : α → Bool) : List α → Nat → Int
  | [], _ => -1
  | x :: r, k => if p x = true then k else idxGo p r (k + 1)
theorem idxGo_any {α : Type} (p : α → Bool) : ∀ (l : List α) (k : Nat), decide (0 ≤ idxGo p l k) = l.any p
  | [], _ => rfl
  | x :: r, k => by
    rw [idxGo]
    cases h : p x with
    | true => simp [h]
    | false => rw [if_neg (by simp), idxGo_any p r (k + 1)]; simp [h]
def waitsD (d : Dv) : Bool := d.live && !d.done
set_option maxRecDepth 100000 in
theorem IndexFunc_s (l : List Dv) (hl : l.length ≤ 9223372036854775806) : Ctr Try.prog 64 [.list 8 (l.map vdv), .clo (.func 58) []] (vi (idxGo waitsD l 0)) := by
  refine specC f64 (by simp) fun F0 w0 => ?_
  unfold c64
  refine CwpE.cut (st := ⟨[(0, .list 8 (l.map vdv)), (1, .clo (.func 58) [])], []⟩) ?_ ?_
  · simp only [go_sem, List.replicate_succ, Nat.reducePow, Nat.reduceLeDiff, ↓reduceIte, reduceCtorEq, Nat.reduceLT, Nat.reduceEqDiff, Nat.reduceAdd, Nat.reduceSub, Nat.reduceMul, Int.reduceToNat]
    exact ⟨_, WkE.keep (by simp only [go_sem, List.replicate_succ, Nat.reducePow, Nat.reduceLeDiff, ↓reduceIte, reduceCtorEq, Nat.reduceLT, Nat.reduceEqDiff, Nat.reduceAdd, Nat.reduceSub, Nat.reduceMul, Int.reduceToNat]), rfl⟩
  refine CwpE.step (fun s => idxGo waitsD l 0 = -1 ∧ s = ⟨[], []⟩) ?_ ?_
  rotate_left
  · rintro s ⟨h, rfl⟩
    rw [h]
    refine CwpE.vc ?_
    simp only [go_sem, List.replicate_succ, Nat.reducePow, Nat.reduceLeDiff, ↓reduceIte, reduceCtorEq, Nat.reduceLT, Nat.reduceEqDiff, Nat.reduceAdd, Nat.reduceSub, Nat.reduceMul, Int.reduceToNat]
    exact .tree _ rfl
  simp only [go_sem, List.replicate_succ, Nat.reducePow, Nat.reduceLeDiff, ↓reduceIte, reduceCtorEq, Nat.reduceLT, Nat.reduceEqDiff, Nat.reduceAdd, Nat.reduceSub, Nat.reduceMul, Int.reduceToNat]
  refine loopX 0 (fun m s => ∃ k : Nat, m = l.length - k ∧ k ≤ l.length ∧ idxGo waitsD l 0 = idxGo waitsD (l.drop k) k ∧ s = ⟨[(0, .list 8 (l.map vdv)), (1, .clo (.func 58) []), (7, vi l.length), (8, vi k)], []⟩)
    (fun s => idxGo waitsD l 0 = -1 ∧ s = ⟨[], []⟩) l.length
    ⟨[(0, .list 8 (l.map vdv)), (1, .clo (.func 58) []), (7, vi l.length), (8, vi (0 : Nat))], []⟩ (WkE.keep (by simp only [go_sem, List.replicate_succ, Nat.reducePow, Nat.reduceLeDiff, ↓reduceIte, reduceCtorEq, Nat.reduceLT, Nat.reduceEqDiff, Nat.reduceAdd, Nat.reduceSub, Nat.reduceMul, Int.reduceToNat]; rfl)) ⟨0, by omega, by omega, rfl, rfl⟩ ?_ ?_
  rotate_left
  · rintro s ⟨h, rfl⟩
    simp only [go_sem, List.replicate_succ, Nat.reducePow, Nat.reduceLeDiff, ↓reduceIte, reduceCtorEq, Nat.reduceLT, Nat.reduceEqDiff, Nat.reduceAdd, Nat.reduceSub, Nat.reduceMul, Int.reduceToNat]
    exact ⟨_, .refl _ _, h, rfl⟩
  rintro m s ⟨k, rfl, hk, hi, rfl⟩
  by_cases hlt : k < l.length
  · have g1 : (k : Int) < (l.length : Int) := by omega
    have g0 : (0 : Int) ≤ (k : Int) := by omega
    have w1 : IntKind.i64.wrap ((k : Int) + 1) = ((k + 1 : Nat) : Int) := by rw [wrap_id (by omega) (by omega)]; omega
    rw [List.drop_eq_getElem_cons hlt, idxGo] at hi
    simp only [go_sem, List.replicate_succ, Nat.reducePow, Nat.reduceLeDiff, ↓reduceIte, reduceCtorEq, Nat.reduceLT, Nat.reduceEqDiff, Nat.reduceAdd, Nat.reduceSub, Nat.reduceMul, Int.reduceToNat, g1, g0, List.getElem?_map, List.getElem?_eq_getElem hlt]
    refine callT (decide1_s l[k]) rfl ?_
    have ew : (l[k].live && !l[k].done) = waitsD l[k] := rfl
    rw [ew]
    cases hb : waitsD l[k] with
    | true =>
      rw [if_pos hb] at hi
      rw [hi]
      simp only [go_sem, List.replicate_succ, Nat.reducePow, Nat.reduceLeDiff, ↓reduceIte, reduceCtorEq, Nat.reduceLT, Nat.reduceEqDiff, Nat.reduceAdd, Nat.reduceSub, Nat.reduceMul, Int.reduceToNat]
      exact .tree _ rfl
    | false =>
      rw [if_neg (by rw [hb]; simp)] at hi
      simp only [go_sem, List.replicate_succ, Nat.reducePow, Nat.reduceLeDiff, ↓reduceIte, reduceCtorEq, Nat.reduceLT, Nat.reduceEqDiff, Nat.reduceAdd, Nat.reduceSub, Nat.reduceMul, Int.reduceToNat, w1]
      exact ⟨l.length - (k + 1), ⟨[(0, .list 8 (l.map vdv)), (1, .clo (.func 58) []), (7, vi l.length), (8, vi (k + 1 : Nat))], []⟩, by omega, WkE.keep (by simp only [go_sem, List.replicate_succ, Nat.reducePow, Nat.reduceLeDiff, ↓reduceIte, reduceCtorEq, Nat.reduceLT, Nat.reduceEqDiff, Nat.reduceAdd, Nat.reduceSub, Nat.reduceMul, Int.reduceToNat]), k + 1, rfl, by omega, hi, rfl⟩
  · have g1 : ¬ (k : Int) < (l.length : Int) := by omega
    rw [List.drop_eq_nil_of_le (by omega), idxGo] at hi
    simp only [go_sem, List.replicate_succ, Nat.reducePow, Nat.reduceLeDiff, ↓reduceIte, reduceCtorEq, Nat.reduceLT, Nat.reduceEqDiff, Nat.reduceAdd, Nat.reduceSub, Nat.reduceMul, Int.reduceToNat, g1]
    exact ⟨⟨[], []⟩, WkE.keep (by simp only [go_sem, List.replicate_succ, Nat.reducePow, Nat.reduceLeDiff, ↓reduceIte, reduceCtorEq, Nat.reduceLT, Nat.reduceEqDiff, Nat.reduceAdd, Nat.reduceSub, Nat.reduceMul, Int.reduceToNat]), hi, rfl⟩
theorem ContainsFunc_s (l : List Dv) (hl : l.length ≤ 9223372036854775806) : Ctr Try.prog 57 [.list 8 (l.map vdv), .clo (.func 58) []] (vb (l.any waitsD)) := by
  refine specE f57 (by simp) fun F0 w0 => ?_
  simp only [c57, go_sem, List.replicate_succ, Nat.reducePow, Nat.reduceLeDiff, ↓reduceIte, reduceCtorEq, Nat.reduceLT, Nat.reduceEqDiff, Nat.reduceAdd, Nat.reduceSub, Nat.reduceMul, Int.reduceToNat]
  refine callT (IndexFunc_s l hl) rfl ?_
  simp only [go_sem, List.replicate_succ, Nat.reducePow, Nat.reduceLeDiff, ↓reduceIte, reduceCtorEq, Nat.reduceLT, Nat.reduceEqDiff, Nat.reduceAdd, Nat.reduceSub, Nat.reduceMul, Int.reduceToNat, idxGo_any]
  exact .tree _ rfl
set_option maxRecDepth 100000 in
theorem Index_s (l : List Int) (v : Int) (hl : l.length ≤ 9223372036854775806) : Ctr Try.prog 56 [vints l, vi v] (vi (idxGo (fun x => decide (v = x)) l 0)) := by
  refine specC f56 (by simp) fun F0 w0 => ?_
  generalize hp : (fun x => decide (v = x)) = p
  have hpx : ∀ x, decide (v = x) = p x := fun x => by rw [← hp]
  unfold c56
  refine CwpE.cut (st := ⟨[(0, vints l), (1, vi v)], []⟩) ?_ ?_
  · simp only [go_sem, List.replicate_succ, Nat.reducePow, Nat.reduceLeDiff, ↓reduceIte, reduceCtorEq, Nat.reduceLT, Nat.reduceEqDiff, Nat.reduceAdd, Nat.reduceSub, Nat.reduceMul, Int.reduceToNat]
    exact ⟨_, WkE.keep (by simp only [go_sem, List.replicate_succ, Nat.reducePow, Nat.reduceLeDiff, ↓reduceIte, reduceCtorEq, Nat.reduceLT, Nat.reduceEqDiff, Nat.reduceAdd, Nat.reduceSub, Nat.reduceMul, Int.reduceToNat]), rfl⟩
  refine CwpE.step (fun s => idxGo p l 0 = -1 ∧ s = ⟨[], []⟩) ?_ ?_
  rotate_left
  · rintro s ⟨h, rfl⟩
    rw [h]
    refine CwpE.vc ?_
    simp only [go_sem, List.replicate_succ, Nat.reducePow, Nat.reduceLeDiff, ↓reduceIte, reduceCtorEq, Nat.reduceLT, Nat.reduceEqDiff, Nat.reduceAdd, Nat.reduceSub, Nat.reduceMul, Int.reduceToNat]
    exact .tree _ rfl
  simp only [go_sem, List.replicate_succ, Nat.reducePow, Nat.reduceLeDiff, ↓reduceIte, reduceCtorEq, Nat.reduceLT, Nat.reduceEqDiff, Nat.reduceAdd, Nat.reduceSub, Nat.reduceMul, Int.reduceToNat]
  refine loopX 0 (fun m s => ∃ k : Nat, m = l.length - k ∧ k ≤ l.length ∧ idxGo p l 0 = idxGo p (l.drop k) k ∧ s = ⟨[(0, vints l), (1, vi v), (7, vi l.length), (8, vi k)], []⟩)
    (fun s => idxGo p l 0 = -1 ∧ s = ⟨[], []⟩) l.length
    ⟨[(0, vints l), (1, vi v), (7, vi l.length), (8, vi (0 : Nat))], []⟩ (WkE.keep (by simp only [go_sem, List.replicate_succ, Nat.reducePow, Nat.reduceLeDiff, ↓reduceIte, reduceCtorEq, Nat.reduceLT, Nat.reduceEqDiff, Nat.reduceAdd, Nat.reduceSub, Nat.reduceMul, Int.reduceToNat]; rfl)) ⟨0, by omega, by omega, rfl, rfl⟩ ?_ ?_
  rotate_left
  · rintro s ⟨h, rfl⟩
    simp only [go_sem, List.replicate_succ, Nat.reducePow, Nat.reduceLeDiff, ↓reduceIte, reduceCtorEq, Nat.reduceLT, Nat.reduceEqDiff, Nat.reduceAdd, Nat.reduceSub, Nat.reduceMul, Int.reduceToNat]
    exact ⟨_, .refl _ _, h, rfl⟩
  rintro m s ⟨k, rfl, hk, hi, rfl⟩
  by_cases hlt : k < l.length
  · have g1 : (k : Int) < (l.length : Int) := by omega
    have g0 : (0 : Int) ≤ (k : Int) := by omega
    have w1 : IntKind.i64.wrap ((k : Int) + 1) = ((k + 1 : Nat) : Int) := by rw [wrap_id (by omega) (by omega)]; omega
    rw [List.drop_eq_getElem_cons hlt, idxGo] at hi
    cases hb : p l[k] with
    | true =>
      rw [if_pos hb] at hi
      rw [hi]
      rw [← hpx, decide_eq_true_eq] at hb
      simp only [go_sem, List.replicate_succ, Nat.reducePow, Nat.reduceLeDiff, ↓reduceIte, reduceCtorEq, Nat.reduceLT, Nat.reduceEqDiff, Nat.reduceAdd, Nat.reduceSub, Nat.reduceMul, Int.reduceToNat, g1, g0, List.getElem?_map, List.getElem?_eq_getElem hlt, ← hb]
      exact .tree _ rfl
    | false =>
      rw [if_neg (by rw [hb]; simp)] at hi
      rw [← hpx, decide_eq_false_iff_not] at hb
      simp only [go_sem, List.replicate_succ, Nat.reducePow, Nat.reduceLeDiff, ↓reduceIte, reduceCtorEq, Nat.reduceLT, Nat.reduceEqDiff, Nat.reduceAdd, Nat.reduceSub, Nat.reduceMul, Int.reduceToNat, g1, g0, List.getElem?_map, List.getElem?_eq_getElem hlt, hb, w1]
      exact ⟨l.length - (k + 1), ⟨[(0, vints l), (1, vi v), (7, vi l.length), (8, vi (k + 1 : Nat))], []⟩, by omega, WkE.keep (by simp only [go_sem, List.replicate_succ, Nat.reducePow, Nat.reduceLeDiff, ↓reduceIte, reduceCtorEq, Nat.reduceLT, Nat.reduceEqDiff, Nat.reduceAdd, Nat.reduceSub, Nat.reduceMul, Int.reduceToNat]), k + 1, rfl, by omega, hi, rfl⟩
  · have g1 : ¬ (k : Int) < (l.length : Int) := by omega
    rw [List.drop_eq_nil_of_le (by omega), idxGo] at hi
    simp only [go_sem, List.replicate_succ, Nat.reducePow, Nat.reduceLeDiff, ↓reduceIte, reduceCtorEq, Nat.reduceLT, Nat.reduceEqDiff, Nat.reduceAdd, Nat.reduceSub, Nat.reduceMul, Int.reduceToNat, g1]
    exact ⟨⟨[], []⟩, WkE.keep (by simp only [go_sem, List.replicate_succ, Nat.reducePow, Nat.reduceLeDiff, ↓reduceIte, reduceCtorEq, Nat.reduceLT, Nat.reduceEqDiff, Nat.reduceAdd, Nat.reduceSub, Nat.reduceMul, Int.reduceToNat]), hi, rfl⟩
theorem Contains_s (l : List Int) (v : Int) (hl : l.length ≤ 9223372036854775806) : Ctr Try.prog 39 [vints l, vi v] (vb (decide (v ∈ l))) := by
  refine specE f39 (by simp) fun F0 w0 => ?_
  simp only [c39, go_sem, List.replicate_succ, Nat.reducePow, Nat.reduceLeDiff, ↓reduceIte, reduceCtorEq, Nat.reduceLT, Nat.reduceEqDiff, Nat.reduceAdd, Nat.reduceSub, Nat.reduceMul, Int.reduceToNat]
  refine callT (Index_s l v hl) rfl ?_
  have : (l.any fun x => decide (v = x)) = decide (v ∈ l) := by
    rw [Bool.eq_iff_iff]; simp
  simp only [go_sem, List.replicate_succ, Nat.reducePow, Nat.reduceLeDiff, ↓reduceIte, reduceCtorEq, Nat.reduceLT, Nat.reduceEqDiff, Nat.reduceAdd, Nat.reduceSub, Nat.reduceMul, Int.reduceToNat, idxGo_any, this]
  exact .tree _ rfl

/-- each: what is done with the devices, one after the other -/
def stepD (isf : Dv → Bool) (dof : Dv → Dv) (d : Dv) : Dv := if isf d = true then dof d else d
def partD (isf : Dv → Bool) (dof : Dv → Dv) (l : List Dv) (k : Nat) : List Dv := (l.take k).map (stepD isf dof) ++ l.drop k
theorem partD_len (isf : Dv → Bool) (dof : Dv → Dv) (l : List Dv) (k : Nat) : (partD isf dof l k).length = l.length := by
  simp [partD]; omega
theorem partD_get (isf : Dv → Bool) (dof : Dv → Dv) {l : List Dv} {k : Nat} (h : k < l.length) : (partD isf dof l k)[k]? = some l[k] := by
  unfold partD
  rw [List.getElem?_append_right (by simp; omega)]
  simp [h, Nat.min_eq_left (Nat.le_of_lt h)]
theorem partD_succ (isf : Dv → Bool) (dof : Dv → Dv) {l : List Dv} {k : Nat} (h : k < l.length) : partD isf dof l (k + 1) = (partD isf dof l k).set k (stepD isf dof l[k]) := by
  unfold partD
  have hm : ((l.take k).map (stepD isf dof)).length = k := by simp; omega
  rw [List.set_append_right _ _ (by omega), hm, Nat.sub_self, List.drop_eq_getElem_cons h, List.set_cons_zero, List.take_add_one, List.getElem?_eq_getElem h]
  simp only [Option.toList_some, List.map_append, List.map_cons, List.map_nil, List.append_assoc, List.cons_append, List.nil_append]
set_option maxRecDepth 100000 in
theorem each_s (s : Hs) (tl : List AObj) (htl : ∀ m, 5 + tl.length ≤ m → tl.all (fun o => o.innO m) = true) (hn : s.devs.length ≤ 1000) (fi fd : FuncId) (ci cd : List AV) (isf : Dv → Bool) (dof : Dv → Dv)
    (hci : ci.all (AV.inn (5 + tl.length)) = true) (hcd : cd.all (AV.inn (5 + tl.length)) = true)
    (hI : ∀ ds : List Dv, ∀ i d, ds[i]? = some d → CtrM Try.prog fi (.ref 1 ds.length i 0 :: ci) (objsH { s with devs := ds } ++ tl) (vb (isf d)) (objsH { s with devs := ds } ++ tl))
    (hD : ∀ ds : List Dv, ∀ i d, ds[i]? = some d → CtrM Try.prog fd (.ref 1 ds.length i 0 :: cd) (objsH { s with devs := ds } ++ tl) (.tup []) (objsH (Hs.put { s with devs := ds } i (dof d)) ++ tl)) :
    CtrM Try.prog 40 [.ref 2 1 0 0, .clo (.func fi) ci, .clo (.func fd) cd] (objsH s ++ tl) (.tup []) (objsH { s with devs := s.devs.map (stepD isf dof) } ++ tl) := by
  refine specT { s with devs := s.devs.map (stepD isf dof) } f40 (by simp) htl (fun _ _ => rfl) fun F0 w0 G B eB hBl hBi hG => ?_
  have hol : ∀ s, (objsH s ++ tl).length = 5 + tl.length := fun s => by rw [List.length_append, objsH_len]
  have hbI : ∀ s, (objsH s ++ tl).all (fun o => o.innO (objsH s ++ tl).length) = true := fun s => by rw [hol, List.all_append, objsH_inn s _ (by omega), htl _ (by omega)]; rfl
  unfold c40
  refine CwpE.cut (st := ⟨[(0, .ref 2 1 0 0), (1, .clo (.func fi) ci), (2, .clo (.func fd) cd), (12, vi s.devs.length), (13, vi (0 : Nat))], objsH s ++ tl ++ [G]⟩) ?_ ?_
  · simp only [objsH, oH, go_sem, List.replicate_succ, Nat.reducePow, Nat.reduceLeDiff, ↓reduceIte, reduceCtorEq, Nat.reduceLT, Nat.reduceEqDiff, Nat.reduceAdd, Nat.reduceSub, Nat.reduceMul, Int.reduceToNat]
    exact ⟨_, WkE.keep (by simp only [go_sem, List.replicate_succ, Nat.reducePow, Nat.reduceLeDiff, ↓reduceIte, reduceCtorEq, Nat.reduceLT, Nat.reduceEqDiff, Nat.reduceAdd, Nat.reduceSub, Nat.reduceMul, Int.reduceToNat]; rfl), rfl⟩
  refine CwpE.vc ?_
  simp only [go_sem, List.replicate_succ, Nat.reducePow, Nat.reduceLeDiff, ↓reduceIte, reduceCtorEq, Nat.reduceLT, Nat.reduceEqDiff, Nat.reduceAdd, Nat.reduceSub, Nat.reduceMul, Int.reduceToNat]
  have e0 : partD isf dof s.devs 0 = s.devs := by simp [partD]
  refine loopX 0 (fun m st => ∃ k : Nat, m = s.devs.length - k ∧ k ≤ s.devs.length ∧ st = ⟨[(0, .ref 2 1 0 0), (1, .clo (.func fi) ci), (2, .clo (.func fd) cd), (12, vi s.devs.length), (13, vi k)], objsH { s with devs := partD isf dof s.devs k } ++ tl ++ [G]⟩)
    (fun st => st = ⟨[], B⟩) s.devs.length
    ⟨[(0, .ref 2 1 0 0), (1, .clo (.func fi) ci), (2, .clo (.func fd) cd), (12, vi s.devs.length), (13, vi (0 : Nat))], objsH { s with devs := partD isf dof s.devs 0 } ++ tl ++ [G]⟩ (by rw [e0]; exact .refl _ _) ⟨0, by omega, by omega, rfl⟩ ?_ ?_
  rotate_left
  · rintro st rfl
    simp only [go_sem, List.replicate_succ, Nat.reducePow, Nat.reduceLeDiff, ↓reduceIte, reduceCtorEq, Nat.reduceLT, Nat.reduceEqDiff, Nat.reduceAdd, Nat.reduceSub, Nat.reduceMul, Int.reduceToNat]
    exact endN hBl hBi rfl rfl (List.take_of_length_le (by omega))
  rintro m st ⟨k, rfl, hk, rfl⟩
  by_cases hlt : k < s.devs.length
  rotate_left
  · have g1 : ¬ (k : Int) < (s.devs.length : Int) := by omega
    obtain rfl : k = s.devs.length := by omega
    have e1 : partD isf dof s.devs s.devs.length = s.devs.map (stepD isf dof) := by simp [partD]
    rw [e1, ← eB]
    simp only [go_sem, List.replicate_succ, Nat.reducePow, Nat.reduceLeDiff, ↓reduceIte, reduceCtorEq, Nat.reduceLT, Nat.reduceEqDiff, Nat.reduceAdd, Nat.reduceSub, Nat.reduceMul, Int.reduceToNat, g1]
    exact ⟨_, WkE.keep (by simp only [go_sem, List.replicate_succ, Nat.reducePow, Nat.reduceLeDiff, ↓reduceIte, reduceCtorEq, Nat.reduceLT, Nat.reduceEqDiff, Nat.reduceAdd, Nat.reduceSub, Nat.reduceMul, Int.reduceToNat]), rfl⟩
  have hgk := partD_get isf dof hlt
  have hsk := partD_succ isf dof hlt
  have hlk := partD_len isf dof s.devs k
  generalize hds : partD isf dof s.devs k = ds at *
  have g1 : (k : Int) < (s.devs.length : Int) := by omega
  have g0 : (0 : Int) ≤ (k : Int) := by omega
  have g2 : (k : Int) < (ds.length : Int) := by omega
  have w1 : IntKind.i64.wrap ((k : Int) + 1) = ((k + 1 : Nat) : Int) := by rw [wrap_id (by omega) (by omega)]; omega
  have i1 := hI ds k _ hgk
  have d1 := hD ds k _ hgk
  generalize hdk : s.devs[k] = d at *
  simp only [objsH, oH, go_sem, List.replicate_succ, Nat.reducePow, Nat.reduceLeDiff, ↓reduceIte, reduceCtorEq, Nat.reduceLT, Nat.reduceEqDiff, Nat.reduceAdd, Nat.reduceSub, Nat.reduceMul, Int.reduceToNat, g1, g0, g2]
  refine callM (objsH { s with devs := ds } ++ tl) [G] (objsH { s with devs := ds } ++ tl) i1 (by simp only [objsH, oH, List.cons_append, List.nil_append]) (hbI _) ?_ ?_
  · rw [hol]
    show (decide (1 < 5 + tl.length) && ci.all (AV.inn (5 + tl.length))) = true
    rw [hci]; simp; omega
  cases hb : isf d with
  | false =>
    have e2 : stepD isf dof d = d := by unfold stepD; rw [hb]; rfl
    rw [e2, set_same hgk] at hsk
    simp only [objsH, oH, go_sem, List.replicate_succ, Nat.reducePow, Nat.reduceLeDiff, ↓reduceIte, reduceCtorEq, Nat.reduceLT, Nat.reduceEqDiff, Nat.reduceAdd, Nat.reduceSub, Nat.reduceMul, Int.reduceToNat, w1]
    refine ⟨s.devs.length - (k + 1), ⟨[(0, .ref 2 1 0 0), (1, .clo (.func fi) ci), (2, .clo (.func fd) cd), (12, vi s.devs.length), (13, vi (k + 1 : Nat))], objsH { s with devs := partD isf dof s.devs (k + 1) } ++ tl ++ [G]⟩, by omega, ?_, k + 1, rfl, by omega, rfl⟩
    rw [hsk]
    simp only [objsH, oH, List.cons_append, List.nil_append]
    exact WkE.keep (by simp only [go_sem, List.replicate_succ, Nat.reducePow, Nat.reduceLeDiff, ↓reduceIte, reduceCtorEq, Nat.reduceLT, Nat.reduceEqDiff, Nat.reduceAdd, Nat.reduceSub, Nat.reduceMul, Int.reduceToNat])
  | true =>
    have e2 : stepD isf dof d = dof d := by unfold stepD; rw [hb]; rfl
    rw [e2] at hsk
    simp only [objsH, oH, go_sem, List.replicate_succ, Nat.reducePow, Nat.reduceLeDiff, ↓reduceIte, reduceCtorEq, Nat.reduceLT, Nat.reduceEqDiff, Nat.reduceAdd, Nat.reduceSub, Nat.reduceMul, Int.reduceToNat]
    refine callM (objsH { s with devs := ds } ++ tl) [G] (objsH (Hs.put { s with devs := ds } k (dof d)) ++ tl) d1 (by simp only [objsH, oH, List.cons_append, List.nil_append]) (hbI _) ?_ ?_
    · rw [hol]
      show (decide (1 < 5 + tl.length) && cd.all (AV.inn (5 + tl.length))) = true
      rw [hcd]; simp; omega
    simp only [go_sem, List.replicate_succ, Nat.reducePow, Nat.reduceLeDiff, ↓reduceIte, reduceCtorEq, Nat.reduceLT, Nat.reduceEqDiff, Nat.reduceAdd, Nat.reduceSub, Nat.reduceMul, Int.reduceToNat, w1]
    refine ⟨s.devs.length - (k + 1), ⟨[(0, .ref 2 1 0 0), (1, .clo (.func fi) ci), (2, .clo (.func fd) cd), (12, vi s.devs.length), (13, vi (k + 1 : Nat))], objsH { s with devs := partD isf dof s.devs (k + 1) } ++ tl ++ [G]⟩, by omega, ?_, k + 1, rfl, by omega, rfl⟩
    rw [hsk]
    exact WkE.keep (by simp only [go_sem, List.replicate_succ, Nat.reducePow, Nat.reduceLeDiff, ↓reduceIte, reduceCtorEq, Nat.reduceLT, Nat.reduceEqDiff, Nat.reduceAdd, Nat.reduceSub, Nat.reduceMul, Int.reduceToNat])
/-- decide -/
def decideH (s : Hs) : Hs := if s.now = 0 ∨ s.devs.any waitsD = true then s else { s with dec := s.dec ++ [s.now], now := 0, devs := s.devs.map Dv.cut }
set_option maxRecDepth 100000 in
theorem decide_s (s : Hs) (hn : s.devs.length ≤ 1000) (hd : s.dec.length ≤ 100000) : CtrM Try.prog 44 [.ref 2 1 0 0] (objsH s) (.tup []) (objsH (decideH s)) := by
  refine spec0 (decideH s) f44 (by simp) (fun _ _ => rfl) fun F0 w0 G B eB hBl hBi hG => CwpE.vc ?_
  by_cases z : s.now = 0
  · have e : decideH s = s := if_pos (.inl z)
    rw [e] at eB
    simp only [c44, objsH, oH, go_sem, List.replicate_succ, Nat.reducePow, Nat.reduceLeDiff, ↓reduceIte, reduceCtorEq, Nat.reduceLT, Nat.reduceEqDiff, Nat.reduceAdd, Nat.reduceSub, Nat.reduceMul, Int.reduceToNat, Int.reduceLT, Int.reduceLE, Int.reduceEq, Int.reduceNe, Int.reduceNeg, Int.reduceToNat, Int.lt_irrefl, Int.le_refl, z]
    exact endR hBl hBi rfl rfl (by rw [eB]; simp only [objsH, oH, z]; rfl)
  have key : s.devs.any waitsD = true ∨ s.devs.any waitsD = false := by cases s.devs.any waitsD <;> simp
  simp only [c44, objsH, oH, go_sem, List.replicate_succ, Nat.reducePow, Nat.reduceLeDiff, ↓reduceIte, reduceCtorEq, Nat.reduceLT, Nat.reduceEqDiff, Nat.reduceAdd, Nat.reduceSub, Nat.reduceMul, Int.reduceToNat, Int.reduceLT, Int.reduceLE, Int.reduceEq, Int.reduceNe, Int.reduceNeg, Int.reduceToNat, Int.lt_irrefl, Int.le_refl, z]
  refine callF (ContainsFunc_s s.devs (by omega)) (.cons (.own 1 s.devs.length 0 s.devs.length 8 60 (s.devs.map vdv) (s.devs.map vdv) rfl (by simp) (by simp) fun i h => by simp only [Nat.zero_add]; exact .tree _ (by simp; rfl)) (.cons (.tree _ rfl) .nil)) rfl ?_
  rcases key with k | k
  · have e : decideH s = s := if_pos (.inr k)
    rw [e] at eB
    simp only [objsH, oH, go_sem, List.replicate_succ, Nat.reducePow, Nat.reduceLeDiff, ↓reduceIte, reduceCtorEq, Nat.reduceLT, Nat.reduceEqDiff, Nat.reduceAdd, Nat.reduceSub, Nat.reduceMul, Int.reduceToNat, Int.reduceLT, Int.reduceLE, Int.reduceEq, Int.reduceNe, Int.reduceNeg, Int.reduceToNat, Int.lt_irrefl, Int.le_refl, k]
    exact endR hBl hBi rfl rfl eB.symm
  have e : decideH s = { s with dec := s.dec ++ [s.now], now := 0, devs := s.devs.map Dv.cut } := if_neg (by simp [z, k])
  rw [e] at eB
  have q1 : (s.dec.length + 1) * 8 ≤ 140737488355328 := by omega
  simp only [objsH, oH, go_sem, List.replicate_succ, Nat.reducePow, Nat.reduceLeDiff, ↓reduceIte, reduceCtorEq, Nat.reduceLT, Nat.reduceEqDiff, Nat.reduceAdd, Nat.reduceSub, Nat.reduceMul, Int.reduceToNat, Int.reduceLT, Int.reduceLE, Int.reduceEq, Int.reduceNe, Int.reduceNeg, Int.reduceToNat, Int.lt_irrefl, Int.le_refl, k, q1]
  have he := each_s { s with dec := s.dec ++ [s.now], now := 0 } [] (fun _ _ => rfl) hn 59 60 [] [] (fun _ => true) Dv.cut rfl rfl (fun ds i d h => decide2_s _ _) (fun ds i d h => decide3_s _ i d h)
  refine callM (objsH { s with dec := s.dec ++ [s.now], now := 0 }) [G] _ he ?_ (objsH_inn _ 5 (by omega)) rfl ?_
  · simp only [objsH, oH, List.length_append, List.length_cons, List.length_nil, List.map_append, List.map_cons, List.map_nil, List.cons_append, List.nil_append, Nat.zero_add]
  simp only [go_sem, List.replicate_succ, Nat.reducePow, Nat.reduceLeDiff, ↓reduceIte, reduceCtorEq, Nat.reduceLT, Nat.reduceEqDiff, Nat.reduceAdd, Nat.reduceSub, Nat.reduceMul, Int.reduceToNat]
  have ef : stepD (fun _ => true) Dv.cut = Dv.cut := funext fun d => rfl
  rw [ef]
  exact endN hBl hBi rfl rfl eB.symm
end Go.Proofs.Ytjpknjicfoiheaa
