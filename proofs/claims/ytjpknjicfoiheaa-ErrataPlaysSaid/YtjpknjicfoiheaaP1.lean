/- A copy of a hall. -/
import Derived.Test.YtjpknjicfoiheaaPz
set_option linter.unusedSimpArgs false
set_option linter.unusedVariables false
set_option linter.unusedSectionVars false
namespace Go.Proofs.Ytjpknjicfoiheaa
open Go.RowKit Dak
/-- A copy of a list is the caller's own. -/
theorem wk_nilN {s : Nat} (e : TypeId) : WkE 1 ⟨[(0, .val (.slice none 0 0))], []⟩ ⟨[(0, .own 0 0 0 0)], [.arr 0 s e []]⟩ := (WkE.nil (n := 1) (env := [(0, .val (.slice none 0 0))]) (objs := []) 0 s e (by omega) rfl).trans (WkE.keep ⟨rfl, trivial⟩)
set_option maxRecDepth 100000 in
theorem CloneI_n (l : List Int) (hl : l.length ≤ 100000) : CtrN Try.prog 28 [.list 1 (l.map vi)] (.own 0 l.length 0 l.length) [.arr l.length 1 3 (l.map vi)] := by
  refine specN f28 (by simp) rfl (by simp only [List.all_cons, List.all_nil, Bool.and_true, AObj.innO]; exact inn_map (fun _ => rfl)) rfl fun F0 w0 => ?_
  unfold c28
  refine CwpE.cut (st := ⟨[(0, .list 1 (l.map vi))], []⟩) ?_ ?_
  · simp only [go_sem, List.replicate_succ, Nat.reducePow, Nat.reduceLeDiff, ↓reduceIte, reduceCtorEq, Nat.reduceLT, Nat.reduceEqDiff, Nat.reduceAdd, Nat.reduceSub, Nat.reduceMul, Int.reduceToNat]
    exact ⟨_, WkE.keep (by simp only [go_sem, List.replicate_succ, Nat.reducePow, Nat.reduceLeDiff, ↓reduceIte, reduceCtorEq, Nat.reduceLT, Nat.reduceEqDiff, Nat.reduceAdd, Nat.reduceSub, Nat.reduceMul, Int.reduceToNat]), rfl⟩
  have q1 : l.length * 8 ≤ 140737488355328 := by omega
  cases l with
  | nil =>
    refine CwpE.seqJ (fun st => st = ⟨[(0, .list 1 [])], []⟩) ?_ ?_
    · refine CwpE.cut (st := ⟨[(4, .anyB), (0, .list 1 [])], []⟩) ?_ ?_
      · simp only [go_sem, List.replicate_succ, Nat.reducePow, Nat.reduceLeDiff, ↓reduceIte, reduceCtorEq, Nat.reduceLT, Nat.reduceEqDiff, Nat.reduceAdd, Nat.reduceSub, Nat.reduceMul, Int.reduceToNat, Int.reduceLT, Int.reduceLE, Int.reduceEq, Int.reduceNe, Int.reduceNeg, Int.reduceToNat, Int.lt_irrefl, Int.le_refl]
        exact ⟨_, WkE.keep (by simp only [go_sem, List.replicate_succ, Nat.reducePow, Nat.reduceLeDiff, ↓reduceIte, reduceCtorEq, Nat.reduceLT, Nat.reduceEqDiff, Nat.reduceAdd, Nat.reduceSub, Nat.reduceMul, Int.reduceToNat]), rfl⟩
      refine CwpE.split 4 rfl fun b => CwpE.vc ?_
      cases b
      · simp only [go_sem, List.replicate_succ, Nat.reducePow, Nat.reduceLeDiff, ↓reduceIte, reduceCtorEq, Nat.reduceLT, Nat.reduceEqDiff, Nat.reduceAdd, Nat.reduceSub, Nat.reduceMul, Int.reduceToNat, Int.reduceLT, Int.reduceLE, Int.reduceEq, Int.reduceNe, Int.reduceNeg, Int.reduceToNat, Int.lt_irrefl, Int.le_refl]
        exact ⟨_, WkE.keep (by simp only [go_sem, List.replicate_succ, Nat.reducePow, Nat.reduceLeDiff, ↓reduceIte, reduceCtorEq, Nat.reduceLT, Nat.reduceEqDiff, Nat.reduceAdd, Nat.reduceSub, Nat.reduceMul, Int.reduceToNat]), rfl⟩
      · simp only [go_sem, List.replicate_succ, Nat.reducePow, Nat.reduceLeDiff, ↓reduceIte, reduceCtorEq, Nat.reduceLT, Nat.reduceEqDiff, Nat.reduceAdd, Nat.reduceSub, Nat.reduceMul, Int.reduceToNat, Int.reduceLT, Int.reduceLE, Int.reduceEq, Int.reduceNe, Int.reduceNeg, Int.reduceToNat, Int.lt_irrefl, Int.le_refl]
        exact ⟨_, rfl, wk_nilN 3⟩
    · rintro _ rfl
      refine CwpE.vc ?_
      simp only [go_sem, List.replicate_succ, Nat.reducePow, Nat.reduceLeDiff, ↓reduceIte, reduceCtorEq, Nat.reduceLT, Nat.reduceEqDiff, Nat.reduceAdd, Nat.reduceSub, Nat.reduceMul, Int.reduceToNat, Int.reduceLT, Int.reduceLE, Int.reduceEq, Int.reduceNe, Int.reduceNeg, Int.reduceToNat, Int.lt_irrefl, Int.le_refl]
      exact ⟨_, rfl, .refl _ _⟩
  | cons x l =>
    refine CwpE.vc ?_
    have q2 : (l.length + 1) * 8 ≤ 140737488355328 := q1
    have q3 : 0 < l.length + 1 := by omega
    simp only [go_sem, List.replicate_succ, Nat.reducePow, Nat.reduceLeDiff, ↓reduceIte, reduceCtorEq, Nat.reduceLT, Nat.reduceEqDiff, Nat.reduceAdd, Nat.reduceSub, Nat.reduceMul, Int.reduceToNat, Int.reduceLT, Int.reduceLE, Int.reduceEq, Int.reduceNe, Int.reduceNeg, Int.reduceToNat, Int.lt_irrefl, Int.le_refl, q2, q3]
    exact ⟨_, rfl, .refl _ _⟩
set_option maxRecDepth 100000 in
theorem CloneA_n (l : List (Int × Int × Int)) (hl : l.length ≤ 100000) : CtrN Try.prog 29 [.list 3 (l.map vans)] (.own 0 l.length 0 l.length) [.arr l.length 3 38 (l.map vans)] := by
  refine specN f29 (by simp) rfl (by simp only [List.all_cons, List.all_nil, Bool.and_true, AObj.innO]; exact inn_map (fun _ => rfl)) rfl fun F0 w0 => ?_
  unfold c29
  refine CwpE.cut (st := ⟨[(0, .list 3 (l.map vans))], []⟩) ?_ ?_
  · simp only [go_sem, List.replicate_succ, Nat.reducePow, Nat.reduceLeDiff, ↓reduceIte, reduceCtorEq, Nat.reduceLT, Nat.reduceEqDiff, Nat.reduceAdd, Nat.reduceSub, Nat.reduceMul, Int.reduceToNat]
    exact ⟨_, WkE.keep (by simp only [go_sem, List.replicate_succ, Nat.reducePow, Nat.reduceLeDiff, ↓reduceIte, reduceCtorEq, Nat.reduceLT, Nat.reduceEqDiff, Nat.reduceAdd, Nat.reduceSub, Nat.reduceMul, Int.reduceToNat]), rfl⟩
  have q1 : l.length * 24 ≤ 140737488355328 := by omega
  cases l with
  | nil =>
    refine CwpE.seqJ (fun st => st = ⟨[(0, .list 3 [])], []⟩) ?_ ?_
    · refine CwpE.cut (st := ⟨[(4, .anyB), (0, .list 3 [])], []⟩) ?_ ?_
      · simp only [go_sem, List.replicate_succ, Nat.reducePow, Nat.reduceLeDiff, ↓reduceIte, reduceCtorEq, Nat.reduceLT, Nat.reduceEqDiff, Nat.reduceAdd, Nat.reduceSub, Nat.reduceMul, Int.reduceToNat, Int.reduceLT, Int.reduceLE, Int.reduceEq, Int.reduceNe, Int.reduceNeg, Int.reduceToNat, Int.lt_irrefl, Int.le_refl]
        exact ⟨_, WkE.keep (by simp only [go_sem, List.replicate_succ, Nat.reducePow, Nat.reduceLeDiff, ↓reduceIte, reduceCtorEq, Nat.reduceLT, Nat.reduceEqDiff, Nat.reduceAdd, Nat.reduceSub, Nat.reduceMul, Int.reduceToNat]), rfl⟩
      refine CwpE.split 4 rfl fun b => CwpE.vc ?_
      cases b
      · simp only [go_sem, List.replicate_succ, Nat.reducePow, Nat.reduceLeDiff, ↓reduceIte, reduceCtorEq, Nat.reduceLT, Nat.reduceEqDiff, Nat.reduceAdd, Nat.reduceSub, Nat.reduceMul, Int.reduceToNat, Int.reduceLT, Int.reduceLE, Int.reduceEq, Int.reduceNe, Int.reduceNeg, Int.reduceToNat, Int.lt_irrefl, Int.le_refl]
        exact ⟨_, WkE.keep (by simp only [go_sem, List.replicate_succ, Nat.reducePow, Nat.reduceLeDiff, ↓reduceIte, reduceCtorEq, Nat.reduceLT, Nat.reduceEqDiff, Nat.reduceAdd, Nat.reduceSub, Nat.reduceMul, Int.reduceToNat]), rfl⟩
      · simp only [go_sem, List.replicate_succ, Nat.reducePow, Nat.reduceLeDiff, ↓reduceIte, reduceCtorEq, Nat.reduceLT, Nat.reduceEqDiff, Nat.reduceAdd, Nat.reduceSub, Nat.reduceMul, Int.reduceToNat, Int.reduceLT, Int.reduceLE, Int.reduceEq, Int.reduceNe, Int.reduceNeg, Int.reduceToNat, Int.lt_irrefl, Int.le_refl]
        exact ⟨_, rfl, wk_nilN 38⟩
    · rintro _ rfl
      refine CwpE.vc ?_
      simp only [go_sem, List.replicate_succ, Nat.reducePow, Nat.reduceLeDiff, ↓reduceIte, reduceCtorEq, Nat.reduceLT, Nat.reduceEqDiff, Nat.reduceAdd, Nat.reduceSub, Nat.reduceMul, Int.reduceToNat, Int.reduceLT, Int.reduceLE, Int.reduceEq, Int.reduceNe, Int.reduceNeg, Int.reduceToNat, Int.lt_irrefl, Int.le_refl]
      exact ⟨_, rfl, .refl _ _⟩
  | cons x l =>
    refine CwpE.vc ?_
    have q2 : (l.length + 1) * 24 ≤ 140737488355328 := q1
    have q3 : 0 < l.length + 1 := by omega
    simp only [go_sem, List.replicate_succ, Nat.reducePow, Nat.reduceLeDiff, ↓reduceIte, reduceCtorEq, Nat.reduceLT, Nat.reduceEqDiff, Nat.reduceAdd, Nat.reduceSub, Nat.reduceMul, Int.reduceToNat, Int.reduceLT, Int.reduceLE, Int.reduceEq, Int.reduceNe, Int.reduceNeg, Int.reduceToNat, Int.lt_irrefl, Int.le_refl, q2, q3]
    exact ⟨_, rfl, .refl _ _⟩
set_option maxRecDepth 100000 in
theorem CloneD_n (l : List Dv) (hl : l.length ≤ 100000) : CtrN Try.prog 50 [.list 8 (l.map vdv)] (.own 0 l.length 0 l.length) [.arr l.length 8 60 (l.map vdv)] := by
  refine specN f50 (by simp) rfl (by simp only [List.all_cons, List.all_nil, Bool.and_true, AObj.innO]; exact inn_map (fun _ => rfl)) rfl fun F0 w0 => ?_
  unfold c50
  refine CwpE.cut (st := ⟨[(0, .list 8 (l.map vdv))], []⟩) ?_ ?_
  · simp only [go_sem, List.replicate_succ, Nat.reducePow, Nat.reduceLeDiff, ↓reduceIte, reduceCtorEq, Nat.reduceLT, Nat.reduceEqDiff, Nat.reduceAdd, Nat.reduceSub, Nat.reduceMul, Int.reduceToNat]
    exact ⟨_, WkE.keep (by simp only [go_sem, List.replicate_succ, Nat.reducePow, Nat.reduceLeDiff, ↓reduceIte, reduceCtorEq, Nat.reduceLT, Nat.reduceEqDiff, Nat.reduceAdd, Nat.reduceSub, Nat.reduceMul, Int.reduceToNat]), rfl⟩
  have q1 : l.length * 24 ≤ 140737488355328 := by omega
  cases l with
  | nil =>
    refine CwpE.seqJ (fun st => st = ⟨[(0, .list 8 [])], []⟩) ?_ ?_
    · refine CwpE.cut (st := ⟨[(4, .anyB), (0, .list 8 [])], []⟩) ?_ ?_
      · simp only [go_sem, List.replicate_succ, Nat.reducePow, Nat.reduceLeDiff, ↓reduceIte, reduceCtorEq, Nat.reduceLT, Nat.reduceEqDiff, Nat.reduceAdd, Nat.reduceSub, Nat.reduceMul, Int.reduceToNat, Int.reduceLT, Int.reduceLE, Int.reduceEq, Int.reduceNe, Int.reduceNeg, Int.reduceToNat, Int.lt_irrefl, Int.le_refl]
        exact ⟨_, WkE.keep (by simp only [go_sem, List.replicate_succ, Nat.reducePow, Nat.reduceLeDiff, ↓reduceIte, reduceCtorEq, Nat.reduceLT, Nat.reduceEqDiff, Nat.reduceAdd, Nat.reduceSub, Nat.reduceMul, Int.reduceToNat]), rfl⟩
      refine CwpE.split 4 rfl fun b => CwpE.vc ?_
      cases b
      · simp only [go_sem, List.replicate_succ, Nat.reducePow, Nat.reduceLeDiff, ↓reduceIte, reduceCtorEq, Nat.reduceLT, Nat.reduceEqDiff, Nat.reduceAdd, Nat.reduceSub, Nat.reduceMul, Int.reduceToNat, Int.reduceLT, Int.reduceLE, Int.reduceEq, Int.reduceNe, Int.reduceNeg, Int.reduceToNat, Int.lt_irrefl, Int.le_refl]
        exact ⟨_, WkE.keep (by simp only [go_sem, List.replicate_succ, Nat.reducePow, Nat.reduceLeDiff, ↓reduceIte, reduceCtorEq, Nat.reduceLT, Nat.reduceEqDiff, Nat.reduceAdd, Nat.reduceSub, Nat.reduceMul, Int.reduceToNat]), rfl⟩
      · simp only [go_sem, List.replicate_succ, Nat.reducePow, Nat.reduceLeDiff, ↓reduceIte, reduceCtorEq, Nat.reduceLT, Nat.reduceEqDiff, Nat.reduceAdd, Nat.reduceSub, Nat.reduceMul, Int.reduceToNat, Int.reduceLT, Int.reduceLE, Int.reduceEq, Int.reduceNe, Int.reduceNeg, Int.reduceToNat, Int.lt_irrefl, Int.le_refl]
        exact ⟨_, rfl, wk_nilN 60⟩
    · rintro _ rfl
      refine CwpE.vc ?_
      simp only [go_sem, List.replicate_succ, Nat.reducePow, Nat.reduceLeDiff, ↓reduceIte, reduceCtorEq, Nat.reduceLT, Nat.reduceEqDiff, Nat.reduceAdd, Nat.reduceSub, Nat.reduceMul, Int.reduceToNat, Int.reduceLT, Int.reduceLE, Int.reduceEq, Int.reduceNe, Int.reduceNeg, Int.reduceToNat, Int.lt_irrefl, Int.le_refl]
      exact ⟨_, rfl, .refl _ _⟩
  | cons x l =>
    refine CwpE.vc ?_
    have q2 : (l.length + 1) * 24 ≤ 140737488355328 := q1
    have q3 : 0 < l.length + 1 := by omega
    simp only [go_sem, List.replicate_succ, Nat.reducePow, Nat.reduceLeDiff, ↓reduceIte, reduceCtorEq, Nat.reduceLT, Nat.reduceEqDiff, Nat.reduceAdd, Nat.reduceSub, Nat.reduceMul, Int.reduceToNat, Int.reduceLT, Int.reduceLE, Int.reduceEq, Int.reduceNe, Int.reduceNeg, Int.reduceToNat, Int.lt_irrefl, Int.le_refl, q2, q3]
    exact ⟨_, rfl, .refl _ _⟩
theorem inR_map {α : Type} {f : α → AV} {l : List α} {B : List AObj} (h : ∀ x, (f x).inR B = true) : (l.map f).all (AV.inR B) = true := by
  refine List.all_eq_true.2 fun y hy => ?_
  obtain ⟨x, _, rfl⟩ := List.mem_map.1 hy
  exact h x
theorem ren_map {α : Type} {f : α → AV} {l : List α} {σ : Nat → Nat} (h : ∀ x, (f x).ren σ = f x) : (l.map f).map (AV.ren σ) = l.map f := by
  rw [List.map_map]
  exact List.map_congr_left fun x _ => h x
/-- What a copy of a hall is in memory. -/
abbrev oC (n dl al : Nat) (D : List AV) (now : Int) (X A : List AV) (k : Nat) : List AObj :=
  [.arr n 8 60 D, .arr dl 1 3 X, .arr al 3 38 A, .arr 1 4 62 [.agg [.own k n 0 n, .own (k + 1) dl 0 dl, vi now, .own (k + 2) al 0 al]]]
def newsC (s : Hs) (k : Nat) : List AObj := oC s.devs.length s.dec.length s.ans.length (s.devs.map vdv) s.now (s.dec.map vi) (s.ans.map vans) k
abbrev vhall (s : Hs) : AV := .ptr [.list 8 (s.devs.map vdv), .list 1 (s.dec.map vi), vi s.now, .list 3 (s.ans.map vans)]
theorem newsC_inn (s : Hs) (k m : Nat) (hm : k + 4 ≤ m) : (newsC s k).all (fun o => o.innO m) = true := by
  simp only [newsC, oC, List.all_cons, List.all_nil, AObj.innO, inn_map (f := vdv) (k := m) (fun _ => rfl), inn_map (f := vi) (k := m) (fun _ => rfl), inn_map (f := vans) (k := m) (fun _ => rfl), AV.inn, AV.inn1, Bool.true_and, Bool.and_true, Bool.and_eq_true, decide_eq_true_eq]
  omega
set_option maxRecDepth 100000 in
theorem Copy_n (s : Hs) (bd : Bd s) : CtrN Try.prog 25 [vhall s] (.ref 3 1 0 0) (newsC s 0) := by
  refine specN f25 (by simp) rfl (newsC_inn s 0 4 (by omega)) rfl fun F0 w0 => CwpE.vc ?_
  simp only [c25, go_sem, List.replicate_succ, Nat.reducePow, Nat.reduceLeDiff, ↓reduceIte, reduceCtorEq, Nat.reduceLT, Nat.reduceEqDiff, Nat.reduceAdd, Nat.reduceSub, Nat.reduceMul, Int.reduceToNat, Int.reduceLT, Int.reduceLE, Int.reduceEq, Int.reduceNe, Int.reduceNeg, Int.reduceToNat, Int.lt_irrefl, Int.le_refl]
  refine callN1 (CloneD_n s.devs (by have := bd.1; omega)) (.cons (.tree _ rfl) .nil) ?_ rfl ?_
  · simp [AObj.inRO, inR_map (f := vdv) (fun _ => rfl)]
  simp only [AV.ren, AV.ren1, AObj.renO, ren_map (f := vdv) (fun _ => rfl), go_sem, List.replicate_succ, Nat.reducePow, Nat.reduceLeDiff, ↓reduceIte, reduceCtorEq, Nat.reduceLT, Nat.reduceEqDiff, Nat.reduceAdd, Nat.reduceSub, Nat.reduceMul, Int.reduceToNat, Int.reduceLT, Int.reduceLE, Int.reduceEq, Int.reduceNe, Int.reduceNeg, Int.reduceToNat, Int.lt_irrefl, Int.le_refl]
  refine callN1 (CloneI_n s.dec (by have := bd.2.1; omega)) (.cons (.tree _ rfl) .nil) ?_ rfl ?_
  · simp [AObj.inRO, inR_map (f := vi) (fun _ => rfl)]
  simp only [AV.ren, AV.ren1, AObj.renO, ren_map (f := vi) (fun _ => rfl), go_sem, List.replicate_succ, Nat.reducePow, Nat.reduceLeDiff, ↓reduceIte, reduceCtorEq, Nat.reduceLT, Nat.reduceEqDiff, Nat.reduceAdd, Nat.reduceSub, Nat.reduceMul, Int.reduceToNat, Int.reduceLT, Int.reduceLE, Int.reduceEq, Int.reduceNe, Int.reduceNeg, Int.reduceToNat, Int.lt_irrefl, Int.le_refl]
  refine callN1 (CloneA_n s.ans (by have := bd.2.2; omega)) (.cons (.tree _ rfl) .nil) ?_ rfl ?_
  · simp [AObj.inRO, inR_map (f := vans) (fun _ => rfl)]
  simp only [AV.ren, AV.ren1, AObj.renO, ren_map (f := vans) (fun _ => rfl), go_sem, List.replicate_succ, Nat.reducePow, Nat.reduceLeDiff, ↓reduceIte, reduceCtorEq, Nat.reduceLT, Nat.reduceEqDiff, Nat.reduceAdd, Nat.reduceSub, Nat.reduceMul, Int.reduceToNat, Int.reduceLT, Int.reduceLE, Int.reduceEq, Int.reduceNe, Int.reduceNeg, Int.reduceToNat, Int.lt_irrefl, Int.le_refl]
  exact ⟨_, rfl, .refl _ _⟩
end Go.Proofs.Ytjpknjicfoiheaa
