/- Spoilt words, by contract. -/
import Derived.Test.YtehelanfgepcmaaPd
set_option linter.unusedSimpArgs false
set_option linter.unusedVariables false
set_option linter.unusedSectionVars false
namespace Go.Proofs.Ytehelanfgepcmaa
open Go.RowKit Dak
/-- One word with one thing changed. -/
def spoilW (x : List (List Int)) (how by_ : Int) : List (List Int) :=
  if aroundL how 4 = 0 then x.take (x.length - 1)
  else if aroundL how 4 = 1 then x ++ [[by_]]
  else if aroundL how 4 = 2 then x.set 0 ((x.getD 0 []).set 0 (([-1, 4096, 4097, by_] : List Int).getD (aroundL by_ 4).toNat 0))
  else x.set 0 (x.getD 0 [] ++ [1])
/-- dactylref11.Spoilt -/
def spoiltL (X : List (List (List Int))) (at_ how by_ : Int) : List (List (List Int)) :=
  if X = [] then [[]] else let i := (aroundL at_ X.length).toNat; X.set i (spoilW (X.getD i []) how by_)

set_option maxRecDepth 100000 in
theorem Spoilt_nil (at_ how by_ : Int) : Ctr Try.prog 11 [vwords [], vi at_, vi how, vi by_] (vwords [[]]) := by
  refine specE f11 (by simp) fun F0 w0 => ?_
  have c0 : ((0 : Nat) : Int) = 0 := rfl
  simp only [c11, go_sem, List.replicate_succ, Nat.reducePow, Nat.reduceLeDiff, ↓reduceIte, reduceCtorEq, Nat.reduceLT, Nat.reduceEqDiff, Nat.reduceAdd, Nat.reduceSub, Nat.reduceMul, Int.reduceToNat, c0]
  refine .own 0 1 0 1 1 47 _ _ rfl (by simp) (by simp) fun i hi => ?_
  match i, hi with
  | 0, _ =>
    refine .agg _ _ rfl fun j h1 h2 => ?_
    match j, h1 with
    | 0, _ => exact .nil _


theorem spoil_snap {objs : List AObj} {X : List (List (List Int))} {i : Nat} {A : AV} {W : List (List Int)} (ho : objs[0]? = some (.arr X.length 1 47 ((X.map vword).set i (.agg [A])))) (hA : Snap objs A (vrows W)) :
    Snap objs (.own 0 X.length 0 X.length) (vwords (X.set i W)) := by
  refine .own 0 _ 0 _ 1 47 _ _ ho (by simp) (by simp) fun j hj => ?_
  simp only [Nat.zero_add, List.getElem_map]
  rw [List.getElem_set, List.getElem_set]
  by_cases e : i = j
  · rw [if_pos e, if_pos e]
    refine .agg _ _ rfl fun k h1 h2 => ?_
    match k, h1 with
    | 0, _ => exact hA
  · rw [if_neg e, if_neg e, List.getElem_map]
    exact .tree _ rfl
theorem rows_snap {objs : List AObj} {g L : Nat} {A0 : AV} {a : List Int} {tl : List AV} {l : List (List Int)} (ho : objs[1]? = some (.arr g 1 22 (A0 :: tl))) (hl : l.map vints <+: tl) (hL : L = l.length + 1) (h0 : Snap objs A0 (vints a)) :
    Snap objs (.own 1 g 0 L) (vrows (a :: l)) := by
  obtain ⟨r, rfl⟩ := hl
  subst hL
  refine .own 1 g 0 _ 1 22 _ _ ho (by simp) (by simp) fun j hj => ?_
  match j, hj with
  | 0, _ => exact h0
  | j + 1, hj =>
    simp only [List.map_cons, List.length_cons, List.length_map] at hj
    have : j < l.length := by omega
    simp only [Nat.zero_add, List.map_cons, List.getElem_cons_succ]
    rw [List.getElem_append_left (by simpa using this)]
    simp only [List.getElem_map]
    exact .tree _ rfl
theorem row_snap {objs : List AObj} {l : List Int} {e : TypeId} (ho : objs[2]? = some (.arr l.length 1 e (l.map vi))) : Snap objs (.own 2 l.length 0 l.length) (vints l) := by
  refine .own 2 _ 0 _ 1 e _ _ ho (by simp) (by simp) fun j hj => ?_
  simp only [Nat.zero_add]
  simp only [List.getElem_map]
  exact .tree _ rfl

set_option maxRecDepth 100000 in
set_option maxHeartbeats 2000000 in
theorem Spoilt_s (X : List (List (List Int))) (at_ how by_ : Int) (hX : 0 < X.length) (hX2 : X.length ≤ 1000)
    (hw : ∀ x ∈ X, 1 ≤ x.length ∧ x.length ≤ 1000 ∧ (∀ r ∈ x, r.length ≤ 1000) ∧ 1 ≤ (x.getD 0 []).length) (h1 : I64 at_) (h2 : I64 how) (h3 : I64 by_) :
    Ctr Try.prog 11 [vwords X, vi at_, vi how, vi by_] (vwords (spoiltL X at_ how by_)) := by
  refine specE f11 (by simp) fun F0 w0 => ?_
  have hne : ¬ (X.length : Int) = 0 := by omega
  have hb : X.length * 24 ≤ 140737488355328 := by omega
  have hor : (0 = 0 ∨ 0 < X.length) := .inl rfl
  simp only [c11, go_sem, List.replicate_succ, Nat.reducePow, Nat.reduceLeDiff, ↓reduceIte, reduceCtorEq, Nat.reduceLT, Nat.reduceEqDiff, Nat.reduceAdd, Nat.reduceSub, Nat.reduceMul, Int.reduceToNat, hne, hb]
  refine callT (Around_s at_ X.length h1 ⟨by omega, by omega⟩) rfl ?_
  have hbd := aroundL_bd at_ X.length (by omega)
  obtain ⟨i, hi⟩ : ∃ i : Nat, aroundL at_ X.length = i := ⟨(aroundL at_ X.length).toNat, by omega⟩
  have hsp : spoiltL X at_ how by_ = X.set i (spoilW (X.getD i []) how by_) := by
    rw [spoiltL, if_neg (by rintro rfl; simp at hX), hi]; rfl
  rw [hi] at hbd ⊢
  have hiX : i < X.length := by omega
  have hg : X.getD i [] = X[i] := by simp [hiX]
  rw [hsp, hg]
  obtain ⟨w1, w2, w3, w4⟩ := hw _ (List.getElem_mem hiX)
  generalize hx : X[i] = x at *
  obtain ⟨r0, rest, rfl⟩ := List.exists_cons_of_length_pos (show 0 < x.length by omega)
  have w5 : 1 ≤ r0.length := by simpa using w4
  have w6 : r0.length ≤ 1000 := w3 r0 (by simp)
  have w7 : ∀ r ∈ rest, r.length ≤ 1000 := fun r hr => w3 r (by simp [hr])
  have w8 : rest.length + 1 ≤ 1000 := by simpa using w2
  have e0 : (0 : Int) ≤ (i : Int) := by omega
  have e1 : (i : Int) < (X.length : Int) := by omega
  simp only [go_sem, List.replicate_succ, Nat.reducePow, Nat.reduceLeDiff, ↓reduceIte, reduceCtorEq, Nat.reduceLT, Nat.reduceEqDiff, Nat.reduceAdd, Nat.reduceSub, Nat.reduceMul, Int.reduceToNat]
  refine loopX 0 (fun m s => ∃ k, m = rest.length + 1 - k ∧ k ≤ rest.length + 1 ∧ (k = 0 ∧ s = ⟨[(2, vi how), (3, vi by_), (9, ownV 0 X.length), (10, vi i), (11, ownV 1 0), (12, vi 0)], [.arr X.length 1 47 (X.map vword), .arr 0 1 22 []]⟩ ∨
      ∃ q, k = q + 1 ∧ s = ⟨[(2, vi how), (3, vi by_), (9, ownV 0 X.length), (10, vi i), (11, ownV 1 (q + 1)), (12, vi (q + 1 : Nat))], [.arr X.length 1 47 (X.map vword), .arr (q + 1) 1 22 (ownV 2 r0.length :: (rest.take q).map vints), .arr r0.length 1 3 (r0.map vi)]⟩))
    (fun s => s = ⟨[(2, vi how), (3, vi by_), (9, ownV 0 X.length), (10, vi i), (11, ownV 1 (rest.length + 1))], [.arr X.length 1 47 (X.map vword), .arr (rest.length + 1) 1 22 (ownV 2 r0.length :: rest.map vints), .arr r0.length 1 3 (r0.map vi)]⟩) (rest.length + 1)
    ⟨[(2, vi how), (3, vi by_), (9, ownV 0 X.length), (10, vi i), (11, ownV 1 0), (12, vi 0)], [.arr X.length 1 47 (X.map vword), .arr 0 1 22 []]⟩
    ((WkE.nil 11 1 22 (by omega) rfl).trans (WkE.keep (by simp only [go_sem, List.replicate_succ, Nat.reducePow, Nat.reduceLeDiff, ↓reduceIte, reduceCtorEq, Nat.reduceLT, Nat.reduceEqDiff, Nat.reduceAdd, Nat.reduceSub, Nat.reduceMul, Int.reduceToNat]))) ⟨0, by simp, by simp, .inl ⟨rfl, rfl⟩⟩ ?_ ?_
  rotate_left
  · rintro s rfl
    simp only [go_sem, List.replicate_succ, Nat.reducePow, Nat.reduceLeDiff, ↓reduceIte, reduceCtorEq, Nat.reduceLT, Nat.reduceEqDiff, Nat.reduceAdd, Nat.reduceSub, Nat.reduceMul, Int.reduceToNat]
    refine callT (Around_s how 4 h2 ⟨by omega, by omega⟩) rfl ?_
    have hj := aroundL_bd how 4 (by omega)
    have z0 : (0 : Int) ≤ 0 := by omega
    have z1 : (0 : Int) < ((rest.length + 1 : Nat) : Int) := by omega
    by_cases j0 : aroundL how 4 = 0
    · have f1 : IntKind.i64.wrap (((rest.length + 1 : Nat) : Int) - 1) = (rest.length : Int) := by rw [wrap_id (by omega) (by omega)]; omega
      have f2 : (rest.length : Int) ≤ ((rest.length + 1 : Nat) : Int) := by omega
      have f3 : (0 : Int) ≤ (rest.length : Int) := by omega
      simp only [go_sem, List.replicate_succ, Nat.reducePow, Nat.reduceLeDiff, ↓reduceIte, reduceCtorEq, Nat.reduceLT, Nat.reduceEqDiff, Nat.reduceAdd, Nat.reduceSub, Nat.reduceMul, Int.reduceToNat, j0, f1, f2, f3, e0, e1, List.getElem?_map, List.getElem?_eq_getElem hiX, hx]
      have hW : spoilW (r0 :: rest) how by_ = (r0 :: rest).take rest.length := by rw [spoilW, if_pos j0]; simp
      rw [hW]
      refine spoil_snap rfl ?_
      cases rest with
      | nil => exact .own 1 _ 0 0 1 22 _ _ rfl (by simp) (by simp) fun i hi => absurd hi (by simp)
      | cons r1 rest =>
        refine rows_snap rfl ?_ (by simp) (row_snap rfl)
        exact ((List.take_prefix _ _).map _)
    · by_cases j1 : aroundL how 4 = 1
      · have f1 : (rest.length + 1 + 1) * 24 ≤ 140737488355328 := by omega
        simp only [go_sem, List.replicate_succ, Nat.reducePow, Nat.reduceLeDiff, ↓reduceIte, reduceCtorEq, Nat.reduceLT, Nat.reduceEqDiff, Nat.reduceAdd, Nat.reduceSub, Nat.reduceMul, Int.reduceToNat, j0, j1, f1, e0, e1, Int.reduceEq, List.getElem?_map, List.getElem?_eq_getElem hiX, hx]
        have hW : spoilW (r0 :: rest) how by_ = r0 :: (rest ++ [[by_]]) := by rw [spoilW, if_neg j0, if_pos j1]; rfl
        rw [hW]
        refine spoil_snap rfl ?_
        refine rows_snap rfl ?_ (by simp) (row_snap rfl)
        simp
      · by_cases j2 : aroundL how 4 = 2
        · have hW : spoilW (r0 :: rest) how by_ = (r0.set 0 (([-1, 4096, 4097, by_] : List Int).getD (aroundL by_ 4).toNat 0)) :: rest := by rw [spoilW, if_neg j0, if_neg j1, if_pos j2]; rfl
          rw [hW]
          simp only [go_sem, List.replicate_succ, Nat.reducePow, Nat.reduceLeDiff, ↓reduceIte, reduceCtorEq, Nat.reduceLT, Nat.reduceEqDiff, Nat.reduceAdd, Nat.reduceSub, Nat.reduceMul, Int.reduceToNat, j0, j1, j2, z0, z1, Int.reduceEq]
          refine callT (Around_s by_ 4 h3 ⟨by omega, by omega⟩) rfl ?_
          have hj4 := aroundL_bd by_ 4 (by omega)
          obtain ⟨a0, r0', rfl⟩ := List.exists_cons_of_length_pos w5
          have fin : ∀ v : Int, Snap [.arr X.length 1 47 ((X.map vword).set i (.agg [ownV 1 (rest.length + 1)])), .arr (rest.length + 1) 1 22 (ownV 2 (a0 :: r0').length :: rest.map vints), .arr (a0 :: r0').length 1 3 (((a0 :: r0').map vi).set 0 (vi v))] (.own 0 X.length 0 X.length) (vwords (X.set i ((a0 :: r0').set 0 v :: rest))) := by
            intro v
            refine spoil_snap rfl ?_
            refine rows_snap rfl (List.prefix_refl _) (by simp) ?_
            have : ((a0 :: r0').map vi).set 0 (vi v) = ((a0 :: r0').set 0 v).map vi := by simp
            rw [this]
            exact row_snap (e := 3) (l := (a0 :: r0').set 0 v) (by simp)
          have z3 : (0 : Int) ≤ 1 := by omega
          have z4 : (0 : Int) ≤ 2 := by omega
          have z5 : (0 : Int) ≤ 3 := by omega
          have z6 : (0 : Int) < ((r0'.length + 1 : Nat) : Int) := by omega
          rcases (by omega : aroundL by_ 4 = 0 ∨ aroundL by_ 4 = 1 ∨ aroundL by_ 4 = 2 ∨ aroundL by_ 4 = 3) with g | g | g | g
          · simp only [go_sem, List.replicate_succ, Nat.reducePow, Nat.reduceLeDiff, ↓reduceIte, reduceCtorEq, Nat.reduceLT, Nat.reduceEqDiff, Nat.reduceAdd, Nat.reduceSub, Nat.reduceMul, Int.reduceToNat, g, z0, z1, z3, z4, z5, z6, e0, e1, List.getElem?_map, List.getElem?_eq_getElem hiX, hx]
            exact fin (-1)
          · simp only [go_sem, List.replicate_succ, Nat.reducePow, Nat.reduceLeDiff, ↓reduceIte, reduceCtorEq, Nat.reduceLT, Nat.reduceEqDiff, Nat.reduceAdd, Nat.reduceSub, Nat.reduceMul, Int.reduceToNat, g, z0, z1, z3, z4, z5, z6, e0, e1, List.getElem?_map, List.getElem?_eq_getElem hiX, hx]
            exact fin 4096
          · simp only [go_sem, List.replicate_succ, Nat.reducePow, Nat.reduceLeDiff, ↓reduceIte, reduceCtorEq, Nat.reduceLT, Nat.reduceEqDiff, Nat.reduceAdd, Nat.reduceSub, Nat.reduceMul, Int.reduceToNat, g, z0, z1, z3, z4, z5, z6, e0, e1, List.getElem?_map, List.getElem?_eq_getElem hiX, hx]
            exact fin 4097
          · simp only [go_sem, List.replicate_succ, Nat.reducePow, Nat.reduceLeDiff, ↓reduceIte, reduceCtorEq, Nat.reduceLT, Nat.reduceEqDiff, Nat.reduceAdd, Nat.reduceSub, Nat.reduceMul, Int.reduceToNat, g, z0, z1, z3, z4, z5, z6, e0, e1, List.getElem?_map, List.getElem?_eq_getElem hiX, hx]
            exact fin by_
        · have f1 : (r0.length + 1) * 8 ≤ 140737488355328 := by omega
          simp only [go_sem, List.replicate_succ, Nat.reducePow, Nat.reduceLeDiff, ↓reduceIte, reduceCtorEq, Nat.reduceLT, Nat.reduceEqDiff, Nat.reduceAdd, Nat.reduceSub, Nat.reduceMul, Int.reduceToNat, j0, j1, j2, f1, z0, z1, e0, e1, List.getElem?_map, List.getElem?_eq_getElem hiX, hx]
          have hW : spoilW (r0 :: rest) how by_ = (r0 ++ [1]) :: rest := by rw [spoilW, if_neg j0, if_neg j1, if_neg j2]; rfl
          rw [hW]
          refine spoil_snap rfl ?_
          refine rows_snap rfl (List.prefix_refl _) (by simp) ?_
          have := row_snap (objs := [.arr X.length 1 47 ((X.map vword).set i (.agg [ownV 1 (rest.length + 1)])), .arr (rest.length + 1) 1 22 (.own 2 (r0.length + 1) 0 (r0.length + 1) :: rest.map vints), .arr (r0 ++ [1]).length 1 3 ((r0 ++ [1]).map vi)]) (l := r0 ++ [1]) (e := 3) rfl
          simpa using this
  rintro m s ⟨k, rfl, hk, ⟨rfl, rfl⟩ | ⟨q, rfl, rfl⟩⟩
  · have e2 : (0 : Int) < ((rest.length + 1 : Nat) : Int) := by omega
    have e3 : (0 : Int) ≤ 0 := by omega
    have e4 : r0.length * 8 ≤ 140737488355328 := by omega
    have e5 : IntKind.i64.wrap (0 + 1) = 1 := rfl
    simp only [go_sem, List.replicate_succ, Nat.reducePow, Nat.reduceLeDiff, ↓reduceIte, reduceCtorEq, Nat.reduceLT, Nat.reduceEqDiff, Nat.reduceAdd, Nat.reduceSub, Nat.reduceMul, Int.reduceToNat, e0, e1, e2, e3, e4, e5, List.getElem?_map, List.getElem?_eq_getElem hiX, hx]
    have c1 : ((1 : Nat) : Int) = 1 := rfl
    refine ⟨rest.length, ⟨[(2, vi how), (3, vi by_), (9, ownV 0 X.length), (10, vi i), (11, ownV 1 (0 + 1)), (12, vi (0 + 1 : Nat))], [.arr X.length 1 47 (X.map vword), .arr (0 + 1) 1 22 (ownV 2 r0.length :: (rest.take 0).map vints), .arr r0.length 1 3 (r0.map vi)]⟩, by omega, ?_, 1, by omega, by omega, .inr ⟨0, rfl, rfl⟩⟩
    exact WkE.round (by simp only [go_sem, List.replicate_succ, Nat.reducePow, Nat.reduceLeDiff, ↓reduceIte, reduceCtorEq, Nat.reduceLT, Nat.reduceEqDiff, Nat.reduceAdd, Nat.reduceSub, Nat.reduceMul, Int.reduceToNat, c1]) (by simp [AV.inn, AV.inn1]) (by simp [AObj.innO, AV.inn, AV.inn1, List.all_map]) (by simp)
  · by_cases hq : q < rest.length
    · have e2 : ((q + 1 : Nat) : Int) < ((rest.length + 1 : Nat) : Int) := by omega
      have e3 : (0 : Int) ≤ ((q + 1 : Nat) : Int) := by omega
      have e4 : rest[q].length * 8 ≤ 140737488355328 := by have := w7 _ (List.getElem_mem hq); omega
      have e5 : IntKind.i64.wrap (((q + 1 : Nat) : Int) + 1) = ((q + 1 + 1 : Nat) : Int) := by rw [wrap_id (by omega) (by omega)]; omega
      have hm : min q rest.length = q := by omega
      have e6 : (q + 1 + 1) * 24 ≤ 140737488355328 := by omega
      simp only [go_sem, List.replicate_succ, Nat.reducePow, Nat.reduceLeDiff, ↓reduceIte, reduceCtorEq, Nat.reduceLT, Nat.reduceEqDiff, Nat.reduceAdd, Nat.reduceSub, Nat.reduceMul, Int.reduceToNat, e0, e1, e2, e3, e4, e5, e6, hm, List.length_take, List.getElem?_map, List.getElem?_eq_getElem hiX, hx, List.getElem?_eq_getElem hq]
      refine ⟨rest.length - (q + 1), ⟨[(2, vi how), (3, vi by_), (9, ownV 0 X.length), (10, vi i), (11, ownV 1 (q + 1 + 1)), (12, vi (q + 1 + 1 : Nat))], [.arr X.length 1 47 (X.map vword), .arr (q + 1 + 1) 1 22 (ownV 2 r0.length :: (rest.take (q + 1)).map vints), .arr r0.length 1 3 (r0.map vi)]⟩, by omega, ?_, q + 1 + 1, by omega, by omega, .inr ⟨q + 1, rfl, rfl⟩⟩
      refine WkE.trans (WkE.freezeCell 1 (q + 1 + 1) 1 (q + 1) 0 3 rest[q].length 0 rest[q].length 1 22 3 _ _ (.own 3 rest[q].length 0 rest[q].length) rfl (by simp [hm]) rfl rfl (by omega) (by simp) (by simp [List.all_map, AV.isT, AV.isT1])) ?_
      refine WkE.round (by simp only [go_sem, List.replicate_succ, Nat.reducePow, Nat.reduceLeDiff, ↓reduceIte, reduceCtorEq, Nat.reduceLT, Nat.reduceEqDiff, Nat.reduceAdd, Nat.reduceSub, Nat.reduceMul, Int.reduceToNat]) (by simp [AV.inn, AV.inn1]) (by
        simp [AObj.innO, AV.inn, AV.inn1, List.all_map]
        intro y hy
        obtain ⟨r, _, rfl⟩ := List.mem_map.1 (List.mem_of_mem_take hy)
        rfl) ?_
      simp [recell, AV.cells, List.set_append, hm]
      rw [List.take_succ_eq_append_getElem (show q < (rest.map vints).length by simpa using hq)]
      simp
      exact List.take_of_length_le (by simp)
    · have e : q = rest.length := by omega
      subst e
      have e2 : ¬ ((rest.length + 1 : Nat) : Int) < ((rest.length + 1 : Nat) : Int) := by omega
      simp only [go_sem, List.replicate_succ, Nat.reducePow, Nat.reduceLeDiff, ↓reduceIte, reduceCtorEq, Nat.reduceLT, Nat.reduceEqDiff, Nat.reduceAdd, Nat.reduceSub, Nat.reduceMul, Int.reduceToNat, e0, e1, e2, List.getElem?_map, List.getElem?_eq_getElem hiX, hx]
      exact ⟨_, WkE.keep (by simp only [go_sem, List.replicate_succ, Nat.reducePow, Nat.reduceLeDiff, ↓reduceIte, reduceCtorEq, Nat.reduceLT, Nat.reduceEqDiff, Nat.reduceAdd, Nat.reduceSub, Nat.reduceMul, Int.reduceToNat]), rfl⟩
end Go.Proofs.Ytehelanfgepcmaa
