import Derived.Test.YtehelanfgepcmaaHi
import Derived.Test.YtehelanfgepcmaaHh
set_option linter.unusedSimpArgs false
set_option linter.unusedVariables false
set_option linter.unusedSectionVars false
namespace Go.Proofs.Ytehelanfgepcmaa
open Go.RowKit Dak
theorem given_s (C : List (Int × Int) × List (List Int)) : Ctr Try.prog 31 [vcert C] (vcert C) := by
  refine specE f31 (by simp) fun F0 w0 => ?_
  simp only [c31, go_sem, Nat.reduceLeDiff, ↓reduceIte, Nat.reduceLT, Nat.reduceEqDiff, Nat.reduceAdd]
  exact .tree _ rfl
set_option maxRecDepth 100000 in
set_option maxHeartbeats 4000000 in
theorem refCheck_s (X : List (List (List Int))) (width : Int) (E : List (Int × Int)) (Lt : List (List Int)) (hX : I64w X) (hwd : I64 width) (hE : E.length ≤ 1000000) (hL : Lt.length ≤ 1000000) (hr : ∀ x ∈ Lt, x.length ≤ 1000000) : Ctr Try.prog 32 [vwords X, vi width, vcert (E, Lt)] (vi (checkM X width E Lt)) := by
  refine specC f32 (by simp) fun F0 w0 => ?_
  unfold c32
  refine CwpE.cut (st := ⟨[(0, vwords X), (1, vi width), (5, .ref 0 1 0 0)], [.arr 1 2 36 [vcert (E, Lt)]]⟩) ?_ ?_
  · simp only [go_sem, ↓reduceIte, reduceCtorEq, Nat.reduceLT, Nat.reduceEqDiff, Nat.reduceAdd]
    exact ⟨_, WkE.keep (by simp only [go_sem, ↓reduceIte, reduceCtorEq, Nat.reduceEqDiff]), rfl⟩
  have hvs := Valid_s X width hX hwd
  by_cases hv : validB X width = true
  rotate_left
  · refine CwpE.step (fun _ => False) ?_ (fun _ h => h.elim)
    have hres : checkM X width E Lt = 1 := by rw [checkM, if_neg hv]
    rw [hres]
    rw [Bool.not_eq_true] at hv
    rw [hv] at hvs
    simp only [go_sem, ↓reduceIte, reduceCtorEq, Nat.reduceLT, Nat.reduceEqDiff]
    refine callT hvs rfl ?_
    simp only [go_sem, ↓reduceIte, Nat.reduceLT]
    exact .tree _ rfl
  obtain ⟨hV, hw⟩ := validB_VW hv
  have hcm := costM_bd (E := E) hV hw
  rw [check_cost hv]
  rw [hv] at hvs
  have hK := tableL_tab hV hw
  have hTs := Table_s X width hV hw
  have hSm := Same_s Lt (tableL X width) hL hr
  have hCs := Cost_s X width E hv hE
  generalize tableL X width = K at *
  refine CwpE.cut (st := ⟨[(0, vwords X), (1, vi width), (5, .ref 0 1 0 0)], [.arr 1 2 36 [vcert (E, Lt)]]⟩) ?_ ?_
  · simp only [go_sem, ↓reduceIte, reduceCtorEq, Nat.reduceLT, Nat.reduceEqDiff]
    refine callT hvs rfl ?_
    simp only [go_sem, ↓reduceIte, Nat.reduceLT]
    exact ⟨_, WkE.keep (by simp only [go_sem, ↓reduceIte, reduceCtorEq, Nat.reduceEqDiff]), rfl⟩
  refine CwpE.cut (st := ⟨[(0, vwords X), (1, vi width), (5, .ref 0 1 0 0), (7, vrows K)], [.arr 1 2 36 [vcert (E, Lt)]]⟩) ?_ ?_
  · simp only [go_sem, ↓reduceIte, reduceCtorEq, Nat.reduceLT, Nat.reduceEqDiff]
    refine callT hTs rfl ?_
    simp only [go_sem, ↓reduceIte, Nat.reduceLT]
    exact ⟨_, WkE.keep (by simp only [go_sem, ↓reduceIte, reduceCtorEq, Nat.reduceEqDiff]), rfl⟩
  refine CwpE.cut (st := ⟨[(0, vwords X), (1, vi width), (5, .ref 0 1 0 0), (7, vrows K), (8, vi 0)], [.arr 1 2 36 [vcert (E, Lt)]]⟩) ?_ ?_
  · simp only [go_sem, ↓reduceIte, Nat.reduceLT]
    exact ⟨_, WkE.keep (by simp only [go_sem, ↓reduceIte, reduceCtorEq, Nat.reduceEqDiff]), rfl⟩
  obtain ⟨best, hb⟩ : ∃ best, (if 0 < X.length then kAt K (0, 0) else 0) = best := ⟨_, rfl⟩
  simp only [hb]
  refine CwpE.cut (st := ⟨[(0, vwords X), (1, vi width), (5, .ref 0 1 0 0), (7, vrows K), (8, vi best)], [.arr 1 2 36 [vcert (E, Lt)]]⟩) ?_ ?_
  · by_cases h0 : 0 < X.length
    · have h0' : (0 : Int) < (X.length : Int) := by omega
      have hk0 : 0 < K.length := by have := hK.1.1; omega
      have hk1 : 0 < K[0].length := by
        have h1 := hK.1.2 0 h0 hk0
        have h2 := (hV.2 0 h0).1
        omega
      rw [if_pos h0] at hb
      have hb2 : K[0][0] = best := by rw [← hb, kAt]; simp [hk0, hk1]
      have i0 : (0 : Int) ≤ 0 := by omega
      simp only [go_sem, ↓reduceIte, reduceCtorEq, Nat.reduceLT, Nat.reduceEqDiff, Int.reduceToNat, h0', i0, List.length_map, List.getElem?_map, List.getElem?_eq_getElem hk0, List.getElem?_eq_getElem hk1, hb2]
      exact ⟨_, WkE.keep (by simp only [go_sem, ↓reduceIte, reduceCtorEq, Nat.reduceEqDiff]), rfl⟩
    · have h0' : ¬ (0 : Int) < (X.length : Int) := by omega
      rw [if_neg h0] at hb
      subst hb
      simp only [go_sem, ↓reduceIte, Nat.reduceLT, h0', List.length_map]
      exact ⟨_, WkE.keep (by simp only [go_sem, ↓reduceIte, reduceCtorEq, Nat.reduceEqDiff]), rfl⟩
  by_cases e1 : Lt = K
  · by_cases e2 : best < 0
    · rw [if_pos (.inr (.inl e2))]
      refine CwpE.vc ?_
      simp only [go_sem, ↓reduceIte, reduceCtorEq, Nat.reduceLT, Nat.reduceEqDiff]
      refine callT hSm rfl ?_
      simp only [go_sem, ↓reduceIte, reduceCtorEq, Nat.reduceLT, Nat.reduceEqDiff, e1, e2]
      exact .tree _ rfl
    · by_cases e3 : costM X width E = best
      · rw [if_neg (by rintro (h | h | h); exact h e1; exact e2 h; exact h e3)]
        refine CwpE.vc ?_
        simp only [go_sem, ↓reduceIte, reduceCtorEq, Nat.reduceLT, Nat.reduceEqDiff]
        refine callT hSm rfl ?_
        simp only [go_sem, ↓reduceIte, reduceCtorEq, Nat.reduceLT, Nat.reduceEqDiff, e1, e2]
        refine callT hCs rfl ?_
        simp only [go_sem, ↓reduceIte, reduceCtorEq, Nat.reduceLT, Nat.reduceEqDiff, e3]
        exact .tree _ rfl
      · rw [if_pos (.inr (.inr e3))]
        refine CwpE.vc ?_
        simp only [go_sem, ↓reduceIte, reduceCtorEq, Nat.reduceLT, Nat.reduceEqDiff]
        refine callT hSm rfl ?_
        simp only [go_sem, ↓reduceIte, reduceCtorEq, Nat.reduceLT, Nat.reduceEqDiff, e1, e2]
        refine callT hCs rfl ?_
        simp only [go_sem, ↓reduceIte, reduceCtorEq, Nat.reduceLT, Nat.reduceEqDiff, e3]
        exact .tree _ rfl
  · rw [if_pos (.inl e1)]
    refine CwpE.vc ?_
    simp only [go_sem, ↓reduceIte, reduceCtorEq, Nat.reduceLT, Nat.reduceEqDiff]
    refine callT hSm rfl ?_
    simp only [go_sem, ↓reduceIte, Nat.reduceLT, Nat.reduceEqDiff, e1]
    exact .tree _ rfl
end Go.Proofs.Ytehelanfgepcmaa
set_option linter.unusedSimpArgs false
set_option linter.unusedVariables false
set_option linter.unusedSectionVars false
namespace Go.Proofs.Ytehelanfgepcmaa
open Go.RowKit Dak
abbrev Cert2 := List (Int × Int) × List (List Int)
abbrev btH : CCode := match c29 with | .seq _ (.seq _ (.seq (.seq _ (.block _ (.loop b))) _)) => b | _ => .skip
abbrev btR : CCode := match c29 with | .seq _ (.seq _ (.seq _ r)) => r | _ => .skip
abbrev nilV : AV := .val (.slice none 0 0)
abbrev bE (a h b : Int) : List (Nat × AV) := [(1, vi a), (2, vi h), (3, vi b), (4, .ref 0 1 0 0), (8, .ref 1 1 0 0), (9, .ref 3 1 0 0)]
abbrev bO (C : Cert2) (i : Nat) (X : List AV) : List AObj := [.arr 1 2 36 [vcert C], .arr 1 2 36 [.agg [nilV, nilV]], .arr C.1.length 2 64 (C.1.map vpair), .arr 1 2 36 [.agg [.own 2 C.1.length 0 C.1.length, .own 4 i 0 i]], .arr i 1 22 X]
theorem innO_arr {g s k : Nat} {e : TypeId} {xs : List AV} : (AObj.arr g s e xs).innO k = xs.all (AV.inn k) := rfl
theorem inn_map {α : Type} {f : α → AV} {k : Nat} {l : List α} (h : ∀ x, (f x).inn k = true) : ((l.map f).all (AV.inn k)) = true := List.all_eq_true.2 fun y hy => by obtain ⟨z, _, rfl⟩ := List.mem_map.1 hy; exact h z
theorem bO_inn (C : Cert2) (i k : Nat) (X : List AV) (hX : (X.all (AV.inn k)) = true) (hk : 5 ≤ k) : ((bO C i X).all fun o => o.innO k) = true := by
  have e2 : ((C.1.map vpair).all (AV.inn k)) = true := inn_map fun _ => rfl
  have q : ((AV.agg [.own 2 C.1.length 0 C.1.length, .own 4 i 0 i]).inn k) = true := by
    simp only [AV.inn, AV.inn1, List.all_cons, List.all_nil, Bool.and_true, Bool.and_eq_true, decide_eq_true_eq]
    omega
  have e0 : (AObj.arr 1 2 36 [vcert C]).innO k = true := rfl
  have e1 : (AObj.arr 1 2 36 [.agg [nilV, nilV]]).innO k = true := rfl
  simp only [List.all_cons, List.all_nil, e0, e1]
  simp only [innO_arr, e2, hX, q, List.all_cons, List.all_nil, Bool.and_self]
set_option maxRecDepth 100000 in
set_option maxHeartbeats 4000000 in
theorem bt_roundA (F0 : FD) (w0 : World) (C : Cert2) (a h b : Int) (i : Nat) (X : List AV) (hXl : X.length = i) (hX : (X.all (AV.inn 5)) = true) (hi : i < C.2.length) (hL : C.2.length ≤ 100000) (hr : C.2[i].length ≤ 100000)
    {Q : Exit → Est → Prop} (hQ : ∀ s, WkE 141 s ⟨(10, vi (i + 1 : Nat)) :: bE a h b, bO C (i + 1) (X ++ [.own 5 C.2[i].length 0 C.2[i].length]) ++ [.arr C.2[i].length 1 3 (C.2[i].map vi), .arr 1 1 22 [.own 5 C.2[i].length 0 C.2[i].length]]⟩ → Q .normal s) :
    CwpE Try.prog F0 w0 141 btH Q ⟨(10, vi i) :: bE a h b, bO C i X⟩ := by
  have h1 : (i : Int) < (C.2.length : Int) := by omega
  have h0 : (0 : Int) ≤ (i : Int) := by omega
  have hw : IntKind.i64.wrap ((i : Int) + 1) = ((i + 1 : Nat) : Int) := by rw [wrap_id (by omega) (by omega)]; omega
  have q1 : C.2[i].length * 8 ≤ 140737488355328 := by omega
  have q2 : (i + 1) * 24 ≤ 140737488355328 := by omega
  have hrow : (C.2.map vints)[i]? = some (vints C.2[i]) := by rw [List.getElem?_map, List.getElem?_eq_getElem hi]; rfl
  have htk : List.take i X = X := List.take_of_length_le (by omega)
  unfold btH c29
  refine CwpE.vc ?_
  simp only [go_sem, Nat.reducePow, Nat.reduceLeDiff, ↓reduceIte, Nat.reduceLT, Nat.reduceEqDiff, Nat.reduceAdd, Nat.reduceMul, h1, h0, hrow, hw, q1, q2, htk, hXl, List.length_map, Int.toNat_natCast, Nat.zero_add]
  refine hQ _ (WkE.keep ?_)
  simp only [go_sem, ↓reduceIte, Nat.reduceEqDiff]
/-- A row that stays the call's own: the target. -/
abbrev tgO (xs : List AV) : AObj := .arr xs.length 1 3 xs
set_option maxRecDepth 100000 in
set_option maxHeartbeats 4000000 in
theorem bt_roundB (F0 : FD) (w0 : World) (C : Cert2) (a h b : Int) (i : Nat) (X T : List AV) (hXl : X.length = i) (hi : i < C.2.length) (hL : C.2.length ≤ 100000) (hr : C.2[i].length ≤ 100000)
    {Q : Exit → Est → Prop} (hQ : ∀ s, WkE 141 s ⟨(10, vi (i + 1 : Nat)) :: bE a h b, bO C (i + 1) (X ++ [.own 6 C.2[i].length 0 C.2[i].length]) ++ [tgO T, .arr C.2[i].length 1 3 (C.2[i].map vi), .arr 1 1 22 [.own 6 C.2[i].length 0 C.2[i].length]]⟩ → Q .normal s) :
    CwpE Try.prog F0 w0 141 btH Q ⟨(10, vi i) :: bE a h b, bO C i X ++ [tgO T]⟩ := by
  have h1 : (i : Int) < (C.2.length : Int) := by omega
  have h0 : (0 : Int) ≤ (i : Int) := by omega
  have hw : IntKind.i64.wrap ((i : Int) + 1) = ((i + 1 : Nat) : Int) := by rw [wrap_id (by omega) (by omega)]; omega
  have q1 : C.2[i].length * 8 ≤ 140737488355328 := by omega
  have q2 : (i + 1) * 24 ≤ 140737488355328 := by omega
  have hrow : (C.2.map vints)[i]? = some (vints C.2[i]) := by rw [List.getElem?_map, List.getElem?_eq_getElem hi]; rfl
  have htk : List.take i X = X := List.take_of_length_le (by omega)
  unfold btH c29
  refine CwpE.vc ?_
  simp only [go_sem, Nat.reducePow, Nat.reduceLeDiff, ↓reduceIte, Nat.reduceLT, Nat.reduceEqDiff, Nat.reduceAdd, Nat.reduceMul, h1, h0, hrow, hw, q1, q2, htk, hXl, List.length_map, Int.toNat_natCast, Nat.zero_add]
  refine hQ _ (WkE.keep ?_)
  simp only [go_sem, ↓reduceIte, Nat.reduceEqDiff]
theorem wk_take {n : Nat} {env : List (Nat × AV)} {objs objs' : List AObj} (he : (env.all fun p => p.2.inn objs'.length) = true) (ho : (objs'.all fun o => o.innO objs'.length) = true) (hp : objs.take objs'.length = objs') : WkE n ⟨env, objs⟩ ⟨env, objs'⟩ := by
  have := WkE.drop (n := n) (env := env) (objs := objs) objs'.length (fun p hp => List.all_eq_true.1 he p hp) (fun o ho' => by rw [hp] at ho'; exact List.all_eq_true.1 ho o ho')
  rwa [hp] at this
/-- .. frozen. -/
theorem bt_freezeA (C : Cert2) (a h b : Int) (i : Nat) (X : List AV) (hXl : X.length = i) (hX : (X.all (AV.inn 5)) = true) (row : List Int) {env : List (Nat × AV)} (he : (env.all fun p => p.2.inn 5) = true) :
    WkE 141 ⟨env, bO C (i + 1) (X ++ [.own 5 row.length 0 row.length]) ++ [.arr row.length 1 3 (row.map vi), .arr 1 1 22 [.own 5 row.length 0 row.length]]⟩ ⟨env, bO C (i + 1) (X ++ [vints row])⟩ := by
  have hg : (X ++ [AV.own 5 row.length 0 row.length])[i]? = some (.own 5 row.length 0 row.length) := by rw [List.getElem?_append_right (by omega), hXl, Nat.sub_self]; rfl
  refine (WkE.freezeCell 4 (i + 1) 1 i 0 5 row.length 0 row.length 1 22 3 _ (row.map vi) _ rfl hg rfl rfl (by omega) (by simp) (List.all_eq_true.2 fun y hy => by obtain ⟨z, _, rfl⟩ := List.mem_map.1 hy; rfl)).trans (wk_take he (bO_inn C (i + 1) 5 _ ?_ (by omega)) ?_)
  · rw [List.all_append, hX]; rfl
  · have e : List.take row.length (row.map vi) = row.map vi := List.take_of_length_le (by simp)
    simp only [List.set_cons_succ, List.set_cons_zero, List.take_succ_cons, List.take_zero, List.length_cons, List.length_nil, Nat.zero_add, Nat.reduceAdd, List.cons_append, List.nil_append, recell, AV.cells, List.drop_zero, e]
    rw [List.set_append_right _ _ (by omega), hXl, Nat.sub_self]; rfl
theorem bt_freezeB (C : Cert2) (a h b : Int) (i : Nat) (X T : List AV) (hXl : X.length = i) (hX : (X.all (AV.inn 6)) = true) (hT : (T.all (AV.inn 6)) = true) (row : List Int) {env : List (Nat × AV)} (he : (env.all fun p => p.2.inn 6) = true) :
    WkE 141 ⟨env, bO C (i + 1) (X ++ [.own 6 row.length 0 row.length]) ++ [tgO T, .arr row.length 1 3 (row.map vi), .arr 1 1 22 [.own 6 row.length 0 row.length]]⟩ ⟨env, bO C (i + 1) (X ++ [vints row]) ++ [tgO T]⟩ := by
  have hg : (X ++ [AV.own 6 row.length 0 row.length])[i]? = some (.own 6 row.length 0 row.length) := by rw [List.getElem?_append_right (by omega), hXl, Nat.sub_self]; rfl
  refine (WkE.freezeCell 4 (i + 1) 1 i 0 6 row.length 0 row.length 1 22 3 _ (row.map vi) _ rfl hg rfl rfl (by omega) (by simp) (List.all_eq_true.2 fun y hy => by obtain ⟨z, _, rfl⟩ := List.mem_map.1 hy; rfl)).trans (wk_take he ?_ ?_)
  · rw [List.all_append]
    refine Bool.and_eq_true_iff.2 ⟨bO_inn C (i + 1) 6 _ ?_ (by omega), ?_⟩
    · rw [List.all_append, hX]; rfl
    · simp only [List.all_cons, List.all_nil, Bool.and_true]; exact hT
  · have e : List.take row.length (row.map vi) = row.map vi := List.take_of_length_le (by simp)
    simp only [List.set_cons_succ, List.set_cons_zero, List.take_succ_cons, List.take_zero, List.length_cons, List.length_nil, Nat.zero_add, Nat.reduceAdd, List.cons_append, List.nil_append, recell, AV.cells, List.drop_zero, e]
    rw [List.set_append_right _ _ (by omega), hXl, Nat.sub_self]; rfl
/-- The state when i rows are copied: row k, if it is among them, is still the call's own. -/
def btS (C : Cert2) (a h b : Int) (k i : Nat) : Est :=
  if hk : k < i ∧ k < C.2.length then ⟨(10, vi i) :: bE a h b, bO C i (((C.2.take i).map vints).set k (.own 5 C.2[k].length 0 C.2[k].length)) ++ [tgO (C.2[k].map vi)]⟩
  else ⟨(10, vi i) :: bE a h b, bO C i ((C.2.take i).map vints)⟩
theorem btS_A {C : Cert2} {a h b : Int} {k i : Nat} (hk : ¬ k < i) : btS C a h b k i = ⟨(10, vi i) :: bE a h b, bO C i ((C.2.take i).map vints)⟩ := by
  unfold btS; rw [dif_neg (fun h => hk h.1)]
theorem btS_B {C : Cert2} {a h b : Int} {k i : Nat} (hk : k < i) (h2 : k < C.2.length) : btS C a h b k i = ⟨(10, vi i) :: bE a h b, bO C i (((C.2.take i).map vints).set k (.own 5 C.2[k].length 0 C.2[k].length)) ++ [tgO (C.2[k].map vi)]⟩ := by
  unfold btS; rw [dif_pos ⟨hk, h2⟩]
theorem inn_set {k i : Nat} {X : List AV} {y : AV} (hX : (X.all (AV.inn k)) = true) (hy : y.inn k = true) : ((X.set i y).all (AV.inn k)) = true := by
  rw [List.all_eq_true] at hX ⊢
  intro z hz
  rcases List.mem_or_eq_of_mem_set hz with h | rfl
  · exact hX z h
  · exact hy
theorem bt_loop (F0 : FD) (w0 : World) (C : Cert2) (a h b : Int) (k : Nat) (hL : C.2.length ≤ 100000) (hr : ∀ x ∈ C.2, x.length ≤ 100000) {Q : Exit → Est → Prop} (hQ : Q .normal (btS C a h b k C.2.length)) :
    CwpE Try.prog F0 w0 141 (.block 0 (.loop btH)) (fun e s => ∃ s', WkE 141 s s' ∧ Q e s') ⟨(10, vi (0 : Nat)) :: bE a h b, bO C 0 []⟩ := by
  refine CwpE.block ?_
  refine loopXC 0 (fun z s => ∃ i : Nat, i + z = C.2.length ∧ s = btS C a h b k i) (fun s => s = btS C a h b k C.2.length) C.2.length _ (.refl _ _) ⟨0, by omega, by rw [btS_A (by omega)]; rfl⟩ ?_ ?_
  rotate_left
  · rintro s rfl
    simp only [inBlockE, if_true]
    exact ⟨_, .refl _ _, hQ⟩
  rintro z s ⟨i, hi, rfl⟩
  cases z with
  | zero =>
    obtain rfl : i = C.2.length := by omega
    have h1 : ¬ (C.2.length : Int) < (C.2.length : Int) := by omega
    unfold btH c29
    by_cases hk : k < C.2.length
    · rw [btS_B hk hk]
      refine CwpE.vc ?_
      simp only [go_sem, ↓reduceIte, Nat.reduceLT, Nat.reduceEqDiff, h1, List.length_map]
      exact ⟨_, WkE.keep (by simp only [go_sem, ↓reduceIte, Nat.reduceEqDiff]), rfl⟩
    · rw [btS_A hk]
      refine CwpE.vc ?_
      simp only [go_sem, ↓reduceIte, Nat.reduceLT, Nat.reduceEqDiff, h1, List.length_map]
      exact ⟨_, WkE.keep (by simp only [go_sem, ↓reduceIte, Nat.reduceEqDiff]), rfl⟩
  | succ z =>
    have hlt : i < C.2.length := by omega
    have hrl := hr _ (List.getElem_mem hlt)
    have htk : (C.2.take (i + 1)).map vints = (C.2.take i).map vints ++ [vints C.2[i]] := by rw [List.take_succ_eq_append_getElem hlt, List.map_append]; rfl
    have hXl : ((C.2.take i).map vints).length = i := by simp; omega
    by_cases hk : k < i
    · rw [btS_B hk (by omega)]
      refine bt_roundB F0 w0 C a h b i _ _ (by rw [List.length_set]; exact hXl) hlt hL hrl fun s hs => ⟨z, btS C a h b k (i + 1), by omega, hs.trans ?_, i + 1, by omega, rfl⟩
      rw [btS_B (by omega) (by omega), htk, List.set_append_left _ _ (by rw [hXl]; exact hk)]
      exact bt_freezeB C a h b i _ _ (by rw [List.length_set]; exact hXl) (inn_set (inn_map fun _ => rfl) rfl) (inn_map fun _ => rfl) _ rfl
    · rw [btS_A hk]
      refine bt_roundA F0 w0 C a h b i _ hXl (inn_map fun _ => rfl) hlt hL hrl fun s hs => ⟨z, btS C a h b k (i + 1), by omega, hs.trans ?_, i + 1, by omega, rfl⟩
      by_cases hki : k = i
      · subst hki
        rw [btS_B (by omega) hlt, htk, List.set_append_right _ _ (by omega), hXl, Nat.sub_self]
        refine wk_take rfl ?_ ?_
        · rw [List.all_append]
          refine Bool.and_eq_true_iff.2 ⟨bO_inn C (k + 1) _ _ ?_ (by simp), ?_⟩
          · rw [List.all_append]
            exact Bool.and_eq_true_iff.2 ⟨inn_map fun _ => rfl, rfl⟩
          · simp only [List.all_cons, List.all_nil, Bool.and_true]; exact inn_map fun _ => rfl
        · simp [tgO]
      · rw [btS_A (by omega), htk]
        exact bt_freezeA C a h b i _ hXl (inn_map fun _ => rfl) _ rfl
end Go.Proofs.Ytehelanfgepcmaa
set_option linter.unusedSimpArgs false
set_option linter.unusedVariables false
set_option linter.unusedSectionVars false
namespace Go.Proofs.Ytehelanfgepcmaa
open Go.RowKit Dak
abbrev btT : CCode := match c29 with | .seq _ (.seq _ (.seq _ r)) => r | _ => .skip
/-- What lies where the copy is made, ahead of the change. -/
theorem bt_copied (C : Cert2) (a h b : Int) (k : Nat) (hE : C.1.length ≤ 100000) (hL : C.2.length ≤ 100000) (hr : ∀ x ∈ C.2, x.length ≤ 100000) (F0 : FD) (w0 : World) {Q : Exit → Est → Prop}
    (hQ : CwpE Try.prog F0 w0 141 btT Q (btS C a h b k C.2.length)) : CwpE Try.prog F0 w0 141 c29 Q ⟨envOf 0 [vcert C, vi a, vi h, vi b], []⟩ := by
  have q1 : C.1.length * 16 ≤ 140737488355328 := by omega
  unfold c29
  refine CwpE.cut (st := ⟨[(1, vi a), (2, vi h), (3, vi b), (4, .ref 0 1 0 0), (8, .ref 1 1 0 0)], [.arr 1 2 36 [vcert C], .arr 1 2 36 [.agg [nilV, nilV]]]⟩) ?_ ?_
  · simp only [go_sem, ↓reduceIte, Nat.reduceLT, Nat.reduceAdd]
    exact ⟨_, WkE.keep (by simp only [go_sem, ↓reduceIte, reduceCtorEq, Nat.reduceEqDiff]), rfl⟩
  refine CwpE.cut (st := ⟨bE a h b, bO C 0 []⟩) ?_ ?_
  · simp only [go_sem, Nat.reducePow, Nat.reduceLeDiff, ↓reduceIte, Nat.reduceLT, Nat.reduceEqDiff, Nat.reduceAdd, Nat.reduceMul, List.length_map, q1, Nat.zero_add]
    refine ⟨⟨bE a h b, bO C 0 []⟩, ?_, rfl⟩
    refine WkE.trans (WkE.nilCell 3 1 2 0 1 1 22 36 _ _ rfl rfl rfl) (WkE.keep ?_)
    simp only [go_sem, ↓reduceIte, Nat.reduceEqDiff]
  refine CwpE.seqJ (fun s => s = btS C a h b k C.2.length) ?_ (by rintro s rfl; exact hQ)
  refine CwpE.cut (st := ⟨(10, vi (0 : Nat)) :: bE a h b, bO C 0 []⟩) ?_ ?_
  · simp only [go_sem, ↓reduceIte, Nat.reduceLT]
    exact ⟨_, WkE.keep (by simp only [go_sem, ↓reduceIte, Nat.reduceEqDiff] <;> rfl), rfl⟩
  refine (bt_loop F0 w0 C a h b k hL hr (Q := fun e s => e = .normal ∧ s = btS C a h b k C.2.length) ⟨rfl, rfl⟩).mono ?_
  rintro e s ⟨s', h1, rfl, rfl⟩
  exact ⟨_, h1, rfl⟩
set_option maxRecDepth 100000 in
/-- The end: what is made is handed over. -/
theorem bt_end (C : Cert2) (a h b : Int) (g l g4 l4 : Nat) (E X : List AV) (T : List AObj) (C' : Cert2) (F0 : FD) (w0 : World)
    (hS : ∀ O1, Snap (.arr 1 2 36 [vcert C] :: O1 :: .arr g 2 64 E :: .arr 1 2 36 [.agg [.own 2 g 0 l, .own 4 g4 0 l4]] :: .arr g4 1 22 X :: T) (.agg [.own 2 g 0 l, .own 4 g4 0 l4]) (vcert C')) :
    CwpE Try.prog F0 w0 141 (match btT with | .seq _ r => r | _ => .skip) (retE [.cell 8 true 2] (vcert C')) ⟨bE a h b, .arr 1 2 36 [vcert C] :: .arr 1 2 36 [.agg [nilV, nilV]] :: .arr g 2 64 E :: .arr 1 2 36 [.agg [.own 2 g 0 l, .own 4 g4 0 l4]] :: .arr g4 1 22 X :: T⟩ := by
  unfold btT c29
  refine CwpE.vc ?_
  simp only [go_sem, ↓reduceIte, Nat.reduceLT, Nat.reduceEqDiff, Nat.reduceAdd]
  exact hS _
theorem bt_snap (C : Cert2) (a h b : Int) (g n m : Nat) (E X : List AV) (T : List AObj) (C' : Cert2) (h1 : E = C'.1.map vpair) (hn : n = C'.1.length) (hm : m = C'.2.length) (hXl : X.length = m)
    (h2 : ∀ O1, ∀ i (hi : i < X.length) (hi2 : i < C'.2.length), Snap (.arr 1 2 36 [vcert C] :: O1 :: .arr g 2 64 E :: .arr 1 2 36 [.agg [.own 2 g 0 n, .own 4 m 0 m]] :: .arr m 1 22 X :: T) X[i] (vints C'.2[i])) (O1 : AObj) :
    Snap (.arr 1 2 36 [vcert C] :: O1 :: .arr g 2 64 E :: .arr 1 2 36 [.agg [.own 2 g 0 n, .own 4 m 0 m]] :: .arr m 1 22 X :: T) (.agg [.own 2 g 0 n, .own 4 m 0 m]) (vcert C') := by
  subst h1 hn
  refine .agg _ _ rfl fun i hi hi2 => ?_
  match i, hi with
  | 0, _ =>
    refine .own 2 _ 0 _ 2 64 _ _ rfl (by simp) (by simp) fun i hi => ?_
    simp only [Nat.zero_add, List.getElem_map]
    exact .tree _ rfl
  | 1, _ =>
    refine .own 4 _ 0 _ 1 22 _ _ rfl (by omega) (by simp [hm]) fun i hi => ?_
    simp only [Nat.zero_add, List.getElem_map]
    exact h2 O1 i (by simp at hi; omega) (by simpa using hi)
set_option maxRecDepth 100000 in
set_option maxHeartbeats 4000000 in
theorem bent_s (C : Cert2) (a h b : Int) (ha : I64 a) (hh : I64 h) (hb : I64 b) (hE : C.1.length ≤ 10000) (hL : C.2.length ≤ 10000) (hr : ∀ x ∈ C.2, 0 < x.length ∧ x.length ≤ 10000) :
    ∃ C' : Cert2, (C'.1.length ≤ C.1.length + 1 ∧ C'.2.length ≤ C.2.length + 1 ∧ ∀ x ∈ C'.2, 0 < x.length ∧ x.length ≤ 10000) ∧ Ctr Try.prog 29 [vcert C, vi a, vi h, vi b] (vcert C') := by
  have hr' : ∀ x ∈ C.2, x.length ≤ 100000 := fun x hx => by have := (hr x hx).2; omega
  have a5 := aroundL_bd h 5 (by omega)
  have s5 := Around_s h 5 hh ⟨by omega, by omega⟩
  obtain ⟨q, hq⟩ : ∃ q, aroundL h 5 = q := ⟨_, rfl⟩
  rw [hq] at a5 s5
  have htk1 : List.take C.1.length (C.1.map vpair) = C.1.map vpair := List.take_of_length_le (by simp)
  have htk2 : List.take C.2.length (C.2.map vints) = C.2.map vints := List.take_of_length_le (by simp)
  have hA : btS C a h b C.2.length C.2.length = ⟨(10, vi C.2.length) :: bE a h b, bO C C.2.length (C.2.map vints)⟩ := by rw [btS_A (by omega), List.take_length]
  have b1 : (C.1.length + 1) * 16 ≤ 140737488355328 := by omega
  have b2 : (C.2.length + 1) * 24 ≤ 140737488355328 := by omega
  have rows : ∀ (O : List AObj) i (hi : i < (C.2.map vints).length) (hi2 : i < C.2.length), Snap O (C.2.map vints)[i] (vints C.2[i]) := fun O i hi hi2 => by rw [List.getElem_map]; exact .tree _ rfl
  by_cases e3 : q = 3
  · refine ⟨(C.1 ++ [(b, 0)], C.2), ⟨by simp, by simp, hr⟩, specC f29 (by simp) fun F0 w0 => bt_copied C a h b C.2.length (by omega) (by omega) hr' F0 w0 ?_⟩
    rw [hA]
    unfold btT c29
    have n0 : ¬ (3 : Int) = 0 := by omega
    have n1 : ¬ (3 : Int) = 1 := by omega
    have n2 : ¬ (3 : Int) = 2 := by omega
    refine CwpE.cut (st := ⟨bE a h b, .arr 1 2 36 [vcert C] :: .arr 1 2 36 [.agg [nilV, nilV]] :: .arr (C.1.length + 1) 2 64 (C.1.map vpair ++ [vpair (b, 0)]) :: .arr 1 2 36 [.agg [.own 2 (C.1.length + 1) 0 (C.1.length + 1), .own 4 C.2.length 0 C.2.length]] :: .arr C.2.length 1 22 (C.2.map vints) :: []⟩) ?_ (bt_end C a h b _ _ _ _ _ _ _ _ F0 w0 (bt_snap C a h b _ _ _ _ _ _ (C.1 ++ [(b, 0)], C.2) (by simp) (by simp) rfl (by simp) fun O1 => rows _))
    simp only [go_sem, ↓reduceIte, Nat.reduceLT, Nat.reduceEqDiff]
    refine callT s5 rfl ?_
    simp only [go_sem, Nat.reducePow, Nat.reduceLeDiff, ↓reduceIte, Nat.reduceLT, Nat.reduceEqDiff, Nat.reduceAdd, Nat.reduceMul, e3, n0, n1, n2, b1, htk1, List.length_map]
    exact ⟨_, WkE.keep (by simp only [go_sem, ↓reduceIte, Nat.reduceEqDiff]), rfl⟩
  by_cases e1 : q = 1
  · have n0 : ¬ (1 : Int) = 0 := by omega
    by_cases hne : 0 < C.1.length
    rotate_left
    · have hn : ¬ (0 : Int) < (C.1.length : Int) := by omega
      refine ⟨C, ⟨by omega, by omega, hr⟩, specC f29 (by simp) fun F0 w0 => bt_copied C a h b C.2.length (by omega) (by omega) hr' F0 w0 ?_⟩
      rw [hA]
      unfold btT c29
      refine CwpE.cut (st := ⟨bE a h b, bO C C.2.length (C.2.map vints)⟩) ?_ (bt_end C a h b _ _ _ _ _ _ _ _ F0 w0 (bt_snap C a h b _ _ _ _ _ _ C rfl rfl rfl (by simp) fun O1 => rows _))
      simp only [go_sem, ↓reduceIte, Nat.reduceLT, Nat.reduceEqDiff]
      refine callT s5 rfl ?_
      simp only [go_sem, ↓reduceIte, Nat.reduceLT, Nat.reduceEqDiff, e1, n0, hn]
      exact ⟨_, WkE.keep (by simp only [go_sem, ↓reduceIte, Nat.reduceEqDiff]), rfl⟩
    have hn : (0 : Int) < (C.1.length : Int) := by omega
    have ab := aroundL_bd a C.1.length (by omega)
    have sa := Around_s a C.1.length ha ⟨by omega, by omega⟩
    obtain ⟨k, hk⟩ : ∃ k : Nat, aroundL a C.1.length = k := ⟨(aroundL a C.1.length).toNat, by omega⟩
    rw [hk] at ab sa
    have hkl : k < C.1.length := by omega
    have mb := aroundL_bd b 2 (by omega)
    have sm := Around_s b 2 hb ⟨by omega, by omega⟩
    have hbq : I64 (b.tdiv 2) := by
      have h1 : (b.tdiv 2).natAbs = b.natAbs / 2 := Int.natAbs_tdiv b 2
      obtain ⟨h2, h3⟩ := hb
      constructor <;> omega
    have w2 : IntKind.i64.wrap (b.tdiv 2) = b.tdiv 2 := wrap_id hbq.1 hbq.2
    have vb14 := aroundL_bd (b.tdiv 2) 14 (by omega)
    have sv := Around_s (b.tdiv 2) 14 hbq ⟨by omega, by omega⟩
    generalize aroundL (b.tdiv 2) 14 = v at *
    have w3 : IntKind.i64.wrap (v - 1) = v - 1 := wrap_id (by omega) (by omega)
    have i0 : (0 : Int) ≤ (k : Int) := by omega
    have i1 : (k : Int) < (C.1.length : Int) := by omega
    have z2 : ¬ (2 : Int) = 0 := by omega
    have hgk : (C.1.map vpair)[k]? = some (vpair C.1[k]) := by rw [List.getElem?_map, List.getElem?_eq_getElem hkl]; rfl
    rcases (show aroundL b 2 = 0 ∨ aroundL b 2 = 1 by omega) with hm | hm
    · rw [hm] at sm
      have j0 : (0 : Int) ≤ 0 := by omega
      have j1 : (0 : Int) < ((2 : Nat) : Int) := by omega
      refine ⟨(C.1.set k (v - 1, C.1[k].2), C.2), ⟨by simp, by simp, hr⟩, specC f29 (by simp) fun F0 w0 => bt_copied C a h b C.2.length (by omega) (by omega) hr' F0 w0 ?_⟩
      rw [hA]
      unfold btT c29
      refine CwpE.cut (st := ⟨bE a h b, .arr 1 2 36 [vcert C] :: .arr 1 2 36 [.agg [nilV, nilV]] :: .arr C.1.length 2 64 ((C.1.map vpair).set k (vpair (v - 1, C.1[k].2))) :: .arr 1 2 36 [.agg [.own 2 C.1.length 0 C.1.length, .own 4 C.2.length 0 C.2.length]] :: .arr C.2.length 1 22 (C.2.map vints) :: []⟩) ?_ (bt_end C a h b _ _ _ _ _ _ _ _ F0 w0 (bt_snap C a h b _ _ _ _ _ _ (C.1.set k (v - 1, C.1[k].2), C.2) (by rw [List.map_set]) (by simp) rfl (by simp) fun O1 => rows _))
      simp only [go_sem, ↓reduceIte, Nat.reduceLT, Nat.reduceEqDiff]
      refine callT s5 rfl ?_
      simp only [go_sem, ↓reduceIte, Nat.reduceLT, Nat.reduceEqDiff, e1, n0, hn]
      refine callT sa rfl ?_
      simp only [go_sem, ↓reduceIte, Nat.reduceLT, Nat.reduceEqDiff]
      refine callT sm rfl ?_
      simp only [go_sem, ↓reduceIte, Nat.reduceLT, Nat.reduceEqDiff, w2, z2]
      refine callT sv rfl ?_
      simp only [go_sem, Nat.reduceLeDiff, ↓reduceIte, Nat.reduceLT, Nat.reduceEqDiff, Nat.reduceAdd, Nat.reduceMul, Int.reduceToNat, w3, i0, i1, j0, j1, hgk, Int.toNat_natCast]
      exact ⟨_, WkE.keep (by simp only [go_sem, ↓reduceIte, Nat.reduceEqDiff]), rfl⟩
    · rw [hm] at sm
      have j0 : (0 : Int) ≤ 1 := by omega
      have j1 : (1 : Int) < ((2 : Nat) : Int) := by omega
      refine ⟨(C.1.set k (C.1[k].1, v - 1), C.2), ⟨by simp, by simp, hr⟩, specC f29 (by simp) fun F0 w0 => bt_copied C a h b C.2.length (by omega) (by omega) hr' F0 w0 ?_⟩
      rw [hA]
      unfold btT c29
      refine CwpE.cut (st := ⟨bE a h b, .arr 1 2 36 [vcert C] :: .arr 1 2 36 [.agg [nilV, nilV]] :: .arr C.1.length 2 64 ((C.1.map vpair).set k (vpair (C.1[k].1, v - 1))) :: .arr 1 2 36 [.agg [.own 2 C.1.length 0 C.1.length, .own 4 C.2.length 0 C.2.length]] :: .arr C.2.length 1 22 (C.2.map vints) :: []⟩) ?_ (bt_end C a h b _ _ _ _ _ _ _ _ F0 w0 (bt_snap C a h b _ _ _ _ _ _ (C.1.set k (C.1[k].1, v - 1), C.2) (by rw [List.map_set]) (by simp) rfl (by simp) fun O1 => rows _))
      simp only [go_sem, ↓reduceIte, Nat.reduceLT, Nat.reduceEqDiff]
      refine callT s5 rfl ?_
      simp only [go_sem, ↓reduceIte, Nat.reduceLT, Nat.reduceEqDiff, e1, n0, hn]
      refine callT sa rfl ?_
      simp only [go_sem, ↓reduceIte, Nat.reduceLT, Nat.reduceEqDiff]
      refine callT sm rfl ?_
      simp only [go_sem, ↓reduceIte, Nat.reduceLT, Nat.reduceEqDiff, w2, z2]
      refine callT sv rfl ?_
      simp only [go_sem, ↓reduceIte, Nat.reduceLT, Nat.reduceEqDiff, Nat.reduceAdd, Nat.reduceMul, Int.reduceToNat, w3, i0, i1, j0, j1, hgk, Int.toNat_natCast]
      exact ⟨_, WkE.keep (by simp only [go_sem, ↓reduceIte, Nat.reduceEqDiff]), rfl⟩
  by_cases e2 : q = 2
  · have n0 : ¬ (2 : Int) = 0 := by omega
    have n1 : ¬ (2 : Int) = 1 := by omega
    by_cases hne : 0 < C.1.length
    rotate_left
    · have hn : ¬ (0 : Int) < (C.1.length : Int) := by omega
      refine ⟨C, ⟨by omega, by omega, hr⟩, specC f29 (by simp) fun F0 w0 => bt_copied C a h b C.2.length (by omega) (by omega) hr' F0 w0 ?_⟩
      rw [hA]
      unfold btT c29
      refine CwpE.cut (st := ⟨bE a h b, bO C C.2.length (C.2.map vints)⟩) ?_ (bt_end C a h b _ _ _ _ _ _ _ _ F0 w0 (bt_snap C a h b _ _ _ _ _ _ C rfl rfl rfl (by simp) fun O1 => rows _))
      simp only [go_sem, ↓reduceIte, Nat.reduceLT, Nat.reduceEqDiff]
      refine callT s5 rfl ?_
      simp only [go_sem, ↓reduceIte, Nat.reduceLT, Nat.reduceEqDiff, e2, n0, n1, hn]
      exact ⟨_, WkE.keep (by simp only [go_sem, ↓reduceIte, Nat.reduceEqDiff]), rfl⟩
    have hn : (0 : Int) < (C.1.length : Int) := by omega
    have ab := aroundL_bd a C.1.length (by omega)
    have sa := Around_s a C.1.length ha ⟨by omega, by omega⟩
    obtain ⟨k, hk⟩ : ∃ k : Nat, aroundL a C.1.length = k := ⟨(aroundL a C.1.length).toNat, by omega⟩
    rw [hk] at ab sa
    have hkl : k < C.1.length := by omega
    have i0 : (0 : Int) ≤ (k : Int) := by omega
    have i1 : (k : Int) ≤ (C.1.length : Int) := by omega
    have hw : IntKind.i64.wrap ((k : Int) + 1) = ((k + 1 : Nat) : Int) := by rw [wrap_id (by omega) (by omega)]; omega
    have i2 : ¬ (C.1.length : Int) < ((k + 1 : Nat) : Int) := by omega
    have i3 : (0 : Int) ≤ ((k + 1 : Nat) : Int) := by omega
    have i4 : ((k + 1 : Nat) : Int) ≤ (C.1.length : Int) := by omega
    have i5 : (0 : Int) ≤ (C.1.length : Int) := by omega
    have i6 : k ≤ C.1.length := by omega
    have hle : k + 1 + (C.1.length - (k + 1)) ≤ C.1.length := by omega
    have hys : List.take (C.1.length - (k + 1)) (List.drop (k + 1) (C.1.map vpair)) = (C.1.drop (k + 1)).map vpair := by
      rw [List.take_of_length_le (by simp), List.map_drop]
    have hb3 : (k + (C.1.length - (k + 1))) * 16 ≤ 140737488355328 := by omega
    refine ⟨(C.1.take k ++ C.1.drop (k + 1), C.2), ⟨by simp; omega, by simp, hr⟩, specC f29 (by simp) fun F0 w0 => bt_copied C a h b C.2.length (by omega) (by omega) hr' F0 w0 ?_⟩
    rw [hA]
    unfold btT c29
    refine CwpE.cut (st := ⟨bE a h b, .arr 1 2 36 [vcert C] :: .arr 1 2 36 [.agg [nilV, nilV]] :: .arr (C.1.length + (C.1.length - (k + 1))) 2 64 ((C.1.map vpair).take k ++ (C.1.drop (k + 1)).map vpair) :: .arr 1 2 36 [.agg [.own 2 (C.1.length + (C.1.length - (k + 1))) 0 (k + (C.1.length - (k + 1))), .own 4 C.2.length 0 C.2.length]] :: .arr C.2.length 1 22 (C.2.map vints) :: []⟩) ?_ (bt_end C a h b _ _ _ _ _ _ _ _ F0 w0 (bt_snap C a h b _ _ _ _ _ _ (C.1.take k ++ C.1.drop (k + 1), C.2) (by rw [List.map_append, List.map_take]) (by simp; omega) rfl (by simp) fun O1 => rows _))
    simp only [go_sem, ↓reduceIte, Nat.reduceLT, Nat.reduceEqDiff]
    refine callT s5 rfl ?_
    simp only [go_sem, ↓reduceIte, Nat.reduceLT, Nat.reduceEqDiff, e2, n0, n1, hn]
    refine callT sa rfl ?_
    simp only [go_sem, Nat.reduceLeDiff, ↓reduceIte, Nat.reduceLT, Nat.reduceEqDiff, Nat.reduceAdd, List.length_map, i0, i1, hw, i2, i3, i4, i6, Int.toNat_natCast, Nat.zero_add, Nat.add_zero, Nat.sub_zero, hle, hys, List.length_drop, hb3]
    exact ⟨_, WkE.keep (by simp only [go_sem, ↓reduceIte, Nat.reduceEqDiff]), rfl⟩
  by_cases e0 : q = 0
  · by_cases hne : 0 < C.2.length
    rotate_left
    · have hn : ¬ (0 : Int) < (C.2.length : Int) := by omega
      refine ⟨C, ⟨by omega, by omega, hr⟩, specC f29 (by simp) fun F0 w0 => bt_copied C a h b C.2.length (by omega) (by omega) hr' F0 w0 ?_⟩
      rw [hA]
      unfold btT c29
      refine CwpE.cut (st := ⟨bE a h b, bO C C.2.length (C.2.map vints)⟩) ?_ (bt_end C a h b _ _ _ _ _ _ _ _ F0 w0 (bt_snap C a h b _ _ _ _ _ _ C rfl rfl rfl (by simp) fun O1 => rows _))
      simp only [go_sem, ↓reduceIte, Nat.reduceLT, Nat.reduceEqDiff]
      refine callT s5 rfl ?_
      simp only [go_sem, ↓reduceIte, Nat.reduceLT, Nat.reduceEqDiff, e0, hn]
      exact ⟨_, WkE.keep (by simp only [go_sem, ↓reduceIte, Nat.reduceEqDiff]), rfl⟩
    have hn : (0 : Int) < (C.2.length : Int) := by omega
    have ab := aroundL_bd a C.2.length (by omega)
    have sa := Around_s a C.2.length ha ⟨by omega, by omega⟩
    obtain ⟨k, hk⟩ : ∃ k : Nat, aroundL a C.2.length = k := ⟨(aroundL a C.2.length).toNat, by omega⟩
    rw [hk] at ab sa
    have hkl : k < C.2.length := by omega
    have hrk := hr _ (List.getElem_mem hkl)
    obtain ⟨R, hR⟩ : ∃ R, C.2[k] = R := ⟨_, rfl⟩
    have hB : btS C a h b k C.2.length = ⟨(10, vi C.2.length) :: bE a h b, bO C C.2.length ((C.2.map vints).set k (.own 5 R.length 0 R.length)) ++ [tgO (R.map vi)]⟩ := by rw [btS_B hkl hkl, List.take_length]; subst hR; rfl
    rw [hR] at hrk
    have jb := aroundL_bd b R.length (by omega)
    have sj := Around_s b R.length hb ⟨by omega, by omega⟩
    obtain ⟨j, hj⟩ : ∃ j : Nat, aroundL b R.length = j := ⟨(aroundL b R.length).toNat, by omega⟩
    rw [hj] at jb sj
    have hjl : j < R.length := by omega
    have sf := Around_s b 5 hb ⟨by omega, by omega⟩
    generalize aroundL b 5 = f at *
    have i0 : (0 : Int) ≤ (k : Int) := by omega
    have i1 : (k : Int) < (C.2.length : Int) := by omega
    have j0 : (0 : Int) ≤ (j : Int) := by omega
    have j1 : (j : Int) < (R.length : Int) := by omega
    have hgk : ((C.2.map vints).set k (AV.own 5 R.length 0 R.length))[k]? = some (.own 5 R.length 0 R.length) := by rw [List.getElem?_set_self (by simpa using hkl)]
    have hgj : (R.map vi)[j]? = some (vi R[j]) := by rw [List.getElem?_map, List.getElem?_eq_getElem hjl]; rfl
    refine ⟨(C.1, C.2.set k (R.set j (IntKind.i64.wrap (IntKind.i64.wrap (R[j] + f) - 2)))), ⟨by simp, by simp, ?_⟩, specC f29 (by simp) fun F0 w0 => bt_copied C a h b k (by omega) (by omega) hr' F0 w0 ?_⟩
    · intro x hx
      rcases List.mem_or_eq_of_mem_set hx with hx | rfl
      · exact hr x hx
      · rw [List.length_set]; exact hrk
    rw [hB]
    unfold btT c29
    refine CwpE.cut (st := ⟨bE a h b, .arr 1 2 36 [vcert C] :: .arr 1 2 36 [.agg [nilV, nilV]] :: .arr C.1.length 2 64 (C.1.map vpair) :: .arr 1 2 36 [.agg [.own 2 C.1.length 0 C.1.length, .own 4 C.2.length 0 C.2.length]] :: .arr C.2.length 1 22 ((C.2.map vints).set k (.own 5 R.length 0 R.length)) :: [.arr R.length 1 3 ((R.map vi).set j (vi (IntKind.i64.wrap (IntKind.i64.wrap (R[j] + f) - 2))))]⟩) ?_ (bt_end C a h b _ _ _ _ _ _ _ _ F0 w0 (bt_snap C a h b _ _ _ _ _ _ (C.1, C.2.set k (R.set j (IntKind.i64.wrap (IntKind.i64.wrap (R[j] + f) - 2)))) rfl rfl (by simp) (by simp) fun O1 i hi hi2 => ?_))
    · simp only [go_sem, ↓reduceIte, Nat.reduceLT, Nat.reduceEqDiff]
      refine callT s5 rfl ?_
      simp only [go_sem, ↓reduceIte, Nat.reduceLT, Nat.reduceEqDiff, e0, hn]
      refine callT sa rfl ?_
      simp only [go_sem, ↓reduceIte, Nat.reduceLT, Nat.reduceEqDiff, List.length_map, i0, i1, hgk, Int.toNat_natCast, Nat.zero_add]
      refine callT sj rfl ?_
      simp only [go_sem, ↓reduceIte, Nat.reduceLT, Nat.reduceEqDiff, List.length_map, i0, i1, j0, j1, hgk, hgj, Int.toNat_natCast, Nat.zero_add]
      refine callT sf rfl ?_
      simp only [go_sem, ↓reduceIte, Nat.reduceLT, Nat.reduceEqDiff, List.length_map, i0, i1, j0, j1, hgk, hgj, Int.toNat_natCast, Nat.zero_add]
      exact ⟨_, WkE.keep (by simp only [go_sem, ↓reduceIte, Nat.reduceEqDiff]), rfl⟩
    · by_cases hik : i = k
      · subst hik
        simp only [List.getElem_set_self]
        refine .own 5 _ 0 _ 1 3 _ _ rfl (by simp) (by simp) fun i hi => ?_
        have : (R.map vi).set j (vi (IntKind.i64.wrap (IntKind.i64.wrap (R[j] + f) - 2))) = (R.set j (IntKind.i64.wrap (IntKind.i64.wrap (R[j] + f) - 2))).map vi := by rw [List.map_set]
        simp only [Nat.zero_add, this, List.getElem_map]
        exact .tree _ rfl
      · rw [List.getElem_set_ne (Ne.symm hik), List.getElem_map, List.getElem_set_ne (Ne.symm hik)]
        exact .tree _ rfl
  · refine ⟨(C.1, C.2 ++ [[0]]), ⟨by simp, by simp, ?_⟩, specC f29 (by simp) fun F0 w0 => bt_copied C a h b C.2.length (by omega) (by omega) hr' F0 w0 ?_⟩
    · intro x hx
      rcases List.mem_append.1 hx with hx | hx
      · exact hr x hx
      · obtain rfl := List.mem_singleton.1 hx; simp
    rw [hA]
    unfold btT c29
    refine CwpE.cut (st := ⟨bE a h b, .arr 1 2 36 [vcert C] :: .arr 1 2 36 [.agg [nilV, nilV]] :: .arr C.1.length 2 64 (C.1.map vpair) :: .arr 1 2 36 [.agg [.own 2 C.1.length 0 C.1.length, .own 4 (C.2.length + 1) 0 (C.2.length + 1)]] :: .arr (C.2.length + 1) 1 22 (C.2.map vints ++ [vints [0]]) :: []⟩) ?_ (bt_end C a h b _ _ _ _ _ _ _ _ F0 w0 (bt_snap C a h b _ _ _ _ _ _ (C.1, C.2 ++ [[0]]) rfl rfl (by simp) (by simp) fun O1 i hi hi2 => ?_))
    · simp only [go_sem, ↓reduceIte, Nat.reduceLT, Nat.reduceEqDiff]
      refine callT s5 rfl ?_
      simp only [go_sem, Nat.reducePow, Nat.reduceLeDiff, ↓reduceIte, Nat.reduceLT, Nat.reduceEqDiff, Nat.reduceAdd, Nat.reduceMul, e0, e1, e2, e3, b2, htk2, List.length_map]
      exact ⟨_, WkE.keep (by simp only [go_sem, ↓reduceIte, Nat.reduceEqDiff]), rfl⟩
    · have : (C.2.map vints ++ [vints [0]]) = (C.2 ++ [[0]]).map vints := by simp
      simp only [this, List.getElem_map]
      exact .tree _ rfl
end Go.Proofs.Ytehelanfgepcmaa
set_option linter.unusedSimpArgs false
set_option linter.unusedVariables false
set_option linter.unusedSectionVars false
namespace Go.Proofs.Ytehelanfgepcmaa
open Go Go.RowKit Dak
/-- What Fill hands over, when it finds a division of one word at least: the table and its first row. -/
def fillO (K : List (List Int)) (R : List Int) : List AObj := [.arr (K.length + 1) 1 22 (.own 1 R.length 0 R.length :: K.map vints), .arr R.length 1 3 (R.map vi)]
theorem intCells_of (l : List Int) (i : Nat) (h : i < l.length) : (Dac.intCells l)[i]? = some (.int .i64 l[i]) := Dac.intCells_get l i h
theorem tr_cells {w : World} {G : Nat → Prop} {g : Nat} {l : List Int} (h : w.heap[g]? = some (.cells (Dac.intCells l) 3 (0, 0))) (hG : G g) (hm : l.length ≤ maxLen) : TR w G (vints l) (.slice (some ⟨g, 0, none⟩) l.length l.length) := by
  have := TR.list (w := w) (F := G) 1 (l.map vi) g 0 l.length (fun i _ => .int .i64 (l.getD i 0)) hG ⟨_, _, _, h⟩ (by simp) hm (fun i hi => by simp [AV.cells]) (fun i j hi hj => ?_) (fun i j _ _ => rfl) (fun i hi j hj => ?_)
  · simpa using this
  · have hi' : i < l.length := by simpa using hi
    have : j = 0 := by omega
    subst this
    simp only [Nat.zero_add, Nat.mul_one, Nat.add_zero, World.cell?, h]
    rw [intCells_of l i hi']
    simp [hi']
  · have hi' : i < l.length := by simpa using hi
    have : j = 0 := by simp [AV.cells] at hj; omega
    subst this
    simp only [List.getElem_map, AV.cells, List.getElem_cons_zero]
    have : l.getD i 0 = l[i] := by simp [hi']
    rw [this]
    exact .val _
theorem Fill_n (X : List (List (List Int))) (width : Int) (A : List (Int × Int)) (R : List Int) (K : List (List Int)) (hX : I64w X) (hw : I64 width) (hF : fillM X width = (0, A, R :: K)) :
    CtrN Try.prog 13 [vwords X, vi width] (.tup [.agg [vpairs A, .own 0 (K.length + 1) 0 (K.length + 1)], vi 0]) (fillO K R) := by
  refine ⟨by kernel_rfl, rfl, ?_, rfl, fun w F vs _ hs hv => ?_⟩
  · have : ((K.map vints).all (AV.inn 2)) = true := inn_map fun _ => rfl
    simp only [fillO, List.all_cons, List.all_nil, innO_arr, List.length_cons, List.length_nil, Nat.zero_add, Nat.reduceAdd, this, Bool.and_true, Bool.and_eq_true]
    exact ⟨rfl, inn_map fun _ => rfl⟩
  obtain ⟨l⟩ := vs
  match l, hs with
  | [a, b], _ =>
    have h0 := hv 0 (by simp) (by simp)
    have h1 := (hv 1 (by simp) (by simp)).val_inv
    simp only [List.getElem_cons_zero, List.getElem_cons_succ, List.getElem_toArray] at h0 h1
    rw [h1]
    refine (Fill_ok2 a X width w (rd_words h0 hX) hw).mono ?_
    rintro e w' ⟨hx, h⟩
    have hvd : validB X width = true := by
      cases hvv : validB X width with
      | true => rfl
      | false => rw [fillM, hvv] at hF; simp at hF
    obtain ⟨hV, hw'⟩ := validB_VW hvd
    rcases h with ⟨hn, _⟩ | ⟨_, K', hT, h⟩
    · rw [hvd] at hn; cases hn
    obtain rfl : tableL X width = K' := (tableL_tab hV hw').uniq hV hT
    rcases h with ⟨h0, h1, rfl⟩ | ⟨ends, ve, vl, lo, n3, hE, rfl, hlo, hn3, h2, h3⟩
    · rw [fillM, if_pos hvd] at hF
      simp only [if_pos (And.intro h0 h1), Prod.mk.injEq] at hF
      omega
    have hfm : fillM X width = (0, toI ends, tableL X width) := by
      rw [fillM, if_pos hvd]
      have hno : ¬ (0 < X.length ∧ kAt (tableL X width) (0, 0) < 0) := by
        intro hno
        rw [fillM, if_pos hvd] at hF
        simp only [if_pos hno, Prod.mk.injEq] at hF
        omega
      simp only [if_neg hno]
      rw [endsGo_ok _ _ ends hE (ends_len hV hT _ _ hE)]
    rw [hfm] at hF
    simp only [Prod.mk.injEq, true_and] at hF
    obtain ⟨rfl, hK⟩ := hF
    obtain ⟨hrd, W3, B, gs, hG, hgs, hob, hsame⟩ := h3
    rw [hK] at hG
    obtain ⟨us, ⟨hul, ho⟩, hr⟩ := hG.out
    have hgl := hG.len
    simp only [List.length_cons] at hgl
    obtain ⟨b1, gs', rfl⟩ : ∃ b1 gs', gs = b1 :: gs' := by
      cases gs with
      | nil => simp at hgl
      | cons b1 gs' => exact ⟨b1, gs', rfl⟩
    have hzl : ((b1 :: gs').zip (((R :: K)).map List.length)).length = K.length + 1 := by simp at hgl ⊢; omega
    rw [hzl] at ho hul
    rcases ho with ⟨_, hbad⟩ | ⟨b0, cap, cur, rfl, hB0, hcur, hnc, hcm, hcs, htk⟩
    · omega
    simp only [Dac.hdrR, Nat.mul_one] at hcs htk hul
    have hb0 := hob b0 rfl
    have hb1 := hgs b1 (by simp)
    have hlt3 : ∀ k o, W3.heap[k]? = some o → k < W3.heap.size := fun k o h => (Array.getElem?_eq_some_iff.1 h).1
    have same : ∀ k o, (lo ≤ k ∧ k < n3) → W3.heap[k]? = some o → w'.heap[k]? = some o := fun k o hk h => (hsame k hk (hlt3 k o h)).trans h
    have hcur' := same b0 _ hb0 hcur
    have hrow : ∀ p (h : p < (b1 :: gs').length) (h2 : p < (R :: K).length), w'.heap[(b1 :: gs')[p]]? = some (.cells (Dac.intCells (R :: K)[p]) 3 (0, 0)) ∧ b0 ≠ (b1 :: gs')[p] ∧ (lo ≤ (b1 :: gs')[p] ∧ (b1 :: gs')[p] < n3) := by
      intro p h h2
      obtain ⟨r1, r2, r3⟩ := hG.row p h h2
      have hin := hgs _ (List.getElem_mem h)
      exact ⟨same _ _ hin r1, fun e => r3 (by rw [← e]; rfl), hin⟩
    have hlt : ∀ k o, w'.heap[k]? = some o → k < w'.heap.size := fun k o h => (Array.getElem?_eq_some_iff.1 h).1
    obtain ⟨hr1, hne1, _⟩ := hrow 0 (by simp) (by simp)
    simp only [List.getElem_cons_zero] at hr1 hne1
    have hnd := hG.nodup
    have hcell : ∀ i (h : i < (b1 :: gs').length) (h2 : i < (R :: K).length), cur[i]? = some (.slice (some ⟨(b1 :: gs')[i], 0, none⟩) (R :: K)[i].length (R :: K)[i].length) := by
      intro i h h2
      have h5 := hr i (by rw [hzl]; simp at h2; omega)
      have h6 : (us.drop (i * 1)).take 1 = [.slice (some ⟨(b1 :: gs')[i], 0, none⟩) (R :: K)[i].length (R :: K)[i].length] := by
        have : Dac.hdrR.rd W3 _ ((us.drop (i * 1)).take 1) ((b1 :: gs').zip ((R :: K).map List.length))[i] := h5
        have h7 : (us.drop (i * 1)).take 1 = [.slice (some ⟨((b1 :: gs').zip ((R :: K).map List.length))[i].1, 0, none⟩) ((b1 :: gs').zip ((R :: K).map List.length))[i].2 ((b1 :: gs').zip ((R :: K).map List.length))[i].2] := this
        rw [h7]
        simp only [List.getElem_zip, List.getElem_map]
      rw [Nat.mul_one] at h6
      have hius : i < us.length := by rw [hul]; simp at h2; omega
      have h8 : us[i]? = some (.slice (some ⟨(b1 :: gs')[i], 0, none⟩) (R :: K)[i].length (R :: K)[i].length) := by
        have := congrArg (·[0]?) h6
        simpa [List.getElem?_drop] using this
      rw [← htk, List.getElem?_take, if_pos (by simp at h2; omega)] at h8
      simpa using h8
    let L' : Lay := ⟨fun k => (F k ∧ k < w.heap.size) ∨ (w.heap.size ≤ k ∧ k < w'.heap.size ∧ k ≠ b0 ∧ k ≠ b1), fun id => if id = 0 then some (b0, 0, cap) else if id = 1 then some (b1, 0, R.length) else none⟩
    have live1 : live (fillO K R) 1 R.length 1 := ⟨3, _, rfl⟩
    have live0 : live (fillO K R) 0 (K.length + 1) 1 := ⟨22, _, rfl⟩
    have fitR := hG.fit R (by simp)
    refine ⟨_, L', rfl, ⟨fun id o hob => ?_, fun id hid => ?_, fun i j b o n o' n' e1 e2 => ?_, fun id b o n hb => ?_, fun b hb => ?_, ⟨hx.os, hx.tape, hx.output, hx.size, fun b hb => hx.block b hb, fun b hb => hb⟩, fun g hg => (hg rfl).elim⟩, ?_⟩
    · match id, hob with
      | 0, hob =>
        simp only [fillO, List.getElem?_cons_zero, Option.some.injEq] at hob
        subst hob
        refine ⟨cur, Blk.of (by decide) hcur', by omega, by simp; omega, fun i hi => ?_⟩
        cases i with
        | zero =>
          refine ⟨rfl, fun j hj => ?_⟩
          have : j = 0 := by simp [AV.cells] at hj; omega
          subst this
          refine ⟨_, hcell 0 (by simp) (by simp), rfl, ?_⟩
          simp only [List.getElem_cons_zero]
          have := VR.ownL (w := w') (L := L') (objs := fillO K R) 1 R.length 0 R.length R.length 1 b1 0 R.length live1 rfl (Nat.le_refl _) fitR.1 (by omega)
          simp only [AV.cells, List.getElem_cons_zero]
          simpa using this
        | succ i =>
          have hiK : i < K.length := by simpa using hi
          have hig : i < gs'.length := by simp at hgl; omega
          simp only [List.getElem_cons_succ, List.getElem_map]
          refine ⟨rfl, fun j hj => ?_⟩
          have : j = 0 := by simp [AV.cells] at hj; omega
          subst this
          have hc := hcell (i + 1) (by simpa using hig) (by simpa using hiK)
          simp only [List.getElem_cons_succ] at hc
          refine ⟨_, by rw [Nat.zero_add, Nat.mul_one, Nat.add_zero]; exact hc, rfl, .tree ?_⟩
          obtain ⟨q1, q2, q3⟩ := hrow (i + 1) (by simpa using hig) (by simpa using hiK)
          simp only [List.getElem_cons_succ] at q1 q2 q3
          refine tr_cells q1 (.inr ⟨by omega, hlt _ _ q1, fun e => q2 e.symm, fun e => ?_⟩) (hG.fit K[i] (by simp)).1
          rw [List.nodup_cons] at hnd
          exact hnd.1 (e ▸ List.getElem_mem hig)
      | 1, hob =>
        simp only [fillO, List.getElem?_cons_succ, List.getElem?_cons_zero, Option.some.injEq] at hob
        subst hob
        refine ⟨Dac.intCells R, Blk.of (by decide) hr1, by simp [Dac.intCells], by simp [Dac.intCells], fun i hi => ⟨by simp [AV.cells], fun j hj => ?_⟩⟩
        have hiR : i < R.length := by simpa using hi
        have : j = 0 := by simp [AV.cells] at hj; omega
        subst this
        refine ⟨_, by rw [Nat.zero_add, Nat.mul_one, Nat.add_zero]; exact intCells_of R i hiR, rfl, ?_⟩
        simp only [List.getElem_map, AV.cells, List.getElem_cons_zero]
        exact .tree (.val _)
      | id + 2, hob => simp [fillO] at hob
    · have : 2 ≤ id := hid
      show (if id = 0 then _ else if id = 1 then _ else none) = none
      rw [if_neg (by omega), if_neg (by omega)]
    · have bk : ∀ {i b o n}, L'.blk i = some (b, o, n) → (i = 0 ∧ b = b0) ∨ (i = 1 ∧ b = b1) := by
        intro i b o n h
        simp only [L'] at h
        split at h
        · rename_i e; simp only [Option.some.injEq, Prod.mk.injEq] at h; exact .inl ⟨e, h.1.symm⟩
        · split at h
          · rename_i e; simp only [Option.some.injEq, Prod.mk.injEq] at h; exact .inr ⟨e, h.1.symm⟩
          · cases h
      rcases bk e1 with ⟨rfl, rfl⟩ | ⟨rfl, rfl⟩ <;> rcases bk e2 with ⟨rfl, h⟩ | ⟨rfl, h⟩
      · rfl
      · exact absurd h hne1
      · exact absurd h.symm hne1
      · rfl
    · have bk : (b = b0) ∨ (b = b1) := by
        simp only [L'] at hb
        split at hb
        · simp only [Option.some.injEq, Prod.mk.injEq] at hb; exact .inl hb.1.symm
        · split at hb
          · simp only [Option.some.injEq, Prod.mk.injEq] at hb; exact .inr hb.1.symm
          · cases hb
      rcases bk with rfl | rfl
      · exact ⟨fun h => h.elim (fun h => by have := h.2; omega) (fun h => h.2.2.1 rfl), fun h => by have : b < w.heap.size := h; omega, hlt _ _ hcur'⟩
      · exact ⟨fun h => h.elim (fun h => by have := h.2; omega) (fun h => h.2.2.2 rfl), fun h => by have : b < w.heap.size := h; omega, hlt _ _ hr1⟩
    · rcases hb with ⟨hb1, hb2⟩ | ⟨hb1, hb2, _⟩
      · exact ⟨.inl hb1, by have := hx.size; omega⟩
      · exact ⟨.inr (fun h => by have : b < w.heap.size := h; omega), hb2⟩
    · refine .tup _ _ rfl fun i hi hi2 => ?_
      match i, hi with
      | 0, _ =>
        refine .agg _ _ rfl (fun i hi => ?_) fun i hi hi2 => ?_
        · match i, hi with
          | 0, _ => exact Dac.pairR.slice.one h2 _ (by simp)
          | 1, _ => rfl
        · match i, hi with
          | 0, _ =>
            refine .tree ?_
            exact (tr_pairs h2).mono fun k hk hkl => .inr ⟨by omega, hkl, by omega, by omega⟩
          | 1, _ =>
            have := VR.ownL (w := w') (L := L') (objs := fillO K R) 0 (K.length + 1) 0 (K.length + 1) cap 1 b0 0 cap live0 rfl hnc hcm (by omega)
            simpa [hzl] using this
      | 1, _ => exact .tree (.val _)
/-- .. as a call sees it where nothing is its own yet. -/
theorem Fill_call (X : List (List (List Int))) (width : Int) (A : List (Int × Int)) (R : List Int) (L : List (List Int)) (hX : I64w X) (hw : I64 width) (hF : fillM X width = (0, A, R :: L)) {K : AV → List AObj → Prop}
    (k : K (.tup [.agg [vpairs A, .own 0 (L.length + 1) 0 (L.length + 1)], vi 0]) (fillO L R)) : ∃ r objs', CallM Try.prog false [] (.clo (.func 13) []) [vwords X, vi width] r objs' ∧ callX [] objs' [] (K r) := by
  have e1 : ∀ {α : Type} (f : α → AV) (l : List α) (σ : Nat → Nat), (∀ x, (f x).ren σ = f x) → (l.map f).map (AV.ren σ) = l.map f := fun f l σ h => by
    rw [List.map_map]; exact List.map_congr_left fun x _ => h x
  refine callNm (objs := []) (cr := []) (Fill_n X width A R L hX hw hF) (.cons (.tree _ rfl) (.cons (.tree _ rfl) .nil)) ?_ ?_ rfl ?_
  · have h1 : ((L.map vints).all (AV.inR (fillO L R))) = true := List.all_eq_true.2 fun y hy => by obtain ⟨z, _, rfl⟩ := List.mem_map.1 hy; rfl
    have h2 : ((R.map vi).all (AV.inR (fillO L R))) = true := List.all_eq_true.2 fun y hy => by obtain ⟨z, _, rfl⟩ := List.mem_map.1 hy; rfl
    have h3 : ∀ base : List AObj, (AObj.arr (L.length + 1) 1 22 (.own 1 R.length 0 R.length :: L.map vints)).inRO base = (isArr base 1 && (L.map vints).all (AV.inR base)) := fun base => rfl
    have h4 : ∀ base : List AObj, (AObj.arr R.length 1 3 (R.map vi)).inRO base = (R.map vi).all (AV.inR base) := fun base => rfl
    show (List.all [_, _] fun x : AObj => x.inRO (fillO L R)) = true
    simp only [List.all_cons, List.all_nil, h3, h4, h1, h2, Bool.and_true]
    rfl
  · rfl
  · have h1 : AV.ren (([] : List AObj).length + ([] : List AObj).length + ·) (.tup [.agg [vpairs A, .own 0 (L.length + 1) 0 (L.length + 1)], vi 0]) = .tup [.agg [vpairs A, .own 0 (L.length + 1) 0 (L.length + 1)], vi 0] := rfl
    have h2 : ([] ++ (fillO L R).map (AObj.renO (([] : List AObj).length + ([] : List AObj).length + ·))) = fillO L R := by
      simp only [fillO, List.nil_append, List.map_cons, List.map_nil, AObj.renO]
      rw [e1 vints L _ (fun _ => rfl), e1 vi R _ (fun _ => rfl)]
      rfl
    rw [h1, h2]
    exact k
end Go.Proofs.Ytehelanfgepcmaa
set_option linter.unusedSimpArgs false
set_option linter.unusedVariables false
set_option linter.unusedSectionVars false
namespace Go.Proofs.Ytehelanfgepcmaa
open Go.RowKit Dak
theorem around04 : aroundL 0 4 = 0 := by decide
theorem spoil_invalid {X : List (List (List Int))} (hX : ∀ x ∈ X, wordOK x = true) (at_ by_ w : Int) : validB (spoiltL X at_ 0 by_) w = false := by
  have key : ∃ x ∈ spoiltL X at_ 0 by_, wordOK x = false := by
    unfold spoiltL
    by_cases h0 : X = []
    · rw [if_pos h0]
      exact ⟨[], by simp, by decide⟩
    · rw [if_neg h0]
      have hpos : 0 < X.length := List.length_pos_iff.2 h0
      have hb := aroundL_bd at_ X.length (by omega)
      obtain ⟨i, hi⟩ : ∃ i : Nat, aroundL at_ X.length = i := ⟨(aroundL at_ X.length).toNat, by omega⟩
      rw [hi] at hb ⊢
      simp only [Int.toNat_natCast]
      have hil : i < X.length := by omega
      refine ⟨_, List.mem_iff_getElem.2 ⟨i, by simpa using hil, List.getElem_set_self (by simpa using hil)⟩, ?_⟩
      have hg : X.getD i [] = X[i] := by simp [hil]
      rw [hg]
      have hok := hX _ (List.getElem_mem hil)
      generalize X[i] = x at *
      unfold wordOK at hok ⊢
      rw [Bool.and_eq_true, decide_eq_true_iff, List.all_eq_true] at hok
      obtain ⟨h1, h2⟩ := hok
      rw [spoilW, if_pos around04]
      have hl : (x.take (x.length - 1)).length = x.length - 1 := by rw [List.length_take]; omega
      rw [hl]
      by_cases h3 : x.length = 1
      · have : decide (1 ≤ x.length - 1 ∧ x.length - 1 ≤ 16) = false := by rw [decide_eq_false_iff_not]; omega
        rw [this, Bool.false_and]
      · have hr := h2 0 (List.mem_range.2 (by omega))
        unfold rowOK at hr
        rw [Bool.and_eq_true, decide_eq_true_iff] at hr
        have : ((List.range (x.length - 1)).all fun i => rowOK (x.length - 1) i ((x.take (x.length - 1)).getD i [])) = false := by
          rw [List.all_eq_false]
          refine ⟨0, List.mem_range.2 (by omega), ?_⟩
          rw [Bool.not_eq_true]
          refine rowOK_len ?_
          have : (x.take (x.length - 1)).getD 0 [] = x.getD 0 [] := by
            rw [List.getD_eq_getElem?_getD, List.getD_eq_getElem?_getD, List.getElem?_take, if_pos (by omega)]
          rw [this]
          have := hr.1
          omega
        rw [this, Bool.and_false]
  obtain ⟨x, hx, hb⟩ := key
  unfold validB
  have : (spoiltL X at_ 0 by_).all wordOK = false := by
    rw [List.all_eq_false]; exact ⟨x, hx, by rw [hb]; simp⟩
  rw [this, Bool.and_false]
/-- What Fill gives is accepted, and refused with another first cost. -/
theorem fill_cases (X : List (List (List Int))) (w : Int) : (∃ e, e ≠ 0 ∧ fillM X w = (e, [], [])) ∨
    (validB X w = true ∧ ∃ A, fillM X w = (0, A, tableL X w) ∧ A.length ≤ 8192 ∧ checkM X w A (tableL X w) = 0 ∧ ∀ R K, tableL X w = R :: K → ∃ x, R[0]? = some x ∧ 0 ≤ x ∧ x ≤ 1000000000000000000) := by
  cases hv : validB X w with
  | false => exact .inl ⟨1, by decide, by simp [fillM, hv]⟩
  | true =>
    obtain ⟨hV, hw⟩ := validB_VW hv
    rcases fill_best hv with ⟨h, _⟩ | ⟨r0, h1, h2, hT, h3, h4⟩
    · exact .inl ⟨14, by decide, h⟩
    · have hw0 := walk_div hV hw r0 (0, 0) 0 h1
      rw [Int.zero_add] at hw0
      have hc0 : costM X w (toI r0) = costL X w (0, 0) r0 := by simp [costM, hw0]
      have hb := cost_bd hV hw r0 (0, 0) h1
      obtain ⟨A, g1, g2, g3, g4⟩ := others_law hv (toI r0) (by rw [hc0]; omega)
      rw [h2] at g1
      simp only [Prod.mk.injEq, and_true, true_and] at g1
      subst g1
      rw [if_neg (by omega)] at g4
      refine .inr ⟨rfl, toI r0, h2, costM_len hV hw g2, g4, fun R K hK => ?_⟩
      have hXl : 0 < X.length := by
        have := hT.1.1
        rw [hK] at this; simp at this; omega
      have hpl : Pl X (0, 0) := ⟨hXl, by have := (hV.2 0 hXl).1; dsimp only; omega⟩
      have hR : 0 < R.length := by
        have h5 := hT.1.2 0 hXl (by rw [hK]; simp)
        have h6 := (hV.2 0 hXl).1
        simp only [hK, List.getElem_cons_zero] at h5
        omega
      have hbd := costM_bd (E := toI r0) hV hw
      rw [hc0] at hbd
      rw [tOf, if_neg (pl_end hpl)] at h3
      split at h3
      · cases h3
      · simp only [Option.some.injEq] at h3
        have hk : kAt (tableL X w) (0, 0) = R[0] := by rw [kAt, hK]; simp [hR]
        rw [hk] at h3
        exact ⟨R[0], List.getElem?_eq_getElem hR, by omega, by omega⟩
theorem widthsL_ok (n : Int) : (widthsL n).length = 2 ∧ ∀ x ∈ widthsL n, I64 x := by
  have a1 := aroundL_bd n 20 (by omega)
  have a2 := aroundL_bd n 5 (by omega)
  refine ⟨rfl, fun x hx => ?_⟩
  unfold widthsL at hx
  rcases List.mem_cons.1 hx with rfl | hx
  · unfold I64; omega
  · rw [List.mem_singleton.1 hx]
    rcases (by omega : aroundL n 5 = 0 ∨ aroundL n 5 = 1 ∨ aroundL n 5 = 2 ∨ aroundL n 5 = 3 ∨ aroundL n 5 = 4) with g | g | g | g | g <;> rw [g] <;> exact ⟨by decide, by decide⟩
theorem Spoilt_w {X : List (List (List Int))} (hX : X.length ≤ 1000) (hg : ∀ x ∈ X, GenW x) (at_ how by_ : Int) (h1 : I64 at_) (h2 : I64 how) (h3 : I64 by_) :
    Ctr Try.prog 11 [vwords X, vi at_, vi how, vi by_] (vwords (spoiltL X at_ how by_)) := by
  by_cases h : X = []
  · subst h; exact Spoilt_nil at_ how by_
  · refine Spoilt_s X at_ how by_ (List.length_pos_iff.2 h) hX (fun x hx => ?_) h1 h2 h3
    obtain ⟨a, b, c, d, e⟩ := hg x hx
    exact ⟨a, by omega, fun r hr => by have := c r hr; omega, e⟩
abbrev kE (a h b : Int) (X : List (List (List Int))) (Ws : List Int) : List (Nat × AV) := [(2, vi a), (3, vi h), (4, vi b), (11, vwords X), (12, vints Ws)]
/-- A certificate, or none. -/
def ceV (C : Option Cert2) : AV := match C with | some C => vcert C | none => .agg [nilV, nilV]
def ceC (C : Option Cert2) : Cert2 := C.getD ([], [])
theorem ce_agg (C : Option Cert2) : ∃ x y, ceV C = .agg [x, y] := by cases C <;> exact ⟨_, _, rfl⟩
theorem ce_snap (objs : List AObj) (C : Option Cert2) : Snap objs (ceV C) (vcert (ceC C)) := by
  cases C with
  | some C => exact .tree _ rfl
  | none =>
    refine .agg _ _ rfl fun i h1 h2 => ?_
    match i, h1 with
    | 0, _ => exact .nil _
    | 1, _ => exact .nil _
theorem own_snap {objs : List AObj} {n : Nat} {R : List Int} {L : List (List Int)} (h0 : objs[0]? = some (.arr (L.length + 1) 1 22 (.own 1 n 0 n :: L.map vints))) (h1 : objs[1]? = some (.arr n 1 3 (R.map vi))) (hn : n = R.length) : Snap objs (.own 0 (L.length + 1) 0 (L.length + 1)) (vrows (R :: L)) := by
  subst hn
  refine .own 0 _ 0 _ 1 22 _ _ h0 (by simp) (by simp) fun i hi => ?_
  match i, hi with
  | 0, _ =>
    refine .own 1 _ 0 _ 1 3 _ _ h1 (by simp) (by simp) fun j hj => ?_
    simp only [Nat.zero_add, List.getElem_map]
    exact .tree _ rfl
  | i + 1, hi =>
    simp only [Nat.zero_add, List.map_cons, List.getElem_cons_succ, List.getElem_map]
    exact .tree _ rfl
set_option maxRecDepth 100000 in
set_option maxHeartbeats 8000000 in
theorem BreaksChecks_s (l : List Int) (width at_ how by_ : Int) (hl : ∀ x ∈ l, I64 x) (h1 : I64 width) (h2 : I64 at_) (h3 : I64 how) (h4 : I64 by_) :
    Ctr Try.prog 8 [vints l, vi width, vi at_, vi how, vi by_] (vb true) := by
  refine specC f8 (by simp) fun F0 w0 => ?_
  have hX1 := (wordsL_ok l 10 (by omega)).1
  have hXg := (wordsL_ok l 10 (by omega)).2
  have hX2 := wordsL_valid l 10 (by omega)
  have hX3 := wordsL_I64 l 10 (by omega)
  have hW := Words_s l 10 hl (by omega) (by omega)
  generalize wordsL l 10 = X at *
  have hWs := widths_s width h1
  obtain ⟨hwl, hwI⟩ := widthsL_ok width
  generalize widthsL width = Ws at *
  unfold c8
  refine CwpE.cut (st := ⟨[(0, vints l), (1, vi width), (2, vi at_), (3, vi how), (4, vi by_)], []⟩) ?_ ?_
  · simp only [go_sem, ↓reduceIte, Nat.reduceLT, Nat.reduceAdd]
    exact ⟨_, WkE.keep (by simp only [go_sem, ↓reduceIte, reduceCtorEq, Nat.reduceEqDiff]), rfl⟩
  refine CwpE.cut (st := ⟨[(1, vi width), (2, vi at_), (3, vi how), (4, vi by_), (11, vwords X)], []⟩) ?_ ?_
  · simp only [go_sem, ↓reduceIte, Nat.reduceLT]
    refine callT hW rfl ?_
    simp only [go_sem, ↓reduceIte, Nat.reduceLT]
    exact ⟨_, WkE.keep (by simp only [go_sem, ↓reduceIte, reduceCtorEq, Nat.reduceEqDiff]), rfl⟩
  refine CwpE.cut (st := ⟨kE at_ how by_ X Ws, []⟩) ?_ ?_
  · simp only [go_sem, ↓reduceIte, Nat.reduceLT]
    refine callT hWs rfl ?_
    simp only [go_sem, ↓reduceIte, Nat.reduceLT]
    exact ⟨_, WkE.keep (by simp only [go_sem, ↓reduceIte, Nat.reduceEqDiff]), rfl⟩
  refine CwpE.seqJ (fun st => st = ⟨kE at_ how by_ X Ws, []⟩) ?_ ?_
  · refine CwpE.cut (st := ⟨kE at_ how by_ X Ws ++ [(13, vi (0 : Nat))], []⟩) ?_ ?_
    · simp only [go_sem, ↓reduceIte, Nat.reduceLT]
      exact ⟨_, WkE.keep (by simp only [go_sem, ↓reduceIte, Nat.reduceEqDiff] <;> rfl), rfl⟩
    refine CwpE.block ?_
    refine loopXC 0 (fun m st => ∃ i : Nat, i + m = 2 ∧ st = ⟨kE at_ how by_ X Ws ++ [(13, vi i)], []⟩) (fun st => st = ⟨kE at_ how by_ X Ws, []⟩) 2 _ (.refl _ _) ⟨0, by omega, rfl⟩ ?_ ?_
    rotate_left
    · rintro st rfl
      simp only [inBlockE, if_true, thenE]
      exact ⟨_, .refl _ _, rfl⟩
    rintro m st ⟨i, hi, rfl⟩
    by_cases hlt : i < 2
    rotate_left
    · refine CwpE.step (fun _ => False) ?_ (fun _ h => h.elim)
      have h1 : ¬ (i : Int) < 2 := by omega
      simp only [go_sem, ↓reduceIte, Nat.reduceLT, Nat.reduceEqDiff, h1]
      exact ⟨_, WkE.keep (by simp only [go_sem, ↓reduceIte, Nat.reduceEqDiff] <;> rfl), rfl⟩
    have i1 : (i : Int) < 2 := by omega
    have i0 : (0 : Int) ≤ (i : Int) := by omega
    have hww : IntKind.i64.wrap ((i : Int) + 1) = ((i + 1 : Nat) : Int) := by rw [wrap_id (by omega) (by omega)]; omega
    refine CwpE.cut (st := ⟨kE at_ how by_ X Ws ++ [(13, vi i)], []⟩) ?_ ?_
    · simp only [go_sem, ↓reduceIte, Nat.reduceLT, Nat.reduceEqDiff, i1]
      exact ⟨_, WkE.keep (by simp only [go_sem, ↓reduceIte, Nat.reduceEqDiff] <;> rfl), rfl⟩
    refine CwpE.seqJ (fun st => st = ⟨kE at_ how by_ X Ws ++ [(13, vi i)], []⟩) ?_ ?_
    rotate_left
    · rintro st rfl
      refine CwpE.vc ?_
      simp only [go_sem, ↓reduceIte, Nat.reduceLT, Nat.reduceEqDiff, hww]
      exact ⟨m - 1, _, by omega, WkE.keep (by simp only [go_sem, ↓reduceIte, Nat.reduceEqDiff] <;> rfl), i + 1, by omega, rfl⟩
    refine CwpE.block ?_
    have hil : i < Ws.length := by omega
    have hWI := hwI _ (List.getElem_mem hil)
    obtain ⟨W, hWe⟩ : ∃ W, Ws[i] = W := ⟨_, rfl⟩
    rw [hWe] at hWI
    have hWi : (Ws.map vi)[i]? = some (vi W) := by rw [List.getElem?_map, List.getElem?_eq_getElem hil, hWe]; rfl
    have hFr := refFill_s X W hX3 hWI
    have hFo := Fill_s X W hX3 hWI
    obtain ⟨e, C, hF⟩ : ∃ e C, fillM X W = (e, C) := ⟨_, _, rfl⟩
    have hcases := fill_cases X W
    rw [hF] at hFr hFo hcases
    have hCb : C.1.length ≤ 8192 ∧ C.2.length ≤ 10 ∧ ∀ x ∈ C.2, 0 < x.length ∧ x.length ≤ 10000 := by
      rcases hcases with ⟨e', _, he⟩ | ⟨hv, A, he, hA, _⟩
      · simp only [Prod.mk.injEq] at he
        obtain ⟨_, rfl⟩ := he
        exact ⟨by simp, by simp, by simp⟩
      · simp only [Prod.mk.injEq] at he
        obtain ⟨_, rfl⟩ := he
        obtain ⟨hV, hw⟩ := validB_VW hv
        have hT := tableL_tab hV hw
        refine ⟨hA, by have := hT.1.1; dsimp only; omega, fun x hx => ?_⟩
        obtain ⟨p, hp, rfl⟩ := List.getElem_of_mem hx
        have q1 := hT.1.1
        have q2 := hT.1.2 p (by dsimp only at hp; omega) hp
        have q3 := hV.2 p (by dsimp only at hp; omega)
        dsimp only at hp ⊢
        omega
    obtain ⟨C1, hC1, hb1⟩ := bent_s C at_ how by_ h2 h3 h4 (by omega) (by omega) hCb.2.2
    obtain ⟨C2, hC2, hb2⟩ := bent_s C1 by_ at_ how h4 h2 h3 (by omega) (by omega) hC1.2.2
    refine CwpE.cut (st := ⟨kE at_ how by_ X Ws ++ [(13, vi i), (14, .ref 0 1 0 0), (15, vi e)], [.arr 1 2 36 [vcert C]]⟩) ?_ ?_
    · simp only [go_sem, ↓reduceIte, Nat.reduceLT, Nat.reduceEqDiff, i0, hWi, Int.toNat_natCast]
      refine callT hFr rfl ?_
      simp only [go_sem, ↓reduceIte, Nat.reduceLT, Nat.reduceEqDiff, Nat.reduceAdd]
      exact ⟨_, WkE.keep (by simp only [go_sem, ↓reduceIte, Nat.reduceEqDiff] <;> rfl), rfl⟩
    refine CwpE.cut (st := ⟨kE at_ how by_ X Ws ++ [(13, vi i), (14, .ref 0 1 0 0), (15, vi e), (16, .ref 1 1 0 0)], [.arr 1 2 36 [vcert C], .arr 1 2 36 [vcert C1]]⟩) ?_ ?_
    · simp only [go_sem, ↓reduceIte, Nat.reduceLT, Nat.reduceEqDiff, Nat.reduceAdd]
      refine callT hb1 rfl ?_
      simp only [go_sem, ↓reduceIte, Nat.reduceLT, Nat.reduceEqDiff, Nat.reduceAdd]
      exact ⟨_, WkE.keep (by simp only [go_sem, ↓reduceIte, Nat.reduceEqDiff] <;> rfl), rfl⟩
    refine CwpE.cut (st := ⟨kE at_ how by_ X Ws ++ [(13, vi i), (15, vi e), (17, .list 2 (([some C, some C1, some C2, none] : List (Option Cert2)).map ceV))], []⟩) ?_ ?_
    · simp only [go_sem, ↓reduceIte, Nat.reduceLT, Nat.reduceEqDiff, Nat.reduceAdd]
      refine callT hb2 rfl ?_
      simp only [go_sem, Nat.reducePow, Nat.reduceLeDiff, ↓reduceIte, reduceCtorEq, Nat.reduceLT, Nat.reduceEqDiff, Nat.reduceAdd, Nat.reduceMul]
      exact ⟨_, WkE.round (by simp only [go_sem, ↓reduceIte, Nat.reduceEqDiff] <;> rfl) rfl rfl rfl, rfl⟩
    have hDb : ∀ D ∈ ([some C, some C1, some C2, none] : List (Option Cert2)), (ceC D).1.length ≤ 1000000 ∧ (ceC D).2.length ≤ 1000000 ∧ ∀ x ∈ (ceC D).2, x.length ≤ 1000000 := by
      intro D hD
      simp only [List.mem_cons, List.not_mem_nil, or_false] at hD
      rcases hD with rfl | rfl | rfl | rfl
      · exact ⟨by simp only [ceC, Option.getD_some]; omega, by simp only [ceC, Option.getD_some]; omega, fun x hx => by have := (hCb.2.2 x hx).2; omega⟩
      · exact ⟨by simp only [ceC, Option.getD_some]; omega, by simp only [ceC, Option.getD_some]; omega, fun x hx => by have := (hC1.2.2 x hx).2; omega⟩
      · exact ⟨by simp only [ceC, Option.getD_some]; omega, by simp only [ceC, Option.getD_some]; omega, fun x hx => by have := (hC2.2.2 x hx).2; omega⟩
      · simp [ceC]
    have hDl : ([some C, some C1, some C2, none] : List (Option Cert2)).length = 4 := rfl
    generalize ([some C, some C1, some C2, none] : List (Option Cert2)) = D at *
    refine CwpE.seqJ (fun st => st = ⟨kE at_ how by_ X Ws ++ [(13, vi i), (15, vi e)], []⟩) ?_ ?_
    · refine CwpE.cut (st := ⟨kE at_ how by_ X Ws ++ [(13, vi i), (15, vi e), (17, .list 2 (D.map ceV)), (18, vi (0 : Nat))], []⟩) ?_ ?_
      · simp only [go_sem, ↓reduceIte, Nat.reduceLT]
        exact ⟨_, WkE.keep (by simp only [go_sem, ↓reduceIte, Nat.reduceEqDiff] <;> rfl), rfl⟩
      refine CwpE.block ?_
      refine loopXC 2 (fun m st => ∃ k : Nat, k + m = 4 ∧ st = ⟨kE at_ how by_ X Ws ++ [(13, vi i), (15, vi e), (17, .list 2 (D.map ceV)), (18, vi k)], []⟩) (fun st => st = ⟨kE at_ how by_ X Ws ++ [(13, vi i), (15, vi e)], []⟩) 4 _ (.refl _ _) ⟨0, by omega, rfl⟩ ?_ ?_
      rotate_left
      · rintro st rfl
        simp only [inBlockE, if_true, thenE]
        exact ⟨_, .refl _ _, rfl⟩
      rintro m st ⟨k, hk, rfl⟩
      by_cases hlt : k < 4
      rotate_left
      · refine CwpE.vc ?_
        have h1 : ¬ (k : Int) < ((4 : Nat) : Int) := by omega
        simp only [go_sem, ↓reduceIte, Nat.reduceLT, Nat.reduceEqDiff, List.length_map, hDl, h1]
        exact ⟨_, WkE.keep (by simp only [go_sem, ↓reduceIte, Nat.reduceEqDiff] <;> rfl), rfl⟩
      have k1 : (k : Int) < ((4 : Nat) : Int) := by omega
      have k0 : (0 : Int) ≤ (k : Int) := by omega
      have hkw : IntKind.i64.wrap ((k : Int) + 1) = ((k + 1 : Nat) : Int) := by rw [wrap_id (by omega) (by omega)]; omega
      have hkl : k < D.length := by omega
      obtain ⟨Dk, hDk⟩ : ∃ x, D[k] = x := ⟨_, rfl⟩
      have hgk : (D.map ceV)[k]? = some (ceV Dk) := by rw [List.getElem?_map, List.getElem?_eq_getElem hkl, hDk]; rfl
      have hbk := hDb Dk (hDk ▸ List.getElem_mem hkl)
      have hsn := ce_snap [] Dk
      obtain ⟨x, y, hxy⟩ := ce_agg Dk
      rw [hxy] at hgk hsn
      have hck := Check_s X W (ceC Dk).1 (ceC Dk).2 hX3 hWI hbk.1 hbk.2.1 hbk.2.2
      have hrk := refCheck_s X W (ceC Dk).1 (ceC Dk).2 hX3 hWI hbk.1 hbk.2.1 hbk.2.2
      refine CwpE.vc ?_
      simp only [go_sem, ↓reduceIte, Nat.reduceLT, Nat.reduceEqDiff, Nat.reduceAdd, List.length_map, hDl, k1, k0, i0, hWi, hgk, Int.toNat_natCast]
      refine callT (words_s X (by omega)) rfl ?_
      simp only [go_sem, ↓reduceIte, Nat.reduceLT, Nat.reduceEqDiff, Nat.reduceAdd, k0, i0, hWi, hgk, Int.toNat_natCast]
      refine callN (given_s (ceC Dk)) (.cons hsn .nil) ?_
      simp only [go_sem, ↓reduceIte, Nat.reduceLT, Nat.reduceEqDiff, Nat.reduceAdd, k0, i0, hWi, hgk, Int.toNat_natCast]
      refine callT hck rfl ?_
      simp only [go_sem, ↓reduceIte, Nat.reduceLT, Nat.reduceEqDiff, Nat.reduceAdd, k0, i0, hWi, hgk, Int.toNat_natCast]
      refine callN hrk (.cons (.tree _ rfl) (.cons (.tree _ rfl) (.cons hsn .nil))) ?_
      simp only [go_sem, ↓reduceIte, Nat.reduceLT, Nat.reduceEqDiff, hkw]
      exact ⟨m - 1, _, by omega, WkE.keep (by simp only [go_sem, ↓reduceIte, Nat.reduceEqDiff] <;> rfl), k + 1, by omega, rfl⟩
    · rintro st rfl
      rcases hcases with ⟨e', he', hFe⟩ | ⟨hv, A, hFe, hA, hck0, hK0⟩
      · simp only [Prod.mk.injEq] at hFe
        obtain ⟨rfl, rfl⟩ := hFe
        refine CwpE.cut (st := ⟨kE at_ how by_ X Ws ++ [(13, vi i), (15, vi e), (19, .ref 0 1 0 0), (20, vi e)], [.arr 1 2 30 [vcert ([], [])]]⟩) ?_ ?_
        · simp only [go_sem, ↓reduceIte, Nat.reduceLT, Nat.reduceEqDiff]
          refine callT (words_s X (by omega)) rfl ?_
          simp only [go_sem, ↓reduceIte, Nat.reduceLT, Nat.reduceEqDiff, i0, hWi, Int.toNat_natCast]
          refine callT hFo rfl ?_
          simp only [go_sem, ↓reduceIte, Nat.reduceLT, Nat.reduceEqDiff, Nat.reduceAdd]
          exact ⟨_, WkE.keep (by simp only [go_sem, ↓reduceIte, Nat.reduceEqDiff] <;> rfl), rfl⟩
        refine CwpE.cut (st := ⟨kE at_ how by_ X Ws ++ [(13, vi i), (15, vi e), (19, .ref 0 1 0 0)], [.arr 1 2 30 [vcert ([], [])]]⟩) ?_ ?_
        · simp only [go_sem, ↓reduceIte, Nat.reduceLT, Nat.reduceEqDiff, he']
          exact ⟨_, WkE.keep (by simp only [go_sem, ↓reduceIte, Nat.reduceEqDiff] <;> rfl), rfl⟩
        refine CwpE.vc ?_
        simp only [go_sem, ↓reduceIte, Nat.reduceLT, Nat.reduceEqDiff, he']
        exact ⟨⟨kE at_ how by_ X Ws ++ [(13, vi i)], []⟩, WkE.round (by simp only [go_sem, ↓reduceIte, Nat.reduceEqDiff] <;> rfl) rfl rfl rfl, rfl⟩
      · simp only [Prod.mk.injEq] at hFe
        obtain ⟨rfl, rfl⟩ := hFe
        have hck := Check_s X W A (tableL X W) hX3 hWI (by omega) (by have := hCb.2.1; dsimp only at this; omega) (fun x hx => by have := (hCb.2.2 x hx).2; omega)
        rw [hck0] at hck
        obtain ⟨hV, hw⟩ := validB_VW hv
        generalize hKe : tableL X W = K at *
        cases K with
        | nil =>
          refine CwpE.cut (st := ⟨kE at_ how by_ X Ws ++ [(13, vi i), (15, vi 0), (19, .ref 0 1 0 0), (20, vi 0)], [.arr 1 2 30 [vcert (A, [])]]⟩) ?_ ?_
          · simp only [go_sem, ↓reduceIte, Nat.reduceLT, Nat.reduceEqDiff]
            refine callT (words_s X (by omega)) rfl ?_
            simp only [go_sem, ↓reduceIte, Nat.reduceLT, Nat.reduceEqDiff, i0, hWi, Int.toNat_natCast]
            refine callT hFo rfl ?_
            simp only [go_sem, ↓reduceIte, Nat.reduceLT, Nat.reduceEqDiff, Nat.reduceAdd]
            exact ⟨_, WkE.keep (by simp only [go_sem, ↓reduceIte, Nat.reduceEqDiff] <;> rfl), rfl⟩
          refine CwpE.cut (st := ⟨kE at_ how by_ X Ws ++ [(13, vi i), (15, vi 0), (19, .ref 0 1 0 0)], [.arr 1 2 30 [vcert (A, [])]]⟩) ?_ ?_
          · simp only [go_sem, ↓reduceIte, Nat.reduceLT, Nat.reduceEqDiff]
            refine callT (words_s X (by omega)) rfl ?_
            simp only [go_sem, ↓reduceIte, Nat.reduceLT, Nat.reduceEqDiff, Nat.reduceAdd, i0, hWi, Int.toNat_natCast]
            refine callT hck rfl ?_
            simp only [go_sem, ↓reduceIte, Nat.reduceLT, Nat.reduceEqDiff]
            exact ⟨_, WkE.keep (by simp only [go_sem, ↓reduceIte, Nat.reduceEqDiff] <;> rfl), rfl⟩
          have z0 : ¬ (0 : Int) < ((0 : Nat) : Int) := by omega
          refine CwpE.vc ?_
          simp only [go_sem, ↓reduceIte, Nat.reduceLT, Nat.reduceEqDiff, List.length_nil, z0]
          exact ⟨⟨kE at_ how by_ X Ws ++ [(13, vi i)], []⟩, WkE.round (by simp only [go_sem, ↓reduceIte, Nat.reduceEqDiff] <;> rfl) rfl rfl rfl, rfl⟩
        | cons R L =>
          obtain ⟨x, hx0, hx1, hx2⟩ := hK0 R L rfl
          have hRl : 0 < R.length := (hCb.2.2 R (by simp)).1
          have hLl : L.length ≤ 10 := by have := hCb.2.1; simp at this; omega
          have sn1 : ∀ (T : List AObj), Snaps (fillO L R ++ T) [vwords X, vi W, .agg [vpairs A, .own 0 (L.length + 1) 0 (L.length + 1)]] [vwords X, vi W, vcert (A, R :: L)] := fun T =>
            .cons (.tree _ rfl) (.cons (.tree _ rfl) (.cons (.agg _ _ rfl fun i h1 h2 => by
              match i, h1 with
              | 0, _ => exact .tree _ rfl
              | 1, _ => exact own_snap rfl rfl rfl) .nil))
          refine CwpE.cut (st := ⟨kE at_ how by_ X Ws ++ [(13, vi i), (15, vi 0), (19, .ref 2 1 0 0), (20, vi 0)], fillO L R ++ [.arr 1 2 30 [.agg [vpairs A, .own 0 (L.length + 1) 0 (L.length + 1)]]]⟩) ?_ ?_
          · simp only [go_sem, ↓reduceIte, Nat.reduceLT, Nat.reduceEqDiff]
            refine callT (words_s X (by omega)) rfl ?_
            simp only [go_sem, ↓reduceIte, Nat.reduceLT, Nat.reduceEqDiff, i0, hWi, Int.toNat_natCast]
            refine Fill_call X W A R L hX3 hWI hF ?_
            simp only [go_sem, ↓reduceIte, Nat.reduceLT, Nat.reduceEqDiff, Nat.reduceAdd, fillO]
            exact ⟨_, WkE.keep (by simp only [go_sem, ↓reduceIte, Nat.reduceEqDiff] <;> rfl), rfl⟩
          refine CwpE.cut (st := ⟨kE at_ how by_ X Ws ++ [(13, vi i), (15, vi 0), (19, .ref 2 1 0 0)], fillO L R ++ [.arr 1 2 30 [.agg [vpairs A, .own 0 (L.length + 1) 0 (L.length + 1)]]]⟩) ?_ ?_
          · simp only [go_sem, ↓reduceIte, Nat.reduceLT, Nat.reduceEqDiff, fillO]
            refine callT (words_s X (by omega)) rfl ?_
            simp only [go_sem, ↓reduceIte, Nat.reduceLT, Nat.reduceEqDiff, Nat.reduceAdd, i0, hWi, Int.toNat_natCast]
            refine callF hck (sn1 [.arr 1 2 30 [.agg [vpairs A, .own 0 (L.length + 1) 0 (L.length + 1)]]]) rfl ?_
            simp only [go_sem, ↓reduceIte, Nat.reduceLT, Nat.reduceEqDiff]
            exact ⟨_, WkE.keep (by simp only [go_sem, ↓reduceIte, Nat.reduceEqDiff] <;> rfl), rfl⟩
          have z1 : (0 : Int) < ((L.length + 1 : Nat) : Int) := by omega
          have z2 : (0 : Int) < (R.length : Int) := by omega
          have z0 : (0 : Int) ≤ 0 := by omega
          have hgx : (R.map vi)[0]? = some (vi x) := by rw [List.getElem?_map, hx0]; rfl
          have hwx : IntKind.i64.wrap (x + 1) = x + 1 := wrap_id (by omega) (by omega)
          refine CwpE.cut (st := ⟨kE at_ how by_ X Ws ++ [(13, vi i), (15, vi 0), (19, .ref 2 1 0 0), (124, vb true)], fillO L R ++ [.arr 1 2 30 [.agg [vpairs A, .own 0 (L.length + 1) 0 (L.length + 1)]]]⟩) ?_ ?_
          · simp only [go_sem, ↓reduceIte, Nat.reduceLT, Nat.reduceEqDiff, Int.reduceToNat, fillO, z0, z1, z2]
            exact ⟨_, WkE.keep (by simp only [go_sem, ↓reduceIte, Nat.reduceEqDiff] <;> rfl), rfl⟩
          refine CwpE.cond_t rfl ?_
          have hR0 : (R.map vi).set 0 (vi (x + 1)) = (R.set 0 (x + 1)).map vi := by rw [List.map_set]
          have hne : R.set 0 (x + 1) ≠ R := by
            intro h
            have := congrArg (·[0]?) h
            simp only [List.getElem?_set_self hRl, hx0, Option.some.injEq] at this
            omega
          have hck2 := Check_s X W A (R.set 0 (x + 1) :: L) hX3 hWI (by omega) (by simp; omega) (fun y hy => by
            rcases List.mem_cons.1 hy with rfl | hy
            · rw [List.length_set]; have := (hCb.2.2 R (by simp)).2; omega
            · have := (hCb.2.2 y (by simp [hy])).2; omega)
          rw [checkM, if_pos hv, hKe, if_neg (fun h => hne (List.cons.inj h).1)] at hck2
          refine CwpE.cut (st := ⟨kE at_ how by_ X Ws ++ [(13, vi i), (15, vi 0), (19, .ref 2 1 0 0)], [.arr (L.length + 1) 1 22 (.own 1 R.length 0 R.length :: L.map vints), .arr R.length 1 3 ((R.set 0 (x + 1)).map vi), .arr 1 2 30 [.agg [vpairs A, .own 0 (L.length + 1) 0 (L.length + 1)]]]⟩) ?_ ?_
          · simp only [go_sem, ↓reduceIte, Nat.reduceLT, Nat.reduceEqDiff, Int.reduceToNat, fillO, z0, z1, z2, hgx, hwx, hR0]
            exact ⟨_, WkE.keep (by simp only [go_sem, ↓reduceIte, Nat.reduceEqDiff] <;> rfl), rfl⟩
          refine CwpE.vc ?_
          simp only [go_sem, ↓reduceIte, Nat.reduceLT, Nat.reduceEqDiff, Nat.reduceAdd, i0, hWi, Int.toNat_natCast]
          refine callT (words_s X (by omega)) rfl ?_
          simp only [go_sem, ↓reduceIte, Nat.reduceLT, Nat.reduceEqDiff, Nat.reduceAdd, i0, hWi, Int.toNat_natCast]
          refine callF hck2 (.cons (.tree _ rfl) (.cons (.tree _ rfl) (.cons (.agg _ _ rfl fun i h1 h2 => by
              match i, h1 with
              | 0, _ => exact .tree _ rfl
              | 1, _ => exact own_snap rfl rfl (by simp)) .nil))) rfl ?_
          simp only [go_sem, ↓reduceIte, Nat.reduceLT]
          exact ⟨⟨kE at_ how by_ X Ws ++ [(13, vi i)], []⟩, WkE.round (by simp only [go_sem, ↓reduceIte, Nat.reduceEqDiff] <;> rfl) rfl rfl rfl, rfl⟩
  · rintro st rfl
    have hwl0 : 0 < Ws.length := by omega
    have hW0 := hwI _ (List.getElem_mem hwl0)
    have hg0 : (Ws.map vi)[0]? = some (vi Ws[0]) := by rw [List.getElem?_map, List.getElem?_eq_getElem hwl0]; rfl
    have hsp := Spoilt_w (by omega) hXg at_ 0 by_ h2 (by unfold I64; omega) h4
    have hsl := spoiltL_len X at_ 0 by_ (by omega)
    have hsI := spoiltL_I64 at_ 0 by_ hX3 h4
    have hck := Check_s (spoiltL X at_ 0 by_) Ws[0] [] [] hsI hW0 (by simp) (by simp) (by simp)
    rw [checkM, if_neg (by rw [spoil_invalid hX2]; simp)] at hck
    have i0 : (0 : Int) ≤ 0 := by omega
    refine CwpE.vc ?_
    simp only [go_sem, ↓reduceIte, Nat.reduceLT, Nat.reduceEqDiff, Int.reduceToNat, hg0, i0]
    refine callT hsp rfl ?_
    simp only [go_sem, ↓reduceIte, Nat.reduceLT, Nat.reduceEqDiff, Int.reduceToNat, hg0, i0]
    refine callT (words_s _ (by omega)) rfl ?_
    simp only [go_sem, ↓reduceIte, Nat.reduceLT, Nat.reduceEqDiff, Int.reduceToNat, hg0, i0]
    refine callN hck (.cons (.tree _ rfl) (.cons (.tree _ rfl) (.cons (ce_snap [] none) .nil))) ?_
    simp only [go_sem, ↓reduceIte, Nat.reduceLT]
    refine callT lives_s rfl ?_
    simp only [go_sem, ↓reduceIte, Nat.reduceLT, Nat.reduceEqDiff]
    exact .tree _ rfl
end Go.Proofs.Ytehelanfgepcmaa
