/- The acts of a script. -/
import Derived.Test.YtjpknjicfoiheaaPi
set_option linter.unusedSimpArgs false
set_option linter.unusedVariables false
set_option linter.unusedSectionVars false
namespace Go.Proofs.Ytjpknjicfoiheaa
open Go.RowKit Dak
def kindL : List Int := [0, 0, 0, 0, 0, 0, 0, 0, 0, 0, 1, 2, 2, 3, 4, 4, 5, 5, 6, 6, 6, 6, 6, 6, 0, 0, 0, 0]
def kindOf (k : Int) : Int := kindL.getD (k - 4).toNat 0
def actL (l : List Int) (n : Int) (i : Nat) (next : Int) : Act' :=
  if atL l (3 * i) 32 < 4 then ⟨next, ⟨0, 0, 0, 0, 0⟩⟩
  else ⟨0, ⟨i, atL l (3 * i + 1) n, kindOf (atL l (3 * i) 32), if kindOf (atL l (3 * i) 32) = 6 then i else atL l (3 * i + 2) 3, atL l (3 * i) 32⟩⟩
def nextL (l : List Int) (i : Nat) (next : Int) : Int := if atL l (3 * i) 32 < 4 ∧ 0 < atL l (3 * i + 1) 4 then next + 1 else next
def scriptK (l : List Int) (n : Int) : Nat → List Act' × Int
  | 0 => ([], 1)
  | i + 1 => ((scriptK l n i).1 ++ [actL l n i (scriptK l n i).2], nextL l i (scriptK l n i).2)
def roundsL (l : List Int) : Nat := min 40 (l.length / 3)
def scriptL (l : List Int) (n : Int) : List Act' := (scriptK l n (roundsL l)).1
theorem scriptK_len (l : List Int) (n : Int) : ∀ i, (scriptK l n i).1.length = i
  | 0 => rfl
  | i + 1 => by simp [scriptK, scriptK_len l n i]
theorem scriptK_next (l : List Int) (n : Int) : ∀ i, 1 ≤ (scriptK l n i).2 ∧ (scriptK l n i).2 ≤ i + 1
  | 0 => by simp [scriptK]
  | i + 1 => by
    have := scriptK_next l n i
    simp only [scriptK, nextL]
    split <;> omega
theorem kind_get {k : Int} (h1 : 4 ≤ k) (h2 : k < 32) : (kindL.map vi)[(k - 4).toNat]? = some (vi (kindOf k)) := by
  have h : (k - 4).toNat < 28 := by omega
  unfold kindOf
  generalize (k - 4).toNat = j at *
  have hl : j < kindL.length := h
  rw [List.getElem?_map, List.getElem?_eq_getElem hl, List.getD_eq_getElem?_getD, List.getElem?_eq_getElem hl]
  rfl
abbrev stS (l : List Int) (n : Int) (i : Nat) (p : List Act' × Int) : Est := ⟨[(0, vints l), (1, vi n), (5, .own 0 p.1.length 0 p.1.length), (6, vi p.2), (7, vi i)], [.arr p.1.length 6 34 (p.1.map vact)]⟩
theorem stS_snoc (l : List Int) (n : Int) (i : Nat) (acts : List Act') (x : Act') (nx : Int) : stS l n i (acts ++ [x], nx) =
    ⟨[(0, vints l), (1, vi n), (5, .own 0 (acts.length + 1) 0 (acts.length + 1)), (6, vi nx), (7, vi i)], [.arr (acts.length + 1) 6 34 (acts.map vact ++ [vact x])]⟩ := by
  simp only [stS, List.length_append, List.length_cons, List.length_nil, List.map_append, List.map_cons, List.map_nil, Nat.zero_add]
set_option maxRecDepth 100000 in
theorem Script_s (l : List Int) (n : Int) (hl : ∀ x ∈ l, I64 x) (hn : 1 ≤ n ∧ n ≤ 1000) : Ctr Try.prog 10 [vints l, vi n] (.list 6 ((scriptL l n).map vact)) := by
  refine specC f10 (by simp) fun F0 w0 => ?_
  unfold c10
  refine CwpE.cut (st := ⟨[(0, vints l), (1, vi n)], []⟩) ?_ ?_
  · simp only [go_sem, List.replicate_succ, Nat.reducePow, Nat.reduceLeDiff, ↓reduceIte, reduceCtorEq, Nat.reduceLT, Nat.reduceEqDiff, Nat.reduceAdd, Nat.reduceSub, Nat.reduceMul, Int.reduceToNat]
    exact ⟨_, WkE.keep (by simp only [go_sem, List.replicate_succ, Nat.reducePow, Nat.reduceLeDiff, ↓reduceIte, reduceCtorEq, Nat.reduceLT, Nat.reduceEqDiff, Nat.reduceAdd, Nat.reduceSub, Nat.reduceMul, Int.reduceToNat]), rfl⟩
  refine CwpE.cut (st := ⟨[(0, vints l), (1, vi n), (5, .own 0 0 0 0)], [.arr 0 6 34 []]⟩) ?_ ?_
  · simp only [go_sem, List.replicate_succ, Nat.reducePow, Nat.reduceLeDiff, ↓reduceIte, reduceCtorEq, Nat.reduceLT, Nat.reduceEqDiff, Nat.reduceAdd, Nat.reduceSub, Nat.reduceMul, Int.reduceToNat]
    exact ⟨_, (WkE.nil 5 6 34 (by omega) rfl).trans (WkE.keep (by simp only [go_sem, List.replicate_succ, Nat.reducePow, Nat.reduceLeDiff, ↓reduceIte, reduceCtorEq, Nat.reduceLT, Nat.reduceEqDiff, Nat.reduceAdd, Nat.reduceSub, Nat.reduceMul, Int.reduceToNat])), rfl⟩
  refine CwpE.cut (st := ⟨[(0, vints l), (1, vi n), (5, .own 0 0 0 0), (6, vi 1)], [.arr 0 6 34 []]⟩) ?_ ?_
  · simp only [go_sem, List.replicate_succ, Nat.reducePow, Nat.reduceLeDiff, ↓reduceIte, reduceCtorEq, Nat.reduceLT, Nat.reduceEqDiff, Nat.reduceAdd, Nat.reduceSub, Nat.reduceMul, Int.reduceToNat]
    exact ⟨_, WkE.keep (by simp only [go_sem, List.replicate_succ, Nat.reducePow, Nat.reduceLeDiff, ↓reduceIte, reduceCtorEq, Nat.reduceLT, Nat.reduceEqDiff, Nat.reduceAdd, Nat.reduceSub, Nat.reduceMul, Int.reduceToNat]), rfl⟩
  have hN : (scriptL l n).length = roundsL l := scriptK_len _ _ _
  refine CwpE.seqJ (fun st => st = ⟨[(5, .own 0 (roundsL l) 0 (roundsL l))], [.arr (roundsL l) 6 34 ((scriptL l n).map vact)]⟩) ?_ ?_
  rotate_left
  · rintro st rfl
    refine CwpE.vc ?_
    simp only [go_sem, List.replicate_succ, Nat.reducePow, Nat.reduceLeDiff, ↓reduceIte, reduceCtorEq, Nat.reduceLT, Nat.reduceEqDiff, Nat.reduceAdd, Nat.reduceSub, Nat.reduceMul, Int.reduceToNat, Int.reduceLT, Int.reduceLE, Int.reduceEq, Int.reduceNe, Int.reduceNeg, Int.reduceToNat, Int.lt_irrefl, Int.le_refl]
    exact .own 0 (roundsL l) 0 (roundsL l) 6 34 _ _ rfl (by simp [hN]) (by simp [hN]) fun i h => by simp only [Nat.zero_add]; exact .tree _ (by simp; rfl)
  refine CwpE.cut (st := stS l n 0 ([], 1)) ?_ (CwpE.block ?_)
  · simp only [go_sem, List.replicate_succ, Nat.reducePow, Nat.reduceLeDiff, ↓reduceIte, reduceCtorEq, Nat.reduceLT, Nat.reduceEqDiff, Nat.reduceAdd, Nat.reduceSub, Nat.reduceMul, Int.reduceToNat]
    exact ⟨_, WkE.keep (by simp only [go_sem, List.replicate_succ, Nat.reducePow, Nat.reduceLeDiff, ↓reduceIte, reduceCtorEq, Nat.reduceLT, Nat.reduceEqDiff, Nat.reduceAdd, Nat.reduceSub, Nat.reduceMul, Int.reduceToNat]; rfl), rfl⟩
  refine loopXC 0 (fun m st => ∃ i : Nat, m = roundsL l - i ∧ i ≤ roundsL l ∧ st = stS l n i (scriptK l n i))
    (fun st => st = ⟨[(5, .own 0 (roundsL l) 0 (roundsL l))], [.arr (roundsL l) 6 34 ((scriptL l n).map vact)]⟩) (roundsL l)
    (stS l n 0 (scriptK l n 0)) (.refl _ _) ⟨0, by omega, by omega, rfl⟩ ?_ ?_
  rotate_left
  · rintro st rfl
    simp only [go_sem, List.replicate_succ, Nat.reducePow, Nat.reduceLeDiff, ↓reduceIte, reduceCtorEq, Nat.reduceLT, Nat.reduceEqDiff, Nat.reduceAdd, Nat.reduceSub, Nat.reduceMul, Int.reduceToNat]
    exact ⟨_, .refl _ _, rfl⟩
  rintro m st ⟨i, rfl, hi, rfl⟩
  have hR : roundsL l ≤ 40 ∧ roundsL l * 3 ≤ l.length := by unfold roundsL; omega
  have w1 : IntKind.i64.wrap (3 * (i : Int)) = 3 * (i : Int) := wrap_id (by omega) (by omega)
  have w2 : IntKind.i64.wrap (3 * (i : Int) + 2) = 3 * (i : Int) + 2 := wrap_id (by omega) (by omega)
  have w3 : IntKind.i64.wrap (3 * (i : Int) + 1) = 3 * (i : Int) + 1 := wrap_id (by omega) (by omega)
  have w4 : IntKind.i64.wrap ((i : Int) + 1) = ((i + 1 : Nat) : Int) := by rw [wrap_id (by omega) (by omega)]; omega
  by_cases hlt : i < roundsL l
  rotate_left
  · obtain rfl : i = roundsL l := by omega
    have hlen' := scriptK_len l n (roundsL l)
    have key : (¬ 3 * (roundsL l : Int) + 2 < (l.length : Int)) ∨ ((3 * (roundsL l : Int) + 2 < (l.length : Int)) ∧ ¬ (roundsL l : Int) < 40) := by unfold roundsL; omega
    rcases key with g | ⟨g, g'⟩
    · refine CwpE.vc ?_
      simp only [go_sem, List.replicate_succ, Nat.reducePow, Nat.reduceLeDiff, ↓reduceIte, reduceCtorEq, Nat.reduceLT, Nat.reduceEqDiff, Nat.reduceAdd, Nat.reduceSub, Nat.reduceMul, Int.reduceToNat, Int.reduceLT, Int.reduceLE, Int.reduceEq, Int.reduceNe, Int.reduceNeg, Int.reduceToNat, Int.lt_irrefl, Int.le_refl, g, w1, w2, List.length_map, hlen']
      exact ⟨_, WkE.keep (by simp only [go_sem, List.replicate_succ, Nat.reducePow, Nat.reduceLeDiff, ↓reduceIte, reduceCtorEq, Nat.reduceLT, Nat.reduceEqDiff, Nat.reduceAdd, Nat.reduceSub, Nat.reduceMul, Int.reduceToNat]), rfl⟩
    · refine CwpE.vc ?_
      simp only [go_sem, List.replicate_succ, Nat.reducePow, Nat.reduceLeDiff, ↓reduceIte, reduceCtorEq, Nat.reduceLT, Nat.reduceEqDiff, Nat.reduceAdd, Nat.reduceSub, Nat.reduceMul, Int.reduceToNat, Int.reduceLT, Int.reduceLE, Int.reduceEq, Int.reduceNe, Int.reduceNeg, Int.reduceToNat, Int.lt_irrefl, Int.le_refl, g, g', w1, w2, List.length_map, hlen']
      exact ⟨_, WkE.keep (by simp only [go_sem, List.replicate_succ, Nat.reducePow, Nat.reduceLeDiff, ↓reduceIte, reduceCtorEq, Nat.reduceLT, Nat.reduceEqDiff, Nat.reduceAdd, Nat.reduceSub, Nat.reduceMul, Int.reduceToNat]), rfl⟩
  have g1 : (3 * (i : Int) + 2 < (l.length : Int)) := by omega
  have g2 : (i : Int) < 40 := by omega
  have hnx := scriptK_next l n i
  have hkl := scriptK_len l n i
  have hsucc : scriptK l n (i + 1) = ((scriptK l n i).1 ++ [actL l n i (scriptK l n i).2], nextL l i (scriptK l n i).2) := rfl
  generalize scriptK l n i = p at *
  obtain ⟨acts, next⟩ := p
  simp only at hnx hkl hsucc
  refine CwpE.cut (st := stS l n i (acts, next)) ?_ ?_
  · simp only [go_sem, List.replicate_succ, Nat.reducePow, Nat.reduceLeDiff, ↓reduceIte, reduceCtorEq, Nat.reduceLT, Nat.reduceEqDiff, Nat.reduceAdd, Nat.reduceSub, Nat.reduceMul, Int.reduceToNat, Int.reduceLT, Int.reduceLE, Int.reduceEq, Int.reduceNe, Int.reduceNeg, Int.reduceToNat, Int.lt_irrefl, Int.le_refl, g1, g2, w1, w2, List.length_map]
    exact ⟨_, WkE.keep (by simp only [go_sem, List.replicate_succ, Nat.reducePow, Nat.reduceLeDiff, ↓reduceIte, reduceCtorEq, Nat.reduceLT, Nat.reduceEqDiff, Nat.reduceAdd, Nat.reduceSub, Nat.reduceMul, Int.reduceToNat]), rfl⟩
  refine CwpE.seqJ (fun st => st = stS l n i (scriptK l n (i + 1))) (CwpE.block ?_) ?_
  rotate_left
  · rintro st rfl
    refine CwpE.vc ?_
    simp only [go_sem, List.replicate_succ, Nat.reducePow, Nat.reduceLeDiff, ↓reduceIte, reduceCtorEq, Nat.reduceLT, Nat.reduceEqDiff, Nat.reduceAdd, Nat.reduceSub, Nat.reduceMul, Int.reduceToNat, w4]
    exact ⟨roundsL l - (i + 1), stS l n (i + 1) (scriptK l n (i + 1)), by omega, WkE.keep (by simp only [go_sem, List.replicate_succ, Nat.reducePow, Nat.reduceLeDiff, ↓reduceIte, reduceCtorEq, Nat.reduceLT, Nat.reduceEqDiff, Nat.reduceAdd, Nat.reduceSub, Nat.reduceMul, Int.reduceToNat]), i + 1, rfl, by omega, rfl⟩
  rw [hsucc]
  have wx : IntKind.i64.wrap (next + 1) = next + 1 := wrap_id (by omega) (by omega)
  have q1 : (i + 1) * 48 ≤ 140737488355328 := by omega
  have hA0 := At_s l (3 * i) 32 hl ⟨by omega, by omega⟩
  have hA1 := At_s l (3 * i + 1) n hl ⟨by omega, by omega⟩
  have hA2 := At_s l (3 * i + 2) 3 hl ⟨by omega, by omega⟩
  have hA4 := At_s l (3 * i + 1) 4 hl ⟨by omega, by omega⟩
  have bk := atL_bd l (3 * i) 32 (by omega)
  unfold actL nextL
  generalize atL l (3 * i) 32 = k at *
  generalize atL l (3 * i + 1) n = s1 at *
  generalize atL l (3 * i + 2) 3 = a1 at *
  generalize atL l (3 * i + 1) 4 = b1 at *
  subst hkl
  refine CwpE.cut (st := ⟨(8, vi k) :: (stS l n acts.length (acts, next)).env, (stS l n acts.length (acts, next)).objs⟩) ?_ ?_
  · simp only [go_sem, List.replicate_succ, Nat.reducePow, Nat.reduceLeDiff, ↓reduceIte, reduceCtorEq, Nat.reduceLT, Nat.reduceEqDiff, Nat.reduceAdd, Nat.reduceSub, Nat.reduceMul, Int.reduceToNat, w1]
    refine callT hA0 rfl ?_
    simp only [go_sem, List.replicate_succ, Nat.reducePow, Nat.reduceLeDiff, ↓reduceIte, reduceCtorEq, Nat.reduceLT, Nat.reduceEqDiff, Nat.reduceAdd, Nat.reduceSub, Nat.reduceMul, Int.reduceToNat]
    exact ⟨_, WkE.keep (by simp only [go_sem, List.replicate_succ, Nat.reducePow, Nat.reduceLeDiff, ↓reduceIte, reduceCtorEq, Nat.reduceLT, Nat.reduceEqDiff, Nat.reduceAdd, Nat.reduceSub, Nat.reduceMul, Int.reduceToNat]), rfl⟩
  refine CwpE.cut (st := ⟨(8, vi k) :: (9, .ref 1 1 0 0) :: (stS l n acts.length (acts, next)).env, [.arr acts.length 6 34 (acts.map vact), .arr 1 5 32 [.agg [vi acts.length, vi s1, vi 0, vi a1, vi k]]]⟩) ?_ ?_
  · simp only [go_sem, List.replicate_succ, Nat.reducePow, Nat.reduceLeDiff, ↓reduceIte, reduceCtorEq, Nat.reduceLT, Nat.reduceEqDiff, Nat.reduceAdd, Nat.reduceSub, Nat.reduceMul, Int.reduceToNat, Int.reduceLT, Int.reduceLE, Int.reduceEq, Int.reduceNe, Int.reduceNeg, Int.reduceToNat, Int.lt_irrefl, Int.le_refl, w1, w3]
    refine callT hA1 rfl ?_
    simp only [go_sem, List.replicate_succ, Nat.reducePow, Nat.reduceLeDiff, ↓reduceIte, reduceCtorEq, Nat.reduceLT, Nat.reduceEqDiff, Nat.reduceAdd, Nat.reduceSub, Nat.reduceMul, Int.reduceToNat, Int.reduceLT, Int.reduceLE, Int.reduceEq, Int.reduceNe, Int.reduceNeg, Int.reduceToNat, Int.lt_irrefl, Int.le_refl, w1, w2]
    refine callT hA2 rfl ?_
    simp only [go_sem, List.replicate_succ, Nat.reducePow, Nat.reduceLeDiff, ↓reduceIte, reduceCtorEq, Nat.reduceLT, Nat.reduceEqDiff, Nat.reduceAdd, Nat.reduceSub, Nat.reduceMul, Int.reduceToNat, Int.reduceLT, Int.reduceLE, Int.reduceEq, Int.reduceNe, Int.reduceNeg, Int.reduceToNat, Int.lt_irrefl, Int.le_refl]
    exact ⟨_, WkE.keep (by simp only [go_sem, List.replicate_succ, Nat.reducePow, Nat.reduceLeDiff, ↓reduceIte, reduceCtorEq, Nat.reduceLT, Nat.reduceEqDiff, Nat.reduceAdd, Nat.reduceSub, Nat.reduceMul, Int.reduceToNat]), rfl⟩
  by_cases hk : k < 4
  · rw [if_pos hk]
    by_cases hb : 0 < b1
    · rw [if_pos (⟨hk, hb⟩ : k < 4 ∧ 0 < b1)]
      refine CwpE.vc ?_
      simp only [go_sem, List.replicate_succ, Nat.reducePow, Nat.reduceLeDiff, ↓reduceIte, reduceCtorEq, Nat.reduceLT, Nat.reduceEqDiff, Nat.reduceAdd, Nat.reduceSub, Nat.reduceMul, Int.reduceToNat, Int.reduceLT, Int.reduceLE, Int.reduceEq, Int.reduceNe, Int.reduceNeg, Int.reduceToNat, Int.lt_irrefl, Int.le_refl, hk, q1]
      simp only [w1, w3, go_sem, List.replicate_succ, Nat.reducePow, Nat.reduceLeDiff, ↓reduceIte, reduceCtorEq, Nat.reduceLT, Nat.reduceEqDiff, Nat.reduceAdd, Nat.reduceSub, Nat.reduceMul, Int.reduceToNat, Int.reduceLT, Int.reduceLE, Int.reduceEq, Int.reduceNe, Int.reduceNeg, Int.reduceToNat, Int.lt_irrefl, Int.le_refl]
      refine callT hA4 rfl ?_
      simp only [go_sem, List.replicate_succ, Nat.reducePow, Nat.reduceLeDiff, ↓reduceIte, reduceCtorEq, Nat.reduceLT, Nat.reduceEqDiff, Nat.reduceAdd, Nat.reduceSub, Nat.reduceMul, Int.reduceToNat, Int.reduceLT, Int.reduceLE, Int.reduceEq, Int.reduceNe, Int.reduceNeg, Int.reduceToNat, Int.lt_irrefl, Int.le_refl, hb, wx]
      refine ⟨_, ?_, rfl⟩
      rw [stS_snoc]
      exact WkE.round ⟨rfl, rfl, rfl, rfl, rfl, trivial⟩ (by simp [AV.inn, AV.inn1]) (by rw [List.all_cons, AObj.innO, List.all_append, inn_map (f := vact) fun _ => rfl]; rfl) rfl
    · rw [if_neg (show ¬ (k < 4 ∧ 0 < b1) by omega)]
      refine CwpE.vc ?_
      simp only [go_sem, List.replicate_succ, Nat.reducePow, Nat.reduceLeDiff, ↓reduceIte, reduceCtorEq, Nat.reduceLT, Nat.reduceEqDiff, Nat.reduceAdd, Nat.reduceSub, Nat.reduceMul, Int.reduceToNat, Int.reduceLT, Int.reduceLE, Int.reduceEq, Int.reduceNe, Int.reduceNeg, Int.reduceToNat, Int.lt_irrefl, Int.le_refl, hk, q1]
      simp only [w1, w3, go_sem, List.replicate_succ, Nat.reducePow, Nat.reduceLeDiff, ↓reduceIte, reduceCtorEq, Nat.reduceLT, Nat.reduceEqDiff, Nat.reduceAdd, Nat.reduceSub, Nat.reduceMul, Int.reduceToNat, Int.reduceLT, Int.reduceLE, Int.reduceEq, Int.reduceNe, Int.reduceNeg, Int.reduceToNat, Int.lt_irrefl, Int.le_refl]
      refine callT hA4 rfl ?_
      simp only [go_sem, List.replicate_succ, Nat.reducePow, Nat.reduceLeDiff, ↓reduceIte, reduceCtorEq, Nat.reduceLT, Nat.reduceEqDiff, Nat.reduceAdd, Nat.reduceSub, Nat.reduceMul, Int.reduceToNat, Int.reduceLT, Int.reduceLE, Int.reduceEq, Int.reduceNe, Int.reduceNeg, Int.reduceToNat, Int.lt_irrefl, Int.le_refl, hb]
      refine ⟨_, ?_, rfl⟩
      rw [stS_snoc]
      exact WkE.round ⟨rfl, rfl, rfl, rfl, rfl, trivial⟩ (by simp [AV.inn, AV.inn1]) (by rw [List.all_cons, AObj.innO, List.all_append, inn_map (f := vact) fun _ => rfl]; rfl) rfl
  rw [if_neg hk, if_neg (show ¬ (k < 4 ∧ 0 < b1) by omega)]
  have hkd := kind_get (by omega : 4 ≤ k) bk.2
  have wk : IntKind.i64.wrap (k - 4) = k - 4 := wrap_id (by omega) (by omega)
  have k4 : 0 ≤ k - 4 := by omega
  generalize kindOf k = kd at *
  simp only [kindL, List.map_cons, List.map_nil] at hkd
  refine CwpE.cut (st := ⟨(8, vi k) :: (9, .ref 1 1 0 0) :: (stS l n acts.length (acts, next)).env, [.arr acts.length 6 34 (acts.map vact), .arr 1 5 32 [.agg [vi acts.length, vi s1, vi 0, vi a1, vi k]]]⟩) ?_ ?_
  · simp only [go_sem, List.replicate_succ, Nat.reducePow, Nat.reduceLeDiff, ↓reduceIte, reduceCtorEq, Nat.reduceLT, Nat.reduceEqDiff, Nat.reduceAdd, Nat.reduceSub, Nat.reduceMul, Int.reduceToNat, Int.reduceLT, Int.reduceLE, Int.reduceEq, Int.reduceNe, Int.reduceNeg, Int.reduceToNat, Int.lt_irrefl, Int.le_refl, hk]
    exact ⟨_, WkE.keep (by simp only [go_sem, List.replicate_succ, Nat.reducePow, Nat.reduceLeDiff, ↓reduceIte, reduceCtorEq, Nat.reduceLT, Nat.reduceEqDiff, Nat.reduceAdd, Nat.reduceSub, Nat.reduceMul, Int.reduceToNat]), rfl⟩
  refine CwpE.cut (st := ⟨(9, .ref 1 1 0 0) :: (stS l n acts.length (acts, next)).env, [.arr acts.length 6 34 (acts.map vact), .arr 1 5 32 [.agg [vi acts.length, vi s1, vi kd, vi a1, vi k]]]⟩) ?_ ?_
  · simp only [go_sem, List.replicate_succ, Nat.reducePow, Nat.reduceLeDiff, ↓reduceIte, reduceCtorEq, Nat.reduceLT, Nat.reduceEqDiff, Nat.reduceAdd, Nat.reduceSub, Nat.reduceMul, Int.reduceToNat, Int.reduceLT, Int.reduceLE, Int.reduceEq, Int.reduceNe, Int.reduceNeg, Int.reduceToNat, Int.lt_irrefl, Int.le_refl, wk, k4, hkd]
    exact ⟨_, WkE.keep (by simp only [go_sem, List.replicate_succ, Nat.reducePow, Nat.reduceLeDiff, ↓reduceIte, reduceCtorEq, Nat.reduceLT, Nat.reduceEqDiff, Nat.reduceAdd, Nat.reduceSub, Nat.reduceMul, Int.reduceToNat]), rfl⟩
  by_cases h6 : kd = 6
  · rw [if_pos h6]
    refine CwpE.vc ?_
    simp only [go_sem, List.replicate_succ, Nat.reducePow, Nat.reduceLeDiff, ↓reduceIte, reduceCtorEq, Nat.reduceLT, Nat.reduceEqDiff, Nat.reduceAdd, Nat.reduceSub, Nat.reduceMul, Int.reduceToNat, Int.reduceLT, Int.reduceLE, Int.reduceEq, Int.reduceNe, Int.reduceNeg, Int.reduceToNat, Int.lt_irrefl, Int.le_refl, h6, q1]
    refine ⟨_, ?_, rfl⟩
    rw [stS_snoc]
    exact WkE.round ⟨rfl, rfl, rfl, rfl, rfl, trivial⟩ (by simp [AV.inn, AV.inn1]) (by rw [List.all_cons, AObj.innO, List.all_append, inn_map (f := vact) fun _ => rfl]; rfl) rfl
  · rw [if_neg h6]
    refine CwpE.vc ?_
    simp only [go_sem, List.replicate_succ, Nat.reducePow, Nat.reduceLeDiff, ↓reduceIte, reduceCtorEq, Nat.reduceLT, Nat.reduceEqDiff, Nat.reduceAdd, Nat.reduceSub, Nat.reduceMul, Int.reduceToNat, Int.reduceLT, Int.reduceLE, Int.reduceEq, Int.reduceNe, Int.reduceNeg, Int.reduceToNat, Int.lt_irrefl, Int.le_refl, h6, q1]
    refine ⟨_, ?_, rfl⟩
    rw [stS_snoc]
    exact WkE.round ⟨rfl, rfl, rfl, rfl, rfl, trivial⟩ (by simp [AV.inn, AV.inn1]) (by rw [List.all_cons, AObj.innO, List.all_append, inn_map (f := vact) fun _ => rfl]; rfl) rfl
end Go.Proofs.Ytjpknjicfoiheaa
