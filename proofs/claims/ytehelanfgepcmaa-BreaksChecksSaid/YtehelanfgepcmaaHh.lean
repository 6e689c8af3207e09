import Derived.Test.YtehelanfgepcmaaHg
import Derived.Test.YtehelanfgepcmaaHe
import Derived.Test.YtehelanfgepcmaaHd
import Derived.Test.YtehelanfgepcmaaHf
set_option linter.unusedSimpArgs false
set_option linter.unusedVariables false
set_option linter.unusedSectionVars false
namespace Go.Proofs.Ytehelanfgepcmaa
open Go.RowKit Dak
/-- No package-level variable is looked at. -/
instance : Globs := ⟨fun _ => []⟩

def I64 (n : Int) : Prop := -9223372036854775808 ≤ n ∧ n ≤ 9223372036854775807
abbrev vi (n : Int) : AV := .val (.int .i64 n)
abbrev vb (b : Bool) : AV := .val (.bool b)
abbrev vints (l : List Int) : AV := .list 1 (l.map vi)
abbrev vbools (l : List Bool) : AV := .list 1 (l.map vb)
abbrev vrows (l : List (List Int)) : AV := .list 1 (l.map vints)
abbrev vword (l : List (List Int)) : AV := .agg [vrows l]
abbrev vwords (l : List (List (List Int))) : AV := .list 1 (l.map vword)
abbrev vpair (p : Int × Int) : AV := .agg [vi p.1, vi p.2]
abbrev vpairs (l : List (Int × Int)) : AV := .list 2 (l.map vpair)

theorem wrap_id {n : Int} (h1 : -9223372036854775808 ≤ n) (h2 : n ≤ 9223372036854775807) : IntKind.i64.wrap n = n := by rw [IntKind.wrap_i64]; omega

/-- dactylref01.Around -/
def aroundL (n most : Int) : Int := if most < 1 then 0 else (if n < 0 then -(n + 1) else n) % most

theorem Around_s (n most : Int) (hn : I64 n) (hm : I64 most) : Ctr Try.prog 19 [vi n, vi most] (vi (aroundL n most)) := by
  obtain ⟨h1, h2⟩ := hn
  obtain ⟨h3, h4⟩ := hm
  refine specE f19 (by simp) fun F0 w0 => ?_
  by_cases a : n < 0
  · have e1 : IntKind.i64.wrap (n + 1) = n + 1 := wrap_id (by omega) (by omega)
    have e2 : IntKind.i64.wrap (0 - (n + 1)) = -(n + 1) := by rw [wrap_id (by omega) (by omega)]; omega
    by_cases b : most < 1
    · simp only [c19, go_sem, ↓reduceIte, reduceCtorEq, Nat.reduceLT, Nat.reduceEqDiff, a, b, e1, e2]
      simp only [aroundL, a, b, if_true]
      exact .tree _ rfl
    · have b0 : ¬ most = 0 := by omega
      simp only [c19, go_sem, ↓reduceIte, reduceCtorEq, Nat.reduceLT, Nat.reduceEqDiff, a, b, e1, e2, b0]
      have : (-(n + 1)).tmod most = aroundL n most := by
        simp only [aroundL, a, b, if_true, if_false]
        rw [Int.tmod_eq_emod_of_nonneg (by omega)]
      rw [this]
      exact .tree _ rfl
  · by_cases b : most < 1
    · simp only [c19, go_sem, ↓reduceIte, reduceCtorEq, Nat.reduceLT, Nat.reduceEqDiff, a, b]
      simp only [aroundL, b, if_true]
      exact .tree _ rfl
    · have b0 : ¬ most = 0 := by omega
      simp only [c19, go_sem, ↓reduceIte, reduceCtorEq, Nat.reduceLT, Nat.reduceEqDiff, a, b, b0]
      have : n.tmod most = aroundL n most := by
        simp only [aroundL, a, b, if_false]
        rw [Int.tmod_eq_emod_of_nonneg (by omega)]
      rw [this]
      exact .tree _ rfl

/-- dactylref01.At -/
def atL (l : List Int) (i most : Int) : Int := if i < 0 then 0 else match l[i.toNat]? with
  | some x => aroundL x most
  | none => 0

theorem At_s (l : List Int) (i most : Int) (hl : ∀ x ∈ l, I64 x) (hm : I64 most) : Ctr Try.prog 34 [vints l, vi i, vi most] (vi (atL l i most)) := by
  refine specE f34 (by simp) fun F0 w0 => ?_
  by_cases a : i < 0
  · simp only [c34, go_sem, ↓reduceIte, reduceCtorEq, Nat.reduceLT, Nat.reduceEqDiff, Nat.reduceAdd, a]
    simp only [atL, a, if_true]
    exact .tree _ rfl
  · by_cases b : (l.length : Int) ≤ i
    · simp only [c34, go_sem, ↓reduceIte, reduceCtorEq, Nat.reduceLT, Nat.reduceEqDiff, Nat.reduceAdd, a, b, List.length_map]
      have : l[i.toNat]? = none := by rw [List.getElem?_eq_none]; omega
      simp only [atL, a, if_false, this]
      exact .tree _ rfl
    · have hlt : i.toNat < l.length := by omega
      have a' : 0 ≤ i := by omega
      simp only [c34, go_sem, ↓reduceIte, reduceCtorEq, Nat.reduceLT, Nat.reduceEqDiff, Nat.reduceAdd, a, b, a', List.length_map, List.getElem?_map, List.getElem?_eq_getElem hlt]
      refine callF (Around_s _ _ (hl _ (List.getElem_mem _)) hm) (.cons (.tree _ rfl) (.cons (.tree _ rfl) .nil)) rfl ?_
      have : atL l i most = aroundL l[i.toNat] most := by simp only [atL, a, if_false, List.getElem?_eq_getElem hlt]
      rw [this]
      simp only [go_sem, ↓reduceIte, Nat.reduceLT]
      exact .tree _ rfl

theorem takeS_eq {α : Type} {A B : List α} {k : Nat} (h : A.take k = B.take k) (ha : k < A.length) (hb : k < B.length) (he : A[k] = B[k]) : A.take (k + 1) = B.take (k + 1) := by
  rw [List.take_succ_eq_append_getElem ha, List.take_succ_eq_append_getElem hb, h, he]

theorem SameInts_s (A B : List Int) (hA : A.length ≤ 9223372036854775806) : Ctr Try.prog 25 [vints A, vints B] (vb (decide (A = B))) := by
  refine specE f25 (by simp) fun F0 w0 => ?_
  by_cases hl : A.length = B.length
  · have hl' : (A.length : Int) = (B.length : Int) := by omega
    simp only [c25, go_sem, ↓reduceIte, reduceCtorEq, Nat.reduceLT, Nat.reduceEqDiff, hl']
    refine loopE (fun m s => ∃ k : Nat, m = B.length - k ∧ k ≤ B.length ∧ A.take k = B.take k ∧ s = ⟨[(0, vints A), (1, vints B), (5, vi k)], []⟩) B.length ⟨[(0, vints A), (1, vints B), (5, vi (0 : Nat))], []⟩ (WkE.keep (by simp [go_sem, ↓reduceIte, reduceCtorEq, Nat.reduceEqDiff])) ⟨0, by simp⟩ ?_
    rintro m s ⟨k, rfl, hk, ht, rfl⟩
    by_cases hlt : k < B.length
    · have hltA : k < A.length := by omega
      have h1 : (k : Int) < (A.length : Int) := by omega
      have h0 : (0 : Int) ≤ (k : Int) := by omega
      have hw : IntKind.i64.wrap ((k : Int) + 1) = ((k + 1 : Nat) : Int) := by rw [wrap_id (by omega) (by omega)]; omega
      by_cases he : A[k] = B[k]
      · simp only [go_sem, ↓reduceIte, reduceCtorEq, Nat.reduceLT, Nat.reduceEqDiff, h1, h0, List.getElem?_map, List.getElem?_eq_getElem hlt, List.getElem?_eq_getElem hltA, he, hw]
        refine ⟨B.length - (k + 1), ⟨[(0, vints A), (1, vints B), (5, vi (k + 1 : Nat))], []⟩, by omega, WkE.keep (by simp [go_sem, ↓reduceIte, reduceCtorEq, Nat.reduceEqDiff]), k + 1, rfl, by omega, takeS_eq ht hltA hlt he, rfl⟩
      · simp only [go_sem, ↓reduceIte, reduceCtorEq, Nat.reduceLT, Nat.reduceEqDiff, h1, h0, List.getElem?_map, List.getElem?_eq_getElem hlt, List.getElem?_eq_getElem hltA, he]
        have : decide (A = B) = false := by rw [decide_eq_false_iff_not]; rintro rfl; exact he rfl
        rw [this]; exact .tree _ rfl
    · have hkB : k = B.length := by omega
      have h1 : ¬ (k : Int) < (A.length : Int) := by omega
      simp only [go_sem, ↓reduceIte, reduceCtorEq, Nat.reduceLT, Nat.reduceEqDiff, h1]
      have : decide (A = B) = true := by
        rw [decide_eq_true_eq]
        rw [hkB, List.take_length, ← hl, List.take_length] at ht
        exact ht
      rw [this]; exact .tree _ rfl
  · have hl' : ¬ (A.length : Int) = (B.length : Int) := by omega
    simp only [c25, go_sem, ↓reduceIte, reduceCtorEq, Nat.reduceLT, Nat.reduceEqDiff, hl']
    have : decide (A = B) = false := by rw [decide_eq_false_iff_not]; rintro rfl; exact hl rfl
    rw [this]; exact .tree _ rfl
end Go.Proofs.Ytehelanfgepcmaa
set_option linter.unusedSimpArgs false
set_option linter.unusedVariables false
set_option linter.unusedSectionVars false
namespace Go.Proofs.Ytehelanfgepcmaa
open Go.RowKit Dak

theorem aroundL_bd (n most : Int) (h : 1 ≤ most) : 0 ≤ aroundL n most ∧ aroundL n most < most := by
  unfold aroundL
  rw [if_neg (by omega)]
  exact ⟨Int.emod_nonneg _ (by omega), Int.emod_lt_of_pos _ (by omega)⟩
theorem atL_bd (l : List Int) (i most : Int) (h : 1 ≤ most) : 0 ≤ atL l i most ∧ atL l i most < most := by
  unfold atL
  split
  · omega
  · split
    · exact aroundL_bd _ _ h
    · omega

/-- One row: the rest of it from the place k on. -/
def rowGo (l : List Int) (w : Nat) : Nat → Nat → Int → List Int
  | 0, _, _ => []
  | d + 1, k, s =>
    let s' := if atL l (3 + 4 * w) 7 = 0 then atL l (4 + 4 * w + k) 6 else s + 1 + atL l (2 + 4 * w + k) 4
    s' :: rowGo l w d (k + 1) s'
def piecesL (l : List Int) (w : Nat) : Nat := (1 + (atL l (1 + 4 * w) 6) / 2).toNat
def wordL (l : List Int) (w : Nat) : List (List Int) := (List.range (piecesL l w)).map fun i => rowGo l w (piecesL l w - i) i 0
def wordsL (l : List Int) (most : Int) : List (List (List Int)) := (List.range (atL l 0 (most + 1)).toNat).map (wordL l)

theorem pieces_bd (l : List Int) (w : Nat) : 1 ≤ piecesL l w ∧ piecesL l w ≤ 3 := by
  have := atL_bd l (1 + 4 * w) 6 (by omega)
  unfold piecesL; omega

abbrev ownV (id n : Nat) : AV := .own id n 0 n

set_option maxRecDepth 100000 in
set_option maxHeartbeats 1000000 in
theorem Words_s (l : List Int) (most : Int) (hl : ∀ x ∈ l, I64 x) (h1 : 0 ≤ most) (h2 : most ≤ 100) : Ctr Try.prog 10 [vints l, vi most] (vwords (wordsL l most)) := by
  refine specE f10 (by simp) fun F0 w0 => ?_
  have hA : ∀ i m : Int, 1 ≤ m → m ≤ 1000 → Ctr Try.prog 34 [vints l, vi i, vi m] (vi (atL l i m)) := fun i m h1 h2 => At_s l i m hl ⟨by omega, by omega⟩
  have hn := atL_bd l 0 (most + 1) (by omega)
  have ew : IntKind.i64.wrap (most + 1) = most + 1 := wrap_id (by omega) (by omega)
  simp only [c10, go_sem, ↓reduceIte, reduceCtorEq, Nat.reduceLT, Nat.reduceEqDiff, ew]
  refine callT (hA _ _ (by omega) (by omega)) rfl ?_
  obtain ⟨N, hN⟩ : ∃ N : Nat, atL l 0 (most + 1) = N := ⟨(atL l 0 (most + 1)).toNat, by omega⟩
  have hWL : wordsL l most = (List.range N).map (wordL l) := by simp [wordsL, hN]
  rw [hN] at hn ⊢
  simp only [go_sem, ↓reduceIte, Nat.reduceLT]
  refine loopX 0 (fun m s => ∃ w : Nat, m = N - w ∧ w ≤ N ∧ s = ⟨[(0, vints l), (1, vi most), (5, ownV 0 w), (6, vi N), (7, vi w)], [.arr w 1 47 (((List.range w).map (wordL l)).map vword)]⟩)
    (fun s => s = ⟨[(5, ownV 0 N)], [.arr N 1 47 (((List.range N).map (wordL l)).map vword)]⟩) N
    ⟨[(0, vints l), (1, vi most), (5, ownV 0 0), (6, vi N), (7, vi (0 : Nat))], [.arr 0 1 47 []]⟩ ((WkE.nil 5 1 47 (by omega) rfl).trans (WkE.keep (by simp [go_sem, ↓reduceIte, reduceCtorEq, Nat.reduceEqDiff]))) ⟨0, by simp⟩ ?_ ?_
  rotate_left
  · rintro s rfl
    simp only [go_sem, ↓reduceIte, Nat.reduceLT]
    rw [hWL]
    refine .own 0 N 0 N 1 47 _ _ rfl (by simp) (by simp) fun i hi => ?_
    simp only [Nat.zero_add, List.getElem_map]
    exact .tree _ rfl
  rintro m s ⟨w, rfl, hw, rfl⟩
  by_cases hlt : w < N
  rotate_left
  · have e : w = N := by omega
    subst e
    simp only [go_sem, ↓reduceIte, reduceCtorEq, Nat.reduceLT, Nat.reduceEqDiff, Int.lt_irrefl]
    exact ⟨_, WkE.keep (by simp [go_sem, ↓reduceIte, reduceCtorEq, Nat.reduceEqDiff]), rfl⟩
  have g1 : (w : Int) < (N : Int) := by omega
  have e1 : IntKind.i64.wrap (4 * (w : Int)) = 4 * w := wrap_id (by omega) (by omega)
  have e2 : IntKind.i64.wrap (1 + 4 * (w : Int)) = 1 + 4 * w := wrap_id (by omega) (by omega)
  have e9 : IntKind.i64.wrap ((w : Int) + 1) = ((w + 1 : Nat) : Int) := by rw [wrap_id (by omega) (by omega)]; omega
  simp only [go_sem, ↓reduceIte, reduceCtorEq, Nat.reduceLT, Nat.reduceEqDiff, g1, e1, e2]
  refine callT (hA _ _ (by omega) (by omega)) rfl ?_
  have hpb := pieces_bd l w
  have hp6 := atL_bd l (1 + 4 * w) 6 (by omega)
  have e3 : IntKind.i64.wrap (1 + IntKind.i64.wrap ((atL l (1 + 4 * w) 6).tdiv 2)) = (piecesL l w : Int) := by
    have ei : IntKind.i64.wrap (atL l (1 + 4 * w) 6 / 2) = atL l (1 + 4 * w) 6 / 2 := wrap_id (by omega) (by omega)
    rw [Int.tdiv_eq_ediv_of_nonneg hp6.1, ei, wrap_id (by omega) (by omega)]
    unfold piecesL; omega
  have z2 : ¬ (2 : Int) = 0 := by omega
  have hWd : wordL l w = (List.range (piecesL l w)).map fun i => rowGo l w (piecesL l w - i) i 0 := rfl
  simp only [go_sem, ↓reduceIte, Nat.reduceLT, z2, e3]
  generalize piecesL l w = p at *
  have hw8 : (w + 1) * 24 ≤ 140737488355328 := by omega
  -- the rows
  refine loopX 2 (fun m s => ∃ i : Nat, m = p - i ∧ i ≤ p ∧ s = ⟨[(0, vints l), (1, vi most), (5, ownV 0 w), (6, vi N), (7, vi w), (8, .ref 1 1 0 0), (9, vi p), (10, vi i)],
      [.arr w 1 47 (((List.range w).map (wordL l)).map vword), .arr 1 1 47 [.agg [ownV 2 i]], .arr i 1 22 (((List.range i).map fun i => rowGo l w (p - i) i 0).map vints)]⟩)
    (fun s => s = ⟨[(0, vints l), (1, vi most), (5, ownV 0 w), (6, vi N), (7, vi w), (8, .ref 1 1 0 0)], [.arr w 1 47 (((List.range w).map (wordL l)).map vword), .arr 1 1 47 [vword (wordL l w)]]⟩) p
    ⟨[(0, vints l), (1, vi most), (5, ownV 0 w), (6, vi N), (7, vi w), (8, .ref 1 1 0 0), (9, vi p), (10, vi (0 : Nat))], [.arr w 1 47 (((List.range w).map (wordL l)).map vword), .arr 1 1 47 [.agg [ownV 2 0]], .arr 0 1 22 []]⟩
    ((WkE.nilCell 1 1 1 0 0 1 22 47 _ (.agg [.val (.slice none 0 0)]) rfl rfl rfl).trans (WkE.keep (by simp [go_sem, ↓reduceIte, reduceCtorEq, Nat.reduceEqDiff]))) ⟨0, by simp⟩ ?_ ?_
  rotate_left
  · rintro s rfl
    simp only [go_sem, Nat.reducePow, Nat.reduceLeDiff, ↓reduceIte, reduceCtorEq, Nat.reduceLT, Nat.reduceEqDiff, Nat.reduceAdd, Nat.reduceMul, e9, hw8]
    refine ⟨N - (w + 1), ⟨[(0, vints l), (1, vi most), (5, ownV 0 (w + 1)), (6, vi N), (7, vi (w + 1 : Nat))], [.arr (w + 1) 1 47 (((List.range (w + 1)).map (wordL l)).map vword)]⟩, by omega, ?_, w + 1, rfl, by omega, rfl⟩
    refine WkE.round (by simp [go_sem, ↓reduceIte, reduceCtorEq, Nat.reduceEqDiff]) (by simp [AV.inn, AV.inn1]) (by simp [AObj.innO, AV.inn, AV.inn1, List.all_map]) (by simp [List.range_succ])
  rintro m s ⟨i, rfl, hi, rfl⟩
  by_cases hip : i < p
  rotate_left
  · have e : i = p := by omega
    subst e
    simp only [go_sem, ↓reduceIte, reduceCtorEq, Nat.reduceLT, Nat.reduceEqDiff, Int.lt_irrefl]
    refine ⟨_, (WkE.freezeCell 1 1 1 0 0 2 i 0 i 1 47 22 _ _ (.agg [ownV 2 i]) rfl rfl rfl rfl (by omega) (by simp) (by simp [List.all_map, AV.isT, AV.isT1])).trans (WkE.round (env' := [(0, vints l), (1, vi most), (5, ownV 0 w), (6, vi N), (7, vi w), (8, .ref 1 1 0 0)]) (objs' := [.arr w 1 47 (((List.range w).map (wordL l)).map vword), .arr 1 1 47 [vword (wordL l w)]]) (by simp [go_sem, ↓reduceIte, reduceCtorEq, Nat.reduceEqDiff]) (by simp [AV.inn, AV.inn1]) (by simp [AObj.innO, AV.inn, AV.inn1, List.all_map]) (by simp [hWd, go_sem, Nat.reduceAdd])), rfl⟩
  have g2 : (i : Int) < (p : Int) := by omega
  have e8 : IntKind.i64.wrap ((i : Int) + 1) = ((i + 1 : Nat) : Int) := by rw [wrap_id (by omega) (by omega)]; omega
  have hi8 : (i + 1) * 24 ≤ 140737488355328 := by omega
  simp only [go_sem, ↓reduceIte, reduceCtorEq, Nat.reduceLT, Nat.reduceEqDiff, g2]
  refine loopX 4 (fun m s => ∃ (k : Nat) (sm : Int) (done : List Int), m = p - k ∧ i ≤ k ∧ k ≤ p ∧ 0 ≤ sm ∧ sm ≤ 10 * k ∧ done.length + i = k ∧ done ++ rowGo l w (p - k) k sm = rowGo l w (p - i) i 0 ∧
      s = ⟨[(0, vints l), (1, vi most), (5, ownV 0 w), (6, vi N), (7, vi w), (8, .ref 1 1 0 0), (9, vi p), (10, vi i), (11, ownV 3 done.length), (12, vi sm), (13, vi k)],
      [.arr w 1 47 (((List.range w).map (wordL l)).map vword), .arr 1 1 47 [.agg [ownV 2 i]], .arr i 1 22 (((List.range i).map fun i => rowGo l w (p - i) i 0).map vints), .arr done.length 1 3 (done.map vi)]⟩)
    (fun s => s = ⟨[(0, vints l), (1, vi most), (5, ownV 0 w), (6, vi N), (7, vi w), (8, .ref 1 1 0 0), (9, vi p), (10, vi i), (11, vints (rowGo l w (p - i) i 0))],
      [.arr w 1 47 (((List.range w).map (wordL l)).map vword), .arr 1 1 47 [.agg [ownV 2 i]], .arr i 1 22 (((List.range i).map fun i => rowGo l w (p - i) i 0).map vints)]⟩) (p - i)
    ⟨[(0, vints l), (1, vi most), (5, ownV 0 w), (6, vi N), (7, vi w), (8, .ref 1 1 0 0), (9, vi p), (10, vi i), (11, ownV 3 0), (12, vi 0), (13, vi i)], [.arr w 1 47 (((List.range w).map (wordL l)).map vword), .arr 1 1 47 [.agg [ownV 2 i]], .arr i 1 22 (((List.range i).map fun i => rowGo l w (p - i) i 0).map vints), .arr 0 1 3 []]⟩
    ((WkE.nil 11 1 3 (by omega) rfl).trans (WkE.keep (by simp [go_sem, ↓reduceIte, reduceCtorEq, Nat.reduceEqDiff, Nat.reduceAdd]))) ⟨i, 0, [], by simp; omega⟩ ?_ ?_
  rotate_left
  · rintro s rfl
    simp only [go_sem, Nat.reducePow, Nat.reduceLeDiff, ↓reduceIte, reduceCtorEq, Nat.reduceLT, Nat.reduceEqDiff, Nat.reduceAdd, Nat.reduceMul, e8, hi8]
    refine ⟨p - (i + 1), ⟨[(0, vints l), (1, vi most), (5, ownV 0 w), (6, vi N), (7, vi w), (8, .ref 1 1 0 0), (9, vi p), (10, vi (i + 1 : Nat))],
      [.arr w 1 47 (((List.range w).map (wordL l)).map vword), .arr 1 1 47 [.agg [ownV 2 (i + 1)]], .arr (i + 1) 1 22 (((List.range (i + 1)).map fun i => rowGo l w (p - i) i 0).map vints)]⟩, by omega, ?_, i + 1, rfl, by omega, rfl⟩
    refine WkE.round (by simp [go_sem, ↓reduceIte, reduceCtorEq, Nat.reduceEqDiff]) (by simp [AV.inn, AV.inn1]) (by simp [AObj.innO, AV.inn, AV.inn1, List.all_map]) (by simp [List.range_succ])
  rintro m s ⟨k, sm, done, rfl, hik, hkp, hs0, hs1, hdl, hdone, rfl⟩
  by_cases hk : k < p
  rotate_left
  · have e : k = p := by omega
    subst e
    simp only [go_sem, ↓reduceIte, reduceCtorEq, Nat.reduceLT, Nat.reduceEqDiff, Int.lt_irrefl]
    have hd : done = rowGo l w (k - i) i 0 := by rw [Nat.sub_self, rowGo, List.append_nil] at hdone; exact hdone
    refine ⟨_, (WkE.freeze 11 3 done.length 0 done.length 1 3 (done.map vi) (by omega) rfl rfl (by simp) (by simp [List.all_map, AV.isT, AV.isT1])).trans (WkE.round (by simp [go_sem, ↓reduceIte, reduceCtorEq, Nat.reduceEqDiff, ← hd]) (by simp [AV.inn, AV.inn1]) (by simp [AObj.innO, AV.inn, AV.inn1, List.all_map]) (by simp)), rfl⟩
  have g3 : (k : Int) < (p : Int) := by omega
  have b2 := atL_bd l (2 + 4 * w + k) 4 (by omega)
  have b3 := atL_bd l (3 + 4 * w) 7 (by omega)
  have b4 := atL_bd l (4 + 4 * w + k) 6 (by omega)
  have f1 : IntKind.i64.wrap (sm + 1) = sm + 1 := wrap_id (by omega) (by omega)
  have f2 : IntKind.i64.wrap (2 + 4 * (w : Int)) = 2 + 4 * w := wrap_id (by omega) (by omega)
  have f3 : IntKind.i64.wrap (2 + 4 * (w : Int) + k) = 2 + 4 * w + k := wrap_id (by omega) (by omega)
  have f4 : IntKind.i64.wrap (3 + 4 * (w : Int)) = 3 + 4 * w := wrap_id (by omega) (by omega)
  have f5 : IntKind.i64.wrap (4 + 4 * (w : Int)) = 4 + 4 * w := wrap_id (by omega) (by omega)
  have f6 : IntKind.i64.wrap (4 + 4 * (w : Int) + k) = 4 + 4 * w + k := wrap_id (by omega) (by omega)
  have f7 : IntKind.i64.wrap ((k : Int) + 1) = ((k + 1 : Nat) : Int) := by rw [wrap_id (by omega) (by omega)]; omega
  have f8 : IntKind.i64.wrap (sm + 1 + atL l (2 + 4 * w + k) 4) = sm + 1 + atL l (2 + 4 * w + k) 4 := wrap_id (by omega) (by omega)
  have hb : (done.length + 1) * 8 ≤ 140737488355328 := by omega
  simp only [go_sem, ↓reduceIte, reduceCtorEq, Nat.reduceLT, Nat.reduceEqDiff, g3, e1, f1, f2, f3]
  refine callT (hA _ _ (by omega) (by omega)) rfl ?_
  simp only [go_sem, ↓reduceIte, reduceCtorEq, Nat.reduceLT, Nat.reduceEqDiff, e1, f4, f8]
  refine callT (hA _ _ (by omega) (by omega)) rfl ?_
  have step : ∀ s', (if atL l (3 + 4 * w) 7 = 0 then atL l (4 + 4 * w + k) 6 else sm + 1 + atL l (2 + 4 * w + k) 4) = s' → 0 ≤ s' → s' ≤ 10 * ((k + 1 : Nat) : Int) → ∃ m s, m < p - k ∧
      WkE 79 ⟨[(0, vints l), (1, vi most), (5, ownV 0 w), (6, vi N), (7, vi w), (8, .ref 1 1 0 0), (9, vi p), (10, vi i), (11, ownV 3 (done.length + 1)), (12, vi s'), (13, vi (k + 1 : Nat))], [.arr w 1 47 (((List.range w).map (wordL l)).map vword), .arr 1 1 47 [.agg [ownV 2 i]], .arr i 1 22 (((List.range i).map fun i => rowGo l w (p - i) i 0).map vints), .arr (done.length + 1) 1 3 (done.map vi ++ [vi s'])]⟩ s ∧
      ∃ (k : Nat) (sm : Int) (done : List Int), m = p - k ∧ i ≤ k ∧ k ≤ p ∧ 0 ≤ sm ∧ sm ≤ 10 * k ∧ done.length + i = k ∧ done ++ rowGo l w (p - k) k sm = rowGo l w (p - i) i 0 ∧
      s = ⟨[(0, vints l), (1, vi most), (5, ownV 0 w), (6, vi N), (7, vi w), (8, .ref 1 1 0 0), (9, vi p), (10, vi i), (11, ownV 3 done.length), (12, vi sm), (13, vi k)],
      [.arr w 1 47 (((List.range w).map (wordL l)).map vword), .arr 1 1 47 [.agg [ownV 2 i]], .arr i 1 22 (((List.range i).map fun i => rowGo l w (p - i) i 0).map vints), .arr done.length 1 3 (done.map vi)]⟩ := by
    intro s' hs' h1 h2
    refine ⟨p - (k + 1), _, by omega, .refl _ _, k + 1, s', done ++ [s'], rfl, by omega, by omega, h1, h2, by simp; omega, ?_, by simp⟩
    rw [← hdone, show p - k = (p - (k + 1)) + 1 from by omega, rowGo]
    simp only [hs', List.append_assoc, List.cons_append, List.nil_append]
  by_cases h0 : atL l (3 + 4 * w) 7 = 0
  · simp only [go_sem, ↓reduceIte, reduceCtorEq, Nat.reduceLT, Nat.reduceEqDiff, h0, e1, f5, f6]
    refine callT (hA _ _ (by omega) (by omega)) rfl ?_
    simp only [go_sem, Nat.reducePow, Nat.reduceLeDiff, ↓reduceIte, reduceCtorEq, Nat.reduceLT, Nat.reduceEqDiff, Nat.reduceAdd, Nat.reduceMul, f7, hb]
    obtain ⟨m, s, h1, h2, h3⟩ := step _ (by rw [if_pos h0]) b4.1 (by omega)
    refine ⟨m, s, h1, WkE.trans (WkE.keep ?_) h2, h3⟩
    simp only [go_sem, ↓reduceIte, reduceCtorEq, Nat.reduceEqDiff]
  · simp only [go_sem, Nat.reducePow, Nat.reduceLeDiff, ↓reduceIte, reduceCtorEq, Nat.reduceLT, Nat.reduceEqDiff, Nat.reduceAdd, Nat.reduceMul, h0, f7, hb]
    obtain ⟨m, s, h1, h2, h3⟩ := step _ (by rw [if_neg h0]) (by omega) (by omega)
    refine ⟨m, s, h1, WkE.trans (WkE.keep ?_) h2, h3⟩
    simp only [go_sem, ↓reduceIte, reduceCtorEq, Nat.reduceEqDiff]
end Go.Proofs.Ytehelanfgepcmaa
set_option linter.unusedSimpArgs false
set_option linter.unusedVariables false
set_option linter.unusedSectionVars false
namespace Go.Proofs.Ytehelanfgepcmaa
open Go.RowKit Dak

set_option maxRecDepth 100000 in
theorem words_s (X : List (List (List Int))) (hX : X.length ≤ 1000000) : Ctr Try.prog 14 [vwords X] (vwords X) := by
  refine specE f14 (by simp) fun F0 w0 => ?_
  simp only [c14, go_sem, ↓reduceIte, Nat.reduceLT]
  refine loopX 0 (fun m s => ∃ k : Nat, m = X.length - k ∧ k ≤ X.length ∧ s = ⟨[(0, vwords X), (3, ownV 0 k), (4, vi k)], [.arr k 1 42 ((X.take k).map vword)]⟩)
    (fun s => s = ⟨[(3, ownV 0 X.length)], [.arr X.length 1 42 (X.map vword)]⟩) X.length
    ⟨[(0, vwords X), (3, ownV 0 0), (4, vi (0 : Nat))], [.arr 0 1 42 []]⟩ ((WkE.nil 3 1 42 (by omega) rfl).trans (WkE.keep (by simp [go_sem, ↓reduceIte, reduceCtorEq, Nat.reduceEqDiff]))) ⟨0, by simp⟩ ?_ ?_
  rotate_left
  · rintro s rfl
    simp only [go_sem, ↓reduceIte, Nat.reduceLT]
    refine .own 0 _ 0 _ 1 42 _ _ rfl (by simp) (by simp) fun i hi => ?_
    simp only [Nat.zero_add, List.getElem_map]
    exact .tree _ rfl
  rintro m s ⟨k, rfl, hk, rfl⟩
  by_cases hlt : k < X.length
  · have h1 : (k : Int) < (X.length : Int) := by omega
    have h0 : (0 : Int) ≤ (k : Int) := by omega
    have hw : IntKind.i64.wrap ((k : Int) + 1) = ((k + 1 : Nat) : Int) := by rw [wrap_id (by omega) (by omega)]; omega
    have hb : (k + 1) * 24 ≤ 140737488355328 := by omega
    have hm : min k X.length = k := by omega
    simp only [go_sem, Nat.reducePow, Nat.reduceLeDiff, ↓reduceIte, reduceCtorEq, Nat.reduceLT, Nat.reduceEqDiff, Nat.reduceMul, h1, h0, List.getElem?_map, List.getElem?_eq_getElem hlt, hw, hb, List.length_take, hm]
    refine ⟨X.length - (k + 1), ⟨[(0, vwords X), (3, ownV 0 (k + 1)), (4, vi (k + 1 : Nat))], [.arr (k + 1) 1 42 ((X.take (k + 1)).map vword)]⟩, by omega, ?_, k + 1, rfl, by omega, rfl⟩
    rw [List.take_succ_eq_append_getElem hlt]
    simp only [List.map_append, List.map_cons, List.map_nil]
    exact WkE.keep (by simp only [go_sem, ↓reduceIte, reduceCtorEq, Nat.reduceEqDiff])
  · have e : k = X.length := by omega
    subst e
    simp only [go_sem, ↓reduceIte, reduceCtorEq, Nat.reduceLT, Nat.reduceEqDiff, Int.lt_irrefl]
    exact ⟨_, WkE.keep (by simp [go_sem, ↓reduceIte, reduceCtorEq, Nat.reduceEqDiff]), rfl⟩

set_option maxRecDepth 100000 in
theorem simple_s (L : List Int) (hX : L.length ≤ 1000000) : Ctr Try.prog 21 [vints L] (vwords (L.map fun n => [[n]])) := by
  refine specE f21 (by simp) fun F0 w0 => ?_
  simp only [c21, go_sem, ↓reduceIte, Nat.reduceLT]
  refine loopX 0 (fun m s => ∃ k : Nat, m = L.length - k ∧ k ≤ L.length ∧ s = ⟨[(0, vints L), (3, ownV 0 k), (4, vi k)], [.arr k 1 42 ((L.take k).map fun n => vword [[n]])]⟩)
    (fun s => s = ⟨[(3, ownV 0 L.length)], [.arr L.length 1 42 (L.map fun n => vword [[n]])]⟩) L.length
    ⟨[(0, vints L), (3, ownV 0 0), (4, vi (0 : Nat))], [.arr 0 1 42 []]⟩ ((WkE.nil 3 1 42 (by omega) rfl).trans (WkE.keep (by simp [go_sem, ↓reduceIte, reduceCtorEq, Nat.reduceEqDiff]))) ⟨0, by simp⟩ ?_ ?_
  rotate_left
  · rintro s rfl
    simp only [go_sem, ↓reduceIte, Nat.reduceLT]
    refine .own 0 _ 0 _ 1 42 _ _ rfl (by simp) (by simp) fun i hi => ?_
    simp only [Nat.zero_add, List.getElem_map]
    exact .tree _ rfl
  rintro m s ⟨k, rfl, hk, rfl⟩
  by_cases hlt : k < L.length
  · have h1 : (k : Int) < (L.length : Int) := by omega
    have h0 : (0 : Int) ≤ (k : Int) := by omega
    have hw : IntKind.i64.wrap ((k : Int) + 1) = ((k + 1 : Nat) : Int) := by rw [wrap_id (by omega) (by omega)]; omega
    have hb : (k + 1) * 24 ≤ 140737488355328 := by omega
    have hm : min k L.length = k := by omega
    simp only [go_sem, Nat.reducePow, Nat.reduceLeDiff, ↓reduceIte, reduceCtorEq, Nat.reduceLT, Nat.reduceEqDiff, Nat.reduceMul, h1, h0, List.getElem?_map, List.getElem?_eq_getElem hlt, hw, hb, List.length_take, hm]
    refine ⟨L.length - (k + 1), ⟨[(0, vints L), (3, ownV 0 (k + 1)), (4, vi (k + 1 : Nat))], [.arr (k + 1) 1 42 ((L.take (k + 1)).map fun n => vword [[n]])]⟩, by omega, ?_, k + 1, rfl, by omega, rfl⟩
    rw [List.take_succ_eq_append_getElem hlt]
    simp only [List.map_append, List.map_cons, List.map_nil]
    exact WkE.keep (by simp only [go_sem, ↓reduceIte, reduceCtorEq, Nat.reduceEqDiff])
  · have e : k = L.length := by omega
    subst e
    simp only [go_sem, ↓reduceIte, reduceCtorEq, Nat.reduceLT, Nat.reduceEqDiff, Int.lt_irrefl]
    exact ⟨_, WkE.keep (by simp [go_sem, ↓reduceIte, reduceCtorEq, Nat.reduceEqDiff]), rfl⟩

def widthsL (n : Int) : List Int := [1 + aroundL n 20, ([0, 513, 512, 1, -1] : List Int).getD (aroundL n 5).toNat 0]
theorem widths_s (n : Int) (h : I64 n) : Ctr Try.prog 12 [vi n] (vints (widthsL n)) := by
  refine specE f12 (by simp) fun F0 w0 => ?_
  have a1 := aroundL_bd n 20 (by omega)
  have a2 := aroundL_bd n 5 (by omega)
  have e1 : IntKind.i64.wrap (1 + aroundL n 20) = 1 + aroundL n 20 := wrap_id (by omega) (by omega)
  obtain ⟨k, hk⟩ : ∃ k : Nat, aroundL n 5 = k := ⟨(aroundL n 5).toNat, by omega⟩
  simp only [c12, go_sem, ↓reduceIte, reduceCtorEq, Nat.reduceLT]
  refine callT (Around_s n 20 h ⟨by omega, by omega⟩) rfl ?_
  simp only [go_sem, Nat.reducePow, Nat.reduceLeDiff, ↓reduceIte, reduceCtorEq, Nat.reduceLT, Nat.reduceAdd, Nat.reduceMul, e1]
  refine callT (Around_s n 5 h ⟨by omega, by omega⟩) rfl ?_
  have h0 : (0 : Int) ≤ (k : Int) := by omega
  have h5 : k < 5 := by omega
  have : ([0, 513, 512, 1, -1] : List Int).getD k 0 = [0, 513, 512, 1, -1][k] := by simp [h5]
  simp only [hk, go_sem, ↓reduceIte, Nat.reduceEqDiff, h0, widthsL, this]
  rcases (by omega : k = 0 ∨ k = 1 ∨ k = 2 ∨ k = 3 ∨ k = 4) with rfl | rfl | rfl | rfl | rfl <;> simp only [go_sem, Nat.reducePow, Nat.reduceLeDiff, ↓reduceIte, reduceCtorEq, Nat.reduceLT, Nat.reduceEqDiff, Nat.reduceAdd, Nat.reduceMul] <;> exact .tree _ rfl

theorem Same_s (A B : List (List Int)) (hA : A.length ≤ 1000000) (hA2 : ∀ x ∈ A, x.length ≤ 1000000) : Ctr Try.prog 17 [vrows A, vrows B] (vb (decide (A = B))) := by
  refine specE f17 (by simp) fun F0 w0 => ?_
  by_cases hl : A.length = B.length
  · have hl' : (A.length : Int) = (B.length : Int) := by omega
    simp only [c17, go_sem, ↓reduceIte, reduceCtorEq, Nat.reduceLT, Nat.reduceEqDiff, hl']
    refine loopE (fun m s => ∃ k : Nat, m = B.length - k ∧ k ≤ B.length ∧ A.take k = B.take k ∧ s = ⟨[(0, vrows A), (1, vrows B), (5, vi k)], []⟩) B.length ⟨[(0, vrows A), (1, vrows B), (5, vi (0 : Nat))], []⟩ (WkE.keep (by simp [go_sem, ↓reduceIte, reduceCtorEq, Nat.reduceEqDiff])) ⟨0, by simp⟩ ?_
    rintro m s ⟨k, rfl, hk, ht, rfl⟩
    by_cases hlt : k < B.length
    · have hltA : k < A.length := by omega
      have h1 : (k : Int) < (A.length : Int) := by omega
      have h0 : (0 : Int) ≤ (k : Int) := by omega
      have hw : IntKind.i64.wrap ((k : Int) + 1) = ((k + 1 : Nat) : Int) := by rw [wrap_id (by omega) (by omega)]; omega
      simp only [go_sem, ↓reduceIte, reduceCtorEq, Nat.reduceLT, Nat.reduceEqDiff, h1, h0, List.getElem?_map, List.getElem?_eq_getElem hlt, List.getElem?_eq_getElem hltA]
      refine callT (SameInts_s A[k] B[k] (by have := hA2 _ (List.getElem_mem hltA); omega)) rfl ?_
      by_cases he : A[k] = B[k]
      · simp only [go_sem, ↓reduceIte, reduceCtorEq, Nat.reduceLT, Nat.reduceEqDiff, he, hw]
        refine ⟨B.length - (k + 1), ⟨[(0, vrows A), (1, vrows B), (5, vi (k + 1 : Nat))], []⟩, by omega, WkE.keep (by simp [go_sem, ↓reduceIte, reduceCtorEq, Nat.reduceEqDiff]), k + 1, rfl, by omega, takeS_eq ht hltA hlt he, rfl⟩
      · simp only [go_sem, ↓reduceIte, Nat.reduceLT, he]
        have : decide (A = B) = false := by rw [decide_eq_false_iff_not]; rintro rfl; exact he rfl
        rw [this]; exact .tree _ rfl
    · have hkB : k = B.length := by omega
      have h1 : ¬ (k : Int) < (A.length : Int) := by omega
      simp only [go_sem, ↓reduceIte, reduceCtorEq, Nat.reduceLT, Nat.reduceEqDiff, h1]
      have : decide (A = B) = true := by
        rw [decide_eq_true_eq]
        rw [hkB, List.take_length, ← hl, List.take_length] at ht
        exact ht
      rw [this]; exact .tree _ rfl
  · have hl' : ¬ (A.length : Int) = (B.length : Int) := by omega
    simp only [c17, go_sem, ↓reduceIte, reduceCtorEq, Nat.reduceLT, Nat.reduceEqDiff, hl']
    have : decide (A = B) = false := by rw [decide_eq_false_iff_not]; rintro rfl; exact hl rfl
    rw [this]; exact .tree _ rfl

theorem SameEnds_s (A B : List (Int × Int)) (hA : A.length ≤ 1000000) : Ctr Try.prog 16 [vpairs A, vpairs B] (vb (decide (A = B))) := by
  refine specE f16 (by simp) fun F0 w0 => ?_
  by_cases hl : A.length = B.length
  · have hl' : (A.length : Int) = (B.length : Int) := by omega
    simp only [c16, go_sem, ↓reduceIte, reduceCtorEq, Nat.reduceLT, Nat.reduceEqDiff, hl']
    refine loopE (fun m s => ∃ k : Nat, m = B.length - k ∧ k ≤ B.length ∧ A.take k = B.take k ∧ s = ⟨[(0, vpairs A), (1, vpairs B), (5, vi k)], []⟩) B.length ⟨[(0, vpairs A), (1, vpairs B), (5, vi (0 : Nat))], []⟩ (WkE.keep (by simp [go_sem, ↓reduceIte, reduceCtorEq, Nat.reduceEqDiff])) ⟨0, by simp⟩ ?_
    rintro m s ⟨k, rfl, hk, ht, rfl⟩
    by_cases hlt : k < B.length
    · have hltA : k < A.length := by omega
      have h1 : (k : Int) < (A.length : Int) := by omega
      have h0 : (0 : Int) ≤ (k : Int) := by omega
      have hw : IntKind.i64.wrap ((k : Int) + 1) = ((k + 1 : Nat) : Int) := by rw [wrap_id (by omega) (by omega)]; omega
      by_cases he : A[k] = B[k]
      · simp only [go_sem, ↓reduceIte, reduceCtorEq, Nat.reduceLT, Nat.reduceEqDiff, Nat.reduceAdd, h1, h0, List.getElem?_map, List.getElem?_eq_getElem hlt, List.getElem?_eq_getElem hltA, he, hw]
        refine ⟨B.length - (k + 1), ⟨[(0, vpairs A), (1, vpairs B), (5, vi (k + 1 : Nat))], []⟩, by omega, WkE.keep (by simp [go_sem, ↓reduceIte, reduceCtorEq, Nat.reduceEqDiff]), k + 1, rfl, by omega, takeS_eq ht hltA hlt he, rfl⟩
      · have he1 : ¬ (A[k].1 = B[k].1 ∧ A[k].2 = B[k].2) := fun h => he (Prod.ext h.1 h.2)
        simp only [go_sem, ↓reduceIte, reduceCtorEq, Nat.reduceLT, Nat.reduceEqDiff, Nat.reduceAdd, List.cons.injEq, h1, h0, List.getElem?_map, List.getElem?_eq_getElem hlt, List.getElem?_eq_getElem hltA, he1]
        have : decide (A = B) = false := by rw [decide_eq_false_iff_not]; rintro rfl; exact he rfl
        rw [this]; exact .tree _ rfl
    · have hkB : k = B.length := by omega
      have h1 : ¬ (k : Int) < (A.length : Int) := by omega
      simp only [go_sem, ↓reduceIte, reduceCtorEq, Nat.reduceLT, Nat.reduceEqDiff, h1]
      have : decide (A = B) = true := by
        rw [decide_eq_true_eq]
        rw [hkB, List.take_length, ← hl, List.take_length] at ht
        exact ht
      rw [this]; exact .tree _ rfl
  · have hl' : ¬ (A.length : Int) = (B.length : Int) := by omega
    simp only [c16, go_sem, ↓reduceIte, reduceCtorEq, Nat.reduceLT, Nat.reduceEqDiff, hl']
    have : decide (A = B) = false := by rw [decide_eq_false_iff_not]; rintro rfl; exact hl rfl
    rw [this]; exact .tree _ rfl
end Go.Proofs.Ytehelanfgepcmaa
set_option linter.unusedSimpArgs false
set_option linter.unusedVariables false
set_option linter.unusedSectionVars false
namespace Dak
open Go Go.RowKit
variable [Globs]
/-- What a contract hands over, as the old readings have it. -/
theorem rd_of_TR {α : Type} (R : Dac.Rdr α) (enc : α → AV) {w : World} {F G : Nat → Prop} (hFG : ∀ b, F b → G b) {v : Value} {xs : List α} (h : TR w F (.list R.size (xs.map enc)) v)
    (hE : ∀ x ∈ xs, ∀ es : List Value, es.length = (enc x).cells.length → (∀ j (h1 : j < (enc x).cells.length) (h2 : j < es.length), TR w F (enc x).cells[j] es[j]) → R.rd w G es x) : R.slice.rd w G [v] xs := by
  generalize hL : AV.list R.size (xs.map enc) = A at h
  cases h with
  | nolist size ad cap hc =>
    injection hL with h1 h2
    obtain rfl : xs = [] := by simpa using h2
    exact ⟨ad, cap, rfl, Nat.zero_le _, hc, fun i hi => absurd hi (by simp)⟩
  | list size ys b o cap us hF hb hn hm hs hc h1 hr =>
    injection hL with e1 e2
    subst e1; subst e2
    simp only [List.length_map] at hn ⊢
    refine ⟨_, cap, rfl, hn, hm, fun i hi => ?_⟩
    have hi' : i < (xs.map enc).length := by simpa using hi
    have hsz := hs i hi'
    have hr' := hr i hi'
    simp only [List.getElem_map] at hsz hr'
    refine ⟨b, o, (List.range R.size).map (us i), rfl, hFG b hF, hb.lt, hE _ (List.getElem_mem hi) _ (by simp [hsz]) fun j h2 h3 => ?_, fun j u hu => ?_⟩
    · simp only [List.getElem_map, List.getElem_range]
      exact hr' j h2
    · rw [List.getElem?_map] at hu
      rcases hj : (List.range R.size)[j]? with _ | k
      · rw [hj] at hu; cases hu
      · rw [hj] at hu
        obtain ⟨h5, h6⟩ := List.getElem?_eq_some_iff.1 hj
        simp only [List.getElem_range] at h6
        simp only [List.length_range] at h5
        subst h6
        simp only [Option.map_some, Option.some.injEq] at hu
        subst hu
        exact hc i j hi' h5
  | _ => cases hL
/-- And back. -/
theorem TR_of_rd {α : Type} (R : Dac.Rdr α) (enc : α → AV) (hsz : 0 < R.size) {w : World} {G : Nat → Prop} {v : Value} {xs : List α} (h : R.slice.rd w G [v] xs)
    (hE : ∀ x ∈ xs, ∀ es : List Value, R.rd w G es x → (enc x).cells.length = R.size ∧ ∀ j (h1 : j < (enc x).cells.length) (h2 : j < es.length), TR w G (enc x).cells[j] es[j]) : TR w G (.list R.size (xs.map enc)) v := by
  obtain ⟨ad, cap, hv, hn, hm, hel⟩ := h
  obtain rfl : v = _ := by simpa using hv
  by_cases h0 : xs = []
  · subst h0; exact .nolist _ _ _ hm
  · have hp : 0 < xs.length := List.length_pos_iff.2 h0
    obtain ⟨b, o, _, rfl, hF, hb, _, _⟩ := hel 0 hp
    have hel' : ∀ i (h : i < xs.length), ∃ es, R.rd w G es xs[i] ∧ ∀ j u, es[j]? = some u → w.cell? ⟨b, o + i * R.size + j, none⟩ = some u := by
      intro i hi
      obtain ⟨b', o', es, e, _, _, h1, h2⟩ := hel i hi
      simp only [Option.some.injEq, Addr.mk.injEq] at e
      obtain ⟨rfl, rfl, _⟩ := e
      exact ⟨es, h1, h2⟩
    let es : Nat → List Value := fun i => if h : i < xs.length then Classical.choose (hel' i h) else []
    have hes : ∀ i (h : i < xs.length), R.rd w G (es i) xs[i] ∧ ∀ j u, (es i)[j]? = some u → w.cell? ⟨b, o + i * R.size + j, none⟩ = some u := by
      intro i hi
      simp only [es, hi, dif_pos]
      exact Classical.choose_spec (hel' i hi)
    have hlen : ∀ i (h : i < xs.length), (es i).length = R.size := fun i hi => R.len (hes i hi).1
    have key : ∀ i j, i < xs.length → (hj : j < R.size) → ∃ u, (es i)[j]? = some u ∧ (es i).getD j undef = u := by
      intro i j hi hj
      have : j < (es i).length := by rw [hlen i hi]; exact hj
      exact ⟨(es i)[j], List.getElem?_eq_getElem this, by rw [List.getD_eq_getElem?_getD, List.getElem?_eq_getElem this]; rfl⟩
    have hbC : isC w b := by
      obtain ⟨u, h1, _⟩ := key 0 0 hp hsz
      exact isC.of_cell ((hes 0 hp).2 0 u h1)
    have := TR.list (w := w) (F := G) R.size (xs.map enc) b o cap (fun i j => (es i).getD j undef) hF hbC (by simpa using hn) hm
      (fun i hi => by
        have hi' : i < xs.length := by simpa using hi
        simp only [List.getElem_map]
        exact (hE _ (List.getElem_mem hi') _ (hes i hi').1).1)
      (fun i j hi hj => by
        have hi' : i < xs.length := by simpa using hi
        obtain ⟨u, h1, h2⟩ := key i j hi' hj
        rw [h2]
        exact (hes i hi').2 j u h1)
      (fun i j hi hj => by
        have hi' : i < xs.length := by simpa using hi
        obtain ⟨u, h1, h2⟩ := key i j hi' hj
        rw [h2]
        exact R.one (hes i hi').1 u (List.mem_of_getElem? h1))
      (fun i hi j hj => by
        have hi' : i < xs.length := by simpa using hi
        simp only [List.getElem_map] at hj ⊢
        have h3 := hE _ (List.getElem_mem hi') _ (hes i hi').1
        obtain ⟨u, h1, h2⟩ := key i j hi' (by rw [← h3.1]; exact hj)
        obtain ⟨h4, h5⟩ := List.getElem?_eq_some_iff.1 h1
        rw [h2, ← h5]
        exact h3.2 j hj h4)
    simpa using this
end Dak
namespace Go.Proofs.Ytehelanfgepcmaa
open Go.RowKit Dak
def I64s (l : List Int) : Prop := ∀ n ∈ l, I64 n
theorem rd_intsG {w : World} {F G : Nat → Prop} (hFG : ∀ b, F b → G b) {v : Value} {l : List Int} (h : TR w F (vints l) v) (hl : I64s l) : Dac.intR.slice.rd w G [v] l := by
  refine rd_of_TR Dac.intR vi hFG h fun x hx es he hr => ?_
  match es, he with
  | [u], _ =>
    have e : u = .int .i64 x := (hr 0 (by simp [AV.cells]) (by simp)).val_inv
    exact ⟨by rw [e], hl x hx⟩
theorem rd_rowsG {w : World} {F G : Nat → Prop} (hFG : ∀ b, F b → G b) {v : Value} {l : List (List Int)} (h : TR w F (vrows l) v) (hl : ∀ r ∈ l, I64s r) : Dac.rowsR.rd w G [v] l := by
  refine rd_of_TR Dac.intR.slice vints hFG h fun x hx es he hr => ?_
  match es, he with
  | [u], _ => exact rd_intsG hFG (hr 0 (by simp [AV.cells]) (by simp)) (hl x hx)
theorem rd_wordsG {w : World} {F G : Nat → Prop} (hFG : ∀ b, F b → G b) {v : Value} {l : List (List (List Int))} (h : TR w F (vwords l) v) (hl : ∀ x ∈ l, ∀ r ∈ x, I64s r) : Dac.wordsR.rd w G [v] l := by
  refine rd_of_TR Dac.rowsR vword hFG h fun x hx es he hr => ?_
  match es, he with
  | [u], _ => exact rd_rowsG hFG (hr 0 (by simp [AV.cells]) (by simp)) (hl x hx)
theorem rd_ints {w : World} {F : Nat → Prop} {v : Value} {l : List Int} (h : TR w F (vints l) v) (hl : I64s l) : Dac.intR.slice.rd w Dac.Any [v] l := rd_intsG (fun _ _ => trivial) h hl
theorem rd_rows {w : World} {F : Nat → Prop} {v : Value} {l : List (List Int)} (h : TR w F (vrows l) v) (hl : ∀ r ∈ l, I64s r) : Dac.rowsR.rd w Dac.Any [v] l := rd_rowsG (fun _ _ => trivial) h hl
theorem rd_words {w : World} {F : Nat → Prop} {v : Value} {l : List (List (List Int))} (h : TR w F (vwords l) v) (hl : ∀ x ∈ l, ∀ r ∈ x, I64s r) : Dac.wordsR.rd w Dac.Any [v] l := rd_wordsG (fun _ _ => trivial) h hl
theorem tr_ints {w : World} {G : Nat → Prop} {v : Value} {l : List Int} (h : Dac.intR.slice.rd w G [v] l) : TR w G (vints l) v := by
  refine TR_of_rd Dac.intR vi (by decide) h fun x hx es he => ⟨rfl, fun j h1 h2 => ?_⟩
  obtain ⟨rfl, _⟩ := he
  match j, h1 with
  | 0, _ => exact .val _
theorem tr_rows {w : World} {G : Nat → Prop} {v : Value} {l : List (List Int)} (h : Dac.rowsR.rd w G [v] l) : TR w G (vrows l) v := by
  refine TR_of_rd Dac.intR.slice vints (by decide) h fun x hx es he => ⟨rfl, fun j h1 h2 => ?_⟩
  have hlen := Dac.intR.slice.len he
  match es, hlen with
  | [u], _ =>
    match j, h1 with
    | 0, _ => exact tr_ints he
theorem tr_pairs {w : World} {G : Nat → Prop} {v : Value} {l : List (Int × Int)} (h : Dac.pairR.slice.rd w G [v] l) : TR w G (vpairs l) v := by
  refine TR_of_rd Dac.pairR vpair (by decide) h fun x hx es he => ⟨rfl, fun j h1 h2 => ?_⟩
  obtain ⟨c1, c2, rfl, ⟨rfl, _⟩, ⟨rfl, _⟩⟩ := he
  match j, h1 with
  | 0, _ => exact .val _
  | 1, _ => exact .val _

/-- The ends of the lines of the best division. -/
def endsGo (X : List (List (List Int))) (width : Int) (K : List (List Int)) : Nat → Place → List Place
  | 0, _ => []
  | n + 1, f => if f = endP X then [] else match pick X width (tOf X K) f with
    | some (_, t) => t :: endsGo X width K n t
    | none => []
theorem endsGo_ok {X : List (List (List Int))} {width : Int} {K : List (List Int)} : ∀ (n : Nat) (f : Place) (r : List Place), IsEnds X width K f r → r.length ≤ n → endsGo X width K n f = r
  | 0, f, [], _, _ => rfl
  | n + 1, f, [], h, _ => by rw [endsGo, if_pos (show f = endP X from h)]
  | n + 1, f, t :: r, ⟨h1, ⟨b, h2⟩, h3⟩, hl => by
    rw [endsGo, if_neg (fun e => by rw [e] at h1; exact absurd h1.1 (by simp)), h2]
    dsimp only
    rw [endsGo_ok n t r h3 (by simpa using hl)]
theorem ends_len {X : List (List (List Int))} {width : Int} {K : List (List Int)} (hV : VW X) (hT : IsTab X width K) : ∀ (r : List Place) (f : Place), IsEnds X width K f r → r.length ≤ rem X f
  | [], f, _ => Nat.zero_le _
  | t :: r, f, ⟨h1, ⟨b, h2⟩, h3⟩ => by
    have h4 := ends_len hV hT r t h3
    obtain ⟨m1, m2, _⟩ := pick_pl hV hT h1 h2
    have := rem_lt hV h1 m1 m2
    simp only [List.length_cons]; omega

/-- What Fill returns: the error, the ends and the table. -/
def fillM (X : List (List (List Int))) (width : Int) : Int × List (Int × Int) × List (List Int) :=
  if validB X width then
    let K := tableL X width
    if 0 < X.length ∧ kAt K (0, 0) < 0 then (14, [], []) else (0, toI (endsGo X width K (rem X (0, 0)) (0, 0)), K)
  else (1, [], [])
abbrev vcert (c : List (Int × Int) × List (List Int)) : AV := .agg [vpairs c.1, vrows c.2]
abbrev fillV (m : Int × List (Int × Int) × List (List Int)) : AV := .tup [vcert m.2, vi m.1]

theorem fill_of {X : List (List (List Int))} {width : Int} {w : World} {F : Nat → Prop} {e : Ending} {w' : World} (h : FillQ X width w e w') : ∃ v, e = .returned v ∧ Ext w w' ∧ TR w' (fun b => F b ∨ (w.heap.size ≤ b)) (fillV (fillM X width)) v := by
  obtain ⟨hx, h⟩ := h
  have nil : ∀ n : Int, TR w' (fun b => F b ∨ (w.heap.size ≤ b)) (fillV (n, [], [])) (.tuple #[nilCert, .int .i64 n]) := by
    intro n
    refine .tup _ _ rfl fun i h1 h2 => ?_
    match i, h1 with
    | 0, _ =>
      refine .agg _ _ rfl (fun i hi => ?_) fun i h1 h2 => ?_
      · match i, hi with
        | 0, _ => rfl
        | 1, _ => rfl
      · match i, h1 with
        | 0, _ => exact .nolist _ _ _ (Nat.zero_le _)
        | 1, _ => exact .nolist _ _ _ (Nat.zero_le _)
    | 1, _ => exact .val _
  rcases h with ⟨hv, rfl⟩ | ⟨hv, K, hT, h⟩
  · refine ⟨_, rfl, hx, ?_⟩
    have : fillM X width = (1, [], []) := by simp [fillM, hv]
    rw [this]; exact nil 1
  · obtain ⟨hV, hw⟩ := validB_VW hv
    obtain rfl : tableL X width = K := (tableL_tab hV hw).uniq hV hT
    rcases h with ⟨h0, h1, rfl⟩ | ⟨ends, ve, vl, hE, rfl, h2, h3⟩
    · refine ⟨_, rfl, hx, ?_⟩
      have : fillM X width = (14, [], []) := by simp [fillM, hv, h0, h1]
      rw [this]; exact nil 14
    · refine ⟨_, rfl, hx, ?_⟩
      have hno : ¬ (0 < X.length ∧ kAt (tableL X width) (0, 0) < 0) := by
        rintro ⟨h4, h5⟩
        match ends, hE with
        | [], h => 
          have : X.length = 0 := (congrArg Prod.fst h).symm
          omega
        | t :: r, ⟨g1, ⟨b, g2⟩, g3⟩ =>
          have g4 := hT.2 _ g1
          rw [g2] at g4
          simp only [encB] at g4
          obtain ⟨q1, q2, c, q3, q4⟩ := pick_mem g2
          obtain ⟨m1, m2, _⟩ := pick_pl hV hT g1 g2
          have := tOf_bd hV hw hT m2 q3
          have := priceL_bd hV hw g1 m1 m2
          omega
      have : fillM X width = (0, toI ends, tableL X width) := by
        rw [fillM, if_pos hv]
        simp only [if_neg hno]
        rw [endsGo_ok _ _ ends hE (ends_len hV hT _ _ hE)]
      rw [this]
      refine .tup _ _ rfl fun i h1 h2' => ?_
      match i, h1 with
      | 0, _ =>
        refine .agg _ _ rfl (fun i hi => ?_) fun i h1 h2' => ?_
        · match i, hi with
          | 0, _ => exact Dac.pairR.slice.one h2 _ (by simp)
          | 1, _ => exact Dac.rowsR.one h3 _ (by simp)
        · match i, h1 with
          | 0, _ => exact (tr_pairs h2).mono fun b hb _ => .inr hb
          | 1, _ => exact (tr_rows h3).mono fun b hb _ => .inr hb
      | 1, _ => exact .val _

def I64w (X : List (List (List Int))) : Prop := ∀ x ∈ X, ∀ r ∈ x, I64s r
theorem Fill_s (X : List (List (List Int))) (width : Int) (hX : I64w X) (hw : I64 width) : Ctr Try.prog 13 [vwords X, vi width] (fillV (fillM X width)) := by
  refine ⟨by kernel_rfl, fun w F vs _ hs hv => ?_⟩
  obtain ⟨l⟩ := vs
  match l, hs with
  | [a, b], _ =>
    have h0 := hv 0 (by simp) (by simp)
    have h1 := (hv 1 (by simp) (by simp)).val_inv
    simp only [List.getElem_cons_zero, List.getElem_cons_succ, List.getElem_toArray] at h0 h1
    rw [h1]
    exact (Fill_ok a X width w (rd_words h0 hX) hw).mono fun e w' h => fill_of h
theorem refFill_s (X : List (List (List Int))) (width : Int) (hX : I64w X) (hw : I64 width) : Ctr Try.prog 15 [vwords X, vi width] (fillV (fillM X width)) := by
  refine ⟨by kernel_rfl, fun w F vs _ hs hv => ?_⟩
  obtain ⟨l⟩ := vs
  match l, hs with
  | [a, b], _ =>
    have h0 := hv 0 (by simp) (by simp)
    have h1 := (hv 1 (by simp) (by simp)).val_inv
    simp only [List.getElem_cons_zero, List.getElem_cons_succ, List.getElem_toArray] at h0 h1
    rw [h1]
    exact (RefFill_ok a X width w (rd_words h0 hX) hw).mono fun e w' h => fill_of h
end Go.Proofs.Ytehelanfgepcmaa
set_option linter.unusedSimpArgs false
set_option linter.unusedVariables false
set_option linter.unusedSectionVars false
namespace Go.Proofs.Ytehelanfgepcmaa
open Go.RowKit Dak
theorem livesA : fillM ([3, 2, 5].map fun n => [[n]]) 6 = (0, [(2, 0), (3, 0)], [[8589934592], [8589934608], [4294967296]]) := by decide +kernel
theorem livesB : fillM ([3, 2, 5].map fun n => [[n]]) 5 = (0, [(1, 0), (2, 0), (3, 0)], [[12884901901], [8589934601], [4294967296]]) := by decide +kernel
theorem livesC : fillM [[[4, 7], [3]]] 5 = (0, [(0, 1), (1, 0)], [[8589934592, 4294967296]]) := by decide +kernel
theorem livesI : I64w ([3, 2, 5].map fun n => [[n]]) := by
  intro x hx r hr n hn
  simp only [List.map_cons, List.map_nil, List.mem_cons, List.not_mem_nil, or_false] at hx
  rcases hx with rfl | rfl | rfl <;> (simp at hr; subst hr; simp at hn; subst hn; unfold I64; omega)
theorem livesJ : I64w [[[4, 7], [3]]] := by
  intro x hx r hr n hn
  simp only [List.mem_cons, List.not_mem_nil, or_false] at hx
  subst hx
  simp at hr
  rcases hr with rfl | rfl <;> (simp at hn; rcases hn with rfl | rfl <;> unfold I64 <;> omega)
set_option maxRecDepth 100000 in
set_option maxHeartbeats 20000000 in
theorem lives_s : Ctr Try.prog 18 [] (vb true) := by
  refine specC f18 (by simp) fun F0 w0 => ?_
  have i5 : I64 5 := ⟨by omega, by omega⟩
  have i6 : I64 6 := ⟨by omega, by omega⟩
  have hA := Fill_s _ 6 livesI i6
  have hB := Fill_s _ 5 livesI i5
  have hC := Fill_s _ 5 livesJ i5
  rw [livesA] at hA
  rw [livesB] at hB
  rw [livesC] at hC
  have z0 : (0 : Int) ≤ 0 := by omega
  have z1 : (0 : Int) ≤ 1 := by omega
  have c1 : ((1 : Nat) : Int) = 1 := rfl
  have c2 : ((2 : Nat) : Int) = 2 := rfl
  have c3 : ((3 : Nat) : Int) = 3 := rfl
  have y1 : (0 : Int) < 1 := by omega
  have y2 : (0 : Int) < 3 := by omega
  have y3 : (0 : Int) < 2 := by omega
  have y4 : (1 : Int) < 2 := by omega
  unfold c18
  refine CwpE.step (fun s => s = ⟨[], []⟩) ?_ ?_
  · simp only [go_sem, ↓reduceIte]
    exact ⟨_, WkE.keep (by simp only [go_sem]), rfl⟩
  rintro s rfl
  refine CwpE.step (fun s => s = ⟨[(1, vwords ([3, 2, 5].map fun n => [[n]]))], []⟩) ?_ ?_
  · simp only [go_sem, Nat.reducePow, Nat.reduceLeDiff, ↓reduceIte, reduceCtorEq, Nat.reduceLT, Nat.reduceAdd, Nat.reduceMul]
    refine callT (simple_s [3, 2, 5] (by simp)) rfl ?_
    simp only [go_sem, ↓reduceIte, Nat.reduceLT]
    exact ⟨_, WkE.keep (by simp only [go_sem, ↓reduceIte]), rfl⟩
  rintro s rfl
  refine CwpE.step (fun s => s = ⟨[(1, vwords ([3, 2, 5].map fun n => [[n]])), (2, .ref 0 1 0 0), (3, vi 0)], [.arr 1 2 30 [vcert ([(2, 0), (3, 0)], [[8589934592], [8589934608], [4294967296]])]]⟩) ?_ ?_
  · simp only [go_sem, ↓reduceIte, Nat.reduceLT]
    refine callT hA rfl ?_
    simp only [go_sem, ↓reduceIte, Nat.reduceLT, Nat.reduceEqDiff, Nat.reduceAdd]
    exact ⟨_, WkE.keep (by simp only [go_sem, ↓reduceIte, Nat.reduceEqDiff]), rfl⟩
  rintro s rfl
  refine CwpE.step (fun s => s = ⟨[(2, .ref 0 1 0 0), (3, vi 0), (4, .ref 1 1 0 0), (5, vi 0)], [.arr 1 2 30 [vcert ([(2, 0), (3, 0)], [[8589934592], [8589934608], [4294967296]])], .arr 1 2 30 [vcert ([(1, 0), (2, 0), (3, 0)], [[12884901901], [8589934601], [4294967296]])]]⟩) ?_ ?_
  · simp only [go_sem, ↓reduceIte, Nat.reduceLT]
    refine callT hB rfl ?_
    simp only [go_sem, ↓reduceIte, Nat.reduceLT, Nat.reduceEqDiff, Nat.reduceAdd]
    exact ⟨_, WkE.keep (by simp only [go_sem, ↓reduceIte, Nat.reduceEqDiff]), rfl⟩
  rintro s rfl
  refine CwpE.step (fun s => s = ⟨[(2, .ref 0 1 0 0), (3, vi 0), (4, .ref 1 1 0 0), (5, vi 0), (6, .ref 2 1 0 0), (7, vi 0)], [.arr 1 2 30 [vcert ([(2, 0), (3, 0)], [[8589934592], [8589934608], [4294967296]])], .arr 1 2 30 [vcert ([(1, 0), (2, 0), (3, 0)], [[12884901901], [8589934601], [4294967296]])], .arr 1 2 30 [vcert ([(0, 1), (1, 0)], [[8589934592, 4294967296]])]]⟩) ?_ ?_
  · simp only [go_sem, Nat.reducePow, Nat.reduceLeDiff, ↓reduceIte, reduceCtorEq, Nat.reduceLT, Nat.reduceEqDiff, Nat.reduceAdd, Nat.reduceMul]
    refine callT hC rfl ?_
    simp only [go_sem, ↓reduceIte, Nat.reduceLT, Nat.reduceEqDiff, Nat.reduceAdd]
    exact ⟨_, WkE.keep (by simp only [go_sem, ↓reduceIte, Nat.reduceEqDiff]), rfl⟩
  rintro s rfl
  refine CwpE.step (fun s => s = ⟨[(2, .ref 0 1 0 0), (3, vi 0), (4, .ref 1 1 0 0), (5, vi 0), (6, .ref 2 1 0 0), (7, vi 0)], [.arr 1 2 30 [vcert ([(2, 0), (3, 0)], [[8589934592], [8589934608], [4294967296]])], .arr 1 2 30 [vcert ([(1, 0), (2, 0), (3, 0)], [[12884901901], [8589934601], [4294967296]])], .arr 1 2 30 [vcert ([(0, 1), (1, 0)], [[8589934592, 4294967296]])]]⟩) ?_ ?_
  · simp only [go_sem, ↓reduceIte, Nat.reduceLT, Nat.reduceEqDiff, Nat.reduceAdd, Int.reduceToNat, c1, c2, c3, z0]
    exact ⟨_, WkE.keep (by simp only [go_sem, ↓reduceIte, Nat.reduceEqDiff]), rfl⟩
  rintro s rfl
  refine CwpE.vc ?_
  simp only [go_sem, Nat.reduceLeDiff, ↓reduceIte, Nat.reduceLT, Nat.reduceEqDiff, Nat.reduceAdd, Int.reduceToNat, z0, z1]
  exact .tree _ rfl
end Go.Proofs.Ytehelanfgepcmaa
set_option linter.unusedSimpArgs false
set_option linter.unusedVariables false
set_option linter.unusedSectionVars false
namespace Go.Proofs.Ytehelanfgepcmaa
open Go.RowKit Dak
/-- One word with one thing changed. -/
def spoilW (x : List (List Int)) (how by_ : Int) : List (List Int) :=
  if aroundL how 4 = 0 then x.take (x.length - 1)
  else if aroundL how 4 = 1 then x ++ [[by_]]
  else if aroundL how 4 = 2 then x.set 0 ((x.getD 0 []).set 0 (([-1, 4096, 4097, by_] : List Int).getD (aroundL by_ 4).toNat 0))
  else x.set 0 (x.getD 0 [] ++ [1])
/-- dactylref11.Spoilt -/
def spoiltL (X : List (List (List Int))) (at_ how by_ : Int) : List (List (List Int)) :=
  if X = [] then [[]] else let i := (aroundL at_ X.length).toNat; X.set i (spoilW (X.getD i []) how by_)

set_option maxRecDepth 100000 in
theorem Spoilt_nil (at_ how by_ : Int) : Ctr Try.prog 11 [vwords [], vi at_, vi how, vi by_] (vwords [[]]) := by
  refine specE f11 (by simp) fun F0 w0 => ?_
  have c0 : ((0 : Nat) : Int) = 0 := rfl
  simp only [c11, go_sem, Nat.reducePow, Nat.reduceLeDiff, ↓reduceIte, reduceCtorEq, Nat.reduceLT, Nat.reduceEqDiff, Nat.reduceAdd, Nat.reduceMul, c0]
  refine .own 0 1 0 1 1 47 _ _ rfl (by simp) (by simp) fun i hi => ?_
  match i, hi with
  | 0, _ =>
    refine .agg _ _ rfl fun j h1 h2 => ?_
    match j, h1 with
    | 0, _ => exact .nil _


theorem spoil_snap {objs : List AObj} {X : List (List (List Int))} {i : Nat} {A : AV} {W : List (List Int)} (ho : objs[0]? = some (.arr X.length 1 47 ((X.map vword).set i (.agg [A])))) (hA : Snap objs A (vrows W)) :
    Snap objs (.own 0 X.length 0 X.length) (vwords (X.set i W)) := by
  refine .own 0 _ 0 _ 1 47 _ _ ho (by simp) (by simp) fun j hj => ?_
  simp only [Nat.zero_add, List.getElem_map]
  rw [List.getElem_set, List.getElem_set]
  by_cases e : i = j
  · rw [if_pos e, if_pos e]
    refine .agg _ _ rfl fun k h1 h2 => ?_
    match k, h1 with
    | 0, _ => exact hA
  · rw [if_neg e, if_neg e, List.getElem_map]
    exact .tree _ rfl
theorem rows_snap {objs : List AObj} {g L : Nat} {A0 : AV} {a : List Int} {tl : List AV} {l : List (List Int)} (ho : objs[1]? = some (.arr g 1 22 (A0 :: tl))) (hl : l.map vints <+: tl) (hL : L = l.length + 1) (h0 : Snap objs A0 (vints a)) :
    Snap objs (.own 1 g 0 L) (vrows (a :: l)) := by
  obtain ⟨r, rfl⟩ := hl
  subst hL
  refine .own 1 g 0 _ 1 22 _ _ ho (by simp) (by simp) fun j hj => ?_
  match j, hj with
  | 0, _ => exact h0
  | j + 1, hj =>
    simp only [List.map_cons, List.length_cons, List.length_map] at hj
    have : j < l.length := by omega
    simp only [Nat.zero_add, List.map_cons, List.getElem_cons_succ]
    rw [List.getElem_append_left (by simpa using this)]
    simp only [List.getElem_map]
    exact .tree _ rfl
theorem row_snap {objs : List AObj} {l : List Int} {e : TypeId} (ho : objs[2]? = some (.arr l.length 1 e (l.map vi))) (hem : e < mapT := by decide) : Snap objs (.own 2 l.length 0 l.length) (vints l) := by
  refine .own 2 _ 0 _ 1 e _ _ ho (by simp) (by simp) (fun j hj => ?_) hem
  simp only [Nat.zero_add]
  simp only [List.getElem_map]
  exact .tree _ rfl

set_option maxRecDepth 100000 in
set_option maxHeartbeats 2000000 in
theorem Spoilt_s (X : List (List (List Int))) (at_ how by_ : Int) (hX : 0 < X.length) (hX2 : X.length ≤ 1000)
    (hw : ∀ x ∈ X, 1 ≤ x.length ∧ x.length ≤ 1000 ∧ (∀ r ∈ x, r.length ≤ 1000) ∧ 1 ≤ (x.getD 0 []).length) (h1 : I64 at_) (h2 : I64 how) (h3 : I64 by_) :
    Ctr Try.prog 11 [vwords X, vi at_, vi how, vi by_] (vwords (spoiltL X at_ how by_)) := by
  refine specE f11 (by simp) fun F0 w0 => ?_
  have hne : ¬ (X.length : Int) = 0 := by omega
  have hb : X.length * 24 ≤ 140737488355328 := by omega
  have hor : (0 = 0 ∨ 0 < X.length) := .inl rfl
  simp only [c11, go_sem, Nat.reducePow, Nat.reduceLeDiff, ↓reduceIte, reduceCtorEq, Nat.reduceLT, Nat.reduceEqDiff, Nat.reduceAdd, Nat.reduceMul, hne, hb]
  refine callT (Around_s at_ X.length h1 ⟨by omega, by omega⟩) rfl ?_
  have hbd := aroundL_bd at_ X.length (by omega)
  obtain ⟨i, hi⟩ : ∃ i : Nat, aroundL at_ X.length = i := ⟨(aroundL at_ X.length).toNat, by omega⟩
  have hsp : spoiltL X at_ how by_ = X.set i (spoilW (X.getD i []) how by_) := by
    rw [spoiltL, if_neg (by rintro rfl; simp at hX), hi]; rfl
  rw [hi] at hbd ⊢
  have hiX : i < X.length := by omega
  have hg : X.getD i [] = X[i] := by simp [hiX]
  rw [hsp, hg]
  obtain ⟨w1, w2, w3, w4⟩ := hw _ (List.getElem_mem hiX)
  generalize hx : X[i] = x at *
  obtain ⟨r0, rest, rfl⟩ := List.exists_cons_of_length_pos (show 0 < x.length by omega)
  have w5 : 1 ≤ r0.length := by simpa using w4
  have w6 : r0.length ≤ 1000 := w3 r0 (by simp)
  have w7 : ∀ r ∈ rest, r.length ≤ 1000 := fun r hr => w3 r (by simp [hr])
  have w8 : rest.length + 1 ≤ 1000 := by simpa using w2
  have e0 : (0 : Int) ≤ (i : Int) := by omega
  have e1 : (i : Int) < (X.length : Int) := by omega
  simp only [go_sem, ↓reduceIte, Nat.reduceLT]
  refine loopX 0 (fun m s => ∃ k, m = rest.length + 1 - k ∧ k ≤ rest.length + 1 ∧ (k = 0 ∧ s = ⟨[(2, vi how), (3, vi by_), (9, ownV 0 X.length), (10, vi i), (11, ownV 1 0), (12, vi 0)], [.arr X.length 1 47 (X.map vword), .arr 0 1 22 []]⟩ ∨
      ∃ q, k = q + 1 ∧ s = ⟨[(2, vi how), (3, vi by_), (9, ownV 0 X.length), (10, vi i), (11, ownV 1 (q + 1)), (12, vi (q + 1 : Nat))], [.arr X.length 1 47 (X.map vword), .arr (q + 1) 1 22 (ownV 2 r0.length :: (rest.take q).map vints), .arr r0.length 1 3 (r0.map vi)]⟩))
    (fun s => s = ⟨[(2, vi how), (3, vi by_), (9, ownV 0 X.length), (10, vi i), (11, ownV 1 (rest.length + 1))], [.arr X.length 1 47 (X.map vword), .arr (rest.length + 1) 1 22 (ownV 2 r0.length :: rest.map vints), .arr r0.length 1 3 (r0.map vi)]⟩) (rest.length + 1)
    ⟨[(2, vi how), (3, vi by_), (9, ownV 0 X.length), (10, vi i), (11, ownV 1 0), (12, vi 0)], [.arr X.length 1 47 (X.map vword), .arr 0 1 22 []]⟩
    ((WkE.nil 11 1 22 (by omega) rfl).trans (WkE.keep (by simp only [go_sem, ↓reduceIte, reduceCtorEq, Nat.reduceEqDiff]))) ⟨0, by simp, by simp, .inl ⟨rfl, rfl⟩⟩ ?_ ?_
  rotate_left
  · rintro s rfl
    simp only [go_sem, ↓reduceIte, Nat.reduceLT]
    refine callT (Around_s how 4 h2 ⟨by omega, by omega⟩) rfl ?_
    have hj := aroundL_bd how 4 (by omega)
    have z0 : (0 : Int) ≤ 0 := by omega
    have z1 : (0 : Int) < ((rest.length + 1 : Nat) : Int) := by omega
    by_cases j0 : aroundL how 4 = 0
    · have f1 : IntKind.i64.wrap (((rest.length + 1 : Nat) : Int) - 1) = (rest.length : Int) := by rw [wrap_id (by omega) (by omega)]; omega
      have f2 : (rest.length : Int) ≤ ((rest.length + 1 : Nat) : Int) := by omega
      have f3 : (0 : Int) ≤ (rest.length : Int) := by omega
      simp only [go_sem, ↓reduceIte, Nat.reduceLT, Nat.reduceEqDiff, j0, f1, f2, f3, e0, e1, List.getElem?_map, List.getElem?_eq_getElem hiX, hx]
      have hW : spoilW (r0 :: rest) how by_ = (r0 :: rest).take rest.length := by rw [spoilW, if_pos j0]; simp
      rw [hW]
      refine spoil_snap rfl ?_
      cases rest with
      | nil => exact .own 1 _ 0 0 1 22 _ _ rfl (by simp) (by simp) fun i hi => absurd hi (by simp)
      | cons r1 rest =>
        refine rows_snap rfl ?_ (by simp) (row_snap rfl)
        exact ((List.take_prefix _ _).map _)
    · by_cases j1 : aroundL how 4 = 1
      · have f1 : (rest.length + 1 + 1) * 24 ≤ 140737488355328 := by omega
        simp only [go_sem, Nat.reducePow, Nat.reduceLeDiff, ↓reduceIte, Nat.reduceLT, Nat.reduceEqDiff, Nat.reduceAdd, Nat.reduceMul, j1, f1, e0, e1, Int.reduceEq, List.getElem?_map, List.getElem?_eq_getElem hiX, hx]
        have hW : spoilW (r0 :: rest) how by_ = r0 :: (rest ++ [[by_]]) := by rw [spoilW, if_neg j0, if_pos j1]; rfl
        rw [hW]
        refine spoil_snap rfl ?_
        refine rows_snap rfl ?_ (by simp) (row_snap rfl)
        simp
      · by_cases j2 : aroundL how 4 = 2
        · have hW : spoilW (r0 :: rest) how by_ = (r0.set 0 (([-1, 4096, 4097, by_] : List Int).getD (aroundL by_ 4).toNat 0)) :: rest := by rw [spoilW, if_neg j0, if_neg j1, if_pos j2]; rfl
          rw [hW]
          simp only [go_sem, Nat.reducePow, Nat.reduceLeDiff, ↓reduceIte, reduceCtorEq, Nat.reduceLT, Nat.reduceEqDiff, Nat.reduceAdd, Nat.reduceMul, Int.reduceToNat, j2, z0, z1, Int.reduceEq]
          refine callT (Around_s by_ 4 h3 ⟨by omega, by omega⟩) rfl ?_
          have hj4 := aroundL_bd by_ 4 (by omega)
          obtain ⟨a0, r0', rfl⟩ := List.exists_cons_of_length_pos w5
          have fin : ∀ v : Int, Snap [.arr X.length 1 47 ((X.map vword).set i (.agg [ownV 1 (rest.length + 1)])), .arr (rest.length + 1) 1 22 (ownV 2 (a0 :: r0').length :: rest.map vints), .arr (a0 :: r0').length 1 3 (((a0 :: r0').map vi).set 0 (vi v))] (.own 0 X.length 0 X.length) (vwords (X.set i ((a0 :: r0').set 0 v :: rest))) := by
            intro v
            refine spoil_snap rfl ?_
            refine rows_snap rfl (List.prefix_refl _) (by simp) ?_
            have : ((a0 :: r0').map vi).set 0 (vi v) = ((a0 :: r0').set 0 v).map vi := by simp
            rw [this]
            exact row_snap (e := 3) (l := (a0 :: r0').set 0 v) (by simp)
          have z3 : (0 : Int) ≤ 1 := by omega
          have z4 : (0 : Int) ≤ 2 := by omega
          have z5 : (0 : Int) ≤ 3 := by omega
          have z6 : (0 : Int) < ((r0'.length + 1 : Nat) : Int) := by omega
          rcases (by omega : aroundL by_ 4 = 0 ∨ aroundL by_ 4 = 1 ∨ aroundL by_ 4 = 2 ∨ aroundL by_ 4 = 3) with g | g | g | g
          · simp only [go_sem, ↓reduceIte, Nat.reduceLT, Nat.reduceEqDiff, Int.reduceToNat, g, z0, z6, e0, e1, List.getElem?_map, List.getElem?_eq_getElem hiX, hx]
            exact fin (-1)
          · simp only [go_sem, ↓reduceIte, Nat.reduceLT, Nat.reduceEqDiff, Int.reduceToNat, g, z0, z3, z6, e0, e1, List.getElem?_map, List.getElem?_eq_getElem hiX, hx]
            exact fin 4096
          · simp only [go_sem, ↓reduceIte, Nat.reduceLT, Nat.reduceEqDiff, Int.reduceToNat, g, z0, z4, z6, e0, e1, List.getElem?_map, List.getElem?_eq_getElem hiX, hx]
            exact fin 4097
          · simp only [go_sem, ↓reduceIte, Nat.reduceLT, Nat.reduceEqDiff, Int.reduceToNat, g, z0, z5, z6, e0, e1, List.getElem?_map, List.getElem?_eq_getElem hiX, hx]
            exact fin by_
        · have f1 : (r0.length + 1) * 8 ≤ 140737488355328 := by omega
          simp only [go_sem, Nat.reducePow, Nat.reduceLeDiff, ↓reduceIte, Nat.reduceLT, Nat.reduceEqDiff, Nat.reduceAdd, Nat.reduceMul, Int.reduceToNat, j0, j1, j2, f1, z0, z1, e0, e1, List.getElem?_map, List.getElem?_eq_getElem hiX, hx]
          have hW : spoilW (r0 :: rest) how by_ = (r0 ++ [1]) :: rest := by rw [spoilW, if_neg j0, if_neg j1, if_neg j2]; rfl
          rw [hW]
          refine spoil_snap rfl ?_
          refine rows_snap rfl (List.prefix_refl _) (by simp) ?_
          have := row_snap (objs := [.arr X.length 1 47 ((X.map vword).set i (.agg [ownV 1 (rest.length + 1)])), .arr (rest.length + 1) 1 22 (.own 2 (r0.length + 1) 0 (r0.length + 1) :: rest.map vints), .arr (r0 ++ [1]).length 1 3 ((r0 ++ [1]).map vi)]) (l := r0 ++ [1]) (e := 3) rfl
          simpa using this
  rintro m s ⟨k, rfl, hk, ⟨rfl, rfl⟩ | ⟨q, rfl, rfl⟩⟩
  · have e2 : (0 : Int) < ((rest.length + 1 : Nat) : Int) := by omega
    have e3 : (0 : Int) ≤ 0 := by omega
    have e4 : r0.length * 8 ≤ 140737488355328 := by omega
    have e5 : IntKind.i64.wrap (0 + 1) = 1 := rfl
    simp only [go_sem, Nat.reducePow, Nat.reduceLeDiff, ↓reduceIte, Nat.reduceLT, Nat.reduceEqDiff, Nat.reduceAdd, Nat.reduceMul, Int.reduceToNat, e0, e1, e2, e3, e4, e5, List.getElem?_map, List.getElem?_eq_getElem hiX, hx]
    have c1 : ((1 : Nat) : Int) = 1 := rfl
    refine ⟨rest.length, ⟨[(2, vi how), (3, vi by_), (9, ownV 0 X.length), (10, vi i), (11, ownV 1 (0 + 1)), (12, vi (0 + 1 : Nat))], [.arr X.length 1 47 (X.map vword), .arr (0 + 1) 1 22 (ownV 2 r0.length :: (rest.take 0).map vints), .arr r0.length 1 3 (r0.map vi)]⟩, by omega, ?_, 1, by omega, by omega, .inr ⟨0, rfl, rfl⟩⟩
    exact WkE.round (by simp only [go_sem, ↓reduceIte, Nat.reduceEqDiff, c1]) (by simp [AV.inn, AV.inn1]) (by simp [AObj.innO, AV.inn, AV.inn1, List.all_map]) (by simp)
  · by_cases hq : q < rest.length
    · have e2 : ((q + 1 : Nat) : Int) < ((rest.length + 1 : Nat) : Int) := by omega
      have e3 : (0 : Int) ≤ ((q + 1 : Nat) : Int) := by omega
      have e4 : rest[q].length * 8 ≤ 140737488355328 := by have := w7 _ (List.getElem_mem hq); omega
      have e5 : IntKind.i64.wrap (((q + 1 : Nat) : Int) + 1) = ((q + 1 + 1 : Nat) : Int) := by rw [wrap_id (by omega) (by omega)]; omega
      have hm : min q rest.length = q := by omega
      have e6 : (q + 1 + 1) * 24 ≤ 140737488355328 := by omega
      simp only [go_sem, Nat.reducePow, Nat.reduceLeDiff, ↓reduceIte, Nat.reduceLT, Nat.reduceEqDiff, Nat.reduceAdd, Nat.reduceMul, e0, e1, e2, e3, e4, e5, e6, hm, List.length_take, List.getElem?_map, List.getElem?_eq_getElem hiX, hx, List.getElem?_eq_getElem hq]
      refine ⟨rest.length - (q + 1), ⟨[(2, vi how), (3, vi by_), (9, ownV 0 X.length), (10, vi i), (11, ownV 1 (q + 1 + 1)), (12, vi (q + 1 + 1 : Nat))], [.arr X.length 1 47 (X.map vword), .arr (q + 1 + 1) 1 22 (ownV 2 r0.length :: (rest.take (q + 1)).map vints), .arr r0.length 1 3 (r0.map vi)]⟩, by omega, ?_, q + 1 + 1, by omega, by omega, .inr ⟨q + 1, rfl, rfl⟩⟩
      refine WkE.trans (WkE.freezeCell 1 (q + 1 + 1) 1 (q + 1) 0 3 rest[q].length 0 rest[q].length 1 22 3 _ _ (.own 3 rest[q].length 0 rest[q].length) rfl (by simp [hm]) rfl rfl (by omega) (by simp) (by simp [List.all_map, AV.isT, AV.isT1])) ?_
      refine WkE.round (by simp only [go_sem, ↓reduceIte, Nat.reduceEqDiff]) (by simp [AV.inn, AV.inn1]) (by
        simp [AObj.innO, AV.inn, AV.inn1, List.all_map]
        intro y hy
        obtain ⟨r, _, rfl⟩ := List.mem_map.1 (List.mem_of_mem_take hy)
        rfl) ?_
      simp [recell, AV.cells, hm]
      rw [List.take_succ_eq_append_getElem (show q < (rest.map vints).length by simpa using hq)]
      simp
      exact List.take_of_length_le (by simp)
    · have e : q = rest.length := by omega
      subst e
      have e2 : ¬ ((rest.length + 1 : Nat) : Int) < ((rest.length + 1 : Nat) : Int) := by omega
      simp only [go_sem, ↓reduceIte, Nat.reduceLT, Nat.reduceEqDiff, e0, e1, e2, List.getElem?_map, List.getElem?_eq_getElem hiX, hx]
      exact ⟨_, WkE.keep (by simp only [go_sem, ↓reduceIte, Nat.reduceEqDiff]), rfl⟩
end Go.Proofs.Ytehelanfgepcmaa
set_option linter.unusedSimpArgs false
set_option linter.unusedVariables false
set_option linter.unusedSectionVars false
namespace Go.Proofs.Ytehelanfgepcmaa
open Go.RowKit Dak
theorem rowGo_len (l : List Int) (w : Nat) : ∀ (d k : Nat) (s : Int), (rowGo l w d k s).length = d
  | 0, _, _ => rfl
  | d + 1, k, s => by rw [rowGo]; simp [rowGo_len l w d]
theorem rowGo_bd (l : List Int) (w : Nat) : ∀ (d k : Nat) (s : Int), 0 ≤ s → ∀ n ∈ rowGo l w d k s, 0 ≤ n ∧ n ≤ 6 + s + 5 * d
  | 0, _, _, _, n, hn => by cases hn
  | d + 1, k, s, hs, n, hn => by
    have a1 := atL_bd l (4 + 4 * w + k) 6 (by omega)
    have a2 := atL_bd l (2 + 4 * w + k) 4 (by omega)
    rw [rowGo] at hn
    generalize hs' : (if atL l (3 + 4 * w) 7 = 0 then atL l (4 + 4 * w + k) 6 else s + 1 + atL l (2 + 4 * w + k) 4) = s' at hn
    have h1 : 0 ≤ s' ∧ s' ≤ s + 5 := by
      rw [← hs']; split <;> omega
    rcases List.mem_cons.1 hn with rfl | h
    · omega
    · have := rowGo_bd l w d (k + 1) s' h1.1 n h
      omega
/-- A word of the generator. -/
structure GenW (x : List (List Int)) : Prop where
  pos : 1 ≤ x.length
  le : x.length ≤ 3
  row : ∀ r ∈ x, r.length ≤ 3
  num : ∀ r ∈ x, ∀ n ∈ r, 0 ≤ n ∧ n ≤ 100
  fst : 1 ≤ (x.getD 0 []).length
theorem wordL_ok (l : List Int) (w : Nat) : GenW (wordL l w) := by
  have hp := pieces_bd l w
  refine ⟨by simp [wordL]; omega, by simp [wordL]; omega, fun r hr => ?_, fun r hr n hn => ?_, ?_⟩
  · obtain ⟨i, hi, rfl⟩ := List.mem_map.1 hr
    rw [rowGo_len]; omega
  · obtain ⟨i, hi, rfl⟩ := List.mem_map.1 hr
    have := rowGo_bd l w _ i 0 (by omega) n hn
    omega
  · have h0 : 0 < (wordL l w).length := by simp [wordL]; omega
    rw [List.getD_eq_getElem?_getD, List.getElem?_eq_getElem h0]
    simp [wordL, rowGo_len]; omega
theorem wordsL_ok (l : List Int) (most : Int) (h : 0 ≤ most) : ((wordsL l most).length : Int) ≤ most ∧ ∀ x ∈ wordsL l most, GenW x := by
  have := atL_bd l 0 (most + 1) (by omega)
  refine ⟨by simp [wordsL]; omega, fun x hx => ?_⟩
  obtain ⟨i, hi, rfl⟩ := List.mem_map.1 hx
  exact wordL_ok l i
theorem GenW.I64 {x : List (List Int)} (h : GenW x) : ∀ r ∈ x, I64s r := fun r hr n hn => by have := h.num r hr n hn; unfold Ytehelanfgepcmaa.I64; omega
theorem wordsL_I64 (l : List Int) (most : Int) (h : 0 ≤ most) : I64w (wordsL l most) := fun x hx => ((wordsL_ok l most h).2 x hx).I64
theorem endsGo_len (X : List (List (List Int))) (width : Int) (K : List (List Int)) : ∀ (n : Nat) (f : Place), (endsGo X width K n f).length ≤ n
  | 0, _ => Nat.le_refl _
  | n + 1, f => by
    rw [endsGo]
    split
    · simp
    · split
      · have := endsGo_len X width K n
        simp only [List.length_cons]; exact Nat.succ_le_succ (this _)
      · simp
theorem fillM_len (X : List (List (List Int))) (width : Int) : (fillM X width).2.1.length ≤ 1000000 ∧ (fillM X width).2.2.length ≤ 1000000 ∧ ∀ x ∈ (fillM X width).2.2, x.length ≤ 1000000 := by
  unfold fillM
  by_cases hv : validB X width = true
  · rw [if_pos hv]
    obtain ⟨hV, hw⟩ := validB_VW hv
    have hT := (tableL_tab (width := width) hV hw).1
    dsimp only
    split
    · simp
    · refine ⟨?_, ?_, ?_⟩
      · have h1 := endsGo_len X width (tableL X width) (rem X (0, 0)) (0, 0)
        have h2 := rem_le hV (0, 0)
        simp only [toI, List.length_map]; omega
      · have := hT.1; have := hV.1
        show (tableL X width).length ≤ _
        omega
      · intro x hx
        have hx' : x ∈ tableL X width := hx
        obtain ⟨p, hp, rfl⟩ := List.getElem_of_mem hx'
        have h1 := hT.1
        have h2 := hT.2 p (by omega) hp
        have h3 := (hV.2 p (by omega)).2.1
        omega
  · rw [if_neg hv]; simp
end Go.Proofs.Ytehelanfgepcmaa
set_option linter.unusedSimpArgs false
set_option linter.unusedVariables false
set_option linter.unusedSectionVars false
namespace Go.Proofs.Ytehelanfgepcmaa
open Go.RowKit Dak
theorem getD0_I64 {x : List (List Int)} (hx : ∀ r ∈ x, I64s r) : I64s (x.getD 0 []) := by
  intro n hn
  cases x with
  | nil => cases hn
  | cons a l => exact hx a (by simp) n hn
theorem spoilW_I64 {x : List (List Int)} (how by_ : Int) (hx : ∀ r ∈ x, I64s r) (hb : I64 by_) : ∀ r ∈ spoilW x how by_, I64s r := by
  intro r hr
  unfold spoilW at hr
  have h4 := aroundL_bd by_ 4 (by omega)
  split at hr
  · exact hx r (List.mem_of_mem_take hr)
  · split at hr
    · rcases List.mem_append.1 hr with h | h
      · exact hx r h
      · intro n hn
        rw [List.mem_singleton.1 h] at hn
        rw [List.mem_singleton.1 hn]; exact hb
    · split at hr
      · rcases List.mem_or_eq_of_mem_set hr with h | rfl
        · exact hx r h
        · intro n hn
          rcases List.mem_or_eq_of_mem_set hn with h | rfl
          · exact getD0_I64 hx n h
          · rcases (by omega : aroundL by_ 4 = 0 ∨ aroundL by_ 4 = 1 ∨ aroundL by_ 4 = 2 ∨ aroundL by_ 4 = 3) with g | g | g | g <;> rw [g]
            · exact (show I64 (-1) from ⟨by decide, by decide⟩)
            · exact (show I64 4096 from ⟨by decide, by decide⟩)
            · exact (show I64 4097 from ⟨by decide, by decide⟩)
            · exact hb
      · rcases List.mem_or_eq_of_mem_set hr with h | rfl
        · exact hx r h
        · intro n hn
          rcases List.mem_append.1 hn with h | h
          · exact getD0_I64 hx n h
          · rw [List.mem_singleton.1 h]; exact ⟨by decide, by decide⟩
theorem spoiltL_I64 {X : List (List (List Int))} (at_ how by_ : Int) (hX : I64w X) (hb : I64 by_) : I64w (spoiltL X at_ how by_) := by
  unfold spoiltL
  split
  · intro x hx r hr
    rw [List.mem_singleton.1 hx] at hr; cases hr
  · intro x hx
    rcases List.mem_or_eq_of_mem_set hx with h | rfl
    · exact hX x h
    · refine spoilW_I64 how by_ ?_ hb
      intro r hr
      rw [List.getD_eq_getElem?_getD] at hr
      cases h : X[(aroundL at_ X.length).toNat]? with
      | none => rw [h] at hr; cases hr
      | some y => rw [h] at hr; exact hX y (List.mem_of_getElem? h) r hr
theorem spoiltL_len (X : List (List (List Int))) (at_ how by_ : Int) (h : X.length ≤ 1000) : (spoiltL X at_ how by_).length ≤ 1000 := by
  unfold spoiltL
  split
  · simp
  · simpa using h
end Go.Proofs.Ytehelanfgepcmaa
set_option linter.unusedSimpArgs false
set_option linter.unusedVariables false
set_option linter.unusedSectionVars false
namespace Go.Proofs.Ytehelanfgepcmaa
open Go.RowKit
abbrev Words3 := List (List (List Int))
theorem next_le {X : Words3} {p t : Place} (hp : Pl X p) (hl : Lt p t) (ht : En X t) : t = next X p ∨ Lt (next X p) t := by
  obtain ⟨p, i⟩ := p
  obtain ⟨q, j⟩ := t
  obtain ⟨h1, h2⟩ := hp
  dsimp only at h1 h2
  have hgd : X.getD p [] = X[p] := by simp [h1]
  simp only [next, hgd]
  split
  · rename_i h
    rcases hl with h3 | ⟨h3, h4⟩
    · exact .inr (.inl h3)
    · dsimp only at h3 h4
      subst h3
      by_cases e : j = i + 1
      · exact .inl (by rw [e])
      · exact .inr (.inr ⟨rfl, by dsimp only; omega⟩)
  · rename_i h
    rcases hl with h3 | ⟨h3, h4⟩
    · dsimp only at h3
      by_cases e : q = p + 1
      · by_cases e2 : j = 0
        · exact .inl (by rw [e, e2])
        · exact .inr (.inr ⟨e.symm, by dsimp only; omega⟩)
      · exact .inr (.inl (by dsimp only; omega))
    · dsimp only at h3 h4
      subst h3
      rcases ht with ⟨h5, _⟩ | ⟨h5, h6⟩
      · dsimp only at h5; omega
      · dsimp only at h6; omega
theorem laters_all {X : Words3} (hV : VW X) : ∀ (n : Nat) (p t : Place), En X p → rem X p = n → Lt p t → En X t → t ∈ laters X n p
  | 0, p, t, hp, hn, hl, ht => by
    rcases hp.cases with rfl | hp
    · rcases hl with h | ⟨h, h2⟩
      · rcases ht with ⟨h3, _⟩ | ⟨h3, _⟩ <;> dsimp only at h <;> omega
      · dsimp only at h h2
        rcases ht with ⟨h3, h4⟩ | ⟨h3, _⟩ <;> omega
    · have := rem_pos hp; omega
  | n + 1, p, t, hp, hn, hl, ht => by
    have hp : Pl X p := by
      rcases hp.cases with rfl | h
      · rw [rem_end] at hn; omega
      · exact h
    obtain ⟨h1, h2, h3⟩ := next_ok hV hp
    rw [laters]
    rcases next_le hp hl ht with rfl | h
    · exact List.mem_cons_self
    · exact List.mem_cons_of_mem _ (laters_all hV n _ t h1 (by omega) h ht)
theorem fold_mono {X : Words3} {width : Int} {T : Place → Option Int} {f : Place} : ∀ (l : List Place) (b0 : Int) (a0 : Place),
    ∃ b a, l.foldl (fun acc t => pickStep acc (cand X width T f t)) (some (b0, a0)) = some (b, a) ∧ b ≤ b0
  | [], b0, a0 => ⟨b0, a0, rfl, Int.le_refl _⟩
  | t :: l, b0, a0 => by
    rw [List.foldl_cons]
    cases hc : cand X width T f t with
    | none => exact fold_mono l b0 a0
    | some y =>
      obtain ⟨t', v⟩ := y
      simp only [pickStep]
      split
      · obtain ⟨b, a, h1, h2⟩ := fold_mono l v t'
        exact ⟨b, a, h1, by omega⟩
      · exact fold_mono l b0 a0
theorem fold_le {X : Words3} {width : Int} {T : Place → Option Int} {f t t' : Place} {v : Int} (hc : cand X width T f t = some (t', v)) : ∀ (l : List Place) (acc : Option (Int × Place)), t ∈ l →
    ∃ b a, l.foldl (fun acc t => pickStep acc (cand X width T f t)) acc = some (b, a) ∧ b ≤ v
  | u :: l, acc, h => by
    rw [List.foldl_cons]
    rcases List.mem_cons.1 h with rfl | h
    · rw [hc]
      cases acc with
      | none => exact fold_mono l v t'
      | some z =>
        obtain ⟨b0, a0⟩ := z
        simp only [pickStep]
        split
        · exact fold_mono l v t'
        · obtain ⟨b, a, h1, h2⟩ := fold_mono (X := X) (width := width) (T := T) (f := f) l b0 a0
          exact ⟨b, a, h1, by omega⟩
    · exact fold_le hc l _ h
/-- A division from a place on: the ends of its lines. -/
def IsDiv (X : Words3) (width : Int) : Place → List Place → Prop
  | f, [] => f = endP X
  | f, t :: r => Pl X f ∧ Lt f t ∧ En X t ∧ sizeL X f t ≤ width ∧ IsDiv X width t r
def costL (X : Words3) (width : Int) : Place → List Place → Int
  | _, [] => 0
  | f, t :: r => costL X width t r + priceL X width f t
theorem tOf_nn {X : Words3} {K : List (List Int)} {t : Place} {c : Int} (h : tOf X K t = some c) : 0 ≤ c := by
  unfold tOf at h
  split at h
  · cases h; omega
  · split at h
    · cases h
    · cases h; omega
theorem Pl.ne {X : Words3} {f : Place} (h : Pl X f) : f ≠ endP X := by
  rintro rfl
  obtain ⟨h, _⟩ := h
  simp at h
theorem tOf_pl {X : Words3} {width : Int} {K : List (List Int)} (hV : VW X) (hw : 1 ≤ width ∧ width ≤ 512) (hT : IsTab X width K) {f : Place} (hf : Pl X f) {b : Int} {a : Place} (h : pick X width (tOf X K) f = some (b, a)) : tOf X K f = some b := by
  have h1 := hT.2 f hf
  rw [h] at h1
  obtain ⟨m1, m2, c, m3, m4⟩ := pick_mem h
  obtain ⟨k1, k2⟩ := lat_mem hV hf a m1
  have h3 := priceL_bd hV hw hf k1 k2
  have h4 := tOf_nn m3
  simp only [encB] at h1
  rw [tOf, if_neg hf.ne, if_neg (by omega), h1]
theorem div_ge {X : Words3} {width : Int} {K : List (List Int)} (hV : VW X) (hw : 1 ≤ width ∧ width ≤ 512) (hT : IsTab X width K) : ∀ (r : List Place) (f : Place), IsDiv X width f r → ∃ c, tOf X K f = some c ∧ c ≤ costL X width f r
  | [], f, h => ⟨0, by rw [tOf, if_pos (show f = endP X from h)], Int.le_refl _⟩
  | t :: r, f, ⟨h1, h2, h3, h4, h5⟩ => by
    obtain ⟨c, hc, hle⟩ := div_ge hV hw hT r t h5
    have hcand : cand X width (tOf X K) f t = some (t, c + priceL X width f t) := by rw [cand, if_neg (by omega), hc]; rfl
    obtain ⟨b, a, hp, hb⟩ := fold_le hcand (lat X f) none (laters_all hV _ f t (.inr h1) rfl h2 h3)
    refine ⟨b, tOf_pl hV hw hT h1 hp, ?_⟩
    rw [costL]; omega
theorem ends_div {X : Words3} {width : Int} {K : List (List Int)} (hV : VW X) (hw : 1 ≤ width ∧ width ≤ 512) (hT : IsTab X width K) : ∀ (r : List Place) (f : Place), IsEnds X width K f r → IsDiv X width f r ∧ tOf X K f = some (costL X width f r)
  | [], f, h => ⟨h, by rw [tOf, if_pos (show f = endP X from h)]; rfl⟩
  | t :: r, f, ⟨h1, ⟨b, h2⟩, h3⟩ => by
    obtain ⟨i1, i2⟩ := ends_div hV hw hT r t h3
    obtain ⟨m1, m2, c, m3, m4⟩ := pick_mem h2
    obtain ⟨k1, k2⟩ := lat_mem hV h1 t m1
    rw [i2] at m3
    obtain rfl : costL X width t r = c := by injection m3
    exact ⟨⟨h1, k1, k2, by omega, i1⟩, by rw [tOf_pl hV hw hT h1 h2, m4]; rfl⟩
theorem ends_ex {X : Words3} {width : Int} {K : List (List Int)} (hV : VW X) (hT : IsTab X width K) : ∀ (n : Nat) (f : Place) (c : Int), En X f → tOf X K f = some c → rem X f ≤ n → ∃ r, IsEnds X width K f r
  | n, f, c, hf, hc, hn => by
    rcases hf.cases with rfl | hf
    · exact ⟨[], rfl⟩
    · match n, hn with
      | 0, hn => have := rem_pos hf; omega
      | n + 1, hn =>
        have h1 := hT.2 f hf
        cases hp : pick X width (tOf X K) f with
        | none =>
          rw [hp] at h1
          simp only [encB] at h1
          rw [tOf, if_neg hf.ne, if_pos (by omega)] at hc
          cases hc
        | some y =>
          obtain ⟨b, t⟩ := y
          obtain ⟨m1, m2, c', m3, m4⟩ := pick_mem hp
          obtain ⟨k1, k2⟩ := lat_mem hV hf t m1
          have := rem_lt hV hf k1 k2
          obtain ⟨r, hr⟩ := ends_ex hV hT n t c' k2 m3 (by omega)
          exact ⟨t :: r, hf, ⟨b, hp⟩, hr⟩
theorem div_len {X : Words3} {width : Int} (hV : VW X) : ∀ (r : List Place) (f : Place), IsDiv X width f r → r.length ≤ rem X f
  | [], _, _ => Nat.zero_le _
  | t :: r, f, ⟨h1, h2, h3, _, h5⟩ => by
    have := div_len hV r t h5
    have := rem_lt hV h1 h2 h3
    simp only [List.length_cons]; omega
theorem sq_le {n : Int} (h0 : 0 ≤ n) (h1 : n ≤ 512) : 0 ≤ n * n ∧ n * n ≤ 262144 := by
  have := Int.mul_le_mul h1 h1 h0 (by omega)
  have := Int.mul_nonneg h0 h0
  omega
theorem cost_bd {X : Words3} {width : Int} (hV : VW X) (hw : 1 ≤ width ∧ width ≤ 512) : ∀ (r : List Place) (f : Place), IsDiv X width f r → r.length * 4294967296 ≤ costL X width f r ∧ costL X width f r ≤ r.length * 4295229440
  | [], _, _ => by simp [costL]
  | t :: r, f, ⟨h1, h2, h3, h4, h5⟩ => by
    have ih := cost_bd hV hw r t h5
    have hs := sizeL_bd hV h1 h2 h3
    have hq := sq_le (n := width - sizeL X f t) (by omega) (by omega)
    have hp : 4294967296 ≤ priceL X width f t ∧ priceL X width f t ≤ 4295229440 := by unfold priceL; split <;> omega
    simp only [costL, List.length_cons]
    omega
theorem cost_lines {X Y : Words3} {w v : Int} (hX : VW X) (hY : VW Y) (hw : 1 ≤ w ∧ w ≤ 512) (hv : 1 ≤ v ∧ v ≤ 512) {r s : List Place} {f g : Place} (hr : IsDiv X w f r) (hs : IsDiv Y v g s) (h : costL X w f r ≤ costL Y v g s) : r.length ≤ s.length := by
  have h1 := cost_bd hX hw r f hr
  have h2 := cost_bd hY hv s g hs
  have h3 := div_len hY s g hs
  have h4 := rem_le hY g
  omega
theorem En.zero {X : Words3} (hV : VW X) : En X (0, 0) := by
  by_cases h : X.length = 0
  · exact .inl ⟨h.symm, rfl⟩
  · exact .inr ⟨by dsimp only; omega, (hV.2 0 (by omega)).1⟩
/-- What Fill finds. -/
theorem fill_best {X : Words3} {width : Int} (hv : validB X width = true) :
    (fillM X width = (14, [], []) ∧ ∀ r, ¬ IsDiv X width (0, 0) r) ∨
    ∃ r, IsDiv X width (0, 0) r ∧ fillM X width = (0, toI r, tableL X width) ∧ IsTab X width (tableL X width) ∧ tOf X (tableL X width) (0, 0) = some (costL X width (0, 0) r) ∧ ∀ s, IsDiv X width (0, 0) s → costL X width (0, 0) r ≤ costL X width (0, 0) s := by
  obtain ⟨hV, hw⟩ := validB_VW hv
  have hT := tableL_tab hV hw
  generalize hK : tableL X width = K at hT
  cases hc : tOf X K (0, 0) with
  | none =>
    have hne : ¬ (0, 0) = endP X := by
      intro e; rw [tOf, if_pos e] at hc; cases hc
    have hk : kAt K (0, 0) < 0 := by
      rw [tOf, if_neg hne] at hc
      split at hc
      · assumption
      · cases hc
    have hl : 0 < X.length := by
      rcases (En.zero hV).cases with h | h
      · exact absurd h hne
      · exact h.1
    refine .inl ⟨by rw [fillM, if_pos hv]; simp only [hK, hl, hk, and_self, if_true], fun r hr => ?_⟩
    obtain ⟨c, h, _⟩ := div_ge hV hw hT r _ hr
    rw [hc] at h; cases h
  | some c =>
    obtain ⟨r, hr⟩ := ends_ex hV hT _ (0, 0) c (En.zero hV) hc (Nat.le_refl _)
    obtain ⟨h1, h2⟩ := ends_div hV hw hT r _ hr
    have hno : ¬ (0 < X.length ∧ kAt K (0, 0) < 0) := by
      rintro ⟨h3, h4⟩
      rw [tOf, if_neg (by intro e; have : (0 : Nat) = X.length := congrArg Prod.fst e; omega), if_pos h4] at hc
      cases hc
    refine .inr ⟨r, h1, ?_, hT, hc ▸ h2, fun s hs => ?_⟩
    · rw [fillM, if_pos hv]
      simp only [hK, if_neg hno]
      rw [endsGo_ok _ _ r hr (ends_len hV hT r _ hr)]
    · obtain ⟨c', k1, k2⟩ := div_ge hV hw hT s _ hs
      rw [h2] at k1
      injection k1 with k1
      omega
/-- A division stays one in wider lines. -/
theorem IsDiv.wider {X : Words3} {w v : Int} (h : w ≤ v) : ∀ (r : List Place) (f : Place), IsDiv X w f r → IsDiv X v f r
  | [], _, h2 => h2
  | _ :: r, _, ⟨h1, h2, h3, h4, h5⟩ => ⟨h1, h2, h3, by omega, IsDiv.wider h r _ h5⟩
theorem sumS_more {X : Words3} (hV : VW X) (q : Nat) (s : Int) : ∀ (m n : Nat), q + (n + m) ≤ X.length → sumS X q s n ≤ sumS X q s (n + m)
  | 0, n, _ => Int.le_refl _
  | m + 1, n, h => by
    have ih := sumS_more hV q s m n (by omega)
    have hp : q + (n + m) < X.length := by omega
    have h1 := hV.elem (j := (rowAt X (q + (n + m)) 0).length - 1) hp (Nat.lt_of_lt_of_le Nat.zero_lt_one (hV.2 _ hp).1)
    show _ ≤ sumS X q s (n + m) + 1 + lastW (rowAt X (q + (n + m)) 0)
    unfold lastW
    omega
theorem sumS_congr {X Y : Words3} {q : Nat} {s : Int} : ∀ (n : Nat), (∀ i, i < q + n → rowAt X i 0 = rowAt Y i 0) → sumS X q s n = sumS Y q s n
  | 0, _ => rfl
  | n + 1, h => by rw [sumS, sumS, sumS_congr n fun i hi => h i (by omega), h (q + n) (by omega)]
theorem rowAt_take {X : Words3} {k i : Nat} (h : i < k) (j : Nat) : rowAt (X.take k) i j = rowAt X i j := by
  simp only [rowAt, List.getD_eq_getElem?_getD, List.getElem?_take, if_pos h]
theorem size_take {X : Words3} {k : Nat} {f t : Place} (h1 : f.1 < k) (h2 : t.1 < k) : sizeL (X.take k) f t = sizeL X f t := by
  simp only [sizeL, rowAt_take h1, rowAt_take h2]
  split
  · rfl
  · rw [sumS_congr (Y := X) (t.1 - f.1 - 1) fun i hi => rowAt_take (by omega) 0]
theorem size_cut {X : Words3} (hV : VW X) {k : Nat} {f t : Place} (hf : Pl X f) (ht : En X t) (h1 : f.1 < k) (h2 : k ≤ t.1) : sizeL (X.take k) f (k, 0) ≤ sizeL X f t := by
  have hq : t.1 ≤ X.length := by
    rcases ht with h | ⟨h, _⟩
    · exact Nat.le_of_eq h.1
    · exact Nat.le_of_lt h
  have e1 : ¬ f.1 = k := by omega
  have e2 : ¬ f.1 = t.1 := by omega
  simp only [sizeL, if_neg e1, if_neg e2, if_true, rowAt_take h1]
  rw [sumS_congr (Y := X) (k - f.1 - 1) fun i hi => rowAt_take (by omega) 0]
  have hm := sumS_more hV (f.1 + 1) (lastW (rowAt X f.1 f.2)) (t.1 - k) (k - f.1 - 1) (by omega)
  rw [show k - f.1 - 1 + (t.1 - k) = t.1 - f.1 - 1 by omega] at hm
  split
  · exact hm
  · rename_i hj
    rcases ht with h | ⟨h, h4⟩
    · exact absurd h.2 hj
    · have := hV.elem (j := t.2 - 1) h (Nat.lt_of_lt_of_le Nat.zero_lt_one (hV.2 _ h).1)
      omega
theorem VW.take {X : Words3} (hV : VW X) (k : Nat) : VW (X.take k) := by
  refine ⟨by rw [List.length_take]; have := hV.1; omega, fun p hp => ?_⟩
  rw [List.getElem_take]
  exact hV.2 p (by rw [List.length_take] at hp; omega)
theorem pl_take {X : Words3} {k : Nat} {f : Place} (h : Pl X f) (hk : f.1 < k) : Pl (X.take k) f := by
  obtain ⟨h1, h2⟩ := h
  exact ⟨by rw [List.length_take]; omega, by rw [List.getElem_take]; exact h2⟩
/-- A division, cut behind the first k words. -/
theorem IsDiv.cut {X : Words3} {w : Int} (hV : VW X) {k : Nat} (hk : k ≤ X.length) : ∀ (r : List Place) (f : Place), IsDiv X w f r → f.1 < k → ∃ s, IsDiv (X.take k) w f s ∧ s.length ≤ r.length
  | [], f, h, h1 => by
    have : f = endP X := h
    rw [this] at h1; dsimp only at h1; omega
  | t :: r, f, ⟨h1, h2, h3, h4, h5⟩, hf => by
    have hend : endP (X.take k) = (k, 0) := by rw [endP, List.length_take]; congr 1; omega
    by_cases ht : t.1 < k
    · have hpt : Pl X t := by
        rcases h3 with h | h
        · omega
        · exact h
      obtain ⟨s, hs, hl⟩ := IsDiv.cut hV hk r t h5 ht
      exact ⟨t :: s, ⟨pl_take h1 hf, h2, .inr (pl_take hpt ht), by rw [size_take hf ht]; exact h4, hs⟩, by simpa using hl⟩
    · refine ⟨[(k, 0)], ⟨pl_take h1 hf, .inl hf, .inl ⟨congrArg Prod.fst hend.symm, rfl⟩, ?_, hend.symm⟩, by simp⟩
      have := size_cut hV h1 h3 hf (by omega)
      omega
end Go.Proofs.Ytehelanfgepcmaa
