/- Small functions of the reference; one act; the examples. -/
import Derived.Test.YtjpknjicfoiheaaPg
set_option linter.unusedSimpArgs false
set_option linter.unusedVariables false
set_option linter.unusedSectionVars false
namespace Go.Proofs.Ytjpknjicfoiheaa
open Go.RowKit Dak
/-- dactylref01.Around -/
def aroundL (n most : Int) : Int := if most < 1 then 0 else (if n < 0 then -(n + 1) else n) % most

theorem Around_s (n most : Int) (hn : I64 n) (hm : I64 most) : Ctr Try.prog 8 [vi n, vi most] (vi (aroundL n most)) := by
  obtain ⟨h1, h2⟩ := hn
  obtain ⟨h3, h4⟩ := hm
  refine specE f8 (by simp) fun F0 w0 => ?_
  by_cases a : n < 0
  · have e1 : IntKind.i64.wrap (n + 1) = n + 1 := wrap_id (by omega) (by omega)
    have e2 : IntKind.i64.wrap (0 - (n + 1)) = -(n + 1) := by rw [wrap_id (by omega) (by omega)]; omega
    by_cases b : most < 1
    · simp only [c8, go_sem, List.replicate_succ, Nat.reducePow, Nat.reduceLeDiff, ↓reduceIte, reduceCtorEq, Nat.reduceLT, Nat.reduceEqDiff, Nat.reduceAdd, Nat.reduceSub, Nat.reduceMul, Int.reduceToNat, a, b, e1, e2]
      simp only [aroundL, a, b, if_true]
      exact .tree _ rfl
    · have b0 : ¬ most = 0 := by omega
      simp only [c8, go_sem, List.replicate_succ, Nat.reducePow, Nat.reduceLeDiff, ↓reduceIte, reduceCtorEq, Nat.reduceLT, Nat.reduceEqDiff, Nat.reduceAdd, Nat.reduceSub, Nat.reduceMul, Int.reduceToNat, a, b, e1, e2, b0]
      have : (-(n + 1)).tmod most = aroundL n most := by
        simp only [aroundL, a, b, if_true, if_false]
        rw [Int.tmod_eq_emod_of_nonneg (by omega)]
      rw [this]
      exact .tree _ rfl
  · by_cases b : most < 1
    · simp only [c8, go_sem, List.replicate_succ, Nat.reducePow, Nat.reduceLeDiff, ↓reduceIte, reduceCtorEq, Nat.reduceLT, Nat.reduceEqDiff, Nat.reduceAdd, Nat.reduceSub, Nat.reduceMul, Int.reduceToNat, a, b]
      simp only [aroundL, b, if_true]
      exact .tree _ rfl
    · have b0 : ¬ most = 0 := by omega
      simp only [c8, go_sem, List.replicate_succ, Nat.reducePow, Nat.reduceLeDiff, ↓reduceIte, reduceCtorEq, Nat.reduceLT, Nat.reduceEqDiff, Nat.reduceAdd, Nat.reduceSub, Nat.reduceMul, Int.reduceToNat, a, b, b0]
      have : n.tmod most = aroundL n most := by
        simp only [aroundL, a, b, if_false]
        rw [Int.tmod_eq_emod_of_nonneg (by omega)]
      rw [this]
      exact .tree _ rfl

/-- dactylref01.At -/
def atL (l : List Int) (i most : Int) : Int := if i < 0 then 0 else match l[i.toNat]? with
  | some x => aroundL x most
  | none => 0

theorem At_s (l : List Int) (i most : Int) (hl : ∀ x ∈ l, I64 x) (hm : I64 most) : Ctr Try.prog 27 [vints l, vi i, vi most] (vi (atL l i most)) := by
  refine specE f27 (by simp) fun F0 w0 => ?_
  by_cases a : i < 0
  · simp only [c27, go_sem, List.replicate_succ, Nat.reducePow, Nat.reduceLeDiff, ↓reduceIte, reduceCtorEq, Nat.reduceLT, Nat.reduceEqDiff, Nat.reduceAdd, Nat.reduceSub, Nat.reduceMul, Int.reduceToNat, a, List.length_map]
    simp only [atL, a, if_true]
    exact .tree _ rfl
  · by_cases b : (l.length : Int) ≤ i
    · simp only [c27, go_sem, List.replicate_succ, Nat.reducePow, Nat.reduceLeDiff, ↓reduceIte, reduceCtorEq, Nat.reduceLT, Nat.reduceEqDiff, Nat.reduceAdd, Nat.reduceSub, Nat.reduceMul, Int.reduceToNat, a, b, List.length_map]
      have : l[i.toNat]? = none := by rw [List.getElem?_eq_none]; omega
      simp only [atL, a, if_false, this]
      exact .tree _ rfl
    · have hlt : i.toNat < l.length := by omega
      have a' : 0 ≤ i := by omega
      simp only [c27, go_sem, List.replicate_succ, Nat.reducePow, Nat.reduceLeDiff, ↓reduceIte, reduceCtorEq, Nat.reduceLT, Nat.reduceEqDiff, Nat.reduceAdd, Nat.reduceSub, Nat.reduceMul, Int.reduceToNat, a, b, a', List.length_map, List.getElem?_map, List.getElem?_eq_getElem hlt]
      refine callF (Around_s _ _ (hl _ (List.getElem_mem _)) hm) (.cons (.tree _ rfl) (.cons (.tree _ rfl) .nil)) rfl ?_
      have : atL l i most = aroundL l[i.toNat] most := by simp only [atL, a, if_false, List.getElem?_eq_getElem hlt]
      rw [this]
      simp only [go_sem, List.replicate_succ, Nat.reducePow, Nat.reduceLeDiff, ↓reduceIte, reduceCtorEq, Nat.reduceLT, Nat.reduceEqDiff, Nat.reduceAdd, Nat.reduceSub, Nat.reduceMul, Int.reduceToNat]
      exact .tree _ rfl

theorem takeS_eq {α : Type} {A B : List α} {k : Nat} (h : A.take k = B.take k) (ha : k < A.length) (hb : k < B.length) (he : A[k] = B[k]) : A.take (k + 1) = B.take (k + 1) := by
  rw [List.take_succ_eq_append_getElem ha, List.take_succ_eq_append_getElem hb, h, he]

theorem SameInts_s (A B : List Int) (hA : A.length ≤ 9223372036854775806) : Ctr Try.prog 30 [vints A, vints B] (vb (decide (A = B))) := by
  refine specE f30 (by simp) fun F0 w0 => ?_
  by_cases hl : A.length = B.length
  · have hl' : (A.length : Int) = (B.length : Int) := by omega
    simp only [c30, go_sem, List.replicate_succ, Nat.reducePow, Nat.reduceLeDiff, ↓reduceIte, reduceCtorEq, Nat.reduceLT, Nat.reduceEqDiff, Nat.reduceAdd, Nat.reduceSub, Nat.reduceMul, Int.reduceToNat, hl']
    refine loopE (fun m s => ∃ k : Nat, m = B.length - k ∧ k ≤ B.length ∧ A.take k = B.take k ∧ s = ⟨[(0, vints A), (1, vints B), (5, vi k)], []⟩) B.length ⟨[(0, vints A), (1, vints B), (5, vi (0 : Nat))], []⟩ (WkE.keep (by simp [go_sem, List.replicate_succ, Nat.reducePow, Nat.reduceLeDiff, ↓reduceIte, reduceCtorEq, Nat.reduceLT, Nat.reduceEqDiff, Nat.reduceAdd, Nat.reduceSub, Nat.reduceMul, Int.reduceToNat])) ⟨0, by simp⟩ ?_
    rintro m s ⟨k, rfl, hk, ht, rfl⟩
    by_cases hlt : k < B.length
    · have hltA : k < A.length := by omega
      have h1 : (k : Int) < (A.length : Int) := by omega
      have h0 : (0 : Int) ≤ (k : Int) := by omega
      have hw : IntKind.i64.wrap ((k : Int) + 1) = ((k + 1 : Nat) : Int) := by rw [wrap_id (by omega) (by omega)]; omega
      by_cases he : A[k] = B[k]
      · simp only [go_sem, List.replicate_succ, Nat.reducePow, Nat.reduceLeDiff, ↓reduceIte, reduceCtorEq, Nat.reduceLT, Nat.reduceEqDiff, Nat.reduceAdd, Nat.reduceSub, Nat.reduceMul, Int.reduceToNat, h1, h0, List.getElem?_map, List.getElem?_eq_getElem hlt, List.getElem?_eq_getElem hltA, he, hw]
        refine ⟨B.length - (k + 1), ⟨[(0, vints A), (1, vints B), (5, vi (k + 1 : Nat))], []⟩, by omega, WkE.keep (by simp [go_sem, List.replicate_succ, Nat.reducePow, Nat.reduceLeDiff, ↓reduceIte, reduceCtorEq, Nat.reduceLT, Nat.reduceEqDiff, Nat.reduceAdd, Nat.reduceSub, Nat.reduceMul, Int.reduceToNat]), k + 1, rfl, by omega, takeS_eq ht hltA hlt he, rfl⟩
      · simp only [go_sem, List.replicate_succ, Nat.reducePow, Nat.reduceLeDiff, ↓reduceIte, reduceCtorEq, Nat.reduceLT, Nat.reduceEqDiff, Nat.reduceAdd, Nat.reduceSub, Nat.reduceMul, Int.reduceToNat, h1, h0, List.getElem?_map, List.getElem?_eq_getElem hlt, List.getElem?_eq_getElem hltA, he, hw]
        have : decide (A = B) = false := by rw [decide_eq_false_iff_not]; rintro rfl; exact he rfl
        rw [this]; exact .tree _ rfl
    · have hkB : k = B.length := by omega
      have h1 : ¬ (k : Int) < (A.length : Int) := by omega
      simp only [go_sem, List.replicate_succ, Nat.reducePow, Nat.reduceLeDiff, ↓reduceIte, reduceCtorEq, Nat.reduceLT, Nat.reduceEqDiff, Nat.reduceAdd, Nat.reduceSub, Nat.reduceMul, Int.reduceToNat, h1]
      have : decide (A = B) = true := by
        rw [decide_eq_true_eq]
        rw [hkB, List.take_length, ← hl, List.take_length] at ht
        exact ht
      rw [this]; exact .tree _ rfl
  · have hl' : ¬ (A.length : Int) = (B.length : Int) := by omega
    simp only [c30, go_sem, List.replicate_succ, Nat.reducePow, Nat.reduceLeDiff, ↓reduceIte, reduceCtorEq, Nat.reduceLT, Nat.reduceEqDiff, Nat.reduceAdd, Nat.reduceSub, Nat.reduceMul, Int.reduceToNat, hl']
    have : decide (A = B) = false := by rw [decide_eq_false_iff_not]; rintro rfl; exact hl rfl
    rw [this]; exact .tree _ rfl
theorem aroundL_bd (n most : Int) (h : 1 ≤ most) : 0 ≤ aroundL n most ∧ aroundL n most < most := by
  unfold aroundL
  rw [if_neg (by omega)]
  exact ⟨Int.emod_nonneg _ (by omega), Int.emod_lt_of_pos _ (by omega)⟩
theorem atL_bd (l : List Int) (i most : Int) (h : 1 ≤ most) : 0 ≤ atL l i most ∧ atL l i most < most := by
  unfold atL
  split
  · omega
  · split
    · exact aroundL_bd _ _ h
    · omega

theorem SameAnswers_s (A B : List (Int × Int × Int)) (hA : A.length ≤ 9223372036854775806) : Ctr Try.prog 31 [.list 3 (A.map vans), .list 3 (B.map vans)] (vb (decide (A = B))) := by
  refine specE f31 (by simp) fun F0 w0 => ?_
  by_cases hl : A.length = B.length
  · have hl' : (A.length : Int) = (B.length : Int) := by omega
    simp only [c31, go_sem, List.replicate_succ, Nat.reducePow, Nat.reduceLeDiff, ↓reduceIte, reduceCtorEq, Nat.reduceLT, Nat.reduceEqDiff, Nat.reduceAdd, Nat.reduceSub, Nat.reduceMul, Int.reduceToNat, hl']
    refine loopE (fun m s => ∃ k : Nat, m = B.length - k ∧ k ≤ B.length ∧ A.take k = B.take k ∧ s = ⟨[(0, (.list 3 (A.map vans))), (1, (.list 3 (B.map vans))), (5, vi k)], []⟩) B.length ⟨[(0, (.list 3 (A.map vans))), (1, (.list 3 (B.map vans))), (5, vi (0 : Nat))], []⟩ (WkE.keep (by simp [go_sem, List.replicate_succ, Nat.reducePow, Nat.reduceLeDiff, ↓reduceIte, reduceCtorEq, Nat.reduceLT, Nat.reduceEqDiff, Nat.reduceAdd, Nat.reduceSub, Nat.reduceMul, Int.reduceToNat])) ⟨0, by simp⟩ ?_
    rintro m s ⟨k, rfl, hk, ht, rfl⟩
    by_cases hlt : k < B.length
    · have hltA : k < A.length := by omega
      have h1 : (k : Int) < (A.length : Int) := by omega
      have h0 : (0 : Int) ≤ (k : Int) := by omega
      have hw : IntKind.i64.wrap ((k : Int) + 1) = ((k + 1 : Nat) : Int) := by rw [wrap_id (by omega) (by omega)]; omega
      by_cases he : A[k] = B[k]
      · simp only [go_sem, List.replicate_succ, Nat.reducePow, Nat.reduceLeDiff, ↓reduceIte, reduceCtorEq, Nat.reduceLT, Nat.reduceEqDiff, Nat.reduceAdd, Nat.reduceSub, Nat.reduceMul, Int.reduceToNat, h1, h0, List.getElem?_map, List.getElem?_eq_getElem hlt, List.getElem?_eq_getElem hltA, he, hw]
        refine ⟨B.length - (k + 1), ⟨[(0, (.list 3 (A.map vans))), (1, (.list 3 (B.map vans))), (5, vi (k + 1 : Nat))], []⟩, by omega, WkE.keep (by simp [go_sem, List.replicate_succ, Nat.reducePow, Nat.reduceLeDiff, ↓reduceIte, reduceCtorEq, Nat.reduceLT, Nat.reduceEqDiff, Nat.reduceAdd, Nat.reduceSub, Nat.reduceMul, Int.reduceToNat]), k + 1, rfl, by omega, takeS_eq ht hltA hlt he, rfl⟩
      · have hq : ([A[k].fst, A[k].snd.fst, A[k].snd.snd] = [B[k].fst, B[k].snd.fst, B[k].snd.snd]) = (A[k] = B[k]) := by simp [Prod.ext_iff]
        simp only [go_sem, List.replicate_succ, Nat.reducePow, Nat.reduceLeDiff, ↓reduceIte, reduceCtorEq, Nat.reduceLT, Nat.reduceEqDiff, Nat.reduceAdd, Nat.reduceSub, Nat.reduceMul, Int.reduceToNat, h1, h0, List.getElem?_map, List.getElem?_eq_getElem hlt, List.getElem?_eq_getElem hltA, hq, he, hw]
        have : decide (A = B) = false := by rw [decide_eq_false_iff_not]; rintro rfl; exact he rfl
        rw [this]; exact .tree _ rfl
    · have hkB : k = B.length := by omega
      have h1 : ¬ (k : Int) < (A.length : Int) := by omega
      simp only [go_sem, List.replicate_succ, Nat.reducePow, Nat.reduceLeDiff, ↓reduceIte, reduceCtorEq, Nat.reduceLT, Nat.reduceEqDiff, Nat.reduceAdd, Nat.reduceSub, Nat.reduceMul, Int.reduceToNat, h1]
      have : decide (A = B) = true := by
        rw [decide_eq_true_eq]
        rw [hkB, List.take_length, ← hl, List.take_length] at ht
        exact ht
      rw [this]; exact .tree _ rfl
  · have hl' : ¬ (A.length : Int) = (B.length : Int) := by omega
    simp only [c31, go_sem, List.replicate_succ, Nat.reducePow, Nat.reduceLeDiff, ↓reduceIte, reduceCtorEq, Nat.reduceLT, Nat.reduceEqDiff, Nat.reduceAdd, Nat.reduceSub, Nat.reduceMul, Int.reduceToNat, hl']
    have : decide (A = B) = false := by rw [decide_eq_false_iff_not]; rintro rfl; exact hl rfl
    rw [this]; exact .tree _ rfl

def beginsL (A B : List Int) : Bool := decide (A.length ≤ B.length) && decide (A = B.take A.length)
theorem begins_s (A B : List Int) (hA : A.length ≤ 1000000) (hB : B.length ≤ 1000000) : Ctr Try.prog 14 [vints A, vints B] (vb (beginsL A B)) := by
  refine specE f14 (by simp) fun F0 w0 => ?_
  by_cases a : A.length ≤ B.length
  · have a1 : (A.length : Int) ≤ (B.length : Int) := by omega
    have a2 : ((B.length : Int) < (A.length : Int)) = False := eq_false (by omega)
    have a3 : (0 : Int) ≤ (A.length : Int) := by omega
    have e : beginsL A B = decide (A = B.take A.length) := by simp [beginsL, a]
    rw [e]
    simp only [c14, go_sem, List.replicate_succ, Nat.reducePow, Nat.reduceLeDiff, ↓reduceIte, reduceCtorEq, Nat.reduceLT, Nat.reduceEqDiff, Nat.reduceAdd, Nat.reduceSub, Nat.reduceMul, Int.reduceToNat, Int.reduceLT, Int.reduceLE, Int.reduceEq, Int.reduceNe, Int.reduceNeg, Int.reduceToNat, Int.lt_irrefl, Int.le_refl, a1, a2, a3, List.length_map, Nat.sub_zero, Int.toNat_natCast, ← List.map_take]
    refine callT (SameInts_s A (B.take A.length) (by omega)) rfl ?_
    simp only [go_sem, List.replicate_succ, Nat.reducePow, Nat.reduceLeDiff, ↓reduceIte, reduceCtorEq, Nat.reduceLT, Nat.reduceEqDiff, Nat.reduceAdd, Nat.reduceSub, Nat.reduceMul, Int.reduceToNat, Int.reduceLT, Int.reduceLE, Int.reduceEq, Int.reduceNe, Int.reduceNeg, Int.reduceToNat, Int.lt_irrefl, Int.le_refl]
    exact .tree _ rfl
  · have a1 : ¬ (A.length : Int) ≤ (B.length : Int) := by omega
    have e : beginsL A B = false := by simp [beginsL, a]
    rw [e]
    simp only [c14, go_sem, List.replicate_succ, Nat.reducePow, Nat.reduceLeDiff, ↓reduceIte, reduceCtorEq, Nat.reduceLT, Nat.reduceEqDiff, Nat.reduceAdd, Nat.reduceSub, Nat.reduceMul, Int.reduceToNat, Int.reduceLT, Int.reduceLE, Int.reduceEq, Int.reduceNe, Int.reduceNeg, Int.reduceToNat, Int.lt_irrefl, Int.le_refl, a1]
    exact .tree _ rfl
/-- The bounds of all walks. -/
def Bd (s : Hs) : Prop := s.devs.length ≤ 1000 ∧ s.dec.length ≤ 100000 ∧ s.ans.length ≤ 100000
structure Act' where
  num : Int
  ev : Ev
abbrev vact (a : Act') : AV := .agg [vi a.num, vi a.ev.tick, vi a.ev.seat, vi a.ev.kind, vi a.ev.a, vi a.ev.b]
def doesE (s : Hs) (a : Act') : Int := if a.num ≠ 0 then announceE s a.num else stepE s a.ev
def doesH (s : Hs) (a : Act') : Hs := if a.num ≠ 0 then announceH s a.num else stepH s a.ev
theorem does_s (s : Hs) (bd : Bd s) (a : Act') : CtrM Try.prog 13 [.ref 2 1 0 0, vact a] (objsH s) (vi (doesE s a)) (objsH (doesH s a)) := by
  refine spec0 (doesH s a) f13 (by simp) (fun _ _ => rfl) fun F0 w0 G B eB hBl hBi hG => CwpE.vc ?_
  unfold doesH at eB
  unfold doesE
  by_cases z : a.num = 0
  · rw [if_neg (by simp [z])] at eB
    rw [if_neg (by simp [z])]
    simp only [c13, objsH, oH, vact, go_sem, List.replicate_succ, Nat.reducePow, Nat.reduceLeDiff, ↓reduceIte, reduceCtorEq, Nat.reduceLT, Nat.reduceEqDiff, Nat.reduceAdd, Nat.reduceSub, Nat.reduceMul, Int.reduceToNat, Int.reduceLT, Int.reduceLE, Int.reduceEq, Int.reduceNe, Int.reduceNeg, Int.reduceToNat, Int.lt_irrefl, Int.le_refl, z]
    refine callM (objsH s) [G, .arr 1 6 34 [vact a]] _ (Step_s s bd.1 bd.2.1 bd.2.2 a.ev) (by simp only [vact, z]; rfl) (objsH_inn _ 5 (by omega)) rfl ?_
    simp only [go_sem, List.replicate_succ, Nat.reducePow, Nat.reduceLeDiff, ↓reduceIte, reduceCtorEq, Nat.reduceLT, Nat.reduceEqDiff, Nat.reduceAdd, Nat.reduceSub, Nat.reduceMul, Int.reduceToNat, Int.reduceLT, Int.reduceLE, Int.reduceEq, Int.reduceNe, Int.reduceNeg, Int.reduceToNat, Int.lt_irrefl, Int.le_refl]
    exact endR hBl hBi rfl rfl (by rw [eB]; rfl)
  · rw [if_pos z] at eB
    rw [if_pos z]
    simp only [c13, objsH, oH, vact, go_sem, List.replicate_succ, Nat.reducePow, Nat.reduceLeDiff, ↓reduceIte, reduceCtorEq, Nat.reduceLT, Nat.reduceEqDiff, Nat.reduceAdd, Nat.reduceSub, Nat.reduceMul, Int.reduceToNat, Int.reduceLT, Int.reduceLE, Int.reduceEq, Int.reduceNe, Int.reduceNeg, Int.reduceToNat, Int.lt_irrefl, Int.le_refl, z]
    refine callM (objsH s) [G, .arr 1 6 34 [vact a]] _ (Announce_s s a.num bd.1 bd.2.1) rfl (objsH_inn _ 5 (by omega)) rfl ?_
    simp only [go_sem, List.replicate_succ, Nat.reducePow, Nat.reduceLeDiff, ↓reduceIte, reduceCtorEq, Nat.reduceLT, Nat.reduceEqDiff, Nat.reduceAdd, Nat.reduceSub, Nat.reduceMul, Int.reduceToNat, Int.reduceLT, Int.reduceLE, Int.reduceEq, Int.reduceNe, Int.reduceNeg, Int.reduceToNat, Int.lt_irrefl, Int.le_refl]
    exact endR hBl hBi rfl rfl (by rw [eB]; rfl)
theorem event_s (s : Hs) (bd : Bd s) (k x a : Int) : CtrM Try.prog 17 [.ref 2 1 0 0, vi k, vi x, vi a] (objsH s) (vb (decide (stepE s ⟨0, x, k, a, 0⟩ = 0))) (objsH (stepH s ⟨0, x, k, a, 0⟩)) := by
  refine spec0 (stepH s ⟨0, x, k, a, 0⟩) f17 (by simp) (fun _ _ => rfl) fun F0 w0 G B eB hBl hBi hG => CwpE.vc ?_
  simp only [c17, objsH, oH, go_sem, List.replicate_succ, Nat.reducePow, Nat.reduceLeDiff, ↓reduceIte, reduceCtorEq, Nat.reduceLT, Nat.reduceEqDiff, Nat.reduceAdd, Nat.reduceSub, Nat.reduceMul, Int.reduceToNat, Int.reduceLT, Int.reduceLE, Int.reduceEq, Int.reduceNe, Int.reduceNeg, Int.reduceToNat, Int.lt_irrefl, Int.le_refl]
  refine callM (objsH s) [G] _ (Step_s s bd.1 bd.2.1 bd.2.2 ⟨0, x, k, a, 0⟩) rfl (objsH_inn _ 5 (by omega)) rfl ?_
  simp only [go_sem, List.replicate_succ, Nat.reducePow, Nat.reduceLeDiff, ↓reduceIte, reduceCtorEq, Nat.reduceLT, Nat.reduceEqDiff, Nat.reduceAdd, Nat.reduceSub, Nat.reduceMul, Int.reduceToNat, Int.reduceLT, Int.reduceLE, Int.reduceEq, Int.reduceNe, Int.reduceNeg, Int.reduceToNat, Int.lt_irrefl, Int.le_refl]
  exact endR hBl hBi rfl rfl (by rw [eB]; rfl)
end Go.Proofs.Ytjpknjicfoiheaa
