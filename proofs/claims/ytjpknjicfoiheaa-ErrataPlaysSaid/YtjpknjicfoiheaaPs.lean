/- The hall of the reference: Announce and Resend. -/
import Derived.Test.YtjpknjicfoiheaaPr
set_option linter.unusedSimpArgs false
set_option linter.unusedVariables false
set_option linter.unusedSectionVars false
namespace Go.Proofs.Ytjpknjicfoiheaa
open Go.RowKit Dak
theorem ds_get {ds : List Dv} {k : Nat} {d : Dv} (h : ds[k]? = some d) : (ds.map vdv)[k]? = some (vdv d) := by rw [List.getElem?_map, h]; rfl
set_option maxHeartbeats 4000000 in
set_option maxRecDepth 100000 in
theorem AnnounceR_s (p : Pre) (s : Hs) (n : Int) (hn : s.devs.length ≤ 1000) (hd : s.dec.length ≤ 100000) : CtrM Try.prog 49 [.ref 5 1 0 0, vi n] (objsR p s) (vi (announceE s n)) (objsR p (announceH s n)) := by
  refine specR (announceH s n) f49 (by simp) (fun _ _ => rfl) fun F0 w0 G B eB hBl hBi hG => ?_
  have same : announceE s n ≠ 0 → B = objsR p s ++ [G] := fun e => by rw [eB]; unfold announceH; rw [if_pos e]
  have two : announceE s n = 0 → B = objsR p (decideH (beginH s n)) ++ [G] := fun e => by rw [eB]; unfold announceH; rw [if_neg (by simp [e])]
  clear eB
  unfold c49
  refine CwpE.cut (st := ⟨[(0, .ref 5 1 0 0), (1, vi n)], objsR p s ++ [G]⟩) ?_ ?_
  · simp only [go_sem, List.replicate_succ, Nat.reducePow, Nat.reduceLeDiff, ↓reduceIte, reduceCtorEq, Nat.reduceLT, Nat.reduceEqDiff, Nat.reduceAdd, Nat.reduceSub, Nat.reduceMul, Int.reduceToNat, Int.reduceLT, Int.reduceLE, Int.reduceEq, Int.reduceNe, Int.reduceNeg, Int.reduceToNat, Int.lt_irrefl, Int.le_refl]
    exact ⟨_, WkE.keep (by simp only [go_sem, List.replicate_succ, Nat.reducePow, Nat.reduceLeDiff, ↓reduceIte, reduceCtorEq, Nat.reduceLT, Nat.reduceEqDiff, Nat.reduceAdd, Nat.reduceSub, Nat.reduceMul, Int.reduceToNat]), rfl⟩
  by_cases a : n < 1
  · have e : announceE s n = 1 := if_pos (.inl a)
    have eB := same (by rw [e]; decide)
    refine CwpE.vc ?_
    simp only [objsR, oR, go_sem, List.replicate_succ, Nat.reducePow, Nat.reduceLeDiff, ↓reduceIte, reduceCtorEq, Nat.reduceLT, Nat.reduceEqDiff, Nat.reduceAdd, Nat.reduceSub, Nat.reduceMul, Int.reduceToNat, Int.reduceLT, Int.reduceLE, Int.reduceEq, Int.reduceNe, Int.reduceNeg, Int.reduceToNat, Int.lt_irrefl, Int.le_refl, a, e]
    exact endR hBl hBi rfl rfl eB.symm
  by_cases b : 1000 < n
  · have e : announceE s n = 1 := if_pos (.inr b)
    have eB := same (by rw [e]; decide)
    refine CwpE.vc ?_
    simp only [objsR, oR, go_sem, List.replicate_succ, Nat.reducePow, Nat.reduceLeDiff, ↓reduceIte, reduceCtorEq, Nat.reduceLT, Nat.reduceEqDiff, Nat.reduceAdd, Nat.reduceSub, Nat.reduceMul, Int.reduceToNat, Int.reduceLT, Int.reduceLE, Int.reduceEq, Int.reduceNe, Int.reduceNeg, Int.reduceToNat, Int.lt_irrefl, Int.le_refl, a, b, e]
    exact endR hBl hBi rfl rfl eB.symm
  have r : announceE s n = if n = s.now ∨ n ∈ s.dec then 7 else if s.now ≠ 0 then 8 else 0 := if_neg (by omega)
  refine CwpE.cut (st := ⟨[(0, .ref 5 1 0 0), (1, vi n)], objsR p s ++ [G]⟩) ?_ ?_
  · simp only [objsR, oR, go_sem, List.replicate_succ, Nat.reducePow, Nat.reduceLeDiff, ↓reduceIte, reduceCtorEq, Nat.reduceLT, Nat.reduceEqDiff, Nat.reduceAdd, Nat.reduceSub, Nat.reduceMul, Int.reduceToNat, Int.reduceLT, Int.reduceLE, Int.reduceEq, Int.reduceNe, Int.reduceNeg, Int.reduceToNat, Int.lt_irrefl, Int.le_refl, a, b]
    exact ⟨_, WkE.keep (by simp only [go_sem, List.replicate_succ, Nat.reducePow, Nat.reduceLeDiff, ↓reduceIte, reduceCtorEq, Nat.reduceLT, Nat.reduceEqDiff, Nat.reduceAdd, Nat.reduceSub, Nat.reduceMul, Int.reduceToNat]), rfl⟩
  by_cases c : n = s.now
  · have e : announceE s n = 7 := by rw [r]; exact if_pos (.inl c)
    have eB := same (by rw [e]; decide)
    subst c
    refine CwpE.vc ?_
    simp only [objsR, oR, go_sem, List.replicate_succ, Nat.reducePow, Nat.reduceLeDiff, ↓reduceIte, reduceCtorEq, Nat.reduceLT, Nat.reduceEqDiff, Nat.reduceAdd, Nat.reduceSub, Nat.reduceMul, Int.reduceToNat, Int.reduceLT, Int.reduceLE, Int.reduceEq, Int.reduceNe, Int.reduceNeg, Int.reduceToNat, Int.lt_irrefl, Int.le_refl, e]
    exact endR hBl hBi rfl rfl eB.symm
  refine CwpE.cut (st := ⟨[(0, .ref 5 1 0 0), (1, vi n)], objsR p s ++ [G]⟩) ?_ ?_
  · simp only [objsR, oR, go_sem, List.replicate_succ, Nat.reducePow, Nat.reduceLeDiff, ↓reduceIte, reduceCtorEq, Nat.reduceLT, Nat.reduceEqDiff, Nat.reduceAdd, Nat.reduceSub, Nat.reduceMul, Int.reduceToNat, Int.reduceLT, Int.reduceLE, Int.reduceEq, Int.reduceNe, Int.reduceNeg, Int.reduceToNat, Int.lt_irrefl, Int.le_refl, c]
    exact ⟨_, WkE.keep (by simp only [go_sem, List.replicate_succ, Nat.reducePow, Nat.reduceLeDiff, ↓reduceIte, reduceCtorEq, Nat.reduceLT, Nat.reduceEqDiff, Nat.reduceAdd, Nat.reduceSub, Nat.reduceMul, Int.reduceToNat]), rfl⟩
  refine CwpE.seqJ (fun st => n ∉ s.dec ∧ st = ⟨[(0, .ref 5 1 0 0), (1, vi n)], objsR p s ++ [G]⟩) ?_ ?_
  · refine CwpE.cut (st := ⟨[(0, .ref 5 1 0 0), (1, vi n), (5, vi (0 : Nat))], objsR p s ++ [G]⟩) ?_ (CwpE.block ?_)
    · simp only [objsR, oR, go_sem, List.replicate_succ, Nat.reducePow, Nat.reduceLeDiff, ↓reduceIte, reduceCtorEq, Nat.reduceLT, Nat.reduceEqDiff, Nat.reduceAdd, Nat.reduceSub, Nat.reduceMul, Int.reduceToNat, Int.reduceLT, Int.reduceLE, Int.reduceEq, Int.reduceNe, Int.reduceNeg, Int.reduceToNat, Int.lt_irrefl, Int.le_refl]
      exact ⟨_, WkE.keep (by simp only [go_sem, List.replicate_succ, Nat.reducePow, Nat.reduceLeDiff, ↓reduceIte, reduceCtorEq, Nat.reduceLT, Nat.reduceEqDiff, Nat.reduceAdd, Nat.reduceSub, Nat.reduceMul, Int.reduceToNat]; rfl), rfl⟩
    refine loopXC 0 (fun m st => ∃ k : Nat, m = s.dec.length - k ∧ k ≤ s.dec.length ∧ n ∉ s.dec.take k ∧ st = ⟨[(0, .ref 5 1 0 0), (1, vi n), (5, vi k)], objsR p s ++ [G]⟩)
      (fun st => n ∉ s.dec ∧ st = ⟨[(0, .ref 5 1 0 0), (1, vi n)], objsR p s ++ [G]⟩) s.dec.length
      ⟨[(0, .ref 5 1 0 0), (1, vi n), (5, vi (0 : Nat))], objsR p s ++ [G]⟩ (.refl _ _) ⟨0, rfl, by omega, by simp, rfl⟩ ?_ ?_
    rotate_left
    · rintro st ⟨h, rfl⟩
      simp only [objsR, oR, go_sem, List.replicate_succ, Nat.reducePow, Nat.reduceLeDiff, ↓reduceIte, reduceCtorEq, Nat.reduceLT, Nat.reduceEqDiff, Nat.reduceAdd, Nat.reduceSub, Nat.reduceMul, Int.reduceToNat]
      exact ⟨_, .refl _ _, h, rfl⟩
    rintro m st ⟨k, rfl, hk, ha, rfl⟩
    by_cases hlt : k < s.dec.length
    rotate_left
    · have e : k = s.dec.length := by omega
      have g1 : ¬ (k : Int) < (s.dec.length : Int) := by omega
      rw [e, List.take_length] at ha
      refine CwpE.vc ?_
      simp only [objsR, oR, go_sem, List.replicate_succ, Nat.reducePow, Nat.reduceLeDiff, ↓reduceIte, reduceCtorEq, Nat.reduceLT, Nat.reduceEqDiff, Nat.reduceAdd, Nat.reduceSub, Nat.reduceMul, Int.reduceToNat, Int.reduceLT, Int.reduceLE, Int.reduceEq, Int.reduceNe, Int.reduceNeg, Int.reduceToNat, Int.lt_irrefl, Int.le_refl, g1]
      exact ⟨_, WkE.keep (by simp only [go_sem, List.replicate_succ, Nat.reducePow, Nat.reduceLeDiff, ↓reduceIte, reduceCtorEq, Nat.reduceLT, Nat.reduceEqDiff, Nat.reduceAdd, Nat.reduceSub, Nat.reduceMul, Int.reduceToNat]), ha, rfl⟩
    have g1 : (k : Int) < (s.dec.length : Int) := by omega
    have g0 : (0 : Int) ≤ (k : Int) := by omega
    have w1 : IntKind.i64.wrap ((k : Int) + 1) = ((k + 1 : Nat) : Int) := by rw [wrap_id (by omega) (by omega)]; omega
    have h1 : (s.dec.map vi)[k]? = some (vi s.dec[k]) := by rw [List.getElem?_map, List.getElem?_eq_getElem hlt]; rfl
    have hnext : n ≠ s.dec[k] → n ∉ s.dec.take (k + 1) := fun h hm => by
      rw [List.take_succ_eq_append_getElem hlt] at hm
      rcases List.mem_append.1 hm with hm | hm
      · exact ha hm
      · exact h (List.mem_singleton.1 hm)
    have hmem : s.dec[k] ∈ s.dec := List.getElem_mem hlt
    generalize s.dec[k] = d at *
    refine CwpE.vc ?_
    by_cases z : d = n
    · have e : announceE s n = 7 := by rw [r]; exact if_pos (.inr (z ▸ hmem))
      have eB := same (by rw [e]; decide)
      simp only [objsR, oR, vdv, go_sem, List.replicate_succ, Nat.reducePow, Nat.reduceLeDiff, ↓reduceIte, reduceCtorEq, Nat.reduceLT, Nat.reduceEqDiff, Nat.reduceAdd, Nat.reduceSub, Nat.reduceMul, Int.reduceToNat, Int.reduceLT, Int.reduceLE, Int.reduceEq, Int.reduceNe, Int.reduceNeg, Int.reduceToNat, Int.lt_irrefl, Int.le_refl, g1, g0, h1, z, e]
      exact endR hBl hBi rfl rfl eB.symm
    · simp only [objsR, oR, vdv, go_sem, List.replicate_succ, Nat.reducePow, Nat.reduceLeDiff, ↓reduceIte, reduceCtorEq, Nat.reduceLT, Nat.reduceEqDiff, Nat.reduceAdd, Nat.reduceSub, Nat.reduceMul, Int.reduceToNat, Int.reduceLT, Int.reduceLE, Int.reduceEq, Int.reduceNe, Int.reduceNeg, Int.reduceToNat, Int.lt_irrefl, Int.le_refl, g1, g0, h1, z, w1]
      exact ⟨s.dec.length - (k + 1), ⟨[(0, .ref 5 1 0 0), (1, vi n), (5, vi (k + 1 : Nat))], objsR p s ++ [G]⟩, by omega, WkE.keep (by simp only [go_sem, List.replicate_succ, Nat.reducePow, Nat.reduceLeDiff, ↓reduceIte, reduceCtorEq, Nat.reduceLT, Nat.reduceEqDiff, Nat.reduceAdd, Nat.reduceSub, Nat.reduceMul, Int.reduceToNat]), k + 1, rfl, by omega, hnext (Ne.symm z), rfl⟩
  rintro st ⟨m, rfl⟩
  by_cases z : s.now = 0
  rotate_left
  · have e : announceE s n = 8 := by rw [r, if_neg (by simp [c, m]), if_pos z]
    have eB := same (by rw [e]; decide)
    refine CwpE.vc ?_
    simp only [objsR, oR, go_sem, List.replicate_succ, Nat.reducePow, Nat.reduceLeDiff, ↓reduceIte, reduceCtorEq, Nat.reduceLT, Nat.reduceEqDiff, Nat.reduceAdd, Nat.reduceSub, Nat.reduceMul, Int.reduceToNat, Int.reduceLT, Int.reduceLE, Int.reduceEq, Int.reduceNe, Int.reduceNeg, Int.reduceToNat, Int.lt_irrefl, Int.le_refl, e, z]
    exact endR hBl hBi rfl rfl eB.symm
  have e : announceE s n = 0 := by rw [r, if_neg (by simp [c, m]), if_neg (by simp [z])]
  have eB := two e
  rw [e]
  refine CwpE.cut (st := ⟨[(0, .ref 5 1 0 0), (1, vi n)], objsR p s ++ [G]⟩) ?_ ?_
  · simp only [objsR, oR, go_sem, List.replicate_succ, Nat.reducePow, Nat.reduceLeDiff, ↓reduceIte, reduceCtorEq, Nat.reduceLT, Nat.reduceEqDiff, Nat.reduceAdd, Nat.reduceSub, Nat.reduceMul, Int.reduceToNat, Int.reduceLT, Int.reduceLE, Int.reduceEq, Int.reduceNe, Int.reduceNeg, Int.reduceToNat, Int.lt_irrefl, Int.le_refl, z]
    exact ⟨_, WkE.keep (by simp only [go_sem, List.replicate_succ, Nat.reducePow, Nat.reduceLeDiff, ↓reduceIte, reduceCtorEq, Nat.reduceLT, Nat.reduceEqDiff, Nat.reduceAdd, Nat.reduceSub, Nat.reduceMul, Int.reduceToNat]), rfl⟩
  clear same two e r z m a b c
  refine CwpE.cut (st := ⟨[(0, .ref 5 1 0 0)], objsR p { s with now := n } ++ [G]⟩) ?_ ?_
  · simp only [objsR, oR, go_sem, List.replicate_succ, Nat.reducePow, Nat.reduceLeDiff, ↓reduceIte, reduceCtorEq, Nat.reduceLT, Nat.reduceEqDiff, Nat.reduceAdd, Nat.reduceSub, Nat.reduceMul, Int.reduceToNat, Int.reduceLT, Int.reduceLE, Int.reduceEq, Int.reduceNe, Int.reduceNeg, Int.reduceToNat, Int.lt_irrefl, Int.le_refl]
    exact ⟨_, WkE.keep (by simp only [go_sem, List.replicate_succ, Nat.reducePow, Nat.reduceLeDiff, ↓reduceIte, reduceCtorEq, Nat.reduceLT, Nat.reduceEqDiff, Nat.reduceAdd, Nat.reduceSub, Nat.reduceMul, Int.reduceToNat]), rfl⟩
  obtain ⟨isf, hisf⟩ : ∃ isf : Dv → Bool, (fun d : Dv => !decide (d.mom < s.dec.length)) = isf := ⟨_, rfl⟩
  have isE : ∀ d : Dv, isf d = !decide (d.mom < s.dec.length) := fun d => by rw [← hisf]
  refine CwpE.seqJ (fun st => st = ⟨[(0, .ref 5 1 0 0)], objsR p (beginH s n) ++ [G]⟩) ?_ ?_
  rotate_left
  · rintro st rfl
    have hde := DecideR_s p (beginH s n) (by simpa [beginH] using hn) hd
    generalize decideH (beginH s n) = t at *
    generalize beginH s n = u at *
    refine CwpE.vc ?_
    simp only [objsR, oR, go_sem, List.replicate_succ, Nat.reducePow, Nat.reduceLeDiff, ↓reduceIte, reduceCtorEq, Nat.reduceLT, Nat.reduceEqDiff, Nat.reduceAdd, Nat.reduceSub, Nat.reduceMul, Int.reduceToNat, Int.reduceLT, Int.reduceLE, Int.reduceEq, Int.reduceNe, Int.reduceNeg, Int.reduceToNat, Int.lt_irrefl, Int.le_refl]
    refine callM (objsR p u) [G] _ hde rfl (objsR_inn _ _ 9 (by omega)) rfl ?_
    simp only [go_sem, List.replicate_succ, Nat.reducePow, Nat.reduceLeDiff, ↓reduceIte, reduceCtorEq, Nat.reduceLT, Nat.reduceEqDiff, Nat.reduceAdd, Nat.reduceSub, Nat.reduceMul, Int.reduceToNat, Int.reduceLT, Int.reduceLE, Int.reduceEq, Int.reduceNe, Int.reduceNeg, Int.reduceToNat, Int.lt_irrefl, Int.le_refl]
    exact endR hBl hBi rfl rfl eB.symm
  have hbg : beginH s n = { s with now := n, devs := s.devs.map (stepD isf Dv.ann) } := by rw [← hisf]; rfl
  rw [hbg]
  clear eB hbg
  have e0 : objsR p { s with now := n } = objsR p { s with now := n, devs := partD isf Dv.ann s.devs 0 } := by simp [partD]
  rw [e0]
  refine CwpE.cut (st := ⟨[(0, .ref 5 1 0 0), (6, vi (0 : Nat))], objsR p { s with now := n, devs := partD isf Dv.ann s.devs 0 } ++ [G]⟩) ?_ (CwpE.block ?_)
  · simp only [objsR, oR, go_sem, List.replicate_succ, Nat.reducePow, Nat.reduceLeDiff, ↓reduceIte, reduceCtorEq, Nat.reduceLT, Nat.reduceEqDiff, Nat.reduceAdd, Nat.reduceSub, Nat.reduceMul, Int.reduceToNat, Int.reduceLT, Int.reduceLE, Int.reduceEq, Int.reduceNe, Int.reduceNeg, Int.reduceToNat, Int.lt_irrefl, Int.le_refl]
    exact ⟨_, WkE.keep (by simp only [go_sem, List.replicate_succ, Nat.reducePow, Nat.reduceLeDiff, ↓reduceIte, reduceCtorEq, Nat.reduceLT, Nat.reduceEqDiff, Nat.reduceAdd, Nat.reduceSub, Nat.reduceMul, Int.reduceToNat]; rfl), rfl⟩
  refine loopXC 2 (fun m st => ∃ k : Nat, m = s.devs.length - k ∧ k ≤ s.devs.length ∧ st = ⟨[(0, .ref 5 1 0 0), (6, vi k)], objsR p { s with now := n, devs := partD isf Dv.ann s.devs k } ++ [G]⟩)
    (fun st => st = ⟨[(0, .ref 5 1 0 0)], objsR p { s with now := n, devs := s.devs.map (stepD isf Dv.ann) } ++ [G]⟩) s.devs.length
    ⟨[(0, .ref 5 1 0 0), (6, vi (0 : Nat))], objsR p { s with now := n, devs := partD isf Dv.ann s.devs 0 } ++ [G]⟩ (.refl _ _) ⟨0, rfl, by omega, rfl⟩ ?_ ?_
  rotate_left
  · rintro st rfl
    generalize s.devs.map (stepD isf Dv.ann) = ds
    simp only [objsR, oR, go_sem, List.replicate_succ, Nat.reducePow, Nat.reduceLeDiff, ↓reduceIte, reduceCtorEq, Nat.reduceLT, Nat.reduceEqDiff, Nat.reduceAdd, Nat.reduceSub, Nat.reduceMul, Int.reduceToNat]
    exact ⟨_, .refl _ _, rfl⟩
  rintro m st ⟨k, rfl, hk, rfl⟩
  have hlk := partD_len isf Dv.ann s.devs k
  by_cases hlt : k < s.devs.length
  rotate_left
  · have e : k = s.devs.length := by omega
    subst e
    have e1 : partD isf Dv.ann s.devs s.devs.length = s.devs.map (stepD isf Dv.ann) := by simp [partD]
    rw [e1] at hlk
    have g1 : ¬ (s.devs.length : Int) < ((s.devs.map (stepD isf Dv.ann)).length : Int) := by omega
    rw [e1]
    generalize s.devs.map (stepD isf Dv.ann) = ds at *
    refine CwpE.vc ?_
    simp only [objsR, oR, go_sem, List.replicate_succ, Nat.reducePow, Nat.reduceLeDiff, ↓reduceIte, reduceCtorEq, Nat.reduceLT, Nat.reduceEqDiff, Nat.reduceAdd, Nat.reduceSub, Nat.reduceMul, Int.reduceToNat, Int.reduceLT, Int.reduceLE, Int.reduceEq, Int.reduceNe, Int.reduceNeg, Int.reduceToNat, Int.lt_irrefl, Int.le_refl, g1]
    exact ⟨_, WkE.keep (by simp only [go_sem, List.replicate_succ, Nat.reducePow, Nat.reduceLeDiff, ↓reduceIte, reduceCtorEq, Nat.reduceLT, Nat.reduceEqDiff, Nat.reduceAdd, Nat.reduceSub, Nat.reduceMul, Int.reduceToNat]), rfl⟩
  have hgk := partD_get isf Dv.ann hlt
  have hsk := partD_succ isf Dv.ann hlt
  obtain ⟨ds', hds'⟩ : ∃ ds', partD isf Dv.ann s.devs (k + 1) = ds' := ⟨_, rfl⟩
  rw [hds'] at hsk
  generalize hds : partD isf Dv.ann s.devs k = ds at *
  generalize hdk : s.devs[k] = d at *
  have g1 : (k : Int) < (ds.length : Int) := by omega
  have g0 : (0 : Int) ≤ (k : Int) := by omega
  have w1 : IntKind.i64.wrap ((k : Int) + 1) = ((k + 1 : Nat) : Int) := by rw [wrap_id (by omega) (by omega)]; omega
  have h1 := ds_get hgk
  have h3 : ds.length = ds'.length := by rw [hsk, List.length_set]
  have g1' : (k : Int) < (ds'.length : Int) := by omega
  have fin : ∀ env X, lk env 0 = .ref 5 1 0 0 → lk env 6 = vi (k + 1 : Nat) → ∃ m_1 s', m_1 < s.devs.length - k ∧ WkE 86 ⟨env, objsR p { s with now := n, devs := ds' } ++ G :: X⟩ s' ∧ ∃ k : Nat, m_1 = s.devs.length - k ∧ k ≤ s.devs.length ∧ s' = ⟨[(0, .ref 5 1 0 0), (6, vi k)], objsR p { s with now := n, devs := partD isf Dv.ann s.devs k } ++ [G]⟩ :=
    fun env X e0 e6 => ⟨s.devs.length - (k + 1), ⟨[(0, .ref 5 1 0 0), (6, vi (k + 1 : Nat))], objsR p { s with now := n, devs := ds' } ++ [G]⟩, by omega, WkE.round ⟨e0, e6, trivial⟩ rfl (objsRG_inn p _ hG) rfl, k + 1, rfl, by omega, by rw [hds']⟩
  have hse : stepD isf Dv.ann d = if d.mom < s.dec.length then d else d.ann := by
    unfold stepD; rw [isE]
    by_cases q : d.mom < s.dec.length <;> simp [q]
  rw [hse] at hsk
  clear hse
  obtain ⟨u, l, mo, ho, dn, q0, q1, q2⟩ := d
  refine CwpE.vc ?_
  by_cases q : mo < s.dec.length
  · rw [if_pos q, set_same hgk] at hsk
    subst hsk
    simp only [objsR, oR, vdv, go_sem, List.replicate_succ, Nat.reducePow, Nat.reduceLeDiff, ↓reduceIte, reduceCtorEq, Nat.reduceLT, Nat.reduceEqDiff, Nat.reduceAdd, Nat.reduceSub, Nat.reduceMul, Int.reduceToNat, Int.reduceLT, Int.reduceLE, Int.reduceEq, Int.reduceNe, Int.reduceNeg, Int.reduceToNat, Int.lt_irrefl, Int.le_refl, g1, g0, h1, w1, q]
    exact fin _ _ rfl rfl
  rw [if_neg q] at hsk
  cases l
  · have h2 : (ds.map vdv).set k (.agg [vb u, vb false, vi mo, vb false, vb false, vb q0, vb q1, vb q2]) = ds'.map vdv := by rw [hsk, List.map_set]; simp [Dv.ann]
    simp only [objsR, oR, vdv, go_sem, List.replicate_succ, Nat.reducePow, Nat.reduceLeDiff, ↓reduceIte, reduceCtorEq, Nat.reduceLT, Nat.reduceEqDiff, Nat.reduceAdd, Nat.reduceSub, Nat.reduceMul, Int.reduceToNat, Int.reduceLT, Int.reduceLE, Int.reduceEq, Int.reduceNe, Int.reduceNeg, Int.reduceToNat, Int.lt_irrefl, Int.le_refl, g1', g0, h1, h2, h3, w1, q]
    exact fin _ _ rfl rfl
  · have h2 : (ds.map vdv).set k (.agg [vb u, vb true, vi mo, vb false, vb false, vb true, vb q1, vb q2]) = ds'.map vdv := by rw [hsk, List.map_set]; simp [Dv.ann]
    simp only [objsR, oR, vdv, go_sem, List.replicate_succ, Nat.reducePow, Nat.reduceLeDiff, ↓reduceIte, reduceCtorEq, Nat.reduceLT, Nat.reduceEqDiff, Nat.reduceAdd, Nat.reduceSub, Nat.reduceMul, Int.reduceToNat, Int.reduceLT, Int.reduceLE, Int.reduceEq, Int.reduceNe, Int.reduceNeg, Int.reduceToNat, Int.lt_irrefl, Int.le_refl, g1', g0, h1, h2, h3, w1, q]
    exact fin _ _ rfl rfl
set_option maxHeartbeats 4000000 in
set_option maxRecDepth 100000 in
theorem againR_s (p : Pre) (s : Hs) (hn : s.devs.length ≤ 1000) : CtrM Try.prog 47 [.ref 5 1 0 0] (objsR p s) (.tup []) (objsR p (resendH s)) := by
  refine specR (resendH s) f47 (by simp) (fun _ _ => rfl) fun F0 w0 G B eB hBl hBi hG => ?_
  have hrs : resendH s = { s with devs := s.devs.map (stepD (fun d => d.up) s.res) } := rfl
  rw [hrs] at eB
  clear hrs
  obtain ⟨res, hres⟩ : ∃ res : Dv → Dv, s.res = res := ⟨_, rfl⟩
  have reE : ∀ d : Dv, res d = s.res d := fun d => by rw [← hres]
  rw [hres] at eB
  unfold c47
  have e0 : objsR p s = objsR p { s with devs := partD (fun d => d.up) res s.devs 0 } := by simp [partD]
  rw [e0]
  refine CwpE.cut (st := ⟨[(0, .ref 5 1 0 0), (2, vi (0 : Nat))], objsR p { s with devs := partD (fun d => d.up) res s.devs 0 } ++ [G]⟩) ?_ (CwpE.block ?_)
  · simp only [objsR, oR, go_sem, List.replicate_succ, Nat.reducePow, Nat.reduceLeDiff, ↓reduceIte, reduceCtorEq, Nat.reduceLT, Nat.reduceEqDiff, Nat.reduceAdd, Nat.reduceSub, Nat.reduceMul, Int.reduceToNat, Int.reduceLT, Int.reduceLE, Int.reduceEq, Int.reduceNe, Int.reduceNeg, Int.reduceToNat, Int.lt_irrefl, Int.le_refl]
    exact ⟨_, WkE.keep (by simp only [go_sem, List.replicate_succ, Nat.reducePow, Nat.reduceLeDiff, ↓reduceIte, reduceCtorEq, Nat.reduceLT, Nat.reduceEqDiff, Nat.reduceAdd, Nat.reduceSub, Nat.reduceMul, Int.reduceToNat]; rfl), rfl⟩
  refine loopXC 0 (fun m st => ∃ k : Nat, m = s.devs.length - k ∧ k ≤ s.devs.length ∧ st = ⟨[(0, .ref 5 1 0 0), (2, vi k)], objsR p { s with devs := partD (fun d => d.up) res s.devs k } ++ [G]⟩)
    (fun st => st = ⟨[], B⟩) s.devs.length
    ⟨[(0, .ref 5 1 0 0), (2, vi (0 : Nat))], objsR p { s with devs := partD (fun d => d.up) res s.devs 0 } ++ [G]⟩ (.refl _ _) ⟨0, rfl, by omega, rfl⟩ ?_ ?_
  rotate_left
  · rintro st rfl
    simp only [go_sem, List.replicate_succ, Nat.reducePow, Nat.reduceLeDiff, ↓reduceIte, reduceCtorEq, Nat.reduceLT, Nat.reduceEqDiff, Nat.reduceAdd, Nat.reduceSub, Nat.reduceMul, Int.reduceToNat]
    exact endN hBl hBi rfl rfl (List.take_of_length_le (by omega))
  rintro m st ⟨k, rfl, hk, rfl⟩
  have hlk := partD_len (fun d => d.up) res s.devs k
  by_cases hlt : k < s.devs.length
  rotate_left
  · have e : k = s.devs.length := by omega
    subst e
    have e1 : partD (fun d => d.up) res s.devs s.devs.length = s.devs.map (stepD (fun d => d.up) res) := by simp [partD]
    rw [e1] at hlk
    have g1 : ¬ (s.devs.length : Int) < ((s.devs.map (stepD (fun d => d.up) res)).length : Int) := by omega
    rw [e1]
    generalize s.devs.map (stepD (fun d => d.up) res) = ds at *
    refine CwpE.vc ?_
    simp only [objsR, oR, go_sem, List.replicate_succ, Nat.reducePow, Nat.reduceLeDiff, ↓reduceIte, reduceCtorEq, Nat.reduceLT, Nat.reduceEqDiff, Nat.reduceAdd, Nat.reduceSub, Nat.reduceMul, Int.reduceToNat, Int.reduceLT, Int.reduceLE, Int.reduceEq, Int.reduceNe, Int.reduceNeg, Int.reduceToNat, Int.lt_irrefl, Int.le_refl, g1]
    exact ⟨⟨[], B⟩, by rw [eB]; exact WkE.keep (by simp only [go_sem, List.replicate_succ, Nat.reducePow, Nat.reduceLeDiff, ↓reduceIte, reduceCtorEq, Nat.reduceLT, Nat.reduceEqDiff, Nat.reduceAdd, Nat.reduceSub, Nat.reduceMul, Int.reduceToNat]), rfl⟩
  have hgk := partD_get (fun d => d.up) res hlt
  have hsk := partD_succ (fun d => d.up) res hlt
  obtain ⟨ds', hds'⟩ : ∃ ds', partD (fun d => d.up) res s.devs (k + 1) = ds' := ⟨_, rfl⟩
  rw [hds'] at hsk
  generalize hds : partD (fun d => d.up) res s.devs k = ds at *
  generalize hdk : s.devs[k] = d at *
  have g1 : (k : Int) < (ds.length : Int) := by omega
  have g0 : (0 : Int) ≤ (k : Int) := by omega
  have w1 : IntKind.i64.wrap ((k : Int) + 1) = ((k + 1 : Nat) : Int) := by rw [wrap_id (by omega) (by omega)]; omega
  have h1 := ds_get hgk
  have h3 : ds.length = ds'.length := by rw [hsk, List.length_set]
  have g1' : (k : Int) < (ds'.length : Int) := by omega
  have fin : ∀ env X, lk env 0 = .ref 5 1 0 0 → lk env 2 = vi (k + 1 : Nat) → ∃ m_1 s', m_1 < s.devs.length - k ∧ WkE 64 ⟨env, objsR p { s with devs := ds' } ++ G :: X⟩ s' ∧ ∃ k : Nat, m_1 = s.devs.length - k ∧ k ≤ s.devs.length ∧ s' = ⟨[(0, .ref 5 1 0 0), (2, vi k)], objsR p { s with devs := partD (fun d => d.up) res s.devs k } ++ [G]⟩ :=
    fun env X e0 e6 => ⟨s.devs.length - (k + 1), ⟨[(0, .ref 5 1 0 0), (2, vi (k + 1 : Nat))], objsR p { s with devs := ds' } ++ [G]⟩, by omega, WkE.round ⟨e0, e6, trivial⟩ rfl (objsRG_inn p _ hG) rfl, k + 1, rfl, by omega, by rw [hds']⟩
  unfold stepD at hsk
  rw [reE] at hsk
  clear hds hds' hdk e0
  obtain ⟨u, l, mo, ho, dn, q0, q1, q2⟩ := d
  refine CwpE.vc ?_
  have dflt : ∀ d', ds' = ds.set k d' → ds'.map vdv = (ds.map vdv).set k (vdv d') := fun d' h => by rw [h, List.map_set]
  cases u
  · rw [if_neg (by simp), set_same hgk] at hsk
    subst hsk
    simp only [objsR, oR, vdv, go_sem, List.replicate_succ, Nat.reducePow, Nat.reduceLeDiff, ↓reduceIte, reduceCtorEq, Nat.reduceLT, Nat.reduceEqDiff, Nat.reduceAdd, Nat.reduceSub, Nat.reduceMul, Int.reduceToNat, Int.reduceLT, Int.reduceLE, Int.reduceEq, Int.reduceNe, Int.reduceNeg, Int.reduceToNat, Int.lt_irrefl, Int.le_refl, g1, g0, h1, w1]
    exact fin _ _ rfl rfl
  rw [if_pos rfl] at hsk
  have hr := fun d' (h : s.res ⟨true, l, mo, ho, dn, q0, q1, q2⟩ = d') => dflt d' (by rw [hsk, h])
  clear hsk dflt
  cases l
  · have h2 := (hr _ (if_pos (.inl rfl))).symm
    simp only [objsR, oR, vdv, go_sem, List.replicate_succ, Nat.reducePow, Nat.reduceLeDiff, ↓reduceIte, reduceCtorEq, Nat.reduceLT, Nat.reduceEqDiff, Nat.reduceAdd, Nat.reduceSub, Nat.reduceMul, Int.reduceToNat, Int.reduceLT, Int.reduceLE, Int.reduceEq, Int.reduceNe, Int.reduceNeg, Int.reduceToNat, Int.lt_irrefl, Int.le_refl, g1', g0, h1, h2, h3, w1]
    exact fin _ _ rfl rfl
  by_cases b : mo < s.dec.length
  · have h2 := (hr _ (if_pos (.inr b))).symm
    simp only [objsR, oR, vdv, go_sem, List.replicate_succ, Nat.reducePow, Nat.reduceLeDiff, ↓reduceIte, reduceCtorEq, Nat.reduceLT, Nat.reduceEqDiff, Nat.reduceAdd, Nat.reduceSub, Nat.reduceMul, Int.reduceToNat, Int.reduceLT, Int.reduceLE, Int.reduceEq, Int.reduceNe, Int.reduceNeg, Int.reduceToNat, Int.lt_irrefl, Int.le_refl, g1', g0, h1, h2, h3, w1, b]
    exact fin _ _ rfl rfl
  by_cases c : s.now = 0
  · have h2 := (hr _ (by simp only [Hs.res]; rw [if_neg (by simp [b]), if_neg (by simp [c]), if_neg (by simp [c])])).symm
    simp only [objsR, oR, vdv, go_sem, List.replicate_succ, Nat.reducePow, Nat.reduceLeDiff, ↓reduceIte, reduceCtorEq, Nat.reduceLT, Nat.reduceEqDiff, Nat.reduceAdd, Nat.reduceSub, Nat.reduceMul, Int.reduceToNat, Int.reduceLT, Int.reduceLE, Int.reduceEq, Int.reduceNe, Int.reduceNeg, Int.reduceToNat, Int.lt_irrefl, Int.le_refl, g1', g0, h1, h2, h3, w1, b, c]
    have := fin
    simp only [objsR, oR, c] at this
    exact this _ _ rfl rfl
  cases ho with
  | false =>
    have h2 := (hr _ (by simp only [Hs.res]; rw [if_neg (by simp [b]), if_pos (by simp [c])])).symm
    simp only [objsR, oR, vdv, go_sem, List.replicate_succ, Nat.reducePow, Nat.reduceLeDiff, ↓reduceIte, reduceCtorEq, Nat.reduceLT, Nat.reduceEqDiff, Nat.reduceAdd, Nat.reduceSub, Nat.reduceMul, Int.reduceToNat, Int.reduceLT, Int.reduceLE, Int.reduceEq, Int.reduceNe, Int.reduceNeg, Int.reduceToNat, Int.lt_irrefl, Int.le_refl, g1', g0, h1, h2, h3, w1, b, c]
    exact fin _ _ rfl rfl
  | true =>
    cases dn with
    | false =>
      have h2 := (hr _ (by simp only [Hs.res]; rw [if_neg (by simp [b]), if_neg (by simp), if_pos (by simp [c])])).symm
      simp only [objsR, oR, vdv, go_sem, List.replicate_succ, Nat.reducePow, Nat.reduceLeDiff, ↓reduceIte, reduceCtorEq, Nat.reduceLT, Nat.reduceEqDiff, Nat.reduceAdd, Nat.reduceSub, Nat.reduceMul, Int.reduceToNat, Int.reduceLT, Int.reduceLE, Int.reduceEq, Int.reduceNe, Int.reduceNeg, Int.reduceToNat, Int.lt_irrefl, Int.le_refl, g1', g0, h1, h2, h3, w1, b, c]
      exact fin _ _ rfl rfl
    | true =>
      have h2 := (hr _ (by simp only [Hs.res]; rw [if_neg (by simp [b]), if_neg (by simp), if_neg (by simp)])).symm
      simp only [objsR, oR, vdv, go_sem, List.replicate_succ, Nat.reducePow, Nat.reduceLeDiff, ↓reduceIte, reduceCtorEq, Nat.reduceLT, Nat.reduceEqDiff, Nat.reduceAdd, Nat.reduceSub, Nat.reduceMul, Int.reduceToNat, Int.reduceLT, Int.reduceLE, Int.reduceEq, Int.reduceNe, Int.reduceNeg, Int.reduceToNat, Int.lt_irrefl, Int.le_refl, g1', g0, h1, h2, h3, w1, b, c]
      exact fin _ _ rfl rfl
end Go.Proofs.Ytjpknjicfoiheaa
