/- The law Plays. -/
import Derived.Test.YtjpknjicfoiheaaP2
set_option linter.unusedSimpArgs false
set_option linter.unusedVariables false
set_option linter.unusedSectionVars false
namespace Go.Proofs.Ytjpknjicfoiheaa
open Go.RowKit Dak
abbrev envP (a h b raw : Int) (n : Nat) (acts : List Act') (i : Nat) : List (Nat × AV) := [(2, vi a), (3, vi h), (4, vi b), (5, vi raw), (13, vi n), (14, .ref 2 1 0 0), (16, .ref 5 1 0 0), (18, .list 6 (acts.map vact)), (19, vi i)]
theorem wz : IntKind.i64.wrap (((0 : Nat) : Int) + ((0 : Nat) : Int)) = 0 := by decide
abbrev cellP (x : Act') : List AObj := [.arr 1 6 34 [vact x]]
theorem newsC_shift (s : Hs) (k : Nat) : (newsC s 0).map (AObj.shiftO k) = newsC s k := by
  have e : ∀ {α : Type} (f : α → AV) (l : List α), (∀ x, (f x).shift k = f x) → (l.map f).map (AV.shift k) = l.map f := fun f l h => by
    rw [List.map_map]; exact List.map_congr_left fun x _ => h x
  simp only [newsC, oC, List.map_cons, List.map_nil, AObj.shiftO, e vdv _ (fun _ => rfl), e vi _ (fun _ => rfl), e vans _ (fun _ => rfl), AV.shift, AV.shift1, Nat.zero_add, Nat.add_comm k]
theorem newsC_flat (s : Hs) : ((newsC s 0).all AObj.flat) = true := by
  have e : ∀ {α : Type} (f : α → AV) (l : List α), (∀ x, (f x).flatO = true) → ((l.map f).all AV.flatO) = true := fun f l h => List.all_eq_true.2 fun y hy => by
    obtain ⟨x, _, rfl⟩ := List.mem_map.1 hy
    exact h x
  simp only [newsC, oC, List.all_cons, List.all_nil, AObj.flat, e vdv _ (fun _ => rfl), e vi _ (fun _ => rfl), e vans _ (fun _ => rfl), AV.flatO, AV.flatO1, Bool.and_true]
/-- Two arguments that name what stands below the place k. -/
theorem inn2 (k : Nat) (xs : List AV) (h : 14 ≤ k) (hx : (xs.all fun x => x.inn 14) = true) : (xs.all fun x => x.inn k) = true := by
  refine List.all_eq_true.2 fun x hx' => inn_mono h (List.all_eq_true.1 hx x hx')
theorem objL_inn (s : Hs) (x : Act') (t : Hs) : ((objN s s ++ cellP x) ++ newsC t 10).all (fun o => o.innO 14) = true := by
  rw [List.all_append, List.all_append, newsC_inn t 10 14 (by omega), objsR_inn _ _ 14 (by omega)]; rfl
set_option maxHeartbeats 8000000 in
set_option maxRecDepth 100000 in
theorem Plays_law (l : List Int) (seats at_ how b raw : Int) (hl : ∀ x ∈ l, I64 x) (hs : I64 seats) (ha : I64 at_) (hh : I64 how) (hb : I64 b) (hr : I64 raw) : Ctr Try.prog 7 [vints l, vi seats, vi at_, vi how, vi b, vi raw] (vb true) := by
  refine specC f7 (by simp) fun F0 w0 => ?_
  obtain ⟨n, hn, n1, n5⟩ := k50 seats
  have hA := Around_s seats 5 hs ⟨by omega, by omega⟩
  have bA := aroundL_bd seats 5 (by omega)
  have w1 : IntKind.i64.wrap (1 + aroundL seats 5) = (n : Int) := by rw [wrap_id (by omega) (by omega)]; exact hn
  unfold c7
  refine CwpE.cut (st := ⟨[(0, vints l), (1, vi seats), (2, vi at_), (3, vi how), (4, vi b), (5, vi raw)], []⟩) ?_ ?_
  · simp only [go_sem, List.replicate_succ, Nat.reducePow, Nat.reduceLeDiff, ↓reduceIte, reduceCtorEq, Nat.reduceLT, Nat.reduceEqDiff, Nat.reduceAdd, Nat.reduceSub, Nat.reduceMul, Int.reduceToNat]
    exact ⟨_, WkE.keep (by simp only [go_sem, List.replicate_succ, Nat.reducePow, Nat.reduceLeDiff, ↓reduceIte, reduceCtorEq, Nat.reduceLT, Nat.reduceEqDiff, Nat.reduceAdd, Nat.reduceSub, Nat.reduceMul, Int.reduceToNat]), rfl⟩
  refine CwpE.cut (st := ⟨[(0, vints l), (2, vi at_), (3, vi how), (4, vi b), (5, vi raw), (13, vi n)], []⟩) ?_ ?_
  · simp only [go_sem, List.replicate_succ, Nat.reducePow, Nat.reduceLeDiff, ↓reduceIte, reduceCtorEq, Nat.reduceLT, Nat.reduceEqDiff, Nat.reduceAdd, Nat.reduceSub, Nat.reduceMul, Int.reduceToNat]
    refine callT hA rfl ?_
    simp only [go_sem, List.replicate_succ, Nat.reducePow, Nat.reduceLeDiff, ↓reduceIte, reduceCtorEq, Nat.reduceLT, Nat.reduceEqDiff, Nat.reduceAdd, Nat.reduceSub, Nat.reduceMul, Int.reduceToNat, w1]
    exact ⟨_, WkE.keep (by simp only [go_sem, List.replicate_succ, Nat.reducePow, Nat.reduceLeDiff, ↓reduceIte, reduceCtorEq, Nat.reduceLT, Nat.reduceEqDiff, Nat.reduceAdd, Nat.reduceSub, Nat.reduceMul, Int.reduceToNat]), rfl⟩
  refine CwpE.cut (st := ⟨[(0, vints l), (2, vi at_), (3, vi how), (4, vi b), (5, vi raw), (13, vi n), (14, .ref 2 1 0 0), (15, vi 0)], objsH (newH n)⟩) ?_ ?_
  · simp only [go_sem, List.replicate_succ, Nat.reducePow, Nat.reduceLeDiff, ↓reduceIte, reduceCtorEq, Nat.reduceLT, Nat.reduceEqDiff, Nat.reduceAdd, Nat.reduceSub, Nat.reduceMul, Int.reduceToNat, Int.reduceLT, Int.reduceLE, Int.reduceEq, Int.reduceNe, Int.reduceNeg, Int.reduceToNat, Int.lt_irrefl, Int.le_refl]
    refine callNew (New_s n n1 (by omega)) (.cons (.tree _ rfl) .nil) ?_
    have e1 : (objsH (newH n)).map (AObj.shiftO 0) = objsH (newH n) := by simp [newH, objsH, oH, AObj.shiftO, AV.shift, AV.shift1]
    have e2 : AV.shift 0 (.tup [.ref 2 1 0 0, vi 0]) = .tup [.ref 2 1 0 0, vi 0] := rfl
    simp only [List.length_nil, List.nil_append, e1, e2]
    simp only [go_sem, List.replicate_succ, Nat.reducePow, Nat.reduceLeDiff, ↓reduceIte, reduceCtorEq, Nat.reduceLT, Nat.reduceEqDiff, Nat.reduceAdd, Nat.reduceSub, Nat.reduceMul, Int.reduceToNat, Int.reduceLT, Int.reduceLE, Int.reduceEq, Int.reduceNe, Int.reduceNeg, Int.reduceToNat, Int.lt_irrefl, Int.le_refl]
    exact ⟨_, WkE.keep (by simp only [go_sem, List.replicate_succ, Nat.reducePow, Nat.reduceLeDiff, ↓reduceIte, reduceCtorEq, Nat.reduceLT, Nat.reduceEqDiff, Nat.reduceAdd, Nat.reduceSub, Nat.reduceMul, Int.reduceToNat]), rfl⟩
  refine CwpE.cut (st := ⟨[(0, vints l), (2, vi at_), (3, vi how), (4, vi b), (5, vi raw), (13, vi n), (14, .ref 2 1 0 0), (15, vi 0), (16, .ref 5 1 0 0), (17, vi 0)], objN (newH n) (newH n)⟩) ?_ ?_
  · have e1 := tlR_new n
    have e2 : AV.shift 5 (.tup [.ref 0 1 0 0, vi 0]) = .tup [.ref 5 1 0 0, vi 0] := rfl
    have e3 : (objsH (newH n)).length = 5 := rfl
    have e4 : objN (newH n) (newH n) = objsH (newH n) ++ tlR (newH n) := rfl
    rw [e4]
    generalize objsH (newH n) = OH at *
    simp only [go_sem, List.replicate_succ, Nat.reducePow, Nat.reduceLeDiff, ↓reduceIte, reduceCtorEq, Nat.reduceLT, Nat.reduceEqDiff, Nat.reduceAdd, Nat.reduceSub, Nat.reduceMul, Int.reduceToNat, Int.reduceLT, Int.reduceLE, Int.reduceEq, Int.reduceNe, Int.reduceNeg, Int.reduceToNat, Int.lt_irrefl, Int.le_refl]
    refine callNew (NewR_s n n1 (by omega)) (.cons (.tree _ rfl) .nil) ?_
    rw [e3, e1, e2]
    generalize tlR (newH n) = TL at *
    simp only [go_sem, List.replicate_succ, Nat.reducePow, Nat.reduceLeDiff, ↓reduceIte, reduceCtorEq, Nat.reduceLT, Nat.reduceEqDiff, Nat.reduceAdd, Nat.reduceSub, Nat.reduceMul, Int.reduceToNat, Int.reduceLT, Int.reduceLE, Int.reduceEq, Int.reduceNe, Int.reduceNeg, Int.reduceToNat, Int.lt_irrefl, Int.le_refl]
    exact ⟨_, WkE.keep (by simp only [go_sem, List.replicate_succ, Nat.reducePow, Nat.reduceLeDiff, ↓reduceIte, reduceCtorEq, Nat.reduceLT, Nat.reduceEqDiff, Nat.reduceAdd, Nat.reduceSub, Nat.reduceMul, Int.reduceToNat]), rfl⟩
  have inv0 := inv_new n
  generalize newH n = s0 at *
  refine CwpE.cut (st := ⟨[(0, vints l), (2, vi at_), (3, vi how), (4, vi b), (5, vi raw), (13, vi n), (14, .ref 2 1 0 0), (16, .ref 5 1 0 0)], objN s0 s0⟩) ?_ ?_
  · generalize objN s0 s0 = O
    simp only [go_sem, List.replicate_succ, Nat.reducePow, Nat.reduceLeDiff, ↓reduceIte, reduceCtorEq, Nat.reduceLT, Nat.reduceEqDiff, Nat.reduceAdd, Nat.reduceSub, Nat.reduceMul, Int.reduceToNat, Int.reduceLT, Int.reduceLE, Int.reduceEq, Int.reduceNe, Int.reduceNeg, Int.reduceToNat, Int.lt_irrefl, Int.le_refl]
    exact ⟨_, WkE.keep (by simp only [go_sem, List.replicate_succ, Nat.reducePow, Nat.reduceLeDiff, ↓reduceIte, reduceCtorEq, Nat.reduceLT, Nat.reduceEqDiff, Nat.reduceAdd, Nat.reduceSub, Nat.reduceMul, Int.reduceToNat]), rfl⟩
  obtain ⟨acts, hacts⟩ : ∃ acts, scriptL l n = acts := ⟨_, rfl⟩
  have hS := Script_s l n hl (by omega)
  rw [hacts] at hS
  have hal : acts.length ≤ 40 := by rw [← hacts]; unfold scriptL; rw [scriptK_len]; unfold roundsL; omega
  clear hacts hA bA w1 hn
  refine CwpE.cut (st := ⟨[(2, vi at_), (3, vi how), (4, vi b), (5, vi raw), (13, vi n), (14, .ref 2 1 0 0), (16, .ref 5 1 0 0), (18, .list 6 (acts.map vact))], objN s0 s0⟩) ?_ ?_
  · generalize objN s0 s0 = O
    simp only [go_sem, List.replicate_succ, Nat.reducePow, Nat.reduceLeDiff, ↓reduceIte, reduceCtorEq, Nat.reduceLT, Nat.reduceEqDiff, Nat.reduceAdd, Nat.reduceSub, Nat.reduceMul, Int.reduceToNat, Int.reduceLT, Int.reduceLE, Int.reduceEq, Int.reduceNe, Int.reduceNeg, Int.reduceToNat, Int.lt_irrefl, Int.le_refl]
    refine callT hS rfl ?_
    simp only [go_sem, List.replicate_succ, Nat.reducePow, Nat.reduceLeDiff, ↓reduceIte, reduceCtorEq, Nat.reduceLT, Nat.reduceEqDiff, Nat.reduceAdd, Nat.reduceSub, Nat.reduceMul, Int.reduceToNat, Int.reduceLT, Int.reduceLE, Int.reduceEq, Int.reduceNe, Int.reduceNeg, Int.reduceToNat, Int.lt_irrefl, Int.le_refl]
    exact ⟨_, WkE.keep (by simp only [go_sem, List.replicate_succ, Nat.reducePow, Nat.reduceLeDiff, ↓reduceIte, reduceCtorEq, Nat.reduceLT, Nat.reduceEqDiff, Nat.reduceAdd, Nat.reduceSub, Nat.reduceMul, Int.reduceToNat]), rfl⟩
  refine CwpE.seqJ (fun st => st = ⟨[(5, vi raw)], []⟩) ?_ ?_
  rotate_left
  · rintro st rfl
    have cs : (1 ≤ raw ∧ raw ≤ 8) ∨ raw < 1 ∨ 8 < raw := by omega
    refine CwpE.seqJ (fun st => ∃ o, ((o = 0 ∧ 1 ≤ raw ∧ raw ≤ 8) ∨ (o = 1 ∧ raw < 1) ∨ (o = 1 ∧ 8 < raw)) ∧ st = ⟨[(5, vi raw), (23, vi o)], []⟩) ?_ ?_
    · by_cases ck : 1 ≤ raw ∧ raw ≤ 8
      · obtain ⟨m, rfl⟩ : ∃ m : Nat, raw = (m : Int) := ⟨raw.toNat, by omega⟩
        refine CwpE.vc ?_
        simp only [go_sem, List.replicate_succ, Nat.reducePow, Nat.reduceLeDiff, ↓reduceIte, reduceCtorEq, Nat.reduceLT, Nat.reduceEqDiff, Nat.reduceAdd, Nat.reduceSub, Nat.reduceMul, Int.reduceToNat, Int.reduceLT, Int.reduceLE, Int.reduceEq, Int.reduceNe, Int.reduceNeg, Int.reduceToNat, Int.lt_irrefl, Int.le_refl]
        refine callNew (New_s m (by omega) (by omega)) (.cons (.tree _ rfl) .nil) ?_
        have e2 : AV.shift 0 (.tup [.ref 2 1 0 0, vi 0]) = .tup [.ref 2 1 0 0, vi 0] := rfl
        simp only [List.length_nil, List.nil_append, e2]
        generalize (objsH (newH m)).map (AObj.shiftO 0) = O
        simp only [go_sem, List.replicate_succ, Nat.reducePow, Nat.reduceLeDiff, ↓reduceIte, reduceCtorEq, Nat.reduceLT, Nat.reduceEqDiff, Nat.reduceAdd, Nat.reduceSub, Nat.reduceMul, Int.reduceToNat, Int.reduceLT, Int.reduceLE, Int.reduceEq, Int.reduceNe, Int.reduceNeg, Int.reduceToNat, Int.lt_irrefl, Int.le_refl]
        exact ⟨⟨[(5, vi (m : Int)), (23, vi 0)], []⟩, WkE.round (by simp only [go_sem, List.replicate_succ, Nat.reducePow, Nat.reduceLeDiff, ↓reduceIte, reduceCtorEq, Nat.reduceLT, Nat.reduceEqDiff, Nat.reduceAdd, Nat.reduceSub, Nat.reduceMul, Int.reduceToNat]; try rfl) rfl rfl rfl, 0, .inl ⟨rfl, ck.1, ck.2⟩, rfl⟩
      · have hbad := New_bad raw (by omega)
        refine CwpE.vc ?_
        simp only [go_sem, List.replicate_succ, Nat.reducePow, Nat.reduceLeDiff, ↓reduceIte, reduceCtorEq, Nat.reduceLT, Nat.reduceEqDiff, Nat.reduceAdd, Nat.reduceSub, Nat.reduceMul, Int.reduceToNat, Int.reduceLT, Int.reduceLE, Int.reduceEq, Int.reduceNe, Int.reduceNeg, Int.reduceToNat, Int.lt_irrefl, Int.le_refl]
        refine callT hbad rfl ?_
        simp only [go_sem, List.replicate_succ, Nat.reducePow, Nat.reduceLeDiff, ↓reduceIte, reduceCtorEq, Nat.reduceLT, Nat.reduceEqDiff, Nat.reduceAdd, Nat.reduceSub, Nat.reduceMul, Int.reduceToNat, Int.reduceLT, Int.reduceLE, Int.reduceEq, Int.reduceNe, Int.reduceNeg, Int.reduceToNat, Int.lt_irrefl, Int.le_refl]
        exact ⟨⟨[(5, vi raw), (23, vi 1)], []⟩, WkE.round (by simp only [go_sem, List.replicate_succ, Nat.reducePow, Nat.reduceLeDiff, ↓reduceIte, reduceCtorEq, Nat.reduceLT, Nat.reduceEqDiff, Nat.reduceAdd, Nat.reduceSub, Nat.reduceMul, Int.reduceToNat]; try rfl) rfl rfl rfl, 1, by omega, rfl⟩
    · rintro st ⟨o, ho, rfl⟩
      have hst := Step_nil ⟨0, 0, 0, 0, 0⟩
      rcases ho with ⟨rfl, g1, g2⟩ | ⟨rfl, g1⟩ | ⟨rfl, g1⟩
      · refine CwpE.vc ?_
        simp only [go_sem, List.replicate_succ, Nat.reducePow, Nat.reduceLeDiff, ↓reduceIte, reduceCtorEq, Nat.reduceLT, Nat.reduceEqDiff, Nat.reduceAdd, Nat.reduceSub, Nat.reduceMul, Int.reduceToNat, Int.reduceLT, Int.reduceLE, Int.reduceEq, Int.reduceNe, Int.reduceNeg, Int.reduceToNat, Int.lt_irrefl, Int.le_refl, g1, g2]
        refine callT (Announce_nil 1) rfl ?_
        simp only [go_sem, List.replicate_succ, Nat.reducePow, Nat.reduceLeDiff, ↓reduceIte, reduceCtorEq, Nat.reduceLT, Nat.reduceEqDiff, Nat.reduceAdd, Nat.reduceSub, Nat.reduceMul, Int.reduceToNat, Int.reduceLT, Int.reduceLE, Int.reduceEq, Int.reduceNe, Int.reduceNeg, Int.reduceToNat, Int.lt_irrefl, Int.le_refl]
        refine callT hst rfl ?_
        simp only [go_sem, List.replicate_succ, Nat.reducePow, Nat.reduceLeDiff, ↓reduceIte, reduceCtorEq, Nat.reduceLT, Nat.reduceEqDiff, Nat.reduceAdd, Nat.reduceSub, Nat.reduceMul, Int.reduceToNat, Int.reduceLT, Int.reduceLE, Int.reduceEq, Int.reduceNe, Int.reduceNeg, Int.reduceToNat, Int.lt_irrefl, Int.le_refl]
        refine callT Moment_nil rfl ?_
        simp only [go_sem, List.replicate_succ, Nat.reducePow, Nat.reduceLeDiff, ↓reduceIte, reduceCtorEq, Nat.reduceLT, Nat.reduceEqDiff, Nat.reduceAdd, Nat.reduceSub, Nat.reduceMul, Int.reduceToNat, Int.reduceLT, Int.reduceLE, Int.reduceEq, Int.reduceNe, Int.reduceNeg, Int.reduceToNat, Int.lt_irrefl, Int.le_refl]
        refine callT (Shown_nil 0) rfl ?_
        simp only [go_sem, List.replicate_succ, Nat.reducePow, Nat.reduceLeDiff, ↓reduceIte, reduceCtorEq, Nat.reduceLT, Nat.reduceEqDiff, Nat.reduceAdd, Nat.reduceSub, Nat.reduceMul, Int.reduceToNat, Int.reduceLT, Int.reduceLE, Int.reduceEq, Int.reduceNe, Int.reduceNeg, Int.reduceToNat, Int.lt_irrefl, Int.le_refl]
        refine callT Answers_nil rfl ?_
        simp only [go_sem, List.replicate_succ, Nat.reducePow, Nat.reduceLeDiff, ↓reduceIte, reduceCtorEq, Nat.reduceLT, Nat.reduceEqDiff, Nat.reduceAdd, Nat.reduceSub, Nat.reduceMul, Int.reduceToNat, Int.reduceLT, Int.reduceLE, Int.reduceEq, Int.reduceNe, Int.reduceNeg, Int.reduceToNat, Int.lt_irrefl, Int.le_refl, wz]
        refine callT Copy_nil rfl ?_
        simp only [go_sem, List.replicate_succ, Nat.reducePow, Nat.reduceLeDiff, ↓reduceIte, reduceCtorEq, Nat.reduceLT, Nat.reduceEqDiff, Nat.reduceAdd, Nat.reduceSub, Nat.reduceMul, Int.reduceToNat, Int.reduceLT, Int.reduceLE, Int.reduceEq, Int.reduceNe, Int.reduceNeg, Int.reduceToNat, Int.lt_irrefl, Int.le_refl]
        refine callT lives_s rfl ?_
        simp only [go_sem, List.replicate_succ, Nat.reducePow, Nat.reduceLeDiff, ↓reduceIte, reduceCtorEq, Nat.reduceLT, Nat.reduceEqDiff, Nat.reduceAdd, Nat.reduceSub, Nat.reduceMul, Int.reduceToNat, Int.reduceLT, Int.reduceLE, Int.reduceEq, Int.reduceNe, Int.reduceNeg, Int.reduceToNat, Int.lt_irrefl, Int.le_refl]
        exact .tree _ rfl
      · have g3 : ¬ 1 ≤ raw := by omega
        refine CwpE.vc ?_
        simp only [go_sem, List.replicate_succ, Nat.reducePow, Nat.reduceLeDiff, ↓reduceIte, reduceCtorEq, Nat.reduceLT, Nat.reduceEqDiff, Nat.reduceAdd, Nat.reduceSub, Nat.reduceMul, Int.reduceToNat, Int.reduceLT, Int.reduceLE, Int.reduceEq, Int.reduceNe, Int.reduceNeg, Int.reduceToNat, Int.lt_irrefl, Int.le_refl, g3]
        refine callT (Announce_nil 1) rfl ?_
        simp only [go_sem, List.replicate_succ, Nat.reducePow, Nat.reduceLeDiff, ↓reduceIte, reduceCtorEq, Nat.reduceLT, Nat.reduceEqDiff, Nat.reduceAdd, Nat.reduceSub, Nat.reduceMul, Int.reduceToNat, Int.reduceLT, Int.reduceLE, Int.reduceEq, Int.reduceNe, Int.reduceNeg, Int.reduceToNat, Int.lt_irrefl, Int.le_refl]
        refine callT hst rfl ?_
        simp only [go_sem, List.replicate_succ, Nat.reducePow, Nat.reduceLeDiff, ↓reduceIte, reduceCtorEq, Nat.reduceLT, Nat.reduceEqDiff, Nat.reduceAdd, Nat.reduceSub, Nat.reduceMul, Int.reduceToNat, Int.reduceLT, Int.reduceLE, Int.reduceEq, Int.reduceNe, Int.reduceNeg, Int.reduceToNat, Int.lt_irrefl, Int.le_refl]
        refine callT Moment_nil rfl ?_
        simp only [go_sem, List.replicate_succ, Nat.reducePow, Nat.reduceLeDiff, ↓reduceIte, reduceCtorEq, Nat.reduceLT, Nat.reduceEqDiff, Nat.reduceAdd, Nat.reduceSub, Nat.reduceMul, Int.reduceToNat, Int.reduceLT, Int.reduceLE, Int.reduceEq, Int.reduceNe, Int.reduceNeg, Int.reduceToNat, Int.lt_irrefl, Int.le_refl]
        refine callT (Shown_nil 0) rfl ?_
        simp only [go_sem, List.replicate_succ, Nat.reducePow, Nat.reduceLeDiff, ↓reduceIte, reduceCtorEq, Nat.reduceLT, Nat.reduceEqDiff, Nat.reduceAdd, Nat.reduceSub, Nat.reduceMul, Int.reduceToNat, Int.reduceLT, Int.reduceLE, Int.reduceEq, Int.reduceNe, Int.reduceNeg, Int.reduceToNat, Int.lt_irrefl, Int.le_refl]
        refine callT Answers_nil rfl ?_
        simp only [go_sem, List.replicate_succ, Nat.reducePow, Nat.reduceLeDiff, ↓reduceIte, reduceCtorEq, Nat.reduceLT, Nat.reduceEqDiff, Nat.reduceAdd, Nat.reduceSub, Nat.reduceMul, Int.reduceToNat, Int.reduceLT, Int.reduceLE, Int.reduceEq, Int.reduceNe, Int.reduceNeg, Int.reduceToNat, Int.lt_irrefl, Int.le_refl, wz]
        refine callT Copy_nil rfl ?_
        simp only [go_sem, List.replicate_succ, Nat.reducePow, Nat.reduceLeDiff, ↓reduceIte, reduceCtorEq, Nat.reduceLT, Nat.reduceEqDiff, Nat.reduceAdd, Nat.reduceSub, Nat.reduceMul, Int.reduceToNat, Int.reduceLT, Int.reduceLE, Int.reduceEq, Int.reduceNe, Int.reduceNeg, Int.reduceToNat, Int.lt_irrefl, Int.le_refl]
        refine callT lives_s rfl ?_
        simp only [go_sem, List.replicate_succ, Nat.reducePow, Nat.reduceLeDiff, ↓reduceIte, reduceCtorEq, Nat.reduceLT, Nat.reduceEqDiff, Nat.reduceAdd, Nat.reduceSub, Nat.reduceMul, Int.reduceToNat, Int.reduceLT, Int.reduceLE, Int.reduceEq, Int.reduceNe, Int.reduceNeg, Int.reduceToNat, Int.lt_irrefl, Int.le_refl]
        exact .tree _ rfl
      · have g3 : 1 ≤ raw := by omega
        have g4 : ¬ raw ≤ 8 := by omega
        refine CwpE.vc ?_
        simp only [go_sem, List.replicate_succ, Nat.reducePow, Nat.reduceLeDiff, ↓reduceIte, reduceCtorEq, Nat.reduceLT, Nat.reduceEqDiff, Nat.reduceAdd, Nat.reduceSub, Nat.reduceMul, Int.reduceToNat, Int.reduceLT, Int.reduceLE, Int.reduceEq, Int.reduceNe, Int.reduceNeg, Int.reduceToNat, Int.lt_irrefl, Int.le_refl, g3, g4]
        refine callT (Announce_nil 1) rfl ?_
        simp only [go_sem, List.replicate_succ, Nat.reducePow, Nat.reduceLeDiff, ↓reduceIte, reduceCtorEq, Nat.reduceLT, Nat.reduceEqDiff, Nat.reduceAdd, Nat.reduceSub, Nat.reduceMul, Int.reduceToNat, Int.reduceLT, Int.reduceLE, Int.reduceEq, Int.reduceNe, Int.reduceNeg, Int.reduceToNat, Int.lt_irrefl, Int.le_refl]
        refine callT hst rfl ?_
        simp only [go_sem, List.replicate_succ, Nat.reducePow, Nat.reduceLeDiff, ↓reduceIte, reduceCtorEq, Nat.reduceLT, Nat.reduceEqDiff, Nat.reduceAdd, Nat.reduceSub, Nat.reduceMul, Int.reduceToNat, Int.reduceLT, Int.reduceLE, Int.reduceEq, Int.reduceNe, Int.reduceNeg, Int.reduceToNat, Int.lt_irrefl, Int.le_refl]
        refine callT Moment_nil rfl ?_
        simp only [go_sem, List.replicate_succ, Nat.reducePow, Nat.reduceLeDiff, ↓reduceIte, reduceCtorEq, Nat.reduceLT, Nat.reduceEqDiff, Nat.reduceAdd, Nat.reduceSub, Nat.reduceMul, Int.reduceToNat, Int.reduceLT, Int.reduceLE, Int.reduceEq, Int.reduceNe, Int.reduceNeg, Int.reduceToNat, Int.lt_irrefl, Int.le_refl]
        refine callT (Shown_nil 0) rfl ?_
        simp only [go_sem, List.replicate_succ, Nat.reducePow, Nat.reduceLeDiff, ↓reduceIte, reduceCtorEq, Nat.reduceLT, Nat.reduceEqDiff, Nat.reduceAdd, Nat.reduceSub, Nat.reduceMul, Int.reduceToNat, Int.reduceLT, Int.reduceLE, Int.reduceEq, Int.reduceNe, Int.reduceNeg, Int.reduceToNat, Int.lt_irrefl, Int.le_refl]
        refine callT Answers_nil rfl ?_
        simp only [go_sem, List.replicate_succ, Nat.reducePow, Nat.reduceLeDiff, ↓reduceIte, reduceCtorEq, Nat.reduceLT, Nat.reduceEqDiff, Nat.reduceAdd, Nat.reduceSub, Nat.reduceMul, Int.reduceToNat, Int.reduceLT, Int.reduceLE, Int.reduceEq, Int.reduceNe, Int.reduceNeg, Int.reduceToNat, Int.lt_irrefl, Int.le_refl, wz]
        refine callT Copy_nil rfl ?_
        simp only [go_sem, List.replicate_succ, Nat.reducePow, Nat.reduceLeDiff, ↓reduceIte, reduceCtorEq, Nat.reduceLT, Nat.reduceEqDiff, Nat.reduceAdd, Nat.reduceSub, Nat.reduceMul, Int.reduceToNat, Int.reduceLT, Int.reduceLE, Int.reduceEq, Int.reduceNe, Int.reduceNeg, Int.reduceToNat, Int.lt_irrefl, Int.le_refl]
        refine callT lives_s rfl ?_
        simp only [go_sem, List.replicate_succ, Nat.reducePow, Nat.reduceLeDiff, ↓reduceIte, reduceCtorEq, Nat.reduceLT, Nat.reduceEqDiff, Nat.reduceAdd, Nat.reduceSub, Nat.reduceMul, Int.reduceToNat, Int.reduceLT, Int.reduceLE, Int.reduceEq, Int.reduceNe, Int.reduceNeg, Int.reduceToNat, Int.lt_irrefl, Int.le_refl]
        exact .tree _ rfl
  refine CwpE.cut (st := ⟨envP at_ how b raw n acts 0, objN s0 s0⟩) ?_ (CwpE.block ?_)
  · generalize objN s0 s0 = O
    simp only [go_sem, List.replicate_succ, Nat.reducePow, Nat.reduceLeDiff, ↓reduceIte, reduceCtorEq, Nat.reduceLT, Nat.reduceEqDiff, Nat.reduceAdd, Nat.reduceSub, Nat.reduceMul, Int.reduceToNat, Int.reduceLT, Int.reduceLE, Int.reduceEq, Int.reduceNe, Int.reduceNeg, Int.reduceToNat, Int.lt_irrefl, Int.le_refl]
    exact ⟨_, WkE.keep (by simp only [go_sem, List.replicate_succ, Nat.reducePow, Nat.reduceLeDiff, ↓reduceIte, reduceCtorEq, Nat.reduceLT, Nat.reduceEqDiff, Nat.reduceAdd, Nat.reduceSub, Nat.reduceMul, Int.reduceToNat]; try rfl), rfl⟩
  have hAt := Around_s at_ 40 ha ⟨by omega, by omega⟩
  have hBy := Around_s b 40 hb ⟨by omega, by omega⟩
  generalize aroundL at_ 40 = iat at *
  generalize aroundL b 40 = iby at *
  refine loopXC 0 (fun m st => ∃ (i : Nat) (s : Hs), m = acts.length - i ∧ i ≤ acts.length ∧ Inv n i s ∧ st = ⟨envP at_ how b raw n acts i, objN s s⟩)
    (fun st => st = ⟨[(5, vi raw)], []⟩) acts.length
    ⟨envP at_ how b raw n acts 0, objN s0 s0⟩ (.refl _ _) ⟨0, s0, rfl, by omega, inv0, rfl⟩ ?_ ?_
  rotate_left
  · rintro st rfl
    simp only [go_sem, List.replicate_succ, Nat.reducePow, Nat.reduceLeDiff, ↓reduceIte, reduceCtorEq, Nat.reduceLT, Nat.reduceEqDiff, Nat.reduceAdd, Nat.reduceSub, Nat.reduceMul, Int.reduceToNat]
    exact ⟨_, .refl _ _, rfl⟩
  clear inv0 s0
  rintro m st ⟨i, s, rfl, hi, inv, rfl⟩
  by_cases hlt : i < acts.length
  rotate_left
  · have g1 : ¬ (i : Int) < (acts.length : Int) := by omega
    generalize objN s s = O
    refine CwpE.vc ?_
    simp only [go_sem, List.replicate_succ, Nat.reducePow, Nat.reduceLeDiff, ↓reduceIte, reduceCtorEq, Nat.reduceLT, Nat.reduceEqDiff, Nat.reduceAdd, Nat.reduceSub, Nat.reduceMul, Int.reduceToNat, Int.reduceLT, Int.reduceLE, Int.reduceEq, Int.reduceNe, Int.reduceNeg, Int.reduceToNat, Int.lt_irrefl, Int.le_refl, g1, List.length_map]
    exact ⟨⟨[(5, vi raw)], []⟩, WkE.round (by simp only [go_sem, List.replicate_succ, Nat.reducePow, Nat.reduceLeDiff, ↓reduceIte, reduceCtorEq, Nat.reduceLT, Nat.reduceEqDiff, Nat.reduceAdd, Nat.reduceSub, Nat.reduceMul, Int.reduceToNat]; try rfl) rfl rfl rfl, rfl⟩
  have g1 : (i : Int) < (acts.length : Int) := by omega
  have g0 : (0 : Int) ≤ (i : Int) := by omega
  have w4 : IntKind.i64.wrap ((i : Int) + 1) = ((i + 1 : Nat) : Int) := by rw [wrap_id (by omega) (by omega)]; omega
  refine CwpE.cut (st := ⟨envP at_ how b raw n acts i, objN s s⟩) ?_ ?_
  · generalize objN s s = O
    simp only [go_sem, List.replicate_succ, Nat.reducePow, Nat.reduceLeDiff, ↓reduceIte, reduceCtorEq, Nat.reduceLT, Nat.reduceEqDiff, Nat.reduceAdd, Nat.reduceSub, Nat.reduceMul, Int.reduceToNat, Int.reduceLT, Int.reduceLE, Int.reduceEq, Int.reduceNe, Int.reduceNeg, Int.reduceToNat, Int.lt_irrefl, Int.le_refl, g1, List.length_map]
    exact ⟨_, WkE.keep (by simp only [go_sem, List.replicate_succ, Nat.reducePow, Nat.reduceLeDiff, ↓reduceIte, reduceCtorEq, Nat.reduceLT, Nat.reduceEqDiff, Nat.reduceAdd, Nat.reduceSub, Nat.reduceMul, Int.reduceToNat]), rfl⟩
  refine CwpE.seqJ (fun st => ∃ s' : Hs, Inv n (i + 1) s' ∧ st = ⟨envP at_ how b raw n acts i, objN s' s'⟩) (CwpE.block ?_) ?_
  rotate_left
  · rintro st ⟨s', inv', rfl⟩
    have fin : ∀ O env, WkE 153 ⟨env, O⟩ ⟨envP at_ how b raw n acts (i + 1), O⟩ → O = objN s' s' → ∃ m_1 st, m_1 < acts.length - i ∧ WkE 153 ⟨env, O⟩ st ∧ ∃ (i : Nat) (s : Hs), m_1 = acts.length - i ∧ i ≤ acts.length ∧ Inv n i s ∧ st = ⟨envP at_ how b raw n acts i, objN s s⟩ :=
      fun O env h e => ⟨acts.length - (i + 1), _, by omega, h, i + 1, s', rfl, by omega, inv', by rw [e]⟩
    have hO : ∃ O, O = objN s' s' := ⟨_, rfl⟩
    obtain ⟨O, hO⟩ := hO
    rw [← hO]
    refine CwpE.vc ?_
    simp only [go_sem, List.replicate_succ, Nat.reducePow, Nat.reduceLeDiff, ↓reduceIte, reduceCtorEq, Nat.reduceLT, Nat.reduceEqDiff, Nat.reduceAdd, Nat.reduceSub, Nat.reduceMul, Int.reduceToNat, w4]
    exact fin _ _ (WkE.keep (by simp only [go_sem, List.replicate_succ, Nat.reducePow, Nat.reduceLeDiff, ↓reduceIte, reduceCtorEq, Nat.reduceLT, Nat.reduceEqDiff, Nat.reduceAdd, Nat.reduceSub, Nat.reduceMul, Int.reduceToNat])) hO
  have hget : (acts.map vact)[i]? = some (vact acts[i]) := by rw [List.getElem?_map, List.getElem?_eq_getElem hlt]; rfl
  generalize acts[i] = x at *
  refine CwpE.cut (st := ⟨(20, .ref 9 1 0 0) :: envP at_ how b raw n acts i, objN s s ++ cellP x⟩) ?_ ?_
  · simp only [objN, objsR, oR, vact, go_sem, List.replicate_succ, Nat.reducePow, Nat.reduceLeDiff, ↓reduceIte, reduceCtorEq, Nat.reduceLT, Nat.reduceEqDiff, Nat.reduceAdd, Nat.reduceSub, Nat.reduceMul, Int.reduceToNat, Int.reduceLT, Int.reduceLE, Int.reduceEq, Int.reduceNe, Int.reduceNeg, Int.reduceToNat, Int.lt_irrefl, Int.le_refl, g0, g1, hget, List.length_map]
    exact ⟨_, WkE.keep (by simp only [go_sem, List.replicate_succ, Nat.reducePow, Nat.reduceLeDiff, ↓reduceIte, reduceCtorEq, Nat.reduceLT, Nat.reduceEqDiff, Nat.reduceAdd, Nat.reduceSub, Nat.reduceMul, Int.reduceToNat]), rfl⟩
  refine CwpE.seqJ (fun st => ∃ y, st = ⟨(20, .ref 9 1 0 0) :: envP at_ how b raw n acts i, objN s s ++ cellP y⟩) ?_ ?_
  · refine CwpE.vc ?_
    simp only [objN, objsR, oR, go_sem, List.replicate_succ, Nat.reducePow, Nat.reduceLeDiff, ↓reduceIte, reduceCtorEq, Nat.reduceLT, Nat.reduceEqDiff, Nat.reduceAdd, Nat.reduceSub, Nat.reduceMul, Int.reduceToNat, Int.reduceLT, Int.reduceLE, Int.reduceEq, Int.reduceNe, Int.reduceNeg, Int.reduceToNat, Int.lt_irrefl, Int.le_refl]
    refine callT hAt rfl ?_
    by_cases c : (i : Int) = iat
    · simp only [go_sem, List.replicate_succ, Nat.reducePow, Nat.reduceLeDiff, ↓reduceIte, reduceCtorEq, Nat.reduceLT, Nat.reduceEqDiff, Nat.reduceAdd, Nat.reduceSub, Nat.reduceMul, Int.reduceToNat, Int.reduceLT, Int.reduceLE, Int.reduceEq, Int.reduceNe, Int.reduceNeg, Int.reduceToNat, Int.lt_irrefl, Int.le_refl, c]
      refine callT (Odd_s x how b hh hb) rfl ?_
      simp only [go_sem, List.replicate_succ, Nat.reducePow, Nat.reduceLeDiff, ↓reduceIte, reduceCtorEq, Nat.reduceLT, Nat.reduceEqDiff, Nat.reduceAdd, Nat.reduceSub, Nat.reduceMul, Int.reduceToNat, Int.reduceLT, Int.reduceLE, Int.reduceEq, Int.reduceNe, Int.reduceNeg, Int.reduceToNat, Int.lt_irrefl, Int.le_refl]
      exact ⟨_, WkE.keep (by simp only [go_sem, List.replicate_succ, Nat.reducePow, Nat.reduceLeDiff, ↓reduceIte, reduceCtorEq, Nat.reduceLT, Nat.reduceEqDiff, Nat.reduceAdd, Nat.reduceSub, Nat.reduceMul, Int.reduceToNat]; try rw [c]), oddL x how b, rfl⟩
    · simp only [go_sem, List.replicate_succ, Nat.reducePow, Nat.reduceLeDiff, ↓reduceIte, reduceCtorEq, Nat.reduceLT, Nat.reduceEqDiff, Nat.reduceAdd, Nat.reduceSub, Nat.reduceMul, Int.reduceToNat, Int.reduceLT, Int.reduceLE, Int.reduceEq, Int.reduceNe, Int.reduceNeg, Int.reduceToNat, Int.lt_irrefl, Int.le_refl, c]
      exact ⟨_, WkE.keep (by simp only [go_sem, List.replicate_succ, Nat.reducePow, Nat.reduceLeDiff, ↓reduceIte, reduceCtorEq, Nat.reduceLT, Nat.reduceEqDiff, Nat.reduceAdd, Nat.reduceSub, Nat.reduceMul, Int.reduceToNat]), x, rfl⟩
  rintro st ⟨y, rfl⟩
  clear hget x
  have bd := inv.bd (by omega) (by omega)
  have dinv := does_inv inv y
  have hh1 := does_s s bd y
  have hb1 := fun p => plays_s p inv (by omega) (by omega) y
  have ok1 := dinv.okH (by omega) (by omega)
  have bd1 := dinv.bd (by omega) (by omega)
  generalize doesE s y = f at *
  generalize doesH s y = s1 at *
  have hag := agree_s s1 s1 ok1 ok1 rfl rfl (fun _ => rfl)
  refine CwpE.cut (st := ⟨(20, .ref 9 1 0 0) :: envP at_ how b raw n acts i, objN s1 s1 ++ cellP y⟩) ?_ ?_
  · simp only [objN, objsR, oR, go_sem, List.replicate_succ, Nat.reducePow, Nat.reduceLeDiff, ↓reduceIte, reduceCtorEq, Nat.reduceLT, Nat.reduceEqDiff, Nat.reduceAdd, Nat.reduceSub, Nat.reduceMul, Int.reduceToNat, Int.reduceLT, Int.reduceLE, Int.reduceEq, Int.reduceNe, Int.reduceNeg, Int.reduceToNat, Int.lt_irrefl, Int.le_refl]
    refine callM (objsH s) (tlR s ++ cellP y) _ hh1 rfl (objsH_inn _ 5 (by omega)) rfl ?_
    simp only [objsH, oH, go_sem, List.replicate_succ, Nat.reducePow, Nat.reduceLeDiff, ↓reduceIte, reduceCtorEq, Nat.reduceLT, Nat.reduceEqDiff, Nat.reduceAdd, Nat.reduceSub, Nat.reduceMul, Int.reduceToNat, Int.reduceLT, Int.reduceLE, Int.reduceEq, Int.reduceNe, Int.reduceNeg, Int.reduceToNat, Int.lt_irrefl, Int.le_refl]
    refine callM (objsR (preH s1) s) (cellP y) _ (hb1 _) rfl (objsR_inn _ _ 9 (by omega)) rfl ?_
    simp only [objsR, oR, go_sem, List.replicate_succ, Nat.reducePow, Nat.reduceLeDiff, ↓reduceIte, reduceCtorEq, Nat.reduceLT, Nat.reduceEqDiff, Nat.reduceAdd, Nat.reduceSub, Nat.reduceMul, Int.reduceToNat, Int.reduceLT, Int.reduceLE, Int.reduceEq, Int.reduceNe, Int.reduceNeg, Int.reduceToNat, Int.lt_irrefl, Int.le_refl]
    refine ⟨?_, ?_⟩
    · refine callM (objsR (preH s1) s1) (cellP y) _ hag rfl (objsR_inn _ _ 9 (by omega)) rfl ?_
      simp only [objsR, oR, go_sem, List.replicate_succ, Nat.reducePow, Nat.reduceLeDiff, ↓reduceIte, reduceCtorEq, Nat.reduceLT, Nat.reduceEqDiff, Nat.reduceAdd, Nat.reduceSub, Nat.reduceMul, Int.reduceToNat, Int.reduceLT, Int.reduceLE, Int.reduceEq, Int.reduceNe, Int.reduceNeg, Int.reduceToNat, Int.lt_irrefl, Int.le_refl]
      exact ⟨_, WkE.keep (by simp only [go_sem, List.replicate_succ, Nat.reducePow, Nat.reduceLeDiff, ↓reduceIte, reduceCtorEq, Nat.reduceLT, Nat.reduceEqDiff, Nat.reduceAdd, Nat.reduceSub, Nat.reduceMul, Int.reduceToNat]), rfl⟩
    · refine callM (objsR (preH s1) s1) (cellP y) _ hag rfl (objsR_inn _ _ 9 (by omega)) rfl ?_
      simp only [objsR, oR, go_sem, List.replicate_succ, Nat.reducePow, Nat.reduceLeDiff, ↓reduceIte, reduceCtorEq, Nat.reduceLT, Nat.reduceEqDiff, Nat.reduceAdd, Nat.reduceSub, Nat.reduceMul, Int.reduceToNat, Int.reduceLT, Int.reduceLE, Int.reduceEq, Int.reduceNe, Int.reduceNeg, Int.reduceToNat, Int.lt_irrefl, Int.le_refl]
      exact ⟨_, WkE.keep (by simp only [go_sem, List.replicate_succ, Nat.reducePow, Nat.reduceLeDiff, ↓reduceIte, reduceCtorEq, Nat.reduceLT, Nat.reduceEqDiff, Nat.reduceAdd, Nat.reduceSub, Nat.reduceMul, Int.reduceToNat]), rfl⟩
  clear hh1 hb1 bd f
  have fin : ∀ env X, (∀ p ∈ envP at_ how b raw n acts i, lk env p.1 = p.2) → ∃ st, WkE 153 ⟨env, objN s1 s1 ++ X⟩ st ∧ ∃ s' : Hs, Inv n (i + 1) s' ∧ st = ⟨envP at_ how b raw n acts i, objN s' s'⟩ := by
    intro env X hlk
    refine ⟨⟨envP at_ how b raw n acts i, objN s1 s1⟩, WkE.round ⟨hlk (2, vi at_) (by simp), hlk (3, vi how) (by simp), hlk (4, vi b) (by simp), hlk (5, vi raw) (by simp), hlk (13, vi n) (by simp), hlk (14, .ref 2 1 0 0) (by simp), hlk (16, .ref 5 1 0 0) (by simp), hlk (18, .list 6 (acts.map vact)) (by simp), hlk (19, vi i) (by simp), trivial⟩ rfl (objN_inn s1 s1) ?_, s1, dinv, rfl⟩
    exact List.take_left' rfl
  by_cases c : (i : Int) = iby
  rotate_left
  · refine CwpE.vc ?_
    simp only [objN, objsR, oR, go_sem, List.replicate_succ, Nat.reducePow, Nat.reduceLeDiff, ↓reduceIte, reduceCtorEq, Nat.reduceLT, Nat.reduceEqDiff, Nat.reduceAdd, Nat.reduceSub, Nat.reduceMul, Int.reduceToNat, Int.reduceLT, Int.reduceLE, Int.reduceEq, Int.reduceNe, Int.reduceNeg, Int.reduceToNat, Int.lt_irrefl, Int.le_refl]
    refine callT hBy rfl ?_
    simp only [go_sem, List.replicate_succ, Nat.reducePow, Nat.reduceLeDiff, ↓reduceIte, reduceCtorEq, Nat.reduceLT, Nat.reduceEqDiff, Nat.reduceAdd, Nat.reduceSub, Nat.reduceMul, Int.reduceToNat, Int.reduceLT, Int.reduceLE, Int.reduceEq, Int.reduceNe, Int.reduceNeg, Int.reduceToNat, Int.lt_irrefl, Int.le_refl, c]
    exact fin _ (cellP y) (by simp [lk])
  obtain ⟨L, hL⟩ : ∃ L, L = objN s1 s1 ++ cellP y := ⟨_, rfl⟩
  have hl10 : L.length = 10 := by rw [hL]; rfl
  have cc : ∀ {f xs u u'} {r : AV}, CtrM Try.prog f xs (objsH u) r (objsH u') → (xs.all fun x => x.inR (objsH u)) = true → r.inR (objsH u') = true → CtrM Try.prog f (xs.map (AV.ren (σC 10))) (L ++ newsC u 10) (r.ren (σC 10)) (L ++ newsC u' 10) := by
    intro f xs u u' r h hx hr
    have := ctrC h L hx hr
    rwa [hl10] at this
  have inv2 := does_inv dinv ⟨999, ⟨0, 0, 0, 0, 0⟩⟩
  have bd2 := inv2.bd (by omega) (by omega)
  have an := Announce_s s1 999 bd1.1 bd1.2.1
  rw [doesH_an (by simp)] at bd2 inv2
  simp only at bd2 inv2
  have hc1 : CtrM Try.prog 19 [.ref 13 1 0 0, vi 999] (L ++ newsC s1 10) (vi (announceE s1 999)) (L ++ newsC (announceH s1 999) 10) := cc an rfl rfl
  generalize announceE s1 999 = f1 at *
  generalize announceH s1 999 = s2 at *
  have inv3 := does_inv inv2 ⟨0, ⟨0, 0, 6, 7, 0⟩⟩
  have bd3 := inv3.bd (by omega) (by omega)
  rw [doesH_ev rfl] at bd3 inv3
  simp only at bd3 inv3
  have hc2 : CtrM Try.prog 18 [.ref 13 1 0 0, vev ⟨0, 0, 6, 7, 0⟩] (L ++ newsC s2 10) (vi (stepE s2 ⟨0, 0, 6, 7, 0⟩)) (L ++ newsC (stepH s2 ⟨0, 0, 6, 7, 0⟩) 10) := cc (Step_s s2 bd2.1 bd2.2.1 bd2.2.2 ⟨0, 0, 6, 7, 0⟩) rfl rfl
  generalize stepE s2 ⟨0, 0, 6, 7, 0⟩ = f2 at *
  generalize stepH s2 ⟨0, 0, 6, 7, 0⟩ = s3 at *
  have hc3 : CtrM Try.prog 18 [.ref 13 1 0 0, vev ⟨0, 0, 3, 0, 0⟩] (L ++ newsC s3 10) (vi (stepE s3 ⟨0, 0, 3, 0, 0⟩)) (L ++ newsC (stepH s3 ⟨0, 0, 3, 0, 0⟩) 10) := cc (Step_s s3 bd3.1 bd3.2.1 bd3.2.2 ⟨0, 0, 3, 0, 0⟩) rfl rfl
  generalize stepE s3 ⟨0, 0, 3, 0, 0⟩ = f3 at *
  generalize stepH s3 ⟨0, 0, 3, 0, 0⟩ = s4 at *
  have hin : ∀ t : Hs, ((L ++ newsC t 10).all fun o => o.innO (L ++ newsC t 10).length) = true := by
    intro t
    have e : (L ++ newsC t 10).length = 14 := by rw [List.length_append, hl10]; rfl
    rw [e, hL]; exact objL_inn s1 y t
  have hsn : Snap L (.ref 2 1 0 0) (vhall s1) := by rw [hL]; exact snapH s1 s1 (cellP y)
  have hag2 : ∀ t, ∃ tl, L ++ newsC t 10 = objsR (preH s1) s1 ++ tl := fun t => ⟨cellP y ++ newsC t 10, by rw [hL, List.append_assoc]⟩
  rw [← hL]
  refine CwpE.seqJ (fun st => st = ⟨(82, vb true) :: (20, .ref 9 1 0 0) :: envP at_ how b raw n acts i, L⟩) ?_ ?_
  · refine CwpE.vc ?_
    simp only [go_sem, List.replicate_succ, Nat.reducePow, Nat.reduceLeDiff, ↓reduceIte, reduceCtorEq, Nat.reduceLT, Nat.reduceEqDiff, Nat.reduceAdd, Nat.reduceSub, Nat.reduceMul, Int.reduceToNat, Int.reduceLT, Int.reduceLE, Int.reduceEq, Int.reduceNe, Int.reduceNeg, Int.reduceToNat, Int.lt_irrefl, Int.le_refl]
    refine callT hBy rfl ?_
    simp only [go_sem, List.replicate_succ, Nat.reducePow, Nat.reduceLeDiff, ↓reduceIte, reduceCtorEq, Nat.reduceLT, Nat.reduceEqDiff, Nat.reduceAdd, Nat.reduceSub, Nat.reduceMul, Int.reduceToNat, Int.reduceLT, Int.reduceLE, Int.reduceEq, Int.reduceNe, Int.reduceNeg, Int.reduceToNat, Int.lt_irrefl, Int.le_refl, c]
    exact ⟨_, WkE.keep (by simp only [go_sem, List.replicate_succ, Nat.reducePow, Nat.reduceLeDiff, ↓reduceIte, reduceCtorEq, Nat.reduceLT, Nat.reduceEqDiff, Nat.reduceAdd, Nat.reduceSub, Nat.reduceMul, Int.reduceToNat]; try rw [c]), rfl⟩
  rintro st rfl
  refine CwpE.cond_t rfl ?_
  refine CwpE.seqJ (fun st => st = ⟨(21, .ref 13 1 0 0) :: envP at_ how b raw n acts i, L ++ newsC s1 10⟩) ?_ ?_
  · refine CwpE.vc ?_
    simp only [go_sem, List.replicate_succ, Nat.reducePow, Nat.reduceLeDiff, ↓reduceIte, reduceCtorEq, Nat.reduceLT, Nat.reduceEqDiff, Nat.reduceAdd, Nat.reduceSub, Nat.reduceMul, Int.reduceToNat, Int.reduceLT, Int.reduceLE, Int.reduceEq, Int.reduceNe, Int.reduceNeg, Int.reduceToNat, Int.lt_irrefl, Int.le_refl]
    refine callNewF (Copy_n s1 bd1) (.cons hsn .nil) (newsC_flat s1) rfl ?_
    rw [hl10, newsC_shift]
    simp only [AV.shift, AV.shift1, go_sem, List.replicate_succ, Nat.reducePow, Nat.reduceLeDiff, ↓reduceIte, reduceCtorEq, Nat.reduceLT, Nat.reduceEqDiff, Nat.reduceAdd, Nat.reduceSub, Nat.reduceMul, Int.reduceToNat, Int.reduceLT, Int.reduceLE, Int.reduceEq, Int.reduceNe, Int.reduceNeg, Int.reduceToNat, Int.lt_irrefl, Int.le_refl]
    exact ⟨_, WkE.keep (by simp only [go_sem, List.replicate_succ, Nat.reducePow, Nat.reduceLeDiff, ↓reduceIte, reduceCtorEq, Nat.reduceLT, Nat.reduceEqDiff, Nat.reduceAdd, Nat.reduceSub, Nat.reduceMul, Int.reduceToNat]), rfl⟩
  rintro st rfl
  refine CwpE.seqJ (fun st => st = ⟨(21, .ref 13 1 0 0) :: envP at_ how b raw n acts i, L ++ newsC s2 10⟩) ?_ ?_
  · refine CwpE.vc ?_
    simp only [go_sem, List.replicate_succ, Nat.reducePow, Nat.reduceLeDiff, ↓reduceIte, reduceCtorEq, Nat.reduceLT, Nat.reduceEqDiff, Nat.reduceAdd, Nat.reduceSub, Nat.reduceMul, Int.reduceToNat, Int.reduceLT, Int.reduceLE, Int.reduceEq, Int.reduceNe, Int.reduceNeg, Int.reduceToNat, Int.lt_irrefl, Int.le_refl]
    refine callM (L ++ newsC s1 10) [] _ hc1 (List.append_nil _).symm (hin s1) (inn2 _ _ (by rw [List.length_append, hl10]; exact Nat.le_refl _) rfl) ?_
    rw [List.append_nil]
    simp only [go_sem, List.replicate_succ, Nat.reducePow, Nat.reduceLeDiff, ↓reduceIte, reduceCtorEq, Nat.reduceLT, Nat.reduceEqDiff, Nat.reduceAdd, Nat.reduceSub, Nat.reduceMul, Int.reduceToNat, Int.reduceLT, Int.reduceLE, Int.reduceEq, Int.reduceNe, Int.reduceNeg, Int.reduceToNat, Int.lt_irrefl, Int.le_refl]
    exact ⟨_, WkE.keep (by simp only [go_sem, List.replicate_succ, Nat.reducePow, Nat.reduceLeDiff, ↓reduceIte, reduceCtorEq, Nat.reduceLT, Nat.reduceEqDiff, Nat.reduceAdd, Nat.reduceSub, Nat.reduceMul, Int.reduceToNat]), rfl⟩
  rintro st rfl
  refine CwpE.seqJ (fun st => st = ⟨(21, .ref 13 1 0 0) :: envP at_ how b raw n acts i, L ++ newsC s3 10⟩) ?_ ?_
  · refine CwpE.vc ?_
    simp only [go_sem, List.replicate_succ, Nat.reducePow, Nat.reduceLeDiff, ↓reduceIte, reduceCtorEq, Nat.reduceLT, Nat.reduceEqDiff, Nat.reduceAdd, Nat.reduceSub, Nat.reduceMul, Int.reduceToNat, Int.reduceLT, Int.reduceLE, Int.reduceEq, Int.reduceNe, Int.reduceNeg, Int.reduceToNat, Int.lt_irrefl, Int.le_refl]
    refine callM (L ++ newsC s2 10) [] _ hc2 (List.append_nil _).symm (hin s2) (inn2 _ _ (by rw [List.length_append, hl10]; exact Nat.le_refl _) rfl) ?_
    rw [List.append_nil]
    simp only [go_sem, List.replicate_succ, Nat.reducePow, Nat.reduceLeDiff, ↓reduceIte, reduceCtorEq, Nat.reduceLT, Nat.reduceEqDiff, Nat.reduceAdd, Nat.reduceSub, Nat.reduceMul, Int.reduceToNat, Int.reduceLT, Int.reduceLE, Int.reduceEq, Int.reduceNe, Int.reduceNeg, Int.reduceToNat, Int.lt_irrefl, Int.le_refl]
    exact ⟨_, WkE.keep (by simp only [go_sem, List.replicate_succ, Nat.reducePow, Nat.reduceLeDiff, ↓reduceIte, reduceCtorEq, Nat.reduceLT, Nat.reduceEqDiff, Nat.reduceAdd, Nat.reduceSub, Nat.reduceMul, Int.reduceToNat]), rfl⟩
  rintro st rfl
  refine CwpE.seqJ (fun st => st = ⟨(21, .ref 13 1 0 0) :: envP at_ how b raw n acts i, L ++ newsC s4 10⟩) ?_ ?_
  · refine CwpE.vc ?_
    simp only [go_sem, List.replicate_succ, Nat.reducePow, Nat.reduceLeDiff, ↓reduceIte, reduceCtorEq, Nat.reduceLT, Nat.reduceEqDiff, Nat.reduceAdd, Nat.reduceSub, Nat.reduceMul, Int.reduceToNat, Int.reduceLT, Int.reduceLE, Int.reduceEq, Int.reduceNe, Int.reduceNeg, Int.reduceToNat, Int.lt_irrefl, Int.le_refl]
    refine callM (L ++ newsC s3 10) [] _ hc3 (List.append_nil _).symm (hin s3) (inn2 _ _ (by rw [List.length_append, hl10]; exact Nat.le_refl _) rfl) ?_
    rw [List.append_nil]
    simp only [go_sem, List.replicate_succ, Nat.reducePow, Nat.reduceLeDiff, ↓reduceIte, reduceCtorEq, Nat.reduceLT, Nat.reduceEqDiff, Nat.reduceAdd, Nat.reduceSub, Nat.reduceMul, Int.reduceToNat, Int.reduceLT, Int.reduceLE, Int.reduceEq, Int.reduceNe, Int.reduceNeg, Int.reduceToNat, Int.lt_irrefl, Int.le_refl]
    exact ⟨_, WkE.keep (by simp only [go_sem, List.replicate_succ, Nat.reducePow, Nat.reduceLeDiff, ↓reduceIte, reduceCtorEq, Nat.reduceLT, Nat.reduceEqDiff, Nat.reduceAdd, Nat.reduceSub, Nat.reduceMul, Int.reduceToNat]), rfl⟩
  rintro st rfl
  obtain ⟨tl, htl⟩ := hag2 s4
  rw [htl]
  refine CwpE.vc ?_
  simp only [go_sem, List.replicate_succ, Nat.reducePow, Nat.reduceLeDiff, ↓reduceIte, reduceCtorEq, Nat.reduceLT, Nat.reduceEqDiff, Nat.reduceAdd, Nat.reduceSub, Nat.reduceMul, Int.reduceToNat, Int.reduceLT, Int.reduceLE, Int.reduceEq, Int.reduceNe, Int.reduceNeg, Int.reduceToNat, Int.lt_irrefl, Int.le_refl]
  refine callM (objsR (preH s1) s1) tl _ hag rfl (objsR_inn _ _ 9 (by omega)) rfl ?_
  have e9 : objsR (preH s1) s1 = objN s1 s1 := rfl
  rw [e9]
  generalize hO : objN s1 s1 = O at *
  simp only [go_sem, List.replicate_succ, Nat.reducePow, Nat.reduceLeDiff, ↓reduceIte, reduceCtorEq, Nat.reduceLT, Nat.reduceEqDiff, Nat.reduceAdd, Nat.reduceSub, Nat.reduceMul, Int.reduceToNat, Int.reduceLT, Int.reduceLE, Int.reduceEq, Int.reduceNe, Int.reduceNeg, Int.reduceToNat, Int.lt_irrefl, Int.le_refl]
  subst hO
  exact fin _ tl (by simp [lk])
end Go.Proofs.Ytjpknjicfoiheaa
