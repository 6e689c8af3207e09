/- Lemmas used by all laws. -/
import Derived.Test.YtnncijjkbonokaaDoorJa
import Derived.Test.YtnncijjkbonokaaDoorJb
import Derived.Test.YtnncijjkbonokaaDoorJc
import Derived.Test.YtnncijjkbonokaaDoorJd
import Derived.Test.YtnncijjkbonokaaDoorProg
import Derived.WalkKit
import Derived.WalkSpells
import Derived.WalkLawsBesides
import Derived.Orders
import Derived.Laws.MakeOwn
import Derived.Deep.AppendSrc
import Derived.Lib.AppendZerosOnto
import Derived.Defers
import Derived.Laws.StructEq
import Derived.Scope
import Derived.Deep.LoopGhost
import Derived.OrdersIn
import Derived.ControlIn
import Derived.Sort.LoopGhostIn
import Derived.RangeFuncLeaves
import Derived.RangeFuncRecord
import Derived.RangeFuncFrom
import Derived.RangeFuncBox
import Derived.OwnWalkIn
import Derived.TacticsInMore
import Derived.LoopNIn
import Derived.LoopIn
import Derived.Sort.QuietTacIn
import Derived.DataReads
import Derived.Test.YtnncijjkbonokaaDoorTie
import Derived.ProofKit
import Derived.OpenShut
import Derived.ShutString
import Derived.ChangeOld
import Derived.Below
import Derived.LaidMore
import Derived.LaidHandle
import Derived.FnData
set_option linter.unusedSimpArgs false
set_option linter.unusedVariables false
set_option linter.unusedSectionVars false
set_option maxRecDepth 100000
namespace Go.Proofs.YtnncijjkbonokaaDoor
open Go.RowKit Dak
theorem piece2 (F0 : FD) (w0 : World) (G : AObj) (hG : ∀ m, 7 <= m -> G.innO m = true) (h0 h1 : List (List Nt)) (c0 c1 : List Int) (hc0 : c0.length <= 100000) (hc1 : c1.length <= 100000) (hh0 : h0.length <= 10000) (hh1 : h1.length <= 10000)
 {Q : Exit -> Est -> Prop} (hQ1 : ∀ x0 x1, guessGo 2 [[c0, c1]] [h0, h1] = ([x0, x1], true) -> x0.length <= h0.length + 50 -> x1.length <= h1.length + 50 -> Q .normal ⟨gsE, gs2O nilT false x0 x1 ++ [G]⟩)
 (hQ2 : ∀ x0 x1, guessGo 2 [[c0, c1]] [h0, h1] = ([x0, x1], false) -> ∀ s, WkE 113 s ⟨[], gs2O (gotT 2) false x0 x1 ++ [G]⟩ -> Q .ret s) :
 CwpE Tryd.prog F0 w0 113 gsB Q ⟨(7, vpage [c0, c1]) :: gsE, gs2O nilT false h0 h1 ++ [G]⟩ := by
 have k0 : ((0 : Nat) : Int) = 0 := rfl
 have k1 : ((1 : Nat) : Int) = 1 := rfl
 have k2 : ((2 : Nat) : Int) = 2 := rfl
 have l01 : (0 : Int) < 1 := by decide
 have l02 : (0 : Int) < 2 := by decide
 have l12 : (1 : Int) < 2 := by decide
 have le01 : (0 : Int) <= 1 := by decide
 have le00 : (0 : Int) <= 0 := by decide
 have w11 : IntKind.i64.wrap (1 - 1) = 0 := by decide
 have w21 : IntKind.i64.wrap (2 - 1) = 1 := by decide
 have w01 : IntKind.i64.wrap (0 + 1) = 1 := by decide
 have w12 : IntKind.i64.wrap (1 + 1) = 2 := by decide
 have hinr : ∀ (k : Nat) (r : List (List Nt)), (r.map vbar).all (AV.inn k) = true := fun k r => inn_map fun _ => rfl
 have bad : [c0, c1].any (badC 2) = true -> ∀ s, WkE 113 s ⟨[], gs2O (gotT 2) false h0 h1 ++ [G]⟩ -> Q .ret s := fun h => hQ2 h0 h1 (by rw [guessGo, if_pos h])
 unfold gsB c43
 refine CwpE.cut (st := ⟨(8, .own 8 2 0 2) :: gsE, gs2O nilT false h0 h1 ++ [G] ++ [.arr 2 1 30 [vbytes c0, vbytes c1]]⟩) ?_ ?_
 ·simp only [go_sem, ↓reduceIte, Nat.reduceLT, List.cons_append, List.nil_append]
  refine callNew (Clone74_n [c0, c1] (by simp)) (.cons (.tree _ rfl) .nil) ?_
  simp only [go_sem, ↓reduceIte, Nat.reduceLT, Nat.reduceAdd, AV.shift, AV.shift1, AObj.shiftO, List.map_cons, List.map_nil, Nat.zero_add, List.length_cons, List.length_nil, Nat.reduceAdd, List.cons_append, List.nil_append]
  exact ⟨_, WkE.keep (by simp only [go_sem, ↓reduceIte, Nat.reduceEqDiff]), rfl⟩
 refine CwpE.seqJ (fun s => [c0, c1].any (badC 2) = false /\ s = ⟨(8, vpage [(List.drop 1 c0), (List.drop 1 c1)]) :: gsE, gs2O nilT false h0 h1 ++ [G]⟩) ?_ ?_
 ·refine CwpE.cut (st := ⟨[(8, .own 8 2 0 2), (44, .own 8 2 0 2), (45, vi 2), (46, vi 0)] ++ gsE, gs2O nilT false h0 h1 ++ [G] ++ [.arr 2 1 30 [vbytes c0, vbytes c1]]⟩) ?_ ?_
  ·simp only [go_sem, ↓reduceIte, Nat.reduceLT, k2, List.cons_append, List.nil_append]
   exact ⟨_, WkE.keep (by simp only [go_sem, ↓reduceIte, Nat.reduceEqDiff]), rfl⟩
  refine CwpE.block ?_
  refine loopX 2 (fun u s => (u = 2 /\ s = ⟨[(8, .own 8 2 0 2), (44, .own 8 2 0 2), (45, vi 2), (46, vi 0)] ++ gsE, gs2O nilT false h0 h1 ++ [G] ++ [.arr 2 1 30 [vbytes c0, vbytes c1]]⟩) \/ (u = 1 /\ badC 2 c0 = false /\ s = ⟨[(8, .own 8 2 0 2), (44, .own 8 2 0 2), (45, vi 2), (46, vi 1)] ++ gsE, gs2O nilT false h0 h1 ++ [G] ++ [.arr 2 1 30 [vbytes (List.drop 1 c0), vbytes c1]]⟩) \/ (u = 0 /\ badC 2 c0 = false /\ badC 2 c1 = false /\ s = ⟨[(8, .own 8 2 0 2), (44, .own 8 2 0 2), (45, vi 2), (46, vi 2)] ++ gsE, gs2O nilT false h0 h1 ++ [G] ++ [.arr 2 1 30 [vbytes (List.drop 1 c0), vbytes (List.drop 1 c1)]]⟩)) (fun s => [c0, c1].any (badC 2) = false /\ s = ⟨(8, vpage [(List.drop 1 c0), (List.drop 1 c1)]) :: gsE, gs2O nilT false h0 h1 ++ [G]⟩) 2 ⟨[(8, .own 8 2 0 2), (44, .own 8 2 0 2), (45, vi 2), (46, vi 0)] ++ gsE, gs2O nilT false h0 h1 ++ [G] ++ [.arr 2 1 30 [vbytes c0, vbytes c1]]⟩ (.refl _ _) (.inl ⟨rfl, rfl⟩) ?_ ?_
  rotate_left
  ·rintro s ⟨e, rfl⟩
   simp only [inBlockE, if_true]
   exact ⟨_, .refl _ _, e, rfl⟩
  rintro u s (⟨rfl, rfl⟩ | ⟨rfl, p0, rfl⟩ | ⟨rfl, p0, p1, rfl⟩)
  ·by_cases a1 : (40 : Int) < (c0.length : Int)
   ·have hbd : badC 2 c0 = true := by simp only [badC, show 40 < c0.length from by omega, decide_true, Bool.true_or]
    simp only [go_sem, ↓reduceIte, Nat.reduceLT, Nat.reduceEqDiff, Int.reduceToNat, Int.reduceToNat, Int.le_refl, k2, l02, a1, List.cons_append, List.nil_append]
    refine bad (by simp only [List.any_cons, hbd, Bool.true_or]) _ (WkE.round trivial rfl ?_ rfl)
    exact inn_gs2 G hG (gotT 2) false h0 h1 rfl
   by_cases a2 : (c0.length : Int) < 1
   ·have hbd : badC 2 c0 = true := by simp only [badC, show c0.length < 2 - 1 from by omega, decide_true, Bool.or_true]
    simp only [go_sem, ↓reduceIte, Nat.reduceLT, Nat.reduceEqDiff, Int.reduceToNat, Int.reduceToNat, Int.le_refl, k2, l02, w21, a1, a2, List.cons_append, List.nil_append]
    refine bad (by simp only [List.any_cons, hbd, Bool.true_or]) _ (WkE.round trivial rfl ?_ rfl)
    exact inn_gs2 G hG (gotT 2) false h0 h1 rfl
   have hok : badC 2 c0 = false := by
    simp only [badC, show ¬ 40 < c0.length from by omega, show ¬ c0.length < 2 - 1 from by omega, decide_false, Bool.or_false]
   have a3 : (1 : Int) <= (c0.length : Int) := by omega
   have htl : List.take c0.length (c0.map vu) = c0.map vu := List.take_of_length_le (by simp)
   simp only [go_sem, ↓reduceIte, Nat.reduceLT, Nat.reduceEqDiff, Int.reduceToNat, Int.reduceToNat, k2, l02, le01, le00, w21, w01, a1, a2, a3, htl, <- List.map_drop, List.cons_append, List.nil_append]
   exact ⟨1, ⟨[(8, .own 8 2 0 2), (44, .own 8 2 0 2), (45, vi 2), (46, vi 1)] ++ gsE, gs2O nilT false h0 h1 ++ [G] ++ [.arr 2 1 30 [vbytes (List.drop 1 c0), vbytes c1]]⟩, by omega, WkE.keep (by simp only [go_sem, ↓reduceIte, Nat.reduceEqDiff, List.cons_append, List.nil_append]), .inr (.inl ⟨rfl, hok, rfl⟩)⟩
  ·by_cases a1 : (40 : Int) < (c1.length : Int)
   ·have hbd : badC 2 c1 = true := by simp only [badC, show 40 < c1.length from by omega, decide_true, Bool.true_or]
    simp only [go_sem, ↓reduceIte, Nat.reduceLT, Nat.reduceEqDiff, Int.reduceToNat, Int.reduceToNat, k2, l12, le01, a1, List.cons_append, List.nil_append]
    refine bad (by simp only [List.any_cons, hbd, Bool.true_or, Bool.or_true]) _ (WkE.round trivial rfl ?_ rfl)
    exact inn_gs2 G hG (gotT 2) false h0 h1 rfl
   by_cases a2 : (c1.length : Int) < 1
   ·have hbd : badC 2 c1 = true := by simp only [badC, show c1.length < 2 - 1 from by omega, decide_true, Bool.or_true]
    simp only [go_sem, ↓reduceIte, Nat.reduceLT, Nat.reduceEqDiff, Int.reduceToNat, Int.reduceToNat, k2, l12, le01, w21, a1, a2, List.cons_append, List.nil_append]
    refine bad (by simp only [List.any_cons, hbd, Bool.true_or, Bool.or_true]) _ (WkE.round trivial rfl ?_ rfl)
    exact inn_gs2 G hG (gotT 2) false h0 h1 rfl
   have hok : badC 2 c1 = false := by
    simp only [badC, show ¬ 40 < c1.length from by omega, show ¬ c1.length < 2 - 1 from by omega, decide_false, Bool.or_false]
   have a3 : (1 : Int) <= (c1.length : Int) := by omega
   have htl : List.take c1.length (c1.map vu) = c1.map vu := List.take_of_length_le (by simp)
   simp only [go_sem, ↓reduceIte, Nat.reduceLT, Nat.reduceEqDiff, Int.reduceToNat, Int.reduceToNat, k2, l12, le01, w21, w12, a1, a2, a3, htl, <- List.map_drop, List.cons_append, List.nil_append]
   exact ⟨0, ⟨[(8, .own 8 2 0 2), (44, .own 8 2 0 2), (45, vi 2), (46, vi 2)] ++ gsE, gs2O nilT false h0 h1 ++ [G] ++ [.arr 2 1 30 [vbytes (List.drop 1 c0), vbytes (List.drop 1 c1)]]⟩, by omega, WkE.keep (by simp only [go_sem, ↓reduceIte, Nat.reduceEqDiff, List.cons_append, List.nil_append]), .inr (.inr (⟨rfl, p0, hok, rfl⟩))⟩
  ·simp only [go_sem, ↓reduceIte, Nat.reduceLT, Nat.reduceEqDiff, Int.lt_irrefl, List.cons_append, List.nil_append]
   refine ⟨⟨(8, vpage [(List.drop 1 c0), (List.drop 1 c1)]) :: gsE, gs2O nilT false h0 h1 ++ [G]⟩, ?_, by simp only [List.any_cons, List.any_nil, p0, p1, Bool.or_false], rfl⟩
   refine (WkE.freeze 8 8 2 0 2 1 30 _ (by omega) rfl rfl (by simp) rfl).trans (WkE.round ?_ ?_ ?_ ?_)
   ·simp only [go_sem, ↓reduceIte, Nat.reduceEqDiff, List.take_succ_cons, List.take_zero, List.drop_zero]
    rfl
   ·rfl
   ·exact inn_gs2 G hG nilT false h0 h1 rfl
   ·rfl
 rintro _ ⟨hany, rfl⟩
 have hbok := barsP_ok [(List.drop 1 c0), (List.drop 1 c1)] 100000 (fun c hc => by
  simp only [List.mem_cons, List.not_mem_nil, or_false] at hc
  rcases hc with rfl | rfl
  ·rw [List.length_drop]; omega
  ·rw [List.length_drop]; omega)
 have h40 : ∀ c ∈ [c0, c1], c.length <= 40 := fun c hc => by
  have := List.any_eq_false.1 hany c hc
  simp only [badC, Bool.or_eq_true, decide_eq_true_eq, not_or] at this
  omega
 have hbok2 := barsP_ok [(List.drop 1 c0), (List.drop 1 c1)] 40 (fun c hc => by
  simp only [List.mem_cons, List.not_mem_nil, or_false] at hc
  rcases hc with rfl | rfl
  ·have := h40 c0 (by simp); rw [List.length_drop]; omega
  ·have := h40 c1 (by simp); rw [List.length_drop]; omega)
 have hbar := bars_s [(List.drop 1 c0), (List.drop 1 c1)] (by simp) (fun c hc => by
  simp only [List.mem_cons, List.not_mem_nil, or_false] at hc
  rcases hc with rfl | rfl
  ·have := h40 c0 (by simp); rw [List.length_drop]; omega
  ·have := h40 c1 (by simp); rw [List.length_drop]; omega)
 have hg : ∀ m, handsGo (barsP [(List.drop 1 c0), (List.drop 1 c1)]) [h0, h1] = (m, true) -> guessGo 2 [[c0, c1]] [h0, h1] = (m, true) := fun m h => by
  rw [guessGo, if_neg (by rw [hany]; simp)]
  rw [show List.map (List.drop (2 - 1)) [c0, c1] = [(List.drop 1 c0), (List.drop 1 c1)] from rfl, h]
  rfl
 have hg2 : ∀ m, handsGo (barsP [(List.drop 1 c0), (List.drop 1 c1)]) [h0, h1] = (m, false) -> guessGo 2 [[c0, c1]] [h0, h1] = (m, false) := fun m h => by
  rw [guessGo, if_neg (by rw [hany]; simp)]
  rw [show List.map (List.drop (2 - 1)) [c0, c1] = [(List.drop 1 c0), (List.drop 1 c1)] from rfl, h]
  rfl
 refine CwpE.seqJ (fun s => s = ⟨[(71, vbars (barsP [(List.drop 1 c0), (List.drop 1 c1)])), (72, vi 2), (73, vi 0)] ++ gsE, gs2O nilT false h0 h1 ++ [G]⟩) ?_ ?_
 ·refine CwpE.vc ?_
  simp only [go_sem, ↓reduceIte, Nat.reduceLT, List.cons_append, List.nil_append]
  refine callT hbar rfl ?_
  have hl : ((barsP [(List.drop 1 c0), (List.drop 1 c1)]).length : Int) = 2 := by rw [hbok.1]; rfl
  simp only [go_sem, ↓reduceIte, Nat.reduceLT, hl, List.length_map]
  exact ⟨_, WkE.keep (by simp only [go_sem, ↓reduceIte, Nat.reduceEqDiff]), rfl⟩
 rintro _ rfl
 obtain ⟨b0, b1, hB⟩ := two_of hbok.1
 rw [hB] at hbok hbok2 hg hg2 ⊢
 clear hbar hB bad
 have q0 := hbok2.2 b0 (by simp)
 have g0 := handGo_ok b0 (-1) h0
 have q1 := hbok2.2 b1 (by simp)
 have g1 := handGo_ok b1 (-1) h1
 refine CwpE.block ?_
 refine loopXC 4 (fun u s => (u = 2 /\ s = ⟨[(71, vbars [b0, b1]), (72, vi 2), (73, vi 0)] ++ gsE, gs2O nilT false h0 h1 ++ [G]⟩) \/ (u = 1 /\ (handGo b0 (-1) h0).2 = true /\ s = ⟨[(71, vbars [b0, b1]), (72, vi 2), (73, vi 1)] ++ gsE, gs2O nilT false (handGo b0 (-1) h0).1 h1 ++ [G]⟩) \/ (u = 0 /\ (handGo b0 (-1) h0).2 = true /\ (handGo b1 (-1) h1).2 = true /\ s = ⟨[(71, vbars [b0, b1]), (72, vi 2), (73, vi 2)] ++ gsE, gs2O nilT false (handGo b0 (-1) h0).1 (handGo b1 (-1) h1).1 ++ [G]⟩)) (fun s => (handGo b0 (-1) h0).2 = true /\ (handGo b1 (-1) h1).2 = true /\ s = ⟨gsE, gs2O nilT false (handGo b0 (-1) h0).1 (handGo b1 (-1) h1).1 ++ [G]⟩) 2 ⟨[(71, vbars [b0, b1]), (72, vi 2), (73, vi 0)] ++ gsE, gs2O nilT false h0 h1 ++ [G]⟩ (.refl _ _) (.inl ⟨rfl, rfl⟩) ?_ ?_
 rotate_left
 ·rintro s ⟨p0, p1, rfl⟩
  simp only [inBlockE, if_true]
  refine hQ1 (handGo b0 (-1) h0).1 (handGo b1 (-1) h1).1 (hg _ ?_) ?_ ?_
  ·simp only [handsGo, p0, p1, if_true]
  ·have := hand_len b0 (-1) h0
   omega
  ·have := hand_len b1 (-1) h1
   omega
 rintro u s (⟨rfl, rfl⟩ | ⟨rfl, p0, rfl⟩ | ⟨rfl, p0, p1, rfl⟩)
 ·refine CwpE.cut (st := ⟨[(74, vb true), (71, vbars [b0, b1]), (72, vi 2), (73, vi 0)] ++ gsE, gs2O nilT false h0 h1 ++ [G]⟩) ?_ ?_
  ·simp only [go_sem, ↓reduceIte, Nat.reduceLT, Nat.reduceEqDiff, Int.reduceNeg, l02, List.cons_append, List.nil_append]
   exact ⟨_, WkE.keep (by simp only [go_sem, ↓reduceIte, Nat.reduceEqDiff]), rfl⟩
  refine CwpE.cut (st := ⟨[(71, vbars [b0, b1]), (72, vi 2), (73, vi 0)] ++ gsE, gs2O nilT false h0 h1 ++ [G]⟩) ?_ ?_
  ·simp only [go_sem, ↓reduceIte, Int.reduceNeg, List.cons_append, List.nil_append]
   exact ⟨_, WkE.keep (by simp only [go_sem, ↓reduceIte, Nat.reduceEqDiff]), rfl⟩
  refine CwpE.seqJ (fun s => (handGo b0 (-1) h0).2 = true /\ s = ⟨gsL [b0, b1] 2 (0 : Nat), gs2O nilT false (handGo b0 (-1) h0).1 h1 ++ [G]⟩) (CwpE.block ?_) ?_
  rotate_left
  ·rintro _ ⟨hok, rfl⟩
   refine CwpE.vc ?_
   simp only [go_sem, ↓reduceIte, Nat.reduceLT, Nat.reduceEqDiff, Int.reduceNeg, k0, k2, w01, List.cons_append, List.nil_append]
   exact ⟨1, ⟨[(71, vbars [b0, b1]), (72, vi 2), (73, vi 1)] ++ gsE, gs2O nilT false (handGo b0 (-1) h0).1 h1 ++ [G]⟩, by omega, WkE.keep (by simp only [go_sem, ↓reduceIte, Nat.reduceEqDiff, List.cons_append, List.nil_append]), .inr (.inl ⟨rfl, hok, rfl⟩)⟩
  refine CwpE.cut (st := ⟨[(11, vi 0), (12, vpage b0), (71, vbars [b0, b1]), (72, vi 2), (73, vi 0)] ++ gsE, gs2O nilT false h0 h1 ++ [G]⟩) ?_ ?_
  ·simp only [go_sem, ↓reduceIte, Nat.reduceLT, Nat.reduceEqDiff, Int.reduceToNat, Int.reduceNeg, Int.reduceToNat, Int.le_refl, k0, k2, List.cons_append, List.nil_append]
   exact ⟨_, WkE.keep (by simp only [go_sem, ↓reduceIte, Nat.reduceEqDiff]), rfl⟩
  refine CwpE.cut (st := ⟨[(11, vi 0), (12, vpage b0), (13, vi (-1)), (71, vbars [b0, b1]), (72, vi 2), (73, vi 0)] ++ gsE, gs2O nilT false h0 h1 ++ [G]⟩) ?_ ?_
  ·simp only [go_sem, ↓reduceIte, Nat.reduceLT, Int.reduceNeg, List.cons_append, List.nil_append]
   exact ⟨_, WkE.keep (by simp only [go_sem, ↓reduceIte, Nat.reduceEqDiff]), rfl⟩
  refine CwpE.cut (st := ⟨hdE [b0, b1] 2 (0 : Nat) b0 (-1) 0, gs2O nilT false h0 h1 ++ [G]⟩) ?_ ?_
  ·simp only [go_sem, ↓reduceIte, Nat.reduceLT, Nat.reduceEqDiff, Int.reduceNeg, List.length_map, List.cons_append, List.nil_append]
   exact ⟨_, WkE.keep (by simp only [go_sem, ↓reduceIte, Nat.reduceEqDiff, k0, k2]), rfl⟩
  refine hand20 F0 w0 G [b0, b1] h0 h1 b0 (by omega) (fun c hc => by have := q0.2 c hc; omega) (by omega) (fun e => ⟨_, .refl _ _, e, rfl⟩) (fun e s hs => ?_)
  refine hQ2 (handGo b0 (-1) h0).1 h1 (hg2 _ ?_) s hs
  simp only [handsGo, e, Bool.false_eq_true, if_false]
 ·refine CwpE.cut (st := ⟨[(74, vb true), (71, vbars [b0, b1]), (72, vi 2), (73, vi 1)] ++ gsE, gs2O nilT false (handGo b0 (-1) h0).1 h1 ++ [G]⟩) ?_ ?_
  ·simp only [go_sem, ↓reduceIte, Nat.reduceLT, Nat.reduceEqDiff, Int.reduceNeg, l12, List.cons_append, List.nil_append]
   exact ⟨_, WkE.keep (by simp only [go_sem, ↓reduceIte, Nat.reduceEqDiff]), rfl⟩
  refine CwpE.cut (st := ⟨[(71, vbars [b0, b1]), (72, vi 2), (73, vi 1)] ++ gsE, gs2O nilT false (handGo b0 (-1) h0).1 h1 ++ [G]⟩) ?_ ?_
  ·simp only [go_sem, ↓reduceIte, Int.reduceNeg, List.cons_append, List.nil_append]
   exact ⟨_, WkE.keep (by simp only [go_sem, ↓reduceIte, Nat.reduceEqDiff]), rfl⟩
  refine CwpE.seqJ (fun s => (handGo b1 (-1) h1).2 = true /\ s = ⟨gsL [b0, b1] 2 (1 : Nat), gs2O nilT false (handGo b0 (-1) h0).1 (handGo b1 (-1) h1).1 ++ [G]⟩) (CwpE.block ?_) ?_
  rotate_left
  ·rintro _ ⟨hok, rfl⟩
   refine CwpE.vc ?_
   simp only [go_sem, ↓reduceIte, Nat.reduceLT, Nat.reduceEqDiff, Int.reduceNeg, k1, k2, w12, List.cons_append, List.nil_append]
   exact ⟨0, ⟨[(71, vbars [b0, b1]), (72, vi 2), (73, vi 2)] ++ gsE, gs2O nilT false (handGo b0 (-1) h0).1 (handGo b1 (-1) h1).1 ++ [G]⟩, by omega, WkE.keep (by simp only [go_sem, ↓reduceIte, Nat.reduceEqDiff, List.cons_append, List.nil_append]), .inr (.inr (⟨rfl, p0, hok, rfl⟩))⟩
  refine CwpE.cut (st := ⟨[(11, vi 1), (12, vpage b1), (71, vbars [b0, b1]), (72, vi 2), (73, vi 1)] ++ gsE, gs2O nilT false (handGo b0 (-1) h0).1 h1 ++ [G]⟩) ?_ ?_
  ·simp only [go_sem, ↓reduceIte, Nat.reduceLT, Nat.reduceEqDiff, Int.reduceToNat, Int.reduceNeg, Int.reduceToNat, k1, k2, le01, List.cons_append, List.nil_append]
   exact ⟨_, WkE.keep (by simp only [go_sem, ↓reduceIte, Nat.reduceEqDiff]), rfl⟩
  refine CwpE.cut (st := ⟨[(11, vi 1), (12, vpage b1), (13, vi (-1)), (71, vbars [b0, b1]), (72, vi 2), (73, vi 1)] ++ gsE, gs2O nilT false (handGo b0 (-1) h0).1 h1 ++ [G]⟩) ?_ ?_
  ·simp only [go_sem, ↓reduceIte, Nat.reduceLT, Int.reduceNeg, List.cons_append, List.nil_append]
   exact ⟨_, WkE.keep (by simp only [go_sem, ↓reduceIte, Nat.reduceEqDiff]), rfl⟩
  refine CwpE.cut (st := ⟨hdE [b0, b1] 2 (1 : Nat) b1 (-1) 0, gs2O nilT false (handGo b0 (-1) h0).1 h1 ++ [G]⟩) ?_ ?_
  ·simp only [go_sem, ↓reduceIte, Nat.reduceLT, Nat.reduceEqDiff, Int.reduceNeg, List.length_map, List.cons_append, List.nil_append]
   exact ⟨_, WkE.keep (by simp only [go_sem, ↓reduceIte, Nat.reduceEqDiff, k0, k1, k2]), rfl⟩
  refine hand21 F0 w0 G [b0, b1] (handGo b0 (-1) h0).1 h1 b1 (by omega) (fun c hc => by have := q1.2 c hc; omega) (by omega) (fun e => ⟨_, .refl _ _, e, rfl⟩) (fun e s hs => ?_)
  refine hQ2 (handGo b0 (-1) h0).1 (handGo b1 (-1) h1).1 (hg2 _ ?_) s hs
  simp only [handsGo, p0, e, if_true, Bool.false_eq_true, if_false]
 ·refine CwpE.vc ?_
  simp only [go_sem, ↓reduceIte, Nat.reduceLT, Nat.reduceEqDiff, Int.reduceNeg, Int.lt_irrefl, List.cons_append, List.nil_append]
  exact ⟨_, WkE.keep (by simp only [go_sem, ↓reduceIte, Nat.reduceEqDiff]), p0, p1, rfl⟩
end Go.Proofs.YtnncijjkbonokaaDoor
namespace Go.Proofs.YtnncijjkbonokaaDoor
open Go.RowKit Dak
abbrev vgot (r : List (List (List Nt)) × Bool) : AV := .tup [vmel r.1, vb r.2]
theorem guess_len (n : Nat) (hn : 1 <= n) : ∀ (a : List (List (List Int))) (m : List (List (List Nt))) (k : Nat), (∀ s ∈ a, s.length = n) -> m.length = n -> (∀ h ∈ m, h.length <= k /\ ∀ b ∈ h, okB b) -> (guessGo n a m).1.length = n /\ ∀ h ∈ (guessGo n a m).1, h.length <= k + 41 * a.length /\ ∀ b ∈ h, okB b
 | [], m, k, _, hm, hk => ⟨hm, fun h hh => ⟨by have := (hk h hh).1; simp []; omega, (hk h hh).2⟩⟩
 | s :: a, m, k, ha, hm, hk => by
  have key : ∀ (bs : List (List (List Int))) (m : List (List (List Nt))), bs.length = m.length -> (∀ h ∈ m, h.length <= k /\ ∀ b ∈ h, okB b) -> (∀ b ∈ bs, b.length <= 41 /\ ∀ c ∈ b, c.length <= 40) -> (handsGo bs m).1.length = m.length /\ ∀ h ∈ (handsGo bs m).1, h.length <= k + 41 /\ ∀ b ∈ h, okB b := by
   intro bs
   induction bs with
   | nil => intro m hl hk _; simp only [handsGo]; exact ⟨trivial, fun h hh => ⟨by have := (hk h hh).1; omega, (hk h hh).2⟩⟩
   | cons b bs ih =>
    intro m hl hk hb
    cases m with
    | nil => simp at hl
    | cons x m =>
     have hx := hk x (by simp)
     have hbb := hb b (by simp)
     have h1 := handGo_ok b (-1) x (fun c hc => by have := hbb.2 c hc; omega) ⟨by omega, by omega⟩ hx.2
     have h2 := ih m (by simpa using hl) (fun h hh => hk h (by simp [hh])) (fun b hb' => hb b (by simp [hb']))
     simp only [handsGo]
     split
     ·refine ⟨by simp [h2.1], fun h hh => ?_⟩
      rcases List.mem_cons.1 hh with rfl | hh
      ·exact ⟨by omega, h1.2⟩
      ·exact h2.2 h hh
     ·refine ⟨by simp, fun h hh => ?_⟩
      rcases List.mem_cons.1 hh with rfl | hh
      ·exact ⟨by omega, h1.2⟩
      ·have := hk h (by simp [hh]); exact ⟨by omega, this.2⟩
  have hs := ha s (by simp)
  rw [guessGo]
  split
  ·exact ⟨hm, fun h hh => ⟨by have := (hk h hh).1; simp only [List.length_cons]; omega, (hk h hh).2⟩⟩
  ·rename_i hany
   have h40 : ∀ c ∈ s.map (List.drop (n - 1)), c.length <= 40 := fun c hc => by
    obtain ⟨d, hd, rfl⟩ := List.mem_map.1 hc
    have := List.any_eq_false.1 (by simpa using hany) d hd
    simp only [badC, Bool.or_eq_true, decide_eq_true_eq, not_or] at this
    rw [List.length_drop]; omega
   have hb := barsP_ok (s.map (List.drop (n - 1))) 40 h40
   have h3 := key (barsP (s.map (List.drop (n - 1)))) m (by rw [hb.1, List.length_map, hs, hm]) hk hb.2
   split
   ·have := guess_len n hn a _ (k + 41) (fun s hs => ha s (by simp [hs])) (h3.1.trans hm) h3.2
    refine ⟨this.1, fun h hh => ⟨by have := (this.2 h hh).1; simp only [List.length_cons]; omega, (this.2 h hh).2⟩⟩
   ·exact ⟨h3.1.trans hm, fun h hh => ⟨by have := (h3.2 h hh).1; simp only [List.length_cons]; omega, (h3.2 h hh).2⟩⟩
theorem got_len_ok {n k : Nat} {m : List (List (List Nt))} (hm : m.length = n) (hn : n <= 2) (h : ∀ h ∈ m, h.length <= k /\ ∀ b ∈ h, okB b) (hk : k <= 100000) : lenM m /\ okM m :=
 ⟨⟨by omega, fun x hx => ⟨by have := (h x hx).1; omega, fun b hb => by have := ((h x hx).2 b hb).1; omega⟩⟩, fun x hx b hb => ((h x hx).2 b hb).2⟩
theorem snap_agg1 {objs : List AObj} {a b : AV} (h : Snap objs a b) : Snap objs (.agg [a]) (.agg [b]) :=
 .agg _ _ rfl fun i h1 h2 => by
  obtain rfl : i = 0 := by simpa using h1
  exact h
theorem snap_got {objs : List AObj} {a : AV} {m : List (List (List Nt))} {f : Bool} (h : Snap objs a (vhands m)) : Snap objs (.tup [.agg [a], vb f]) (vgot (m, f)) :=
 .tup _ _ rfl fun i h1 h2 => by
  match i, h1 with
  | 0, _ => exact snap_agg1 h
  | 1, _ => exact .tree _ rfl
theorem lk_inn {m : Nat} : ∀ {env : List (Nat × AV)}, (env.all fun p => p.2.inn m) = true -> ∀ t, (lk env t).inn m = true
 | [], _, t => rfl
 | (k, v) :: env, h, t => by
  simp only [List.all_cons, Bool.and_eq_true] at h
  simp only [lk]
  split
  ·exact h.1
  ·exact lk_inn h.2 t
theorem snap_rows1 {t : AV} {f : Bool} (h0 : List (List Nt)) (X : List AObj) : Snap (gs1O t f h0 ++ X) (.own 3 1 0 1) (vhands [h0]) := by
 refine .own 3 1 0 1 1 28 _ _ rfl (by simp) (by simp) fun i hi => ?_
 match i, hi with
 | 0, _ => exact snap_all h0 _ rfl rfl fun _ => rfl
theorem guess_1 (p : List (List Int)) (hc : ∀ c ∈ p, c.length <= 100000) (hpl : p.length <= 9223372036854775806) : Ctr Tryd.prog 43 [vpage p, vi 1] (vgot (guessP p 1)) := by
 have k0 : ((0 : Nat) : Int) = 0 := rfl
 have k1 : ((1 : Nat) : Int) = 1 := rfl
 have k2 : ((2 : Nat) : Int) = 2 := rfl
 have k24 : ((24 : Nat) : Int) = 24 := rfl
 have n2 : (24 : Int) * 1 <= 281474976710656 := by decide
 have n0 : ¬ (1 : Int) = 0 := by decide
 have hrem : ((p.length : Int)).tmod 1 = ((p.length % 1 : Nat) : Int) := by rw [Int.tmod_eq_emod_of_nonneg (by omega)]; omega
 refine specC f43 (by simp) fun F0 w0 => ?_
 unfold c43
 refine CwpE.cut (st := ⟨[(0, vpage p), (3, .ref 0 1 0 0), (4, .ref 1 1 0 0), (5, .ref 2 1 0 0)], [.arr 1 1 3 [vi 1], .arr 1 1 25 [nilT], .arr 1 1 4 [vb false]]⟩) ?_ ?_
 ·simp only [go_sem, ↓reduceIte, reduceCtorEq, Nat.reduceLT, Nat.reduceAdd]
  exact ⟨_, WkE.keep (by simp only [go_sem, ↓reduceIte, reduceCtorEq, Nat.reduceEqDiff]), rfl⟩
 refine CwpE.cut (st := ⟨(0, vpage p) :: gsE, gs1O nilT false []⟩) ?_ ?_
 ·simp only [go_sem, List.replicate_succ, ↓reduceIte, reduceCtorEq, Nat.reduceLT, Nat.reduceEqDiff, Nat.reduceAdd, Int.reduceToNat, Int.reduceLE, Int.reduceToNat, Int.le_refl, k24, n2]
  exact ⟨_, (WkE.nilCell 3 1 1 0 0 1 34 28 [.val (.slice none 0 0)] _ rfl rfl rfl).trans (WkE.keep (by simp only [go_sem, ↓reduceIte, reduceCtorEq, Nat.reduceEqDiff])), rfl⟩
 have badend : (p.length = 0 \/ p.length % 1 ≠ 0 \/ 64 < p.length) -> Snap (gs1O (gotT 1) false []) (.tup [gotT 1, vb false]) (vgot (guessP p 1)) := fun h => by
  rw [guessP, if_pos h]
  exact snap_got (snap_rows1 [] [])
 by_cases a1 : p.length = 0
 ·have a1' : (p.length : Int) = 0 := by omega
  refine CwpE.vc ?_
  simp only [go_sem, ↓reduceIte, reduceCtorEq, Nat.reduceLT, Nat.reduceEqDiff, Int.reduceNeg, a1', List.length_map]
  exact badend (.inl a1)
 have a1' : ¬ (p.length : Int) = 0 := by omega
 by_cases a2 : p.length % 1 = 0
 rotate_left
 ·have a2' : ¬ ((p.length % 1 : Nat) : Int) = 0 := by omega
  refine CwpE.vc ?_
  simp only [go_sem, ↓reduceIte, reduceCtorEq, Nat.reduceLT, Nat.reduceEqDiff, Int.reduceNeg, a1', a2', n0, hrem, List.length_map]
  exact badend (.inr (.inl a2))
 have a2' : ((p.length % 1 : Nat) : Int) = 0 := by omega
 by_cases a3 : 64 < p.length
 ·have a3' : (64 : Int) < (p.length : Int) := by omega
  refine CwpE.vc ?_
  simp only [go_sem, ↓reduceIte, reduceCtorEq, Nat.reduceLT, Nat.reduceEqDiff, Int.reduceNeg, a1', a2', a3', n0, hrem, List.length_map]
  exact badend (.inr (.inr a3))
 have a3' : ¬ (64 : Int) < (p.length : Int) := by omega
 have hgs : guessP p 1 = if (guessGo 1 (pieces 1 p) [[]]).2 = true then ((guessGo 1 (pieces 1 p) [[]]).1, decide (validE (guessGo 1 (pieces 1 p) [[]]).1 = 0)) else ((guessGo 1 (pieces 1 p) [[]]).1, false) := by
  rw [guessP, if_neg (by omega)]; rfl
 refine CwpE.cut (st := ⟨(0, vpage p) :: gsE, gs1O nilT false []⟩) ?_ ?_
 ·simp only [go_sem, ↓reduceIte, reduceCtorEq, Nat.reduceLT, Nat.reduceEqDiff, a1', a2', a3', n0, hrem, List.length_map]
  exact ⟨_, WkE.keep (by simp only [go_sem, ↓reduceIte, reduceCtorEq, Nat.reduceEqDiff]), rfl⟩
 have hNp : (rowsA 1 p).length = p.length / 1 := by simp [pieces]
 have hN64 : (rowsA 1 p).length <= 64 := by rw [hNp]; omega
 have hpl2 := pieces_len (n := 1) (by omega) a2
 refine CwpE.seqJ (fun s => ∃ (G : AObj) (x0 : List (List Nt)), guessGo 1 (pieces 1 p) [[]] = ([x0], true) /\ s = ⟨gsE, gs1O nilT false x0 ++ [G]⟩) ?_ ?_
 ·refine CwpE.cut (st := ⟨(40, .clo (.func 85) [.ptr [vpage p], .ptr [vi 1]]) :: gsE, gs1O nilT false []⟩) ?_ ?_
  ·simp only [go_sem, ↓reduceIte, reduceCtorEq, Nat.reduceLT, Nat.reduceEqDiff]
   refine callT (Chunk_s p 1 (by omega)) rfl ?_
   simp only [go_sem]
   exact ⟨_, WkE.keep (by simp only [go_sem, ↓reduceIte, reduceCtorEq, Nat.reduceEqDiff, k1]), rfl⟩
  refine CwpE.block ?_
  refine CwpE.rangeF (xs := rowsA 1 p) (caps := [.ptr [vpage p], .ptr [vi 1]]) rfl rfl (seq_chunk p 1 (by omega) (by omega) a2 (by omega)) (lk_inn rfl) (List.all_eq_true.2 fun r hr => by
   obtain ⟨c, _, rfl⟩ := List.mem_map.1 hr
   rfl) rfl rfl rfl
   (fun pre o => ∃ x0 : List (List Nt), guessGo 1 (pre.map (pc 1 p)) [[]] = ([x0], true) /\ x0.length <= 50 * pre.length /\ o = gs1O nilT false x0)
   (fun pre e o => e = .ret /\ ∃ x0 : List (List Nt), guessGo 1 (pre.map (pc 1 p)) [[]] = ([x0], false) /\ o = gs1O (gotT 1) false x0)
   ⟨[], rfl, by simp, rfl⟩ ?_ ?_ ?_
  ·rintro FR WR G pre x o hG ⟨h0, hgo, q0, rfl⟩ hol hpre
   rw [rows_at]
   have hpx := hpl2 _ (pc_mem 1 p x)
   have hsn : guessGo 1 ((pre ++ [x]).map (pc 1 p)) [[]] = guessGo 1 [pc 1 p x] [h0] := by
    rw [List.map_append, List.map_cons, List.map_nil, guessGo_snoc, hgo, if_pos rfl]
   obtain ⟨c0, hcx⟩ := one_of hpx.1
   rw [hcx] at hpx hsn ⊢
   refine CwpE.wk (s' := ⟨(7, vpage [c0]) :: gsE, gs1O nilT false h0 ++ [G]⟩) (WkE.keep ?_) (CwpE.block ?_)
   ·exact ⟨rfl, rfl, rfl, rfl, rfl, trivial⟩
   refine piece1 FR WR G (fun m hm => hG m hm) h0 c0 (hc _ (hpx.2 c0 (by simp))) (by omega) (fun x0 hg g0 => ?_) (fun x0 hg s hs => ?_)
   ·exact ⟨gs1O nilT false x0, rfl, WkE.keep trivial, x0, hsn.trans hg, by rw [List.length_append]; simp; omega, rfl⟩
   ·exact ⟨gs1O (gotT 1) false x0, rfl, hs, rfl, x0, hsn.trans hg, rfl⟩
  ·rintro G o hG ⟨x0, hgo, q0, rfl⟩ hol
   rw [map_pc] at hgo
   simp only [inBlockE]
   exact ⟨_, WkE.keep (by simp only [go_sem, ↓reduceIte, Nat.reduceEqDiff]), G, x0, hgo, rfl⟩
  ·rintro G o e k hG ⟨rfl, x0, hgo, rfl⟩ hol
   have hall : guessGo 1 (pieces 1 p) [[]] = ([x0], false) := by
    rw [<- map_pc, <- List.take_append_drop k (List.finRange (rowsA 1 p).length), List.map_append, guessGo_stop _ _ _ _ (by rw [hgo]), hgo]
   simp only [inBlockE, thenE, retE]
   refine ⟨_, rfl, ?_⟩
   rw [hgs, hall]
   exact snap_got (snap_rows1 x0 [G])
 rintro _ ⟨G, x0, hall, rfl⟩
 have hlen := guess_len 1 (by omega) (pieces 1 p) [[]] 0 (fun s hs => (hpl2 s hs).1) rfl (fun h hh => by simp only [List.mem_cons, List.not_mem_nil, or_false] at hh; subst hh; exact ⟨Nat.le_refl _, fun b hb => by cases hb⟩)
 rw [hall] at hlen
 have hpn : (pieces 1 p).length <= 64 := by have := hN64; simpa using this
 obtain ⟨m1, m2⟩ := got_len_ok hlen.1 (by omega) hlen.2 (by omega)
 refine CwpE.vc ?_
 simp only [go_sem, ↓reduceIte, Nat.reduceLT, Nat.reduceEqDiff, List.cons_append, List.nil_append]
 refine callF (Valid_s [x0] m1 m2) (.cons (snap_agg1 (snap_rows1 x0 [G])) .nil) rfl ?_
 by_cases hv : validE [x0] = 0
 ·simp only [go_sem, ↓reduceIte, Nat.reduceEqDiff, hv, List.cons_append, List.nil_append]
  rw [hgs, hall, if_pos rfl, hv]
  exact snap_got (f := true) (snap_rows1 x0 [G])
 ·simp only [go_sem, ↓reduceIte, Nat.reduceEqDiff, hv, List.cons_append, List.nil_append]
  rw [hgs, hall, if_pos rfl]
  simp only [hv, decide_false]
  exact snap_got (f := false) (snap_rows1 x0 [G])
theorem snap_rows2 {t : AV} {f : Bool} (h0 h1 : List (List Nt)) (X : List AObj) : Snap (gs2O t f h0 h1 ++ X) (.own 3 2 0 2) (vhands [h0, h1]) := by
 refine .own 3 2 0 2 1 28 _ _ rfl (by simp) (by simp) fun i hi => ?_
 match i, hi with
 | 0, _ => exact snap_all h0 _ rfl rfl fun _ => rfl
 | 1, _ => exact snap_all h1 _ rfl rfl fun _ => rfl
theorem guess_2 (p : List (List Int)) (hc : ∀ c ∈ p, c.length <= 100000) (hpl : p.length <= 9223372036854775806) : Ctr Tryd.prog 43 [vpage p, vi 2] (vgot (guessP p 2)) := by
 have k0 : ((0 : Nat) : Int) = 0 := rfl
 have k1 : ((1 : Nat) : Int) = 1 := rfl
 have k2 : ((2 : Nat) : Int) = 2 := rfl
 have k24 : ((24 : Nat) : Int) = 24 := rfl
 have n2 : (24 : Int) * 2 <= 281474976710656 := by decide
 have n0 : ¬ (2 : Int) = 0 := by decide
 have hrem : ((p.length : Int)).tmod 2 = ((p.length % 2 : Nat) : Int) := by rw [Int.tmod_eq_emod_of_nonneg (by omega)]; omega
 refine specC f43 (by simp) fun F0 w0 => ?_
 unfold c43
 refine CwpE.cut (st := ⟨[(0, vpage p), (3, .ref 0 1 0 0), (4, .ref 1 1 0 0), (5, .ref 2 1 0 0)], [.arr 1 1 3 [vi 2], .arr 1 1 25 [nilT], .arr 1 1 4 [vb false]]⟩) ?_ ?_
 ·simp only [go_sem, ↓reduceIte, reduceCtorEq, Nat.reduceLT, Nat.reduceAdd]
  exact ⟨_, WkE.keep (by simp only [go_sem, ↓reduceIte, reduceCtorEq, Nat.reduceEqDiff]), rfl⟩
 refine CwpE.cut (st := ⟨(0, vpage p) :: gsE, gs2O nilT false [] []⟩) ?_ ?_
 ·simp only [go_sem, List.replicate_succ, ↓reduceIte, reduceCtorEq, Nat.reduceLT, Nat.reduceEqDiff, Nat.reduceAdd, Int.reduceToNat, Int.reduceLE, Int.reduceToNat, Int.le_refl, k24, n2]
  exact ⟨_, ((WkE.nilCell 3 2 1 0 0 1 34 28 [.val (.slice none 0 0), .val (.slice none 0 0)] _ rfl rfl rfl).trans (WkE.nilCell 3 2 1 1 0 1 34 28 [.own 5 0 0 0, .val (.slice none 0 0)] _ rfl rfl rfl)).trans (WkE.keep (by simp only [go_sem, ↓reduceIte, reduceCtorEq, Nat.reduceEqDiff])), rfl⟩
 have badend : (p.length = 0 \/ p.length % 2 ≠ 0 \/ 64 < p.length) -> Snap (gs2O (gotT 2) false [] []) (.tup [gotT 2, vb false]) (vgot (guessP p 2)) := fun h => by
  rw [guessP, if_pos h]
  exact snap_got (snap_rows2 [] [] [])
 by_cases a1 : p.length = 0
 ·have a1' : (p.length : Int) = 0 := by omega
  refine CwpE.vc ?_
  simp only [go_sem, ↓reduceIte, reduceCtorEq, Nat.reduceLT, Nat.reduceEqDiff, Int.reduceNeg, a1', List.length_map]
  exact badend (.inl a1)
 have a1' : ¬ (p.length : Int) = 0 := by omega
 by_cases a2 : p.length % 2 = 0
 rotate_left
 ·have a2' : ¬ ((p.length % 2 : Nat) : Int) = 0 := by omega
  refine CwpE.vc ?_
  simp only [go_sem, ↓reduceIte, reduceCtorEq, Nat.reduceLT, Nat.reduceEqDiff, Int.reduceNeg, a1', a2', n0, hrem, List.length_map]
  exact badend (.inr (.inl a2))
 have a2' : ((p.length % 2 : Nat) : Int) = 0 := by omega
 by_cases a3 : 64 < p.length
 ·have a3' : (64 : Int) < (p.length : Int) := by omega
  refine CwpE.vc ?_
  simp only [go_sem, ↓reduceIte, reduceCtorEq, Nat.reduceLT, Nat.reduceEqDiff, Int.reduceNeg, a1', a2', a3', n0, hrem, List.length_map]
  exact badend (.inr (.inr a3))
 have a3' : ¬ (64 : Int) < (p.length : Int) := by omega
 have hgs : guessP p 2 = if (guessGo 2 (pieces 2 p) [[], []]).2 = true then ((guessGo 2 (pieces 2 p) [[], []]).1, decide (validE (guessGo 2 (pieces 2 p) [[], []]).1 = 0)) else ((guessGo 2 (pieces 2 p) [[], []]).1, false) := by
  rw [guessP, if_neg (by omega)]; rfl
 refine CwpE.cut (st := ⟨(0, vpage p) :: gsE, gs2O nilT false [] []⟩) ?_ ?_
 ·simp only [go_sem, ↓reduceIte, reduceCtorEq, Nat.reduceLT, Nat.reduceEqDiff, a1', a2', a3', n0, hrem, List.length_map]
  exact ⟨_, WkE.keep (by simp only [go_sem, ↓reduceIte, reduceCtorEq, Nat.reduceEqDiff]), rfl⟩
 have hNp : (rowsA 2 p).length = p.length / 2 := by simp [pieces]
 have hN64 : (rowsA 2 p).length <= 64 := by rw [hNp]; omega
 have hpl2 := pieces_len (n := 2) (by omega) a2
 refine CwpE.seqJ (fun s => ∃ (G : AObj) (x0 x1 : List (List Nt)), guessGo 2 (pieces 2 p) [[], []] = ([x0, x1], true) /\ s = ⟨gsE, gs2O nilT false x0 x1 ++ [G]⟩) ?_ ?_
 ·refine CwpE.cut (st := ⟨(40, .clo (.func 85) [.ptr [vpage p], .ptr [vi 2]]) :: gsE, gs2O nilT false [] []⟩) ?_ ?_
  ·simp only [go_sem, ↓reduceIte, reduceCtorEq, Nat.reduceLT, Nat.reduceEqDiff]
   refine callT (Chunk_s p 2 (by omega)) rfl ?_
   simp only [go_sem]
   exact ⟨_, WkE.keep (by simp only [go_sem, ↓reduceIte, reduceCtorEq, Nat.reduceEqDiff, k2]), rfl⟩
  refine CwpE.block ?_
  refine CwpE.rangeF (xs := rowsA 2 p) (caps := [.ptr [vpage p], .ptr [vi 2]]) rfl rfl (seq_chunk p 2 (by omega) (by omega) a2 (by omega)) (lk_inn rfl) (List.all_eq_true.2 fun r hr => by
   obtain ⟨c, _, rfl⟩ := List.mem_map.1 hr
   rfl) rfl rfl rfl
   (fun pre o => ∃ x0 x1 : List (List Nt), guessGo 2 (pre.map (pc 2 p)) [[], []] = ([x0, x1], true) /\ x0.length <= 50 * pre.length /\ x1.length <= 50 * pre.length /\ o = gs2O nilT false x0 x1)
   (fun pre e o => e = .ret /\ ∃ x0 x1 : List (List Nt), guessGo 2 (pre.map (pc 2 p)) [[], []] = ([x0, x1], false) /\ o = gs2O (gotT 2) false x0 x1)
   ⟨[], [], rfl, by simp, by simp, rfl⟩ ?_ ?_ ?_
  ·rintro FR WR G pre x o hG ⟨h0, h1, hgo, q0, q1, rfl⟩ hol hpre
   rw [rows_at]
   have hpx := hpl2 _ (pc_mem 2 p x)
   have hsn : guessGo 2 ((pre ++ [x]).map (pc 2 p)) [[], []] = guessGo 2 [pc 2 p x] [h0, h1] := by
    rw [List.map_append, List.map_cons, List.map_nil, guessGo_snoc, hgo, if_pos rfl]
   obtain ⟨c0, c1, hcx⟩ := two_of hpx.1
   rw [hcx] at hpx hsn ⊢
   refine CwpE.wk (s' := ⟨(7, vpage [c0, c1]) :: gsE, gs2O nilT false h0 h1 ++ [G]⟩) (WkE.keep ?_) (CwpE.block ?_)
   ·exact ⟨rfl, rfl, rfl, rfl, rfl, trivial⟩
   refine piece2 FR WR G (fun m hm => hG m hm) h0 h1 c0 c1 (hc _ (hpx.2 c0 (by simp))) (hc _ (hpx.2 c1 (by simp))) (by omega) (by omega) (fun x0 x1 hg g0 g1 => ?_) (fun x0 x1 hg s hs => ?_)
   ·exact ⟨gs2O nilT false x0 x1, rfl, WkE.keep trivial, x0, x1, hsn.trans hg, by rw [List.length_append]; simp; omega, by rw [List.length_append]; simp; omega, rfl⟩
   ·exact ⟨gs2O (gotT 2) false x0 x1, rfl, hs, rfl, x0, x1, hsn.trans hg, rfl⟩
  ·rintro G o hG ⟨x0, x1, hgo, q0, q1, rfl⟩ hol
   rw [map_pc] at hgo
   simp only [inBlockE]
   exact ⟨_, WkE.keep (by simp only [go_sem, ↓reduceIte, Nat.reduceEqDiff]), G, x0, x1, hgo, rfl⟩
  ·rintro G o e k hG ⟨rfl, x0, x1, hgo, rfl⟩ hol
   have hall : guessGo 2 (pieces 2 p) [[], []] = ([x0, x1], false) := by
    rw [<- map_pc, <- List.take_append_drop k (List.finRange (rowsA 2 p).length), List.map_append, guessGo_stop _ _ _ _ (by rw [hgo]), hgo]
   simp only [inBlockE, thenE, retE]
   refine ⟨_, rfl, ?_⟩
   rw [hgs, hall]
   exact snap_got (snap_rows2 x0 x1 [G])
 rintro _ ⟨G, x0, x1, hall, rfl⟩
 have hlen := guess_len 2 (by omega) (pieces 2 p) [[], []] 0 (fun s hs => (hpl2 s hs).1) rfl (fun h hh => by simp only [List.mem_cons, List.not_mem_nil, or_false, or_self] at hh; subst hh; exact ⟨Nat.le_refl _, fun b hb => by cases hb⟩)
 rw [hall] at hlen
 have hpn : (pieces 2 p).length <= 64 := by have := hN64; simpa using this
 obtain ⟨m1, m2⟩ := got_len_ok hlen.1 (by omega) hlen.2 (by omega)
 refine CwpE.vc ?_
 simp only [go_sem, ↓reduceIte, Nat.reduceLT, Nat.reduceEqDiff, List.cons_append, List.nil_append]
 refine callF (Valid_s [x0, x1] m1 m2) (.cons (snap_agg1 (snap_rows2 x0 x1 [G])) .nil) rfl ?_
 by_cases hv : validE [x0, x1] = 0
 ·simp only [go_sem, ↓reduceIte, Nat.reduceEqDiff, hv, List.cons_append, List.nil_append]
  rw [hgs, hall, if_pos rfl, hv]
  exact snap_got (f := true) (snap_rows2 x0 x1 [G])
 ·simp only [go_sem, ↓reduceIte, Nat.reduceEqDiff, hv, List.cons_append, List.nil_append]
  rw [hgs, hall, if_pos rfl]
  simp only [hv, decide_false]
  exact snap_got (f := false) (snap_rows2 x0 x1 [G])
end Go.Proofs.YtnncijjkbonokaaDoor
namespace Go.Proofs.YtnncijjkbonokaaDoor
open Go.RowKit Dak
def fitsP (p : List (List Int)) (m : List (List (List Nt))) (w : Int) : Bool := decide ((encP m w).2 = 0) && decide (p = (encP m w).1)
def fitsW (p : List (List Int)) (r : List (List (List Nt)) × Bool) : Bool := r.2 && (List.range 40).any fun k => fitsP p r.1 ((k + 1 : Nat) : Int)
def readP (p : List (List Int)) : List (List (List Nt)) × Int := if fitsW p (guessP p 1) = true then ((guessP p 1).1, 0) else if fitsW p (guessP p 2) = true then ((guessP p 2).1, 0) else ([], 2)
abbrev vme (r : List (List (List Nt)) × Int) : AV := .tup [vmel r.1, ve r.2]
theorem guess_vm {p : List (List Int)} {n : Nat} (h : (guessP p n).2 = true) : validE (guessP p n).1 = 0 := by
 unfold guessP at h ⊢
 split
 ·rename_i h1; rw [if_pos h1] at h; cases h
 ·rename_i h1
  rw [if_neg h1] at h
  split
  ·rename_i h2; rw [if_pos h2] at h; simpa using h
  ·rename_i h2; rw [if_neg h2] at h; cases h
theorem range_any_succ {p : Nat -> Bool} {k : Nat} (h : (List.range k).any p = false) (hp : p k = true) (h40 : k < 40) : (List.range 40).any p = true := List.any_eq_true.2 ⟨k, List.mem_range.2 h40, hp⟩
abbrev rwpB : CCode := match c20 with | .seq _ (.seq (.seq _ (.block _ (.loop (.seq _ (.seq (.block _ (.seq _ b)) _))))) _) => b | _ => .skip
theorem Read_sw (F0 : FD) (w0 : World) (p : List (List Int)) (hp : p.length <= 9223372036854775806) (hpc : ∀ x ∈ p, x.length <= 9223372036854775806) (n : Nat) (r : List (List (List Nt)) × Bool) (hr : r.2 = true -> validE r.1 = 0)
 {Q : Exit -> Est -> Prop} (hQ1 : fitsW p r = false -> Q .normal ⟨[(0, vpage p), (2, .ref 0 1 0 0), (4, vi n)], [.arr 1 1 25 [nilT]]⟩)
 (hQ2 : fitsW p r = true -> ∀ env objs, lk env 2 = .ref 0 1 0 0 -> lk env 3 = vi 0 -> cellsAt objs (.ref 0 1 0 0) = some [vhands r.1] -> Q .ret ⟨env, objs⟩) :
 CwpE Tryd.prog F0 w0 42 rwpB Q ⟨[(0, vpage p), (2, .ref 0 1 0 0), (4, vi n), (5, .ref 1 1 0 0), (6, vb r.2)], [.arr 1 1 25 [nilT], .arr 1 1 25 [vmel r.1]]⟩ := by
 unfold rwpB c20
 refine CwpE.cut (st := ⟨[(0, vpage p), (2, .ref 0 1 0 0), (4, vi n), (5, .ref 1 1 0 0), (6, vb r.2), (7, vi (1 : Nat))], [.arr 1 1 25 [nilT], .arr 1 1 25 [vmel r.1]]⟩) ?_ ?_
 ·simp only [go_sem, ↓reduceIte, Nat.reduceLT]
  exact ⟨_, WkE.keep (by simp only [go_sem, ↓reduceIte, reduceCtorEq, Nat.reduceEqDiff]; rfl), rfl⟩
 refine CwpE.block ?_
 refine loopX 2 (fun z s => ∃ k : Nat, k + z = 40 /\ (r.2 = true -> (List.range k).any (fun k => fitsP p r.1 ((k + 1 : Nat) : Int)) = false) /\ s = ⟨[(0, vpage p), (2, .ref 0 1 0 0), (4, vi n), (5, .ref 1 1 0 0), (6, vb r.2), (7, vi (k + 1 : Nat))], [.arr 1 1 25 [nilT], .arr 1 1 25 [vmel r.1]]⟩)
  (fun s => fitsW p r = false /\ s = ⟨[(0, vpage p), (2, .ref 0 1 0 0), (4, vi n)], [.arr 1 1 25 [nilT]]⟩) 40 _ (.refl _ _) ⟨0, rfl, fun _ => rfl, rfl⟩ ?_ ?_
 rotate_left
 ·rintro s ⟨e, rfl⟩
  simp only [inBlockE, if_true]
  exact hQ1 e
 rintro z s ⟨k, hk, hno, rfl⟩
 have drop : ∀ env : List (Nat × AV), Agree env [(0, vpage p), (2, .ref 0 1 0 0), (4, vi n)] -> WkE 42 ⟨env, [.arr 1 1 25 [nilT], .arr 1 1 25 [vmel r.1]]⟩ ⟨[(0, vpage p), (2, .ref 0 1 0 0), (4, vi n)], [.arr 1 1 25 [nilT]]⟩ := fun env ha => WkE.round ha rfl rfl rfl
 cases hr2 : r.2 with
 | false =>
  by_cases h40 : ((k + 1 : Nat) : Int) <= 40
  ·simp only [go_sem, ↓reduceIte, reduceCtorEq, Nat.reduceLT, Nat.reduceEqDiff]
   exact ⟨_, drop _ (by simp only [go_sem, ↓reduceIte, reduceCtorEq, Nat.reduceEqDiff]), by simp only [fitsW, hr2, Bool.false_and], rfl⟩
  ·simp only [go_sem, ↓reduceIte, reduceCtorEq, Nat.reduceLT, Nat.reduceEqDiff]
   exact ⟨_, drop _ (by simp only [go_sem, ↓reduceIte, reduceCtorEq, Nat.reduceEqDiff]), by simp only [fitsW, hr2, Bool.false_and], rfl⟩
 | true =>
  have hv := hr hr2
  have hvm := vm_len (vm_of hv)
  have hno := hno hr2
  cases z with
  | zero =>
   obtain rfl : k = 40 := by omega
   have h40 : ¬ ((40 + 1 : Nat) : Int) <= 40 := by decide
   simp only [go_sem, ↓reduceIte, reduceCtorEq, Nat.reduceLT, Nat.reduceEqDiff, Nat.reduceAdd, h40]
   exact ⟨_, drop _ (by simp only [go_sem, ↓reduceIte, reduceCtorEq, Nat.reduceEqDiff]), by simp only [fitsW, hr2, Bool.true_and]; exact hno, rfl⟩
  | succ z =>
   have h40 : ((k + 1 : Nat) : Int) <= 40 := by omega
   have hw : IntKind.i64.wrap (((k + 1 : Nat) : Int) + 1) = ((k + 1 + 1 : Nat) : Int) := by rw [wrap_id (by omega) (by omega)]; omega
   have hfk : ∀ b, fitsP p r.1 ((k + 1 : Nat) : Int) = b -> (fun k : Nat => fitsP p r.1 ((k + 1 : Nat) : Int)) k = b := fun b h => h
   simp only [go_sem, ↓reduceIte, reduceCtorEq, Nat.reduceLT, Nat.reduceEqDiff, h40]
   refine callT (Encode_s r.1 ((k + 1 : Nat) : Int) hvm.1 hvm.2) rfl ?_
   by_cases he : (encP r.1 ((k + 1 : Nat) : Int)).2 = 0
   ·simp only [go_sem, ↓reduceIte, reduceCtorEq, Nat.reduceLT, Nat.reduceEqDiff, he]
    refine callT (EqualFunc44_s 45 p _ hp fun x hx y _ => Read1_s x y (hpc x hx)) rfl ?_
    by_cases hq : p = (encP r.1 ((k + 1 : Nat) : Int)).1
    ·have hf : fitsW p r = true := by
      simp only [fitsW, hr2, Bool.true_and]
      exact range_any_succ hno (hfk true (by simp only [fitsP, he, decide_true, Bool.true_and, decide_eq_true_eq]; exact hq)) (by omega)
     rw [show decide (p = (encP r.1 ((k + 1 : Nat) : Int)).1) = true from decide_eq_true hq]
     simp only [go_sem, ↓reduceIte, reduceCtorEq, Nat.reduceLT, Nat.reduceEqDiff]
     exact hQ2 hf _ _ rfl rfl rfl
    ·rw [show decide (p = (encP r.1 ((k + 1 : Nat) : Int)).1) = false from decide_eq_false hq]
     simp only [go_sem, ↓reduceIte, reduceCtorEq, Nat.reduceLT, Nat.reduceEqDiff, hw]
     exact ⟨z, _, by omega, WkE.keep (by simp only [go_sem, ↓reduceIte, reduceCtorEq, Nat.reduceEqDiff]), k + 1, by omega, any_range hno (hfk false (by simp only [fitsP, hq, decide_false, Bool.and_false])), rfl⟩
   ·simp only [go_sem, ↓reduceIte, reduceCtorEq, Nat.reduceLT, Nat.reduceEqDiff, he, hw]
    exact ⟨z, _, by omega, WkE.keep (by simp only [go_sem, ↓reduceIte, reduceCtorEq, Nat.reduceEqDiff]), k + 1, by omega, any_range hno (hfk false (by simp only [fitsP, he, decide_false, Bool.false_and])), rfl⟩
theorem Read_s (p : List (List Int)) (hp : p.length <= 100000) (hpc : ∀ x ∈ p, x.length <= 100000) : Ctr Tryd.prog 20 [vpage p] (vme (readP p)) := by
 have k1 : ((1 : Nat) : Int) = 1 := rfl
 have k2 : ((2 : Nat) : Int) = 2 := rfl
 have l12 : (1 : Int) <= 2 := by decide
 have l22 : (2 : Int) <= 2 := by decide
 have l32 : ¬ (3 : Int) <= 2 := by decide
 have w12 : IntKind.i64.wrap (1 + 1) = 2 := by decide
 have w23 : IntKind.i64.wrap (2 + 1) = 3 := by decide
 refine specC f20 (by simp) fun F0 w0 => ?_
 have ret : ∀ env objs m, lk env 2 = .ref 0 1 0 0 -> lk env 3 = vi 0 -> cellsAt objs (.ref 0 1 0 0) = some [vhands m] -> readP p = (m, 0) -> retE [.cell 2 true 1, .tmp 3] (vme (readP p)) .ret ⟨env, objs⟩ := by
  intro env objs m e1 e2 e3 e
  rw [e]
  refine ⟨.tup [.agg [vhands m], vi 0], ?_, .tup _ _ rfl fun i h1 h2 => by
   match i, h1 with
   | 0, _ => exact snap_agg1 (.tree _ rfl)
   | 1, _ => exact .tree _ rfl⟩
  simp only [resAllE, List.mapM_cons, List.mapM_nil, resE, e1, e2, e3]
  rfl
 unfold c20
 refine CwpE.cut (st := ⟨[(0, vpage p), (2, .ref 0 1 0 0)], [.arr 1 1 25 [nilT]]⟩) ?_ ?_
 ·simp only [go_sem, ↓reduceIte, Nat.reduceLT]
  exact ⟨_, WkE.keep (by simp only [go_sem, ↓reduceIte, reduceCtorEq, Nat.reduceEqDiff]), rfl⟩
 refine CwpE.seqJ (fun s => fitsW p (guessP p 1) = false /\ fitsW p (guessP p 2) = false /\ s = ⟨[(0, vpage p), (2, .ref 0 1 0 0)], [.arr 1 1 25 [nilT]]⟩) ?_ ?_
 rotate_left
 ·rintro _ ⟨e1, e2, rfl⟩
  refine CwpE.vc ?_
  simp only [go_sem, ↓reduceIte, reduceCtorEq, Nat.reduceLT, Nat.reduceEqDiff]
  rw [readP, if_neg (by rw [e1]; simp), if_neg (by rw [e2]; simp)]
  refine .tup _ _ rfl fun i h1 h2 => ?_
  match i, h1 with
  | 0, _ => exact snap_agg1 (.nil _)
  | 1, _ => exact .tree _ rfl
 refine CwpE.cut (st := ⟨[(0, vpage p), (2, .ref 0 1 0 0), (4, vi 1)], [.arr 1 1 25 [nilT]]⟩) ?_ ?_
 ·simp only [go_sem, ↓reduceIte, Nat.reduceLT]
  exact ⟨_, WkE.keep (by simp only [go_sem, ↓reduceIte, reduceCtorEq, Nat.reduceEqDiff]), rfl⟩
 refine CwpE.block ?_
 refine loopXC 0 (fun z s => (z = 2 /\ s = ⟨[(0, vpage p), (2, .ref 0 1 0 0), (4, vi 1)], [.arr 1 1 25 [nilT]]⟩) \/ (z = 1 /\ fitsW p (guessP p 1) = false /\ s = ⟨[(0, vpage p), (2, .ref 0 1 0 0), (4, vi 2)], [.arr 1 1 25 [nilT]]⟩) \/ (z = 0 /\ fitsW p (guessP p 1) = false /\ fitsW p (guessP p 2) = false /\ s = ⟨[(0, vpage p), (2, .ref 0 1 0 0), (4, vi 3)], [.arr 1 1 25 [nilT]]⟩))
  (fun s => fitsW p (guessP p 1) = false /\ fitsW p (guessP p 2) = false /\ s = ⟨[(0, vpage p), (2, .ref 0 1 0 0)], [.arr 1 1 25 [nilT]]⟩) 2 _ (.refl _ _) (.inl ⟨rfl, rfl⟩) ?_ ?_
 rotate_left
 ·rintro s h
  simp only [inBlockE, if_true]
  exact ⟨_, .refl _ _, h⟩
 rintro z s (⟨rfl, rfl⟩ | ⟨rfl, i2p, rfl⟩ | ⟨rfl, i2p, i3p, rfl⟩)
 ·refine CwpE.cut (st := ⟨[(0, vpage p), (2, .ref 0 1 0 0), (4, vi (1 : Nat))], [.arr 1 1 25 [nilT]]⟩) ?_ ?_
  ·simp only [go_sem, ↓reduceIte, reduceCtorEq, Nat.reduceLT, Nat.reduceEqDiff, k1, l12]
   exact ⟨_, WkE.keep (by simp only [go_sem, ↓reduceIte, reduceCtorEq, Nat.reduceEqDiff]), rfl⟩
  refine CwpE.seqJ (fun s => fitsW p (guessP p 1) = false /\ s = ⟨[(0, vpage p), (2, .ref 0 1 0 0), (4, vi (1 : Nat))], [.arr 1 1 25 [nilT]]⟩) (CwpE.block ?_) ?_
  ·refine CwpE.cut (st := ⟨[(0, vpage p), (2, .ref 0 1 0 0), (4, vi (1 : Nat)), (5, .ref 1 1 0 0), (6, vb (guessP p 1).2)], [.arr 1 1 25 [nilT], .arr 1 1 25 [vmel (guessP p 1).1]]⟩) ?_ ?_
   ·simp only [go_sem, ↓reduceIte, reduceCtorEq, Nat.reduceLT, Nat.reduceEqDiff, k1]
    refine callT (guess_1 p hpc (by omega)) rfl ?_
    simp only [go_sem, ↓reduceIte, Nat.reduceLT, Nat.reduceEqDiff]
    exact ⟨_, WkE.keep (by simp only [go_sem, ↓reduceIte, reduceCtorEq, Nat.reduceEqDiff]), rfl⟩
   ·refine Read_sw F0 w0 p (by omega) (fun x hx => by have := hpc x hx; omega) 1 (guessP p 1) guess_vm (fun h => ⟨_, .refl _ _, h, rfl⟩) (fun h env objs e1 e2 e3 => ?_)
    refine ret env objs (guessP p 1).1 e1 e2 e3 ?_
    rw [readP, if_pos h]
  ·rintro _ ⟨hfit, rfl⟩
   refine CwpE.vc ?_
   simp only [go_sem, ↓reduceIte, reduceCtorEq, Nat.reduceLT, Nat.reduceEqDiff, k1, w12]
   exact ⟨1, ⟨[(0, vpage p), (2, .ref 0 1 0 0), (4, vi 2)], [.arr 1 1 25 [nilT]]⟩, by omega, WkE.keep (by simp only [go_sem, ↓reduceIte, reduceCtorEq, Nat.reduceEqDiff]), .inr (.inl ⟨rfl, hfit, rfl⟩)⟩
 ·refine CwpE.cut (st := ⟨[(0, vpage p), (2, .ref 0 1 0 0), (4, vi (2 : Nat))], [.arr 1 1 25 [nilT]]⟩) ?_ ?_
  ·simp only [go_sem, ↓reduceIte, reduceCtorEq, Nat.reduceLT, Nat.reduceEqDiff, k2, l22]
   exact ⟨_, WkE.keep (by simp only [go_sem, ↓reduceIte, reduceCtorEq, Nat.reduceEqDiff]), rfl⟩
  refine CwpE.seqJ (fun s => fitsW p (guessP p 2) = false /\ s = ⟨[(0, vpage p), (2, .ref 0 1 0 0), (4, vi (2 : Nat))], [.arr 1 1 25 [nilT]]⟩) (CwpE.block ?_) ?_
  ·refine CwpE.cut (st := ⟨[(0, vpage p), (2, .ref 0 1 0 0), (4, vi (2 : Nat)), (5, .ref 1 1 0 0), (6, vb (guessP p 2).2)], [.arr 1 1 25 [nilT], .arr 1 1 25 [vmel (guessP p 2).1]]⟩) ?_ ?_
   ·simp only [go_sem, ↓reduceIte, reduceCtorEq, Nat.reduceLT, Nat.reduceEqDiff, k2]
    refine callT (guess_2 p hpc (by omega)) rfl ?_
    simp only [go_sem, ↓reduceIte, Nat.reduceLT, Nat.reduceEqDiff]
    exact ⟨_, WkE.keep (by simp only [go_sem, ↓reduceIte, reduceCtorEq, Nat.reduceEqDiff]), rfl⟩
   ·refine Read_sw F0 w0 p (by omega) (fun x hx => by have := hpc x hx; omega) 2 (guessP p 2) guess_vm (fun h => ⟨_, .refl _ _, h, rfl⟩) (fun h env objs e1 e2 e3 => ?_)
    refine ret env objs (guessP p 2).1 e1 e2 e3 ?_
    rw [readP, if_neg (by rw [i2p]; simp), if_pos h]
  ·rintro _ ⟨hfit, rfl⟩
   refine CwpE.vc ?_
   simp only [go_sem, ↓reduceIte, reduceCtorEq, Nat.reduceLT, Nat.reduceEqDiff, k2, w23]
   exact ⟨0, ⟨[(0, vpage p), (2, .ref 0 1 0 0), (4, vi 3)], [.arr 1 1 25 [nilT]]⟩, by omega, WkE.keep (by simp only [go_sem, ↓reduceIte, reduceCtorEq, Nat.reduceEqDiff]), .inr (.inr ⟨rfl, i2p, hfit, rfl⟩)⟩
 ·refine CwpE.vc ?_
  simp only [go_sem, ↓reduceIte, reduceCtorEq, Nat.reduceLT, Nat.reduceEqDiff, l32]
  exact ⟨_, WkE.keep (by simp only [go_sem, ↓reduceIte, reduceCtorEq, Nat.reduceEqDiff]), i2p, i3p, rfl⟩
end Go.Proofs.YtnncijjkbonokaaDoor
namespace Go.Proofs.YtnncijjkbonokaaDoor
open Go.RowKit Dak
def noteN (last k : Int) : Nt :=
 let s1 := (last + k.tmod 11 + 44).tmod 49
 let s2 := if (k.tdiv 440).tmod 7 = 0 then (k.tdiv 3080).tmod 49 else s1
 if (k.tdiv 440).tmod 9 = 1 then ⟨-1, (k.tdiv 11).tmod 5, 0⟩ else ⟨s2, (k.tdiv 11).tmod 5, ((k.tdiv 55).tmod 8).tmod 3 - 1⟩
def notesGo (l : List Int) (at_ : Int) : Nat -> Nat -> Int -> List Nt
 | 0, _, _ => []
 | f + 1, i, last => noteN last (atL l (at_ + 2 + i) 1048576) :: notesGo l at_ f (i + 1) (stepP (noteN last (atL l (at_ + 2 + i) 1048576)) last)
def notesP (l : List Int) (at_ : Int) : List Nt := notesGo l at_ (1 + atL l (at_ + 1) 4).toNat 0 (atL l at_ 49)
theorem around_bd {n most : Int} (hm : 1 <= most) : 0 <= aroundL n most /\ aroundL n most < most := by
 unfold aroundL
 rw [if_neg (by omega)]
 exact ⟨Int.emod_nonneg _ (by omega), Int.emod_lt_of_pos _ (by omega)⟩
theorem atL_bd {l : List Int} {i most : Int} (hm : 1 <= most) : 0 <= atL l i most /\ atL l i most < most := by
 unfold atL
 split
 ·omega
 ·split
  ·exact around_bd hm
  ·omega
theorem noteN_ok {last k : Int} (hl : 0 <= last /\ last <= 48) (hk : 0 <= k /\ k < 1048576) : rightP (noteN last k) = true := by
 obtain ⟨h1, h2⟩ := hl
 obtain ⟨h3, h4⟩ := hk
 unfold noteN
 rw [Int.tmod_eq_emod_of_nonneg (a := k) h3, Int.tdiv_eq_ediv_of_nonneg (a := k) (b := 440) h3, Int.tdiv_eq_ediv_of_nonneg (a := k) (b := 3080) h3, Int.tdiv_eq_ediv_of_nonneg (a := k) (b := 11) h3, Int.tdiv_eq_ediv_of_nonneg (a := k) (b := 55) h3,
  Int.tmod_eq_emod_of_nonneg (a := k / 440) (by omega), Int.tmod_eq_emod_of_nonneg (a := k / 440) (by omega), Int.tmod_eq_emod_of_nonneg (a := k / 3080) (by omega), Int.tmod_eq_emod_of_nonneg (a := k / 11) (by omega), Int.tmod_eq_emod_of_nonneg (a := k / 55) (by omega),
  Int.tmod_eq_emod_of_nonneg (a := k / 55 % 8) (by omega), Int.tmod_eq_emod_of_nonneg (a := last + k % 11 + 44) (by omega)]
 by_cases h9 : (k / 440) % 9 = 1
 ·simp only [h9, if_true, rightP, decide_eq_true_eq]
  refine ⟨?_, ?_, ?_, ?_, ?_, ?_, ?_⟩ <;> first | omega | simp
 ·by_cases h7 : (k / 440) % 7 = 0
  ·simp only [h9, h7, if_true, if_false, rightP, decide_eq_true_eq]
   omega
  ·simp only [h9, h7, if_false, rightP, decide_eq_true_eq]
   omega
theorem step_bd {n : Nt} {last : Int} (hr : rightP n = true) (hl : 0 <= last /\ last <= 48) : 0 <= stepP n last /\ stepP n last <= 48 := by
 obtain ⟨r1, r2, _⟩ := rightP_iff hr
 unfold stepP; split
 ·omega
 ·exact hl
theorem notesGo_ok (l : List Int) (a : Int) : ∀ (f i : Nat) (last : Int), 0 <= last /\ last <= 48 -> (notesGo l a f i last).length = f /\ ∀ n ∈ notesGo l a f i last, rightP n = true
 | 0, _, _, _ => ⟨rfl, fun n h => by cases h⟩
 | f + 1, i, last, hl => by
  have hr := noteN_ok hl (atL_bd (l := l) (i := a + 2 + i) (most := 1048576) (by omega))
  have ih := notesGo_ok l a f (i + 1) _ (step_bd hr hl)
  refine ⟨by simp only [notesGo, List.length_cons, ih.1], fun n hn => ?_⟩
  rcases List.mem_cons.1 hn with rfl | hn
  ·exact hr
  ·exact ih.2 n hn
theorem notesP_ok (l : List Int) (a : Int) : 1 <= (notesP l a).length /\ (notesP l a).length <= 4 /\ ∀ n ∈ notesP l a, rightP n = true := by
 have h1 := atL_bd (l := l) (i := a + 1) (most := 4) (by omega)
 have h2 := atL_bd (l := l) (i := a) (most := 49) (by omega)
 have := notesGo_ok l a (1 + atL l (a + 1) 4).toNat 0 (atL l a 49) (by omega)
 exact ⟨by rw [notesP, this.1]; omega, by rw [notesP, this.1]; omega, this.2⟩
theorem Notes_s (l : List Int) (a : Int) (hl : ∀ x ∈ l, I64 x) (ha : 0 <= a /\ a <= 1000000) : Ctr Tryd.prog 34 [vints l, vi a] (vbar (notesP l a)) := by
 refine specC f34 (by simp) fun F0 w0 => ?_
 unfold c34
 refine CwpE.cut (st := ⟨[(0, vints l), (1, vi a)], []⟩) ?_ ?_
 ·simp only [go_sem, ↓reduceIte, Nat.reduceLT]
  exact ⟨_, WkE.keep (by simp only [go_sem, ↓reduceIte, reduceCtorEq, Nat.reduceEqDiff]), rfl⟩
 refine CwpE.cut (st := ⟨[(0, vints l), (1, vi a), (5, .own 0 0 0 0)], [.arr 0 3 64 []]⟩) ?_ ?_
 ·simp only [go_sem, ↓reduceIte, Nat.reduceLT]
  exact ⟨_, (WkE.nil 5 3 64 (by omega) rfl).trans (WkE.keep (by simp only [go_sem, ↓reduceIte, reduceCtorEq, Nat.reduceEqDiff])), rfl⟩
 have b49 : I64 49 := ⟨by decide, by decide⟩
 have b4 : I64 4 := ⟨by decide, by decide⟩
 have bk : I64 1048576 := ⟨by decide, by decide⟩
 have w1 : IntKind.i64.wrap (a + 1) = a + 1 := wrap_id (by omega) (by omega)
 have w2 : IntKind.i64.wrap (a + 2) = a + 2 := wrap_id (by omega) (by omega)
 obtain ⟨L0, hL0⟩ : ∃ x, atL l a 49 = x := ⟨_, rfl⟩
 have hb0 := atL_bd (l := l) (i := a) (most := 49) (by omega)
 rw [hL0] at hb0
 refine CwpE.cut (st := ⟨[(0, vints l), (1, vi a), (5, .own 0 0 0 0), (6, vi L0)], [.arr 0 3 64 []]⟩) ?_ ?_
 ·simp only [go_sem, ↓reduceIte, reduceCtorEq, Nat.reduceLT, Nat.reduceEqDiff]
  refine callT (At_s l a 49 hl b49) rfl ?_
  simp only [go_sem, ↓reduceIte, Nat.reduceLT, hL0]
  exact ⟨_, WkE.keep (by simp only [go_sem, ↓reduceIte, reduceCtorEq, Nat.reduceEqDiff]), rfl⟩
 obtain ⟨M, hM⟩ : ∃ x, (1 + atL l (a + 1) 4).toNat = x := ⟨_, rfl⟩
 have hb1 := atL_bd (l := l) (i := a + 1) (most := 4) (by omega)
 have hMi : IntKind.i64.wrap (1 + atL l (a + 1) 4) = (M : Int) := by rw [wrap_id (by omega) (by omega)]; omega
 have hM4 : M <= 4 := by omega
 refine CwpE.cut (st := ⟨[(0, vints l), (1, vi a), (5, .own 0 0 0 0), (6, vi L0), (7, vi M)], [.arr 0 3 64 []]⟩) ?_ ?_
 ·simp only [go_sem, ↓reduceIte, reduceCtorEq, Nat.reduceLT, Nat.reduceEqDiff, w1]
  refine callT (At_s l (a + 1) 4 hl b4) rfl ?_
  simp only [go_sem, ↓reduceIte, Nat.reduceLT, hMi]
  exact ⟨_, WkE.keep (by simp only [go_sem, ↓reduceIte, reduceCtorEq, Nat.reduceEqDiff]), rfl⟩
 refine CwpE.seqJ (fun s => s = ⟨[(5, .own 0 (notesP l a).length 0 (notesP l a).length)], [.arr (notesP l a).length 3 64 ((notesP l a).map vnote)]⟩) ?_ ?_
 rotate_left
 ·rintro _ rfl
  refine CwpE.vc ?_
  simp only [go_sem, ↓reduceIte, Nat.reduceLT]
  exact snap_all (notesP l a) _ rfl rfl fun _ => rfl
 refine CwpE.cut (st := ⟨[(0, vints l), (1, vi a), (5, .own 0 0 0 0), (6, vi L0), (7, vi M), (8, vi (0 : Nat))], [.arr 0 3 64 []]⟩) ?_ ?_
 ·simp only [go_sem, ↓reduceIte, Nat.reduceLT]
  exact ⟨_, WkE.keep (by simp only [go_sem, ↓reduceIte, reduceCtorEq, Nat.reduceEqDiff]; rfl), rfl⟩
 refine CwpE.block ?_
 refine loopXC 0 (fun z s => ∃ (i : Nat) (last : Int) (acc : List Nt), i + z = M /\ (0 <= last /\ last <= 48) /\ acc.length = i /\ acc ++ notesGo l a z i last = notesP l a /\ s = ⟨[(0, vints l), (1, vi a), (5, .own 0 acc.length 0 acc.length), (6, vi last), (7, vi M), (8, vi i)], [.arr acc.length 3 64 (acc.map vnote)]⟩)
  (fun s => s = ⟨[(5, .own 0 (notesP l a).length 0 (notesP l a).length)], [.arr (notesP l a).length 3 64 ((notesP l a).map vnote)]⟩) M _ (.refl _ _) ⟨0, L0, [], by omega, by omega, rfl, by rw [notesP, hM, hL0]; rfl, rfl⟩ ?_ ?_
 rotate_left
 ·rintro s rfl
  simp only [inBlockE, if_true]
  exact ⟨_, .refl _ _, rfl⟩
 rintro z s ⟨i, last, acc, hz, hlast, hai, hacc, rfl⟩
 cases z with
 | zero =>
  have h1 : ¬ (i : Int) < (M : Int) := by omega
  simp only [notesGo, List.append_nil] at hacc
  subst hacc
  refine CwpE.vc ?_
  simp only [go_sem, ↓reduceIte, reduceCtorEq, Nat.reduceLT, Nat.reduceEqDiff, Int.reduceNeg, h1]
  exact ⟨_, WkE.keep (by simp only [go_sem, ↓reduceIte, reduceCtorEq, Nat.reduceEqDiff]), rfl⟩
 | succ z =>
  have h1 : (i : Int) < (M : Int) := by omega
  have hw : IntKind.i64.wrap ((i : Int) + 1) = ((i + 1 : Nat) : Int) := by rw [wrap_id (by omega) (by omega)]; omega
  have hw3 : IntKind.i64.wrap (a + 2 + (i : Int)) = a + 2 + i := wrap_id (by omega) (by omega)
  rw [notesGo] at hacc
  have hkb := atL_bd (l := l) (i := a + 2 + i) (most := 1048576) (by omega)
  have hcall := At_s l (a + 2 + i) 1048576 hl bk
  generalize atL l (a + 2 + i) 1048576 = k at hacc hkb hcall
  have hr := noteN_ok hlast hkb
  have hstep := step_bd hr hlast
  have v1 : IntKind.i64.wrap (last + k.tmod 11) = last + k.tmod 11 := by
   rw [Int.tmod_eq_emod_of_nonneg hkb.1]; exact wrap_id (by omega) (by omega)
  have v2 : IntKind.i64.wrap (last + k.tmod 11 + 44) = last + k.tmod 11 + 44 := by
   rw [Int.tmod_eq_emod_of_nonneg hkb.1]; exact wrap_id (by omega) (by omega)
  have v3 : ∀ d : Int, 1 <= d -> IntKind.i64.wrap (k.tdiv d) = k.tdiv d := fun d hd => by
   rw [Int.tdiv_eq_ediv_of_nonneg hkb.1]
   have h5 := Int.ediv_nonneg hkb.1 (show 0 <= d by omega)
   have h6 := Int.ediv_le_self d hkb.1
   exact wrap_id (by omega) (by omega)
  have v11 := v3 11 (by omega)
  have v55 := v3 55 (by omega)
  have v440 := v3 440 (by omega)
  have v3080 := v3 3080 (by omega)
  have v4 : IntKind.i64.wrap (((k.tdiv 55).tmod 8).tmod 3 - 1) = ((k.tdiv 55).tmod 8).tmod 3 - 1 := by
   rw [Int.tdiv_eq_ediv_of_nonneg hkb.1, Int.tmod_eq_emod_of_nonneg (a := k / 55) (by omega), Int.tmod_eq_emod_of_nonneg (a := k / 55 % 8) (by omega)]
   exact wrap_id (by omega) (by omega)
  refine CwpE.cut (st := ⟨[(0, vints l), (1, vi a), (5, .own 0 acc.length 0 acc.length), (6, vi last), (7, vi M), (8, vi i)], [.arr acc.length 3 64 (acc.map vnote)]⟩) ?_ ?_
  ·simp only [go_sem, ↓reduceIte, reduceCtorEq, Nat.reduceLT, Nat.reduceEqDiff, h1]
   exact ⟨_, WkE.keep (by simp only [go_sem, ↓reduceIte, reduceCtorEq, Nat.reduceEqDiff]), rfl⟩
  refine CwpE.seqJ (fun s => s = ⟨[(0, vints l), (1, vi a), (5, .own 0 (acc.length + 1) 0 (acc.length + 1)), (6, vi (stepP (noteN last k) last)), (7, vi M), (8, vi i)], [.arr (acc.length + 1) 3 64 (acc.map vnote ++ [vnote (noteN last k)])]⟩) (CwpE.block ?_) ?_
  rotate_left
  ·rintro _ rfl
   refine CwpE.vc ?_
   simp only [go_sem, ↓reduceIte, reduceCtorEq, Nat.reduceLT, Nat.reduceEqDiff, hw]
   have e2 : (acc ++ [noteN last k]).length = acc.length + 1 := by simp
   have e3 : (acc ++ [noteN last k]).map vnote = acc.map vnote ++ [vnote (noteN last k)] := by simp
   refine ⟨z, ⟨[(0, vints l), (1, vi a), (5, .own 0 (acc.length + 1) 0 (acc.length + 1)), (6, vi (stepP (noteN last k) last)), (7, vi M), (8, vi (i + 1 : Nat))], [.arr (acc.length + 1) 3 64 (acc.map vnote ++ [vnote (noteN last k)])]⟩, by omega, WkE.keep (by simp only [go_sem, ↓reduceIte, reduceCtorEq, Nat.reduceEqDiff]), i + 1, stepP (noteN last k) last, acc ++ [noteN last k], by omega, hstep, by rw [e2, hai], by rw [List.append_assoc]; exact hacc, ?_⟩
   rw [e2, e3]
  refine CwpE.cut (st := ⟨[(0, vints l), (1, vi a), (5, .own 0 acc.length 0 acc.length), (6, vi last), (7, vi M), (8, vi i), (9, vi k)], [.arr acc.length 3 64 (acc.map vnote)]⟩) ?_ ?_
  ·simp only [go_sem, ↓reduceIte, reduceCtorEq, Nat.reduceLT, Nat.reduceEqDiff, w2, hw3]
   refine callT hcall rfl ?_
   simp only [go_sem, ↓reduceIte, Nat.reduceLT]
   exact ⟨_, WkE.keep (by simp only [go_sem, ↓reduceIte, reduceCtorEq, Nat.reduceEqDiff]), rfl⟩
  obtain ⟨s1, hs1⟩ : ∃ x, (last + k.tmod 11 + 44).tmod 49 = x := ⟨_, rfl⟩
  obtain ⟨le, hle⟩ : ∃ x, (k.tdiv 11).tmod 5 = x := ⟨_, rfl⟩
  obtain ⟨al, hal⟩ : ∃ x, ((k.tdiv 55).tmod 8).tmod 3 - 1 = x := ⟨_, rfl⟩
  rw [hal] at v4
  have nz49 : ¬ (49 : Int) = 0 := by decide
  refine CwpE.cut (st := ⟨[(0, vints l), (1, vi a), (5, .own 0 acc.length 0 acc.length), (6, vi last), (7, vi M), (8, vi i), (9, vi k), (10, .ref 1 1 0 0)], [.arr acc.length 3 64 (acc.map vnote), .arr 1 3 64 [vnote ⟨s1, le, al⟩]]⟩) ?_ ?_
  ·simp only [go_sem, Nat.reduceLeDiff, ↓reduceIte, reduceCtorEq, Nat.reduceLT, Nat.reduceEqDiff, Nat.reduceAdd, Int.reduceEq, v1, v2, v11, v55, v4, hs1, hle, hal]
   exact ⟨_, WkE.keep (by simp only [go_sem, ↓reduceIte, reduceCtorEq, Nat.reduceEqDiff]), rfl⟩
  obtain ⟨s2, hs2⟩ : ∃ x, (if (k.tdiv 440).tmod 7 = 0 then (k.tdiv 3080).tmod 49 else s1) = x := ⟨_, rfl⟩
  refine CwpE.seqJ (fun s => s = ⟨[(0, vints l), (1, vi a), (5, .own 0 acc.length 0 acc.length), (6, vi last), (7, vi M), (8, vi i), (9, vi k), (10, .ref 1 1 0 0)], [.arr acc.length 3 64 (acc.map vnote), .arr 1 3 64 [vnote ⟨s2, le, al⟩]]⟩) ?_ ?_
  ·refine CwpE.vc ?_
   by_cases h7 : (k.tdiv 440).tmod 7 = 0
   ·rw [if_pos h7] at hs2
    simp only [go_sem, Nat.reduceLeDiff, ↓reduceIte, reduceCtorEq, Nat.reduceLT, Nat.reduceEqDiff, Nat.reduceAdd, Int.reduceEq, v440, v3080, h7, hs2]
    exact ⟨_, WkE.keep (by simp only [go_sem, ↓reduceIte, reduceCtorEq, Nat.reduceEqDiff]), rfl⟩
   ·rw [if_neg h7] at hs2
    subst hs2
    simp only [go_sem, ↓reduceIte, reduceCtorEq, Nat.reduceLT, Nat.reduceEqDiff, Int.reduceEq, v440, h7]
    exact ⟨_, WkE.keep (by simp only [go_sem, ↓reduceIte, reduceCtorEq, Nat.reduceEqDiff]), rfl⟩
  rintro _ rfl
  have hnote : noteN last k = if (k.tdiv 440).tmod 9 = 1 then ⟨-1, le, 0⟩ else ⟨s2, le, al⟩ := by
   rw [<- hle, <- hal, <- hs2, <- hs1]; rfl
  refine CwpE.seqJ (fun s => s = ⟨[(0, vints l), (1, vi a), (5, .own 0 acc.length 0 acc.length), (6, vi last), (7, vi M), (8, vi i), (9, vi k), (10, .ref 1 1 0 0)], [.arr acc.length 3 64 (acc.map vnote), .arr 1 3 64 [vnote (noteN last k)]]⟩) ?_ ?_
  ·refine CwpE.vc ?_
   by_cases h9 : (k.tdiv 440).tmod 9 = 1
   ·rw [hnote, if_pos h9]
    simp only [go_sem, Nat.reduceLeDiff, ↓reduceIte, reduceCtorEq, Nat.reduceLT, Nat.reduceEqDiff, Nat.reduceAdd, Int.reduceEq, Int.reduceNeg, v440, h9]
    exact ⟨_, WkE.keep (by simp only [go_sem, ↓reduceIte, reduceCtorEq, Nat.reduceEqDiff]), rfl⟩
   ·rw [hnote, if_neg h9]
    simp only [go_sem, ↓reduceIte, reduceCtorEq, Nat.reduceLT, Nat.reduceEqDiff, Int.reduceEq, Int.reduceNeg, v440, h9]
    exact ⟨_, WkE.keep (by simp only [go_sem, ↓reduceIte, reduceCtorEq, Nat.reduceEqDiff]), rfl⟩
  rintro _ rfl
  generalize noteN last k = nn
  refine CwpE.seqJ (fun s => s = ⟨[(0, vints l), (1, vi a), (5, .own 0 acc.length 0 acc.length), (6, vi (stepP nn last)), (7, vi M), (8, vi i), (10, .ref 1 1 0 0)], [.arr acc.length 3 64 (acc.map vnote), .arr 1 3 64 [vnote nn]]⟩) ?_ ?_
  ·refine CwpE.vc ?_
   by_cases h0 : 0 <= nn.s
   ·rw [show stepP nn last = nn.s by simp only [stepP, h0, if_true]]
    simp only [go_sem, ↓reduceIte, reduceCtorEq, Nat.reduceLT, Nat.reduceEqDiff, h0]
    exact ⟨_, WkE.keep (by simp only [go_sem, ↓reduceIte, reduceCtorEq, Nat.reduceEqDiff]), rfl⟩
   ·rw [show stepP nn last = last by simp only [stepP, h0, if_false]]
    simp only [go_sem, ↓reduceIte, reduceCtorEq, Nat.reduceLT, Nat.reduceEqDiff, h0]
    exact ⟨_, WkE.keep (by simp only [go_sem, ↓reduceIte, reduceCtorEq, Nat.reduceEqDiff]), rfl⟩
  rintro _ rfl
  have q1 : (acc.length + 1) * 24 <= 140737488355328 := by omega
  have htk : List.take acc.length (acc.map vnote) = acc.map vnote := List.take_of_length_le (by simp)
  refine CwpE.vc ?_
  simp only [go_sem, Nat.reducePow, Nat.reduceLeDiff, ↓reduceIte, reduceCtorEq, Nat.reduceLT, Nat.reduceEqDiff, Nat.reduceAdd, Nat.reduceMul, q1, htk]
  refine ⟨_, WkE.round ?_ ?_ ?_ ?_, rfl⟩
  ·simp only [go_sem, ↓reduceIte, reduceCtorEq, Nat.reduceEqDiff]
  ·rfl
  ·simp only [List.all_cons, List.all_nil, AObj.innO, List.all_append, inn_map (f := vnote) (fun _ => rfl), Bool.and_true, Bool.true_and]
   rfl
  ·rfl
end Go.Proofs.YtnncijjkbonokaaDoor
namespace Go.Proofs.YtnncijjkbonokaaDoor
open Go.RowKit Dak
def handP (l : List Int) (bars h : Nat) : List (List Nt) := (List.range bars).map fun b => notesP l (2 + 6 * ((bars * h + b : Nat) : Int))
def melP (l : List Int) : List (List (List Nt)) := (List.range (1 + atL l 0 2).toNat).map fun h => handP l (1 + atL l 1 4).toNat h
theorem melP_vm (l : List Int) : Vm (melP l) := by
 have h1 := atL_bd (l := l) (i := 0) (most := 2) (by omega)
 have h2 := atL_bd (l := l) (i := 1) (most := 4) (by omega)
 have hand : ∀ h ∈ melP l, ∃ k, h = handP l (1 + atL l 1 4).toNat k := fun h hh => by
  obtain ⟨k, _, rfl⟩ := List.mem_map.1 hh
  exact ⟨k, rfl⟩
 have hl : ∀ k, (handP l (1 + atL l 1 4).toNat k).length = (1 + atL l 1 4).toNat := fun k => by simp [handP]
 have hm : manyP (melP l) = (1 + atL l 1 4).toNat := by
  have : 0 < (melP l).length := by simp [melP]; omega
  show ((melP l).headD []).length = _
  cases he : melP l with
  | nil => rw [he] at this; simp at this
  | cons x r =>
   obtain ⟨k, hk⟩ := hand x (by rw [he]; simp)
   simp only [List.headD_cons]
   rw [hk, hl]
 refine ⟨by simp [melP]; omega, by rw [hm]; omega, fun h hh => ?_, fun h hh b hb => ?_⟩
 ·obtain ⟨k, rfl⟩ := hand h hh
  rw [hl, hm]
 ·obtain ⟨k, rfl⟩ := hand h hh
  obtain ⟨j, _, rfl⟩ := List.mem_map.1 hb
  have := notesP_ok l (2 + 6 * (((1 + atL l 1 4).toNat * k + j : Nat) : Int))
  exact ⟨by omega, by omega, this.2.2⟩
theorem Melody_s (l : List Int) (hl : ∀ x ∈ l, I64 x) : Ctr Tryd.prog 10 [vints l] (vmel (melP l)) := by
 refine specC f10 (by simp) fun F0 w0 => ?_
 have b2 : I64 2 := ⟨by decide, by decide⟩
 have b4 : I64 4 := ⟨by decide, by decide⟩
 have g1 := atL_bd (l := l) (i := 0) (most := 2) (by omega)
 have g2 := atL_bd (l := l) (i := 1) (most := 4) (by omega)
 obtain ⟨H, hH⟩ : ∃ x, (1 + atL l 0 2).toNat = x := ⟨_, rfl⟩
 obtain ⟨B, hB⟩ : ∃ x, (1 + atL l 1 4).toNat = x := ⟨_, rfl⟩
 have wH : IntKind.i64.wrap (1 + atL l 0 2) = (H : Int) := by rw [wrap_id (by omega) (by omega)]; omega
 have wB : IntKind.i64.wrap (1 + atL l 1 4) = (B : Int) := by rw [wrap_id (by omega) (by omega)]; omega
 have hH2 : H <= 2 := by omega
 have hB4 : B <= 4 := by omega
 have hmel : melP l = (List.range H).map fun h => handP l B h := by rw [melP, hH, hB]
 unfold c10
 refine CwpE.cut (st := ⟨[(0, vints l), (2, .ref 0 1 0 0)], [.arr 1 1 25 [nilT]]⟩) ?_ ?_
 ·simp only [go_sem, ↓reduceIte, Nat.reduceLT]
  exact ⟨_, WkE.keep (by simp only [go_sem, ↓reduceIte, reduceCtorEq]), rfl⟩
 refine CwpE.cut (st := ⟨[(0, vints l), (2, .ref 0 1 0 0), (3, .ref 1 1 0 0)], [.arr 1 1 25 [nilT], .arr 1 1 25 [.agg [.own 2 0 0 0]], .arr 0 1 28 []]⟩) ?_ ?_
 ·simp only [go_sem, ↓reduceIte, Nat.reduceLT]
  exact ⟨_, (WkE.nilCell 1 1 1 0 0 1 28 25 [nilT] _ rfl rfl rfl).trans (WkE.keep (by simp only [go_sem, ↓reduceIte, reduceCtorEq, Nat.reduceEqDiff])), rfl⟩
 refine CwpE.cut (st := ⟨[(0, vints l), (2, .ref 0 1 0 0), (3, .ref 1 1 0 0), (4, vi H)], [.arr 1 1 25 [nilT], .arr 1 1 25 [.agg [.own 2 0 0 0]], .arr 0 1 28 []]⟩) ?_ ?_
 ·simp only [go_sem, ↓reduceIte, Nat.reduceLT]
  refine callT (At_s l 0 2 hl b2) rfl ?_
  simp only [go_sem, ↓reduceIte, Nat.reduceLT, wH]
  exact ⟨_, WkE.keep (by simp only [go_sem, ↓reduceIte, reduceCtorEq, Nat.reduceEqDiff]), rfl⟩
 refine CwpE.cut (st := ⟨[(0, vints l), (2, .ref 0 1 0 0), (3, .ref 1 1 0 0), (4, vi H), (5, vi B)], [.arr 1 1 25 [nilT], .arr 1 1 25 [.agg [.own 2 0 0 0]], .arr 0 1 28 []]⟩) ?_ ?_
 ·simp only [go_sem, ↓reduceIte, Nat.reduceLT]
  refine callT (At_s l 1 4 hl b4) rfl ?_
  simp only [go_sem, ↓reduceIte, Nat.reduceLT, wB]
  exact ⟨_, WkE.keep (by simp only [go_sem, ↓reduceIte, reduceCtorEq, Nat.reduceEqDiff]), rfl⟩
 refine CwpE.seqJ (fun s => s = ⟨[(2, .ref 0 1 0 0), (3, .ref 1 1 0 0)], [.arr 1 1 25 [nilT], .arr 1 1 25 [.agg [.own 2 (melP l).length 0 (melP l).length]], .arr (melP l).length 1 28 ((melP l).map vhand)]⟩) ?_ ?_
 rotate_left
 ·rintro _ rfl
  refine CwpE.vc ?_
  simp only [go_sem, ↓reduceIte, Nat.reduceEqDiff]
  exact snap_agg1 (snap_all (melP l) _ rfl rfl fun _ => rfl)
 refine CwpE.cut (st := ⟨[(0, vints l), (2, .ref 0 1 0 0), (3, .ref 1 1 0 0), (4, vi H), (5, vi B), (6, vi (0 : Nat))], [.arr 1 1 25 [nilT], .arr 1 1 25 [.agg [.own 2 0 0 0]], .arr 0 1 28 []]⟩) ?_ ?_
 ·simp only [go_sem, ↓reduceIte, Nat.reduceLT]
  exact ⟨_, WkE.keep (by simp only [go_sem, ↓reduceIte, reduceCtorEq, Nat.reduceEqDiff]; rfl), rfl⟩
 refine CwpE.block ?_
 refine loopXC 0 (fun z s => ∃ (h : Nat) (acc : List (List (List Nt))), h + z = H /\ acc = (List.range h).map (fun h => handP l B h) /\ s = ⟨[(0, vints l), (2, .ref 0 1 0 0), (3, .ref 1 1 0 0), (4, vi H), (5, vi B), (6, vi h)], [.arr 1 1 25 [nilT], .arr 1 1 25 [.agg [.own 2 acc.length 0 acc.length]], .arr acc.length 1 28 (acc.map vhand)]⟩)
  (fun s => s = ⟨[(2, .ref 0 1 0 0), (3, .ref 1 1 0 0)], [.arr 1 1 25 [nilT], .arr 1 1 25 [.agg [.own 2 (melP l).length 0 (melP l).length]], .arr (melP l).length 1 28 ((melP l).map vhand)]⟩) H _ (.refl _ _) ⟨0, [], by omega, rfl, rfl⟩ ?_ ?_
 rotate_left
 ·rintro s rfl
  simp only [inBlockE, if_true]
  exact ⟨_, .refl _ _, rfl⟩
 rintro z s ⟨h, acc, hz, hacc, rfl⟩
 cases z with
 | zero =>
  obtain rfl : h = H := by omega
  have h1 : ¬ (h : Int) < (h : Int) := by omega
  rw [<- hmel] at hacc
  subst hacc
  refine CwpE.vc ?_
  simp only [go_sem, ↓reduceIte, reduceCtorEq, Nat.reduceLT, Nat.reduceEqDiff, h1]
  exact ⟨_, WkE.keep (by simp only [go_sem, ↓reduceIte, reduceCtorEq, Nat.reduceEqDiff]), rfl⟩
 | succ z =>
  have h1 : (h : Int) < (H : Int) := by omega
  have hw : IntKind.i64.wrap ((h : Int) + 1) = ((h + 1 : Nat) : Int) := by rw [wrap_id (by omega) (by omega)]; omega
  have hal : acc.length = h := by rw [hacc]; simp
  refine CwpE.cut (st := ⟨[(0, vints l), (2, .ref 0 1 0 0), (3, .ref 1 1 0 0), (4, vi H), (5, vi B), (6, vi h)], [.arr 1 1 25 [nilT], .arr 1 1 25 [.agg [.own 2 acc.length 0 acc.length]], .arr acc.length 1 28 (acc.map vhand)]⟩) ?_ ?_
  ·simp only [go_sem, ↓reduceIte, reduceCtorEq, Nat.reduceLT, Nat.reduceEqDiff, h1]
   exact ⟨_, WkE.keep (by simp only [go_sem, ↓reduceIte, reduceCtorEq, Nat.reduceEqDiff]), rfl⟩
  refine CwpE.seqJ (fun s => s = ⟨[(0, vints l), (2, .ref 0 1 0 0), (3, .ref 1 1 0 0), (4, vi H), (5, vi B), (6, vi h)], [.arr 1 1 25 [nilT], .arr 1 1 25 [.agg [.own 2 (acc.length + 1) 0 (acc.length + 1)]], .arr (acc.length + 1) 1 28 (acc.map vhand ++ [vhand (handP l B h)])]⟩) (CwpE.block ?_) ?_
  rotate_left
  ·rintro _ rfl
   refine CwpE.vc ?_
   simp only [go_sem, ↓reduceIte, reduceCtorEq, Nat.reduceLT, Nat.reduceEqDiff, hw]
   have e2 : (acc ++ [handP l B h]).length = acc.length + 1 := by simp
   have e3 : (acc ++ [handP l B h]).map vhand = acc.map vhand ++ [vhand (handP l B h)] := by simp
   refine ⟨z, ⟨[(0, vints l), (2, .ref 0 1 0 0), (3, .ref 1 1 0 0), (4, vi H), (5, vi B), (6, vi (h + 1 : Nat))], [.arr 1 1 25 [nilT], .arr 1 1 25 [.agg [.own 2 (acc.length + 1) 0 (acc.length + 1)]], .arr (acc.length + 1) 1 28 (acc.map vhand ++ [vhand (handP l B h)])]⟩, by omega, WkE.keep (by simp only [go_sem, ↓reduceIte, reduceCtorEq, Nat.reduceEqDiff]), h + 1, acc ++ [handP l B h], by omega, by rw [hacc, List.range_succ, List.map_append]; rfl, ?_⟩
   rw [e2, e3]
  have htk : List.take acc.length (acc.map vhand) = acc.map vhand := List.take_of_length_le (by simp)
  have hin : ∀ k, (acc.map vhand).all (AV.inn k) = true := fun k => inn_map fun _ => rfl
  have q1 : (acc.length + 1) * 24 <= 140737488355328 := by omega
  have O : ∃ o : List AObj, o = [.arr 1 1 25 [nilT], .arr 1 1 25 [.agg [.own 2 acc.length 0 acc.length]], .arr acc.length 1 28 (acc.map vhand)] := ⟨_, rfl⟩
  refine CwpE.cut (st := ⟨[(0, vints l), (2, .ref 0 1 0 0), (3, .ref 1 1 0 0), (4, vi H), (5, vi B), (6, vi h), (7, .own 3 0 0 0)], [.arr 1 1 25 [nilT], .arr 1 1 25 [.agg [.own 2 acc.length 0 acc.length]], .arr acc.length 1 28 (acc.map vhand), .arr 0 1 34 []]⟩) ?_ ?_
  ·simp only [go_sem, ↓reduceIte, Nat.reduceLT]
   exact ⟨_, (WkE.nil 7 1 34 (by omega) rfl).trans (WkE.keep (by simp only [go_sem, ↓reduceIte, reduceCtorEq, Nat.reduceEqDiff, Nat.reduceAdd])), rfl⟩
  refine CwpE.seqJ (fun s => s = ⟨[(0, vints l), (2, .ref 0 1 0 0), (3, .ref 1 1 0 0), (4, vi H), (5, vi B), (6, vi h), (7, vhand (handP l B h))], [.arr 1 1 25 [nilT], .arr 1 1 25 [.agg [.own 2 acc.length 0 acc.length]], .arr acc.length 1 28 (acc.map vhand)]⟩) ?_ ?_
  rotate_left
  ·rintro _ rfl
   refine CwpE.vc ?_
   simp only [go_sem, Nat.reducePow, Nat.reduceLeDiff, ↓reduceIte, reduceCtorEq, Nat.reduceLT, Nat.reduceEqDiff, Nat.reduceAdd, Nat.reduceMul, q1, htk]
   exact ⟨_, WkE.keep (by simp only [go_sem, ↓reduceIte, reduceCtorEq, Nat.reduceEqDiff]), rfl⟩
  refine CwpE.cut (st := ⟨[(0, vints l), (2, .ref 0 1 0 0), (3, .ref 1 1 0 0), (4, vi H), (5, vi B), (6, vi h), (7, .own 3 0 0 0), (8, vi (0 : Nat))], [.arr 1 1 25 [nilT], .arr 1 1 25 [.agg [.own 2 acc.length 0 acc.length]], .arr acc.length 1 28 (acc.map vhand), .arr 0 1 34 []]⟩) ?_ ?_
  ·simp only [go_sem, ↓reduceIte, Nat.reduceLT]
   exact ⟨_, WkE.keep (by simp only [go_sem, ↓reduceIte, reduceCtorEq, Nat.reduceEqDiff]; rfl), rfl⟩
  refine CwpE.block ?_
  refine loopX 2 (fun y s => ∃ (b : Nat) (row : List (List Nt)), b + y = B /\ row = (List.range b).map (fun b => notesP l (2 + 6 * ((B * h + b : Nat) : Int))) /\ s = ⟨[(0, vints l), (2, .ref 0 1 0 0), (3, .ref 1 1 0 0), (4, vi H), (5, vi B), (6, vi h), (7, .own 3 row.length 0 row.length), (8, vi b)], [.arr 1 1 25 [nilT], .arr 1 1 25 [.agg [.own 2 acc.length 0 acc.length]], .arr acc.length 1 28 (acc.map vhand), .arr row.length 1 34 (row.map vbar)]⟩)
   (fun s => s = ⟨[(0, vints l), (2, .ref 0 1 0 0), (3, .ref 1 1 0 0), (4, vi H), (5, vi B), (6, vi h), (7, vhand (handP l B h))], [.arr 1 1 25 [nilT], .arr 1 1 25 [.agg [.own 2 acc.length 0 acc.length]], .arr acc.length 1 28 (acc.map vhand)]⟩) B _ (.refl _ _) ⟨0, [], by omega, rfl, rfl⟩ ?_ ?_
  rotate_left
  ·rintro s rfl
   simp only [inBlockE, if_true]
   exact ⟨_, .refl _ _, rfl⟩
  rintro y s ⟨b, row, hy, hrow, rfl⟩
  have hrl : row.length = b := by rw [hrow]; simp
  cases y with
  | zero =>
   obtain rfl : b = B := by omega
   have hb1 : ¬ (b : Int) < (b : Int) := by omega
   have hrow' : row = handP l b h := hrow
   subst hrow'
   simp only [go_sem, ↓reduceIte, reduceCtorEq, Nat.reduceLT, Nat.reduceEqDiff, hb1]
   refine ⟨_, (WkE.freeze 7 3 (handP l b h).length 0 (handP l b h).length 1 34 ((handP l b h).map vbar) (by omega) rfl rfl (by simp) (List.all_eq_true.2 fun y hy => by obtain ⟨v, _, rfl⟩ := List.mem_map.1 hy; rfl)).trans (WkE.round ?_ ?_ ?_ ?_), rfl⟩
   ·have e : List.take (handP l b h).length (List.drop 0 ((handP l b h).map vbar)) = (handP l b h).map vbar := List.take_of_length_le (by simp)
    rw [e]
    simp only [go_sem, ↓reduceIte, reduceCtorEq, Nat.reduceEqDiff]
   ·rfl
   ·simp only [List.all_cons, List.all_nil, AObj.innO, hin, Bool.and_true]
    rfl
   ·rfl
  | succ y =>
   have hb1 : (b : Int) < (B : Int) := by omega
   have hbw : IntKind.i64.wrap ((b : Int) + 1) = ((b + 1 : Nat) : Int) := by rw [wrap_id (by omega) (by omega)]; omega
   have hBh : B * h <= 8 := by
    have := Nat.mul_le_mul hB4 (show h <= 2 by omega); omega
   have m1 : IntKind.i64.wrap ((B : Int) * (h : Int)) = ((B * h : Nat) : Int) := by rw [<- Int.natCast_mul, wrap_id (by omega) (by omega)]
   have m2 : IntKind.i64.wrap (((B * h : Nat) : Int) + (b : Int)) = ((B * h + b : Nat) : Int) := by rw [wrap_id (by omega) (by omega)]; omega
   have m3 : IntKind.i64.wrap (6 * ((B * h + b : Nat) : Int)) = 6 * ((B * h + b : Nat) : Int) := wrap_id (by omega) (by omega)
   have m4 : IntKind.i64.wrap (2 + 6 * ((B * h + b : Nat) : Int)) = 2 + 6 * ((B * h + b : Nat) : Int) := wrap_id (by omega) (by omega)
   have q2 : (row.length + 1) * 24 <= 140737488355328 := by omega
   have htk2 : List.take row.length (row.map vbar) = row.map vbar := List.take_of_length_le (by simp)
   obtain ⟨nb, hnb⟩ : ∃ nb, notesP l (2 + 6 * ((B * h + b : Nat) : Int)) = nb := ⟨_, rfl⟩
   have e2 : (row ++ [nb]).length = row.length + 1 := by simp
   have e3 : (row ++ [nb]).map vbar = row.map vbar ++ [vbar nb] := by simp
   simp only [go_sem, ↓reduceIte, reduceCtorEq, Nat.reduceLT, Nat.reduceEqDiff, hb1, m1, m2, m3, m4]
   refine callT (Notes_s l (2 + 6 * ((B * h + b : Nat) : Int)) hl ⟨by omega, by omega⟩) rfl ?_
   simp only [go_sem, Nat.reducePow, Nat.reduceLeDiff, ↓reduceIte, reduceCtorEq, Nat.reduceLT, Nat.reduceEqDiff, Nat.reduceAdd, Nat.reduceMul, hnb, q2, htk2, hbw]
   refine ⟨y, ⟨[(0, vints l), (2, .ref 0 1 0 0), (3, .ref 1 1 0 0), (4, vi H), (5, vi B), (6, vi h), (7, .own 3 (row.length + 1) 0 (row.length + 1)), (8, vi (b + 1 : Nat))], [.arr 1 1 25 [nilT], .arr 1 1 25 [.agg [.own 2 acc.length 0 acc.length]], .arr acc.length 1 28 (acc.map vhand), .arr (row.length + 1) 1 34 (row.map vbar ++ [vbar nb])]⟩, by omega, WkE.keep (by simp only [go_sem, ↓reduceIte, reduceCtorEq, Nat.reduceEqDiff]), b + 1, row ++ [nb], by omega, by rw [hrow, List.range_succ, List.map_append, <- hnb]; rfl, ?_⟩
   rw [e2, e3]
end Go.Proofs.YtnncijjkbonokaaDoor
namespace Go.Proofs.YtnncijjkbonokaaDoor
open Go.RowKit Dak
theorem refSame_s (A B : List (List (List Nt))) (hA : lenM A) : Ctr Tryd.prog 21 [vmel A, vmel B] (vb (decide (A = B))) := by
 refine specE f21 (by simp) fun F0 w0 => ?_
 by_cases hl : A.length = B.length
 rotate_left
 ·have hl' : ¬ (A.length : Int) = (B.length : Int) := by omega
  simp only [c21, go_sem, ↓reduceIte, reduceCtorEq, Nat.reduceLT, Nat.reduceEqDiff, hl', List.length_map]
  have : decide (A = B) = false := by rw [decide_eq_false_iff_not]; rintro rfl; exact hl rfl
  rw [this]; exact .tree _ rfl
 have hl' : (A.length : Int) = (B.length : Int) := by omega
 have hA1 := hA.1
 simp only [c21, go_sem, ↓reduceIte, reduceCtorEq, Nat.reduceLT, Nat.reduceEqDiff, hl', List.length_map]
 refine loopX 0 (fun z s => ∃ k : Nat, z = B.length - k /\ k <= B.length /\ A.take k = B.take k /\ s = ⟨[(2, .ref 0 1 0 0), (3, .ref 1 1 0 0), (5, vi k)], [.arr 1 1 25 [vmel A], .arr 1 1 25 [vmel B]]⟩)
  (fun s => A = B /\ s = ⟨[], []⟩) B.length ⟨[(2, .ref 0 1 0 0), (3, .ref 1 1 0 0), (5, vi (0 : Nat))], [.arr 1 1 25 [vmel A], .arr 1 1 25 [vmel B]]⟩ (WkE.keep (by simp only [go_sem, ↓reduceIte, Nat.reduceEqDiff]; rfl)) ⟨0, by omega, by omega, rfl, rfl⟩ ?_ ?_
 rotate_left
 ·rintro s ⟨e, rfl⟩
  simp only [go_sem, ↓reduceIte, Nat.reduceLT, e]
  exact .tree _ rfl
 rintro z s ⟨k, rfl, hk, ht, rfl⟩
 by_cases hlt : k < B.length
 rotate_left
 ·have h1 : ¬ (k : Int) < (B.length : Int) := by omega
  simp only [go_sem, ↓reduceIte, Nat.reduceLT, Nat.reduceEqDiff, hl', h1, List.length_map]
  refine ⟨⟨[], []⟩, (WkE.keep (env' := []) trivial).trans (WkE.drop 0 (fun p h => by cases h) (fun o h => by cases h)), ?_, rfl⟩
  rwa [List.take_of_length_le (by omega), List.take_of_length_le (by omega)] at ht
 have hltA : k < A.length := by omega
 have h1 : (k : Int) < (B.length : Int) := by omega
 have h0 : (0 : Int) <= (k : Int) := by omega
 have hw : IntKind.i64.wrap ((k : Int) + 1) = ((k + 1 : Nat) : Int) := by rw [wrap_id (by omega) (by omega)]; omega
 obtain ⟨x, hx⟩ : ∃ x, A[k] = x := ⟨_, rfl⟩
 obtain ⟨y, hy⟩ : ∃ y, B[k] = y := ⟨_, rfl⟩
 have gx : A[k]? = some x := by rw [List.getElem?_eq_getElem hltA, hx]
 have gy : B[k]? = some y := by rw [List.getElem?_eq_getElem hlt, hy]
 have hlx := hA.2 x (hx ▸ List.getElem_mem hltA)
 have ne : x ≠ y -> decide (A = B) = false := fun h => by
  rw [decide_eq_false_iff_not]; rintro rfl; rw [gx] at gy; exact h (Option.some.inj gy)
 by_cases hxy : x.length = y.length
 rotate_left
 ·have hxy' : ¬ (x.length : Int) = (y.length : Int) := by omega
  simp only [go_sem, ↓reduceIte, Nat.reduceLT, Nat.reduceEqDiff, hl', h1, h0, List.length_map, List.getElem?_map, gx, gy, Option.map_some, hxy']
  rw [ne (fun h => hxy (by rw [h]))]
  exact .tree _ rfl
 have hxy' : (x.length : Int) = (y.length : Int) := by omega
 simp only [go_sem, ↓reduceIte, Nat.reduceLT, Nat.reduceEqDiff, hl', h1, h0, List.length_map, List.getElem?_map, gx, gy, Option.map_some, hxy']
 refine loopX 2 (fun z s => ∃ j : Nat, z = y.length - j /\ j <= y.length /\ x.take j = y.take j /\ s = ⟨[(2, .ref 0 1 0 0), (3, .ref 1 1 0 0), (5, vi k), (6, vi j)], [.arr 1 1 25 [vmel A], .arr 1 1 25 [vmel B]]⟩)
  (fun s => x = y /\ s = ⟨[(2, .ref 0 1 0 0), (3, .ref 1 1 0 0), (5, vi k)], [.arr 1 1 25 [vmel A], .arr 1 1 25 [vmel B]]⟩) y.length ⟨[(2, .ref 0 1 0 0), (3, .ref 1 1 0 0), (5, vi k), (6, vi (0 : Nat))], [.arr 1 1 25 [vmel A], .arr 1 1 25 [vmel B]]⟩ (WkE.keep (by simp only [go_sem, ↓reduceIte, Nat.reduceEqDiff]; rfl)) ⟨0, by omega, by omega, rfl, rfl⟩ ?_ ?_
 rotate_left
 ·rintro s ⟨e, rfl⟩
  simp only [go_sem, ↓reduceIte, Nat.reduceLT, Nat.reduceEqDiff, hw]
  exact ⟨B.length - (k + 1), ⟨[(2, .ref 0 1 0 0), (3, .ref 1 1 0 0), (5, vi (k + 1 : Nat))], [.arr 1 1 25 [vmel A], .arr 1 1 25 [vmel B]]⟩, by omega, WkE.keep (by simp only [go_sem, ↓reduceIte, Nat.reduceEqDiff]), k + 1, rfl, by omega, takeS_eq ht hltA hlt (by rw [hx, hy, e]), rfl⟩
 rintro z s ⟨j, rfl, hj, hjt, rfl⟩
 by_cases jlt : j < y.length
 rotate_left
 ·have j1 : ¬ (j : Int) < (y.length : Int) := by omega
  simp only [go_sem, ↓reduceIte, Nat.reduceLT, Nat.reduceEqDiff, h0, hxy', List.length_map, List.getElem?_map, gx, Option.map_some, j1]
  refine ⟨_, WkE.keep (by simp only [go_sem, ↓reduceIte, Nat.reduceEqDiff]), ?_, rfl⟩
  rwa [List.take_of_length_le (by omega), List.take_of_length_le (by omega)] at hjt
 have jltx : j < x.length := by omega
 have j1 : (j : Int) < (y.length : Int) := by omega
 have j0 : (0 : Int) <= (j : Int) := by omega
 have jw : IntKind.i64.wrap ((j : Int) + 1) = ((j + 1 : Nat) : Int) := by rw [wrap_id (by omega) (by omega)]; omega
 simp only [go_sem, ↓reduceIte, Nat.reduceLT, Nat.reduceEqDiff, h0, hxy', List.length_map, List.getElem?_map, gx, gy, Option.map_some, j1, j0, List.getElem?_eq_getElem jlt, List.getElem?_eq_getElem jltx]
 refine callT (Equal47_s x[j] y[j] (hlx.2 _ (List.getElem_mem jltx))) rfl ?_
 by_cases he : x[j] = y[j]
 ·rw [show decide (x[j] = y[j]) = true from decide_eq_true he]
  simp only [go_sem, ↓reduceIte, Nat.reduceLT, Nat.reduceEqDiff, jw]
  exact ⟨y.length - (j + 1), ⟨[(2, .ref 0 1 0 0), (3, .ref 1 1 0 0), (5, vi k), (6, vi (j + 1 : Nat))], [.arr 1 1 25 [vmel A], .arr 1 1 25 [vmel B]]⟩, by omega, WkE.keep (by simp only [go_sem, ↓reduceIte, Nat.reduceEqDiff]), j + 1, rfl, by omega, takeS_eq hjt jltx jlt he, rfl⟩
 ·rw [show decide (x[j] = y[j]) = false from decide_eq_false he]
  simp only [go_sem, ↓reduceIte, Nat.reduceLT]
  rw [ne (by rintro rfl; exact he rfl)]
  exact .tree _ rfl
def exL : List Nt := [⟨21, 2, 0⟩, ⟨23, 2, 0⟩, ⟨26, 2, 0⟩, ⟨19, 2, 0⟩]
def exS : List Nt := [⟨-1, 0, 0⟩, ⟨3, 4, 1⟩]
theorem ex1 : barR exL (-1) = ([16, 57, 43, 42, 56, 42], 0) := by decide +kernel
theorem ex2 : barR exL 21 = ([57, 43, 42, 56, 42], 0) := by decide +kernel
theorem ex3 : barR exS (-1) = ([45, 33, 8, 3, 63], 0) := by decide +kernel
theorem ex4 : encP [[exL]] 40 = ([[16, 57, 43, 42, 56, 42]], 0) := by decide +kernel
theorem ex5 : readP [[16, 57, 43, 42, 56, 42]] = ([[exL]], 0) := by decide +kernel
theorem lives_s : Ctr Tryd.prog 16 [] (vb true) := by
 refine specE f16 (by simp) fun F0 w0 => ?_
 simp only [c16, go_sem, Nat.reducePow, Nat.reduceLeDiff, ↓reduceIte, reduceCtorEq, Nat.reduceLT, Nat.reduceEqDiff, Nat.reduceAdd, Nat.reduceMul, Int.reduceNeg]
 have okL : ∀ n ∈ exL, okA n := fun n hn => by
  simp only [exL, List.mem_cons, List.not_mem_nil, or_false] at hn; rcases hn with rfl | rfl | rfl | rfl <;> exact ⟨by decide, by decide⟩
 have okS : ∀ n ∈ exS, okA n := fun n hn => by
  simp only [exS, List.mem_cons, List.not_mem_nil, or_false] at hn; rcases hn with rfl | rfl <;> exact ⟨by decide, by decide⟩
 have vmE : Vm [[exL]] := vm_of (by decide +kernel)
 have hvE := vm_len vmE
 refine callT (Bar_s exL (-1) (by decide) okL) rfl ?_
 rw [ex1]
 simp only [go_sem, ↓reduceIte, Nat.reduceLT, Nat.reduceEqDiff, Int.reduceNeg]
 refine callT (Bar_s exL 21 (by decide) okL) rfl ?_
 rw [ex2]
 simp only [go_sem, Nat.reducePow, Nat.reduceLeDiff, ↓reduceIte, reduceCtorEq, Nat.reduceLT, Nat.reduceEqDiff, Nat.reduceAdd, Nat.reduceMul, Int.reduceNeg]
 refine callT (Bar_s exS (-1) (by decide) okS) rfl ?_
 rw [ex3]
 simp only [go_sem, Nat.reducePow, Nat.reduceLeDiff, ↓reduceIte, Nat.reduceLT, Nat.reduceEqDiff, Nat.reduceMul, Int.reduceNeg]
 refine callT (Encode_s [[exL]] 40 hvE.1 hvE.2) rfl ?_
 rw [ex4]
 simp only [go_sem, ↓reduceIte, Nat.reduceLT, Nat.reduceEqDiff, Int.reduceNeg]
 refine callT (Read_s [[16, 57, 43, 42, 56, 42]] (by decide) (fun x hx => by simp only [List.mem_cons, List.not_mem_nil, or_false] at hx; subst hx; decide)) rfl ?_
 rw [ex5]
 have k1 : ((1 : Nat) : Int) = 1 := rfl
 have l01 : (0 : Int) < 1 := by decide
 simp only [go_sem, Nat.reducePow, Nat.reduceLeDiff, ↓reduceIte, reduceCtorEq, Nat.reduceLT, Nat.reduceEqDiff, Nat.reduceAdd, Nat.reduceMul, Int.reduceNeg, k1]
 refine callT (Equal15_s [16, 57, 43, 42, 56, 42] [16, 57, 43, 42, 56, 42] (by decide)) rfl ?_
 rw [show decide ([16, 57, 43, 42, 56, 42] = ([16, 57, 43, 42, 56, 42] : List Int)) = true from rfl]
 simp only [go_sem, Nat.reducePow, Nat.reduceLeDiff, ↓reduceIte, reduceCtorEq, Nat.reduceLT, Nat.reduceEqDiff, Nat.reduceAdd, Nat.reduceMul, Int.reduceNeg]
 refine callT (Equal15_s [57, 43, 42, 56, 42] [57, 43, 42, 56, 42] (by decide)) rfl ?_
 rw [show decide ([57, 43, 42, 56, 42] = ([57, 43, 42, 56, 42] : List Int)) = true from rfl]
 simp only [go_sem, Nat.reducePow, Nat.reduceLeDiff, ↓reduceIte, reduceCtorEq, Nat.reduceLT, Nat.reduceEqDiff, Nat.reduceAdd, Nat.reduceMul, Int.reduceNeg]
 refine callT (Equal15_s [45, 33, 8, 3, 63] [45, 33, 8, 3, 63] (by decide)) rfl ?_
 rw [show decide ([45, 33, 8, 3, 63] = ([45, 33, 8, 3, 63] : List Int)) = true from rfl]
 simp only [go_sem, ↓reduceIte, Nat.reduceLT, Nat.reduceEqDiff, Int.reduceToNat, Int.reduceNeg, Int.reduceToNat, Int.le_refl]
 refine callT (Equal15_s [16, 57, 43, 42, 56, 42] [16, 57, 43, 42, 56, 42] (by decide)) rfl ?_
 rw [show decide ([16, 57, 43, 42, 56, 42] = ([16, 57, 43, 42, 56, 42] : List Int)) = true from rfl]
 simp only [go_sem, ↓reduceIte, Nat.reduceLT, Nat.reduceEqDiff, Int.reduceNeg]
 refine callT (refSame_s [[exL]] [[exL]] hvE.1) rfl ?_
 rw [show decide ([[exL]] = [[exL]]) = true from decide_eq_true rfl]
 simp only [go_sem, ↓reduceIte, Nat.reduceEqDiff, Int.reduceNeg]
 exact .tree _ rfl
end Go.Proofs.YtnncijjkbonokaaDoor
namespace Go.Proofs.YtnncijjkbonokaaDoor
open Go.RowKit Dak
abbrev bnH : CCode := match c11 with | .seq _ (.seq _ (.seq (.seq _ (.block _ (.loop b))) _)) => b | _ => .skip
abbrev bnB : CCode := match bnH with | .seq _ (.seq (.block _ (.seq _ (.seq (.seq _ (.block _ (.loop b))) _))) _) => b | _ => .skip
abbrev bnE (a h b : Int) : List (Nat × AV) := [(1, vi a), (2, vi h), (3, vi b), (4, .ref 0 1 0 0), (8, .ref 1 1 0 0), (9, .ref 2 1 0 0)]
abbrev bnO (m : List (List (List Nt))) (n : Nat) (X : List AV) : List AObj := [.arr 1 1 25 [vmel m], .arr 1 1 25 [nilT], .arr 1 1 25 [.agg [.own 3 n 0 n]], .arr n 1 28 X]
abbrev bnL (a h b : Int) (i id k j : Nat) : List (Nat × AV) := (12, vi j) :: (11, .own id k 0 k) :: (10, vi i) :: bnE a h b
theorem innO_arr {g s k : Nat} {e : TypeId} {xs : List AV} : (AObj.arr g s e xs).innO k = xs.all (AV.inn k) := rfl
abbrev hdO (X : List AV) : AObj := .arr X.length 1 34 X
theorem bn_bar4 (F0 : FD) (w0 : World) (m : List (List (List Nt))) (a h b : Int) (n : Nat) (X : List AV) (hX : (X.all (AV.inn 5)) = true) (i : Nat) (hd : List (List Nt)) (hi : m[i]? = some hd) (k : Nat) (Y : List AV) (hY : Y.length = k) (hYi : (Y.all (AV.inn 5)) = true)
 (bar : List Nt) (hb : hd[k]? = some bar) (hk : k < hd.length) (hil : i < m.length) (hml : m.length <= 100000) (hhl : hd.length <= 100000) (hbl : bar.length <= 100000)
 {Q : Exit -> Est -> Prop} (hQ : ∀ s, WkE 263 s ⟨bnL a h b i 4 (k + 1) (k + 1), bnO m n X ++ [hdO (Y ++ [vbar bar])]⟩ -> Q .normal s) : CwpE Tryd.prog F0 w0 263 bnB Q ⟨bnL a h b i 4 k k, bnO m n X ++ [.arr k 1 34 Y]⟩ := by
 have h1 : (k : Int) < (hd.length : Int) := by omega
 have h0 : (0 : Int) <= (k : Int) := by omega
 have i1 : (i : Int) < (m.length : Int) := by omega
 have i0 : (0 : Int) <= (i : Int) := by omega
 have hw : IntKind.i64.wrap ((k : Int) + 1) = ((k + 1 : Nat) : Int) := by rw [wrap_id (by omega) (by omega)]; omega
 have q1 : bar.length * 24 <= 140737488355328 := by omega
 have q2 : (k + 1) * 24 <= 140737488355328 := by omega
 have htk : List.take k Y = Y := List.take_of_length_le (by omega)
 unfold bnB bnH c11
 refine CwpE.vc ?_
 simp only [go_sem, Nat.reducePow, Nat.reduceLeDiff, ↓reduceIte, Nat.reduceLT, Nat.reduceEqDiff, Nat.reduceAdd, Nat.reduceMul, List.cons_append, List.nil_append, h1, h0, i0, hw, List.length_map, List.getElem?_map, hi, hb, Option.map_some, q1, q2, htk, hY, Nat.zero_add]
 refine hQ _ ?_
 have fl : 0 + bar.length <= (bar.map vnote).length := by simp
 have hg : (Y ++ [AV.own 5 bar.length 0 bar.length])[k]? = some (AV.own 5 bar.length 0 bar.length) := by rw [List.getElem?_append_right (by omega), hY, Nat.sub_self]; rfl
 refine (WkE.freezeCell 4 (k + 1) 1 k 0 5 bar.length 0 bar.length 3 34 64 _ _ _ rfl hg rfl rfl (by omega) fl (List.all_eq_true.2 fun y hy => by obtain ⟨z, _, rfl⟩ := List.mem_map.1 hy; rfl)).trans (WkE.round ?_ ?_ ?_ ?_)
 ·simp only [go_sem, ↓reduceIte, Nat.reduceEqDiff]
 ·rfl
 ·have e : (Y ++ [vbar bar]).all (AV.inn 5) = true := by rw [List.all_append, hYi]; rfl
  simp only [List.all_cons, List.all_nil, innO_arr, e, hX, List.length_cons, List.length_nil, List.cons_append, List.nil_append, Nat.zero_add, Nat.reduceAdd, Bool.and_self, Bool.and_true]
  rfl
 ·have e : List.take bar.length (bar.map vnote) = bar.map vnote := List.take_of_length_le (by simp)
  simp only [List.set_cons_succ, List.set_cons_zero, List.take_succ_cons, List.take_zero, List.length_cons, List.length_nil, Nat.zero_add, Nat.reduceAdd, List.cons_append, List.nil_append, recell, AV.cells, List.drop_zero, e, hdO, List.length_append, hY]
  rw [List.set_append_right _ _ (by omega), hY, Nat.sub_self]; rfl
theorem bn_bars4 (F0 : FD) (w0 : World) (m : List (List (List Nt))) (a h b : Int) (n : Nat) (X : List AV) (hX : (X.all (AV.inn 5)) = true) (i : Nat) (hd : List (List Nt)) (hi : m[i]? = some hd) (hml : m.length <= 100000) (hhl : hd.length <= 100000) (hbl : ∀ r ∈ hd, r.length <= 100000)
 {Q : Exit -> Est -> Prop} (hQ : Q .normal ⟨(11, .own 4 hd.length 0 hd.length) :: (10, vi i) :: bnE a h b, bnO m n X ++ [.arr hd.length 1 34 (hd.map vbar)]⟩) :
 CwpE Tryd.prog F0 w0 263 (.block 2 (.loop bnB)) (fun e s => ∃ s', WkE 263 s s' /\ Q e s') ⟨bnL a h b i 4 0 0, bnO m n X ++ [.arr 0 1 34 []]⟩ := by
 have hil : i < m.length := (List.getElem?_eq_some_iff.1 hi).1
 have i1 : (i : Int) < (m.length : Int) := by omega
 have i0 : (0 : Int) <= (i : Int) := by omega
 refine CwpE.block ?_
 refine loopXC 2 (fun z s => ∃ k : Nat, k + z = hd.length /\ s = ⟨bnL a h b i 4 k k, bnO m n X ++ [.arr k 1 34 ((hd.take k).map vbar)]⟩)
  (fun s => s = ⟨(11, .own 4 hd.length 0 hd.length) :: (10, vi i) :: bnE a h b, bnO m n X ++ [.arr hd.length 1 34 (hd.map vbar)]⟩) hd.length _ (.refl _ _) ⟨0, by omega, rfl⟩ ?_ ?_
 rotate_left
 ·rintro s rfl
  simp only [inBlockE, if_true]
  exact ⟨_, .refl _ _, hQ⟩
 rintro z s ⟨k, hk, rfl⟩
 cases z with
 | zero =>
  obtain rfl : k = hd.length := by omega
  have h1 : ¬ (hd.length : Int) < (hd.length : Int) := by omega
  rw [List.take_length]
  unfold bnB bnH c11
  refine CwpE.vc ?_
  simp only [go_sem, ↓reduceIte, Nat.reduceLT, Nat.reduceEqDiff, List.cons_append, List.nil_append, h1, i0, List.length_map, List.getElem?_map, hi, Option.map_some]
  exact ⟨_, WkE.keep (by simp only [go_sem, ↓reduceIte, Nat.reduceEqDiff]), rfl⟩
 | succ z =>
  have hlt : k < hd.length := by omega
  obtain ⟨bar, hbr⟩ : ∃ r, hd[k] = r := ⟨_, rfl⟩
  have gb : hd[k]? = some bar := by rw [List.getElem?_eq_getElem hlt, hbr]
  have hl := hbl bar (hbr ▸ List.getElem_mem hlt)
  have htk : (hd.take (k + 1)).map vbar = (hd.take k).map vbar ++ [vbar bar] := by rw [List.take_succ_eq_append_getElem hlt, hbr, List.map_append]; rfl
  refine bn_bar4 F0 w0 m a h b n X hX i hd hi k _ (by simp; omega) (inn_map fun _ => rfl) bar gb hlt hil hml hhl hl fun s hs => ⟨z, _, by omega, hs, k + 1, by omega, ?_⟩
  rw [htk, hdO]
  simp only [List.length_append, List.length_map, List.length_take, List.length_cons, List.length_nil]
  rw [show min k hd.length + (0 + 1) = k + 1 by omega]
theorem bn_bar5 (F0 : FD) (w0 : World) (m : List (List (List Nt))) (a h b : Int) (n : Nat) (X : List AV) (hX : (X.all (AV.inn 6)) = true) (E0 : AObj) (hE0 : E0.innO 6 = true) (i : Nat) (hd : List (List Nt)) (hi : m[i]? = some hd) (k : Nat) (Y : List AV) (hY : Y.length = k) (hYi : (Y.all (AV.inn 6)) = true)
 (bar : List Nt) (hb : hd[k]? = some bar) (hk : k < hd.length) (hil : i < m.length) (hml : m.length <= 100000) (hhl : hd.length <= 100000) (hbl : bar.length <= 100000)
 {Q : Exit -> Est -> Prop} (hQ : ∀ s, WkE 263 s ⟨bnL a h b i 5 (k + 1) (k + 1), bnO m n X ++ [E0, hdO (Y ++ [vbar bar])]⟩ -> Q .normal s) : CwpE Tryd.prog F0 w0 263 bnB Q ⟨bnL a h b i 5 k k, bnO m n X ++ [E0, .arr k 1 34 Y]⟩ := by
 have h1 : (k : Int) < (hd.length : Int) := by omega
 have h0 : (0 : Int) <= (k : Int) := by omega
 have i1 : (i : Int) < (m.length : Int) := by omega
 have i0 : (0 : Int) <= (i : Int) := by omega
 have hw : IntKind.i64.wrap ((k : Int) + 1) = ((k + 1 : Nat) : Int) := by rw [wrap_id (by omega) (by omega)]; omega
 have q1 : bar.length * 24 <= 140737488355328 := by omega
 have q2 : (k + 1) * 24 <= 140737488355328 := by omega
 have htk : List.take k Y = Y := List.take_of_length_le (by omega)
 unfold bnB bnH c11
 refine CwpE.vc ?_
 simp only [go_sem, Nat.reducePow, Nat.reduceLeDiff, ↓reduceIte, Nat.reduceLT, Nat.reduceEqDiff, Nat.reduceAdd, Nat.reduceMul, List.cons_append, List.nil_append, h1, h0, i0, hw, List.length_map, List.getElem?_map, hi, hb, Option.map_some, q1, q2, htk, hY, Nat.zero_add]
 refine hQ _ ?_
 have fl : 0 + bar.length <= (bar.map vnote).length := by simp
 have hg : (Y ++ [AV.own 6 bar.length 0 bar.length])[k]? = some (AV.own 6 bar.length 0 bar.length) := by rw [List.getElem?_append_right (by omega), hY, Nat.sub_self]; rfl
 refine (WkE.freezeCell 5 (k + 1) 1 k 0 6 bar.length 0 bar.length 3 34 64 _ _ _ rfl hg rfl rfl (by omega) fl (List.all_eq_true.2 fun y hy => by obtain ⟨z, _, rfl⟩ := List.mem_map.1 hy; rfl)).trans (WkE.round ?_ ?_ ?_ ?_)
 ·simp only [go_sem, ↓reduceIte, Nat.reduceEqDiff]
 ·rfl
 ·have e : (Y ++ [vbar bar]).all (AV.inn 6) = true := by rw [List.all_append, hYi]; rfl
  simp only [List.all_cons, List.all_nil, innO_arr, e, hX, hE0, List.length_cons, List.length_nil, List.cons_append, List.nil_append, Nat.zero_add, Nat.reduceAdd, Bool.and_self, Bool.and_true]
  rfl
 ·have e : List.take bar.length (bar.map vnote) = bar.map vnote := List.take_of_length_le (by simp)
  simp only [List.set_cons_succ, List.set_cons_zero, List.take_succ_cons, List.take_zero, List.length_cons, List.length_nil, Nat.zero_add, Nat.reduceAdd, List.cons_append, List.nil_append, recell, AV.cells, List.drop_zero, e, hdO, List.length_append, hY]
  rw [List.set_append_right _ _ (by omega), hY, Nat.sub_self]; rfl
theorem bn_bars5 (F0 : FD) (w0 : World) (m : List (List (List Nt))) (a h b : Int) (n : Nat) (X : List AV) (hX : (X.all (AV.inn 6)) = true) (E0 : AObj) (hE0 : E0.innO 6 = true) (i : Nat) (hd : List (List Nt)) (hi : m[i]? = some hd) (hml : m.length <= 100000) (hhl : hd.length <= 100000) (hbl : ∀ r ∈ hd, r.length <= 100000)
 {Q : Exit -> Est -> Prop} (hQ : Q .normal ⟨(11, .own 5 hd.length 0 hd.length) :: (10, vi i) :: bnE a h b, bnO m n X ++ [E0, .arr hd.length 1 34 (hd.map vbar)]⟩) :
 CwpE Tryd.prog F0 w0 263 (.block 2 (.loop bnB)) (fun e s => ∃ s', WkE 263 s s' /\ Q e s') ⟨bnL a h b i 5 0 0, bnO m n X ++ [E0, .arr 0 1 34 []]⟩ := by
 have hil : i < m.length := (List.getElem?_eq_some_iff.1 hi).1
 have i1 : (i : Int) < (m.length : Int) := by omega
 have i0 : (0 : Int) <= (i : Int) := by omega
 refine CwpE.block ?_
 refine loopXC 2 (fun z s => ∃ k : Nat, k + z = hd.length /\ s = ⟨bnL a h b i 5 k k, bnO m n X ++ [E0, .arr k 1 34 ((hd.take k).map vbar)]⟩)
  (fun s => s = ⟨(11, .own 5 hd.length 0 hd.length) :: (10, vi i) :: bnE a h b, bnO m n X ++ [E0, .arr hd.length 1 34 (hd.map vbar)]⟩) hd.length _ (.refl _ _) ⟨0, by omega, rfl⟩ ?_ ?_
 rotate_left
 ·rintro s rfl
  simp only [inBlockE, if_true]
  exact ⟨_, .refl _ _, hQ⟩
 rintro z s ⟨k, hk, rfl⟩
 cases z with
 | zero =>
  obtain rfl : k = hd.length := by omega
  have h1 : ¬ (hd.length : Int) < (hd.length : Int) := by omega
  rw [List.take_length]
  unfold bnB bnH c11
  refine CwpE.vc ?_
  simp only [go_sem, ↓reduceIte, Nat.reduceLT, Nat.reduceEqDiff, List.cons_append, List.nil_append, h1, i0, List.length_map, List.getElem?_map, hi, Option.map_some]
  exact ⟨_, WkE.keep (by simp only [go_sem, ↓reduceIte, Nat.reduceEqDiff]), rfl⟩
 | succ z =>
  have hlt : k < hd.length := by omega
  obtain ⟨bar, hbr⟩ : ∃ r, hd[k] = r := ⟨_, rfl⟩
  have gb : hd[k]? = some bar := by rw [List.getElem?_eq_getElem hlt, hbr]
  have hl := hbl bar (hbr ▸ List.getElem_mem hlt)
  have htk : (hd.take (k + 1)).map vbar = (hd.take k).map vbar ++ [vbar bar] := by rw [List.take_succ_eq_append_getElem hlt, hbr, List.map_append]; rfl
  refine bn_bar5 F0 w0 m a h b n X hX E0 hE0 i hd hi k _ (by simp; omega) (inn_map fun _ => rfl) bar gb hlt hil hml hhl hl fun s hs => ⟨z, _, by omega, hs, k + 1, by omega, ?_⟩
  rw [htk, hdO]
  simp only [List.length_append, List.length_map, List.length_take, List.length_cons, List.length_nil]
  rw [show min k hd.length + (0 + 1) = k + 1 by omega]
theorem bn_bar6 (F0 : FD) (w0 : World) (m : List (List (List Nt))) (a h b : Int) (n : Nat) (X : List AV) (hX : (X.all (AV.inn 7)) = true) (E0 : AObj) (E1 : AObj) (hE0 : E0.innO 7 = true) (hE1 : E1.innO 7 = true) (i : Nat) (hd : List (List Nt)) (hi : m[i]? = some hd) (k : Nat) (Y : List AV) (hY : Y.length = k) (hYi : (Y.all (AV.inn 7)) = true)
 (bar : List Nt) (hb : hd[k]? = some bar) (hk : k < hd.length) (hil : i < m.length) (hml : m.length <= 100000) (hhl : hd.length <= 100000) (hbl : bar.length <= 100000)
 {Q : Exit -> Est -> Prop} (hQ : ∀ s, WkE 263 s ⟨bnL a h b i 6 (k + 1) (k + 1), bnO m n X ++ [E0, E1, hdO (Y ++ [vbar bar])]⟩ -> Q .normal s) : CwpE Tryd.prog F0 w0 263 bnB Q ⟨bnL a h b i 6 k k, bnO m n X ++ [E0, E1, .arr k 1 34 Y]⟩ := by
 have h1 : (k : Int) < (hd.length : Int) := by omega
 have h0 : (0 : Int) <= (k : Int) := by omega
 have i1 : (i : Int) < (m.length : Int) := by omega
 have i0 : (0 : Int) <= (i : Int) := by omega
 have hw : IntKind.i64.wrap ((k : Int) + 1) = ((k + 1 : Nat) : Int) := by rw [wrap_id (by omega) (by omega)]; omega
 have q1 : bar.length * 24 <= 140737488355328 := by omega
 have q2 : (k + 1) * 24 <= 140737488355328 := by omega
 have htk : List.take k Y = Y := List.take_of_length_le (by omega)
 unfold bnB bnH c11
 refine CwpE.vc ?_
 simp only [go_sem, Nat.reducePow, Nat.reduceLeDiff, ↓reduceIte, Nat.reduceLT, Nat.reduceEqDiff, Nat.reduceAdd, Nat.reduceMul, List.cons_append, List.nil_append, h1, h0, i0, hw, List.length_map, List.getElem?_map, hi, hb, Option.map_some, q1, q2, htk, hY, Nat.zero_add]
 refine hQ _ ?_
 have fl : 0 + bar.length <= (bar.map vnote).length := by simp
 have hg : (Y ++ [AV.own 7 bar.length 0 bar.length])[k]? = some (AV.own 7 bar.length 0 bar.length) := by rw [List.getElem?_append_right (by omega), hY, Nat.sub_self]; rfl
 refine (WkE.freezeCell 6 (k + 1) 1 k 0 7 bar.length 0 bar.length 3 34 64 _ _ _ rfl hg rfl rfl (by omega) fl (List.all_eq_true.2 fun y hy => by obtain ⟨z, _, rfl⟩ := List.mem_map.1 hy; rfl)).trans (WkE.round ?_ ?_ ?_ ?_)
 ·simp only [go_sem, ↓reduceIte, Nat.reduceEqDiff]
 ·rfl
 ·have e : (Y ++ [vbar bar]).all (AV.inn 7) = true := by rw [List.all_append, hYi]; rfl
  simp only [List.all_cons, List.all_nil, innO_arr, e, hX, hE0, hE1, List.length_cons, List.length_nil, List.cons_append, List.nil_append, Nat.zero_add, Nat.reduceAdd, Bool.and_self, Bool.and_true]
  rfl
 ·have e : List.take bar.length (bar.map vnote) = bar.map vnote := List.take_of_length_le (by simp)
  simp only [List.set_cons_succ, List.set_cons_zero, List.take_succ_cons, List.take_zero, List.length_cons, List.length_nil, Nat.zero_add, Nat.reduceAdd, List.cons_append, List.nil_append, recell, AV.cells, List.drop_zero, e, hdO, List.length_append, hY]
  rw [List.set_append_right _ _ (by omega), hY, Nat.sub_self]; rfl
theorem bn_bars6 (F0 : FD) (w0 : World) (m : List (List (List Nt))) (a h b : Int) (n : Nat) (X : List AV) (hX : (X.all (AV.inn 7)) = true) (E0 : AObj) (E1 : AObj) (hE0 : E0.innO 7 = true) (hE1 : E1.innO 7 = true) (i : Nat) (hd : List (List Nt)) (hi : m[i]? = some hd) (hml : m.length <= 100000) (hhl : hd.length <= 100000) (hbl : ∀ r ∈ hd, r.length <= 100000)
 {Q : Exit -> Est -> Prop} (hQ : Q .normal ⟨(11, .own 6 hd.length 0 hd.length) :: (10, vi i) :: bnE a h b, bnO m n X ++ [E0, E1, .arr hd.length 1 34 (hd.map vbar)]⟩) :
 CwpE Tryd.prog F0 w0 263 (.block 2 (.loop bnB)) (fun e s => ∃ s', WkE 263 s s' /\ Q e s') ⟨bnL a h b i 6 0 0, bnO m n X ++ [E0, E1, .arr 0 1 34 []]⟩ := by
 have hil : i < m.length := (List.getElem?_eq_some_iff.1 hi).1
 have i1 : (i : Int) < (m.length : Int) := by omega
 have i0 : (0 : Int) <= (i : Int) := by omega
 refine CwpE.block ?_
 refine loopXC 2 (fun z s => ∃ k : Nat, k + z = hd.length /\ s = ⟨bnL a h b i 6 k k, bnO m n X ++ [E0, E1, .arr k 1 34 ((hd.take k).map vbar)]⟩)
  (fun s => s = ⟨(11, .own 6 hd.length 0 hd.length) :: (10, vi i) :: bnE a h b, bnO m n X ++ [E0, E1, .arr hd.length 1 34 (hd.map vbar)]⟩) hd.length _ (.refl _ _) ⟨0, by omega, rfl⟩ ?_ ?_
 rotate_left
 ·rintro s rfl
  simp only [inBlockE, if_true]
  exact ⟨_, .refl _ _, hQ⟩
 rintro z s ⟨k, hk, rfl⟩
 cases z with
 | zero =>
  obtain rfl : k = hd.length := by omega
  have h1 : ¬ (hd.length : Int) < (hd.length : Int) := by omega
  rw [List.take_length]
  unfold bnB bnH c11
  refine CwpE.vc ?_
  simp only [go_sem, ↓reduceIte, Nat.reduceLT, Nat.reduceEqDiff, List.cons_append, List.nil_append, h1, i0, List.length_map, List.getElem?_map, hi, Option.map_some]
  exact ⟨_, WkE.keep (by simp only [go_sem, ↓reduceIte, Nat.reduceEqDiff]), rfl⟩
 | succ z =>
  have hlt : k < hd.length := by omega
  obtain ⟨bar, hbr⟩ : ∃ r, hd[k] = r := ⟨_, rfl⟩
  have gb : hd[k]? = some bar := by rw [List.getElem?_eq_getElem hlt, hbr]
  have hl := hbl bar (hbr ▸ List.getElem_mem hlt)
  have htk : (hd.take (k + 1)).map vbar = (hd.take k).map vbar ++ [vbar bar] := by rw [List.take_succ_eq_append_getElem hlt, hbr, List.map_append]; rfl
  refine bn_bar6 F0 w0 m a h b n X hX E0 E1 hE0 hE1 i hd hi k _ (by simp; omega) (inn_map fun _ => rfl) bar gb hlt hil hml hhl hl fun s hs => ⟨z, _, by omega, hs, k + 1, by omega, ?_⟩
  rw [htk, hdO]
  simp only [List.length_append, List.length_map, List.length_take, List.length_cons, List.length_nil]
  rw [show min k hd.length + (0 + 1) = k + 1 by omega]
end Go.Proofs.YtnncijjkbonokaaDoor
namespace Go.Proofs.YtnncijjkbonokaaDoor
open Go.RowKit Dak
theorem bn_hand4 (F0 : FD) (w0 : World) (m : List (List (List Nt))) (a h b : Int) (X : List AV) (hX : ∀ k, 4 <= k -> (X.all (AV.inn k)) = true) (i : Nat) (hXl : X.length = i) (hd : List (List Nt)) (hi : m[i]? = some hd) (hml : m.length <= 100000) (hhl : hd.length <= 100000) (hbl : ∀ r ∈ hd, r.length <= 100000)
 {Q : Exit -> Est -> Prop} (hQ : ∀ s, WkE 263 s ⟨(10, vi (i + 1 : Nat)) :: bnE a h b, bnO m (i + 1) (X ++ [vhand hd]) ++ []⟩ -> Q .normal s) : CwpE Tryd.prog F0 w0 263 bnH Q ⟨(10, vi i) :: bnE a h b, bnO m i X ++ []⟩ := by
 have hil : i < m.length := (List.getElem?_eq_some_iff.1 hi).1
 have i1 : (i : Int) < (m.length : Int) := by omega
 have i0 : (0 : Int) <= (i : Int) := by omega
 have hw : IntKind.i64.wrap ((i : Int) + 1) = ((i + 1 : Nat) : Int) := by rw [wrap_id (by omega) (by omega)]; omega
 have q2 : (i + 1) * 24 <= 140737488355328 := by omega
 have htk : List.take i X = X := List.take_of_length_le (by omega)
 unfold bnH c11
 refine CwpE.cut (st := ⟨(10, vi i) :: bnE a h b, bnO m i X ++ []⟩) ?_ ?_
 ·simp only [go_sem, ↓reduceIte, Nat.reduceLT, Nat.reduceEqDiff, List.cons_append, List.nil_append, List.length_map, i1]
  exact ⟨_, WkE.keep (by simp only [go_sem, ↓reduceIte, Nat.reduceEqDiff]), rfl⟩
 refine CwpE.seqJ (fun s => s = ⟨(10, vi i) :: bnE a h b, bnO m (i + 1) (X ++ [vhand hd]) ++ []⟩) ?_ ?_
 rotate_left
 ·rintro _ rfl
  refine CwpE.vc ?_
  simp only [go_sem, ↓reduceIte, Nat.reduceLT, List.cons_append, List.nil_append, hw]
  exact hQ _ (WkE.keep (by simp only [go_sem, ↓reduceIte, Nat.reduceEqDiff]))
 refine CwpE.block ?_
 refine CwpE.cut (st := ⟨(11, .own 4 0 0 0) :: (10, vi i) :: bnE a h b, bnO m i X ++ [.arr 0 1 34 []]⟩) ?_ ?_
 ·simp only [go_sem, ↓reduceIte, Nat.reduceLT]
  exact ⟨_, (WkE.nil 11 1 34 (by omega) rfl).trans (WkE.keep (by simp only [go_sem, ↓reduceIte, Nat.reduceEqDiff, Nat.reduceAdd])), rfl⟩
 refine CwpE.seqJ (fun s => s = ⟨(11, .own 4 hd.length 0 hd.length) :: (10, vi i) :: bnE a h b, bnO m i X ++ [.arr hd.length 1 34 (hd.map vbar)]⟩) ?_ ?_
 ·refine CwpE.cut (st := ⟨bnL a h b i 4 0 0, bnO m i X ++ [.arr 0 1 34 []]⟩) ?_ ?_
  ·simp only [go_sem, ↓reduceIte, Nat.reduceLT]
   exact ⟨_, WkE.keep (by simp only [go_sem, ↓reduceIte, Nat.reduceEqDiff]; rfl), rfl⟩
  exact (bn_bars4 F0 w0 m a h b i X (hX 5 (by omega)) i hd hi hml hhl hbl (Q := fun e s => e = .normal /\ s = ⟨(11, .own 4 hd.length 0 hd.length) :: (10, vi i) :: bnE a h b, bnO m i X ++ [.arr hd.length 1 34 (hd.map vbar)]⟩) ⟨rfl, rfl⟩).mono fun e s ⟨s', hw, he, hs⟩ => by
   subst he; exact ⟨s', hw, hs⟩
 rintro _ rfl
 have hin : (X.all (AV.inn 4)) = true := hX 4 (by omega)
 refine CwpE.wk (s' := ⟨(11, vhand hd) :: (10, vi i) :: bnE a h b, bnO m i X ++ []⟩) ?_ ?_
 ·refine (WkE.freeze 11 4 hd.length 0 hd.length 1 34 (hd.map vbar) (by omega) rfl rfl (by simp) (List.all_eq_true.2 fun y hy => by obtain ⟨v, _, rfl⟩ := List.mem_map.1 hy; rfl)).trans (WkE.round ?_ ?_ ?_ ?_)
  ·have e : List.take hd.length (List.drop 0 (hd.map vbar)) = hd.map vbar := List.take_of_length_le (by simp)
   rw [e]
   simp only [go_sem, ↓reduceIte, Nat.reduceEqDiff]
  ·rfl
  ·simp only [List.all_cons, List.all_nil, innO_arr, hin, List.length_cons, List.length_nil, List.cons_append, List.nil_append, Nat.zero_add, Nat.reduceAdd, Bool.and_self, Bool.and_true]
   rfl
  ·rfl
 refine CwpE.vc ?_
 simp only [go_sem, Nat.reducePow, Nat.reduceLeDiff, ↓reduceIte, Nat.reduceLT, Nat.reduceEqDiff, Nat.reduceAdd, Nat.reduceMul, List.cons_append, List.nil_append, q2, htk, hXl]
 exact ⟨_, WkE.keep (by simp only [go_sem, ↓reduceIte, Nat.reduceEqDiff]), rfl⟩
theorem bn_own4 (F0 : FD) (w0 : World) (m : List (List (List Nt))) (a h b : Int) (X : List AV) (hX : ∀ k, 4 <= k -> (X.all (AV.inn k)) = true) (i : Nat) (hXl : X.length = i) (hd : List (List Nt)) (hi : m[i]? = some hd) (hml : m.length <= 100000) (hhl : hd.length <= 100000) (hbl : ∀ r ∈ hd, r.length <= 100000)
 {Q : Exit -> Est -> Prop} (hQ : ∀ s, WkE 263 s ⟨(10, vi (i + 1 : Nat)) :: bnE a h b, bnO m (i + 1) (X ++ [.own 4 hd.length 0 hd.length]) ++ [.arr hd.length 1 34 (hd.map vbar)]⟩ -> Q .normal s) : CwpE Tryd.prog F0 w0 263 bnH Q ⟨(10, vi i) :: bnE a h b, bnO m i X ++ []⟩ := by
 have hil : i < m.length := (List.getElem?_eq_some_iff.1 hi).1
 have i1 : (i : Int) < (m.length : Int) := by omega
 have i0 : (0 : Int) <= (i : Int) := by omega
 have hw : IntKind.i64.wrap ((i : Int) + 1) = ((i + 1 : Nat) : Int) := by rw [wrap_id (by omega) (by omega)]; omega
 have q2 : (i + 1) * 24 <= 140737488355328 := by omega
 have htk : List.take i X = X := List.take_of_length_le (by omega)
 unfold bnH c11
 refine CwpE.cut (st := ⟨(10, vi i) :: bnE a h b, bnO m i X ++ []⟩) ?_ ?_
 ·simp only [go_sem, ↓reduceIte, Nat.reduceLT, Nat.reduceEqDiff, List.cons_append, List.nil_append, List.length_map, i1]
  exact ⟨_, WkE.keep (by simp only [go_sem, ↓reduceIte, Nat.reduceEqDiff]), rfl⟩
 refine CwpE.seqJ (fun s => s = ⟨(10, vi i) :: bnE a h b, bnO m (i + 1) (X ++ [.own 4 hd.length 0 hd.length]) ++ [.arr hd.length 1 34 (hd.map vbar)]⟩) ?_ ?_
 rotate_left
 ·rintro _ rfl
  refine CwpE.vc ?_
  simp only [go_sem, ↓reduceIte, Nat.reduceLT, List.cons_append, List.nil_append, hw]
  exact hQ _ (WkE.keep (by simp only [go_sem, ↓reduceIte, Nat.reduceEqDiff]))
 refine CwpE.block ?_
 refine CwpE.cut (st := ⟨(11, .own 4 0 0 0) :: (10, vi i) :: bnE a h b, bnO m i X ++ [.arr 0 1 34 []]⟩) ?_ ?_
 ·simp only [go_sem, ↓reduceIte, Nat.reduceLT]
  exact ⟨_, (WkE.nil 11 1 34 (by omega) rfl).trans (WkE.keep (by simp only [go_sem, ↓reduceIte, Nat.reduceEqDiff, Nat.reduceAdd])), rfl⟩
 refine CwpE.seqJ (fun s => s = ⟨(11, .own 4 hd.length 0 hd.length) :: (10, vi i) :: bnE a h b, bnO m i X ++ [.arr hd.length 1 34 (hd.map vbar)]⟩) ?_ ?_
 ·refine CwpE.cut (st := ⟨bnL a h b i 4 0 0, bnO m i X ++ [.arr 0 1 34 []]⟩) ?_ ?_
  ·simp only [go_sem, ↓reduceIte, Nat.reduceLT]
   exact ⟨_, WkE.keep (by simp only [go_sem, ↓reduceIte, Nat.reduceEqDiff]; rfl), rfl⟩
  exact (bn_bars4 F0 w0 m a h b i X (hX 5 (by omega)) i hd hi hml hhl hbl (Q := fun e s => e = .normal /\ s = ⟨(11, .own 4 hd.length 0 hd.length) :: (10, vi i) :: bnE a h b, bnO m i X ++ [.arr hd.length 1 34 (hd.map vbar)]⟩) ⟨rfl, rfl⟩).mono fun e s ⟨s', hw, he, hs⟩ => by
   subst he; exact ⟨s', hw, hs⟩
 rintro _ rfl
 have hin : (X.all (AV.inn 5)) = true := hX 5 (by omega)
 have hin2 : ((hd.map vbar).all (AV.inn 5)) = true := inn_map fun _ => rfl
 refine CwpE.vc ?_
 simp only [go_sem, Nat.reducePow, Nat.reduceLeDiff, ↓reduceIte, Nat.reduceLT, Nat.reduceEqDiff, Nat.reduceAdd, Nat.reduceMul, List.cons_append, List.nil_append, q2, htk, hXl]
 refine ⟨_, WkE.round (by simp only [go_sem, ↓reduceIte, Nat.reduceEqDiff]) rfl ?_ rfl, rfl⟩
 have e : (X ++ [AV.own 4 hd.length 0 hd.length]).all (AV.inn 5) = true := by rw [List.all_append, hin]; rfl
 simp only [List.all_cons, List.all_nil, innO_arr, e, hin2, List.length_cons, List.length_nil, Nat.zero_add, Nat.reduceAdd, Bool.and_self, Bool.and_true]
 rfl
theorem bn_own5 (F0 : FD) (w0 : World) (m : List (List (List Nt))) (a h b : Int) (X : List AV) (E0 : AObj) (hX : ∀ k, 5 <= k -> (X.all (AV.inn k)) = true) (hE0 : ∀ k, 5 <= k -> E0.innO k = true) (i : Nat) (hXl : X.length = i) (hd : List (List Nt)) (hi : m[i]? = some hd) (hml : m.length <= 100000) (hhl : hd.length <= 100000) (hbl : ∀ r ∈ hd, r.length <= 100000)
 {Q : Exit -> Est -> Prop} (hQ : ∀ s, WkE 263 s ⟨(10, vi (i + 1 : Nat)) :: bnE a h b, bnO m (i + 1) (X ++ [.own 5 hd.length 0 hd.length]) ++ [E0, .arr hd.length 1 34 (hd.map vbar)]⟩ -> Q .normal s) : CwpE Tryd.prog F0 w0 263 bnH Q ⟨(10, vi i) :: bnE a h b, bnO m i X ++ [E0]⟩ := by
 have hil : i < m.length := (List.getElem?_eq_some_iff.1 hi).1
 have i1 : (i : Int) < (m.length : Int) := by omega
 have i0 : (0 : Int) <= (i : Int) := by omega
 have hw : IntKind.i64.wrap ((i : Int) + 1) = ((i + 1 : Nat) : Int) := by rw [wrap_id (by omega) (by omega)]; omega
 have q2 : (i + 1) * 24 <= 140737488355328 := by omega
 have htk : List.take i X = X := List.take_of_length_le (by omega)
 unfold bnH c11
 refine CwpE.cut (st := ⟨(10, vi i) :: bnE a h b, bnO m i X ++ [E0]⟩) ?_ ?_
 ·simp only [go_sem, ↓reduceIte, Nat.reduceLT, Nat.reduceEqDiff, List.cons_append, List.nil_append, List.length_map, i1]
  exact ⟨_, WkE.keep (by simp only [go_sem, ↓reduceIte, Nat.reduceEqDiff]), rfl⟩
 refine CwpE.seqJ (fun s => s = ⟨(10, vi i) :: bnE a h b, bnO m (i + 1) (X ++ [.own 5 hd.length 0 hd.length]) ++ [E0, .arr hd.length 1 34 (hd.map vbar)]⟩) ?_ ?_
 rotate_left
 ·rintro _ rfl
  refine CwpE.vc ?_
  simp only [go_sem, ↓reduceIte, Nat.reduceLT, List.cons_append, List.nil_append, hw]
  exact hQ _ (WkE.keep (by simp only [go_sem, ↓reduceIte, Nat.reduceEqDiff]))
 refine CwpE.block ?_
 refine CwpE.cut (st := ⟨(11, .own 5 0 0 0) :: (10, vi i) :: bnE a h b, bnO m i X ++ [E0, .arr 0 1 34 []]⟩) ?_ ?_
 ·simp only [go_sem, ↓reduceIte, Nat.reduceLT]
  exact ⟨_, (WkE.nil 11 1 34 (by omega) rfl).trans (WkE.keep (by simp only [go_sem, ↓reduceIte, Nat.reduceEqDiff, Nat.reduceAdd])), rfl⟩
 refine CwpE.seqJ (fun s => s = ⟨(11, .own 5 hd.length 0 hd.length) :: (10, vi i) :: bnE a h b, bnO m i X ++ [E0, .arr hd.length 1 34 (hd.map vbar)]⟩) ?_ ?_
 ·refine CwpE.cut (st := ⟨bnL a h b i 5 0 0, bnO m i X ++ [E0, .arr 0 1 34 []]⟩) ?_ ?_
  ·simp only [go_sem, ↓reduceIte, Nat.reduceLT]
   exact ⟨_, WkE.keep (by simp only [go_sem, ↓reduceIte, Nat.reduceEqDiff]; rfl), rfl⟩
  exact (bn_bars5 F0 w0 m a h b i X (hX 6 (by omega)) E0 (hE0 6 (by omega)) i hd hi hml hhl hbl (Q := fun e s => e = .normal /\ s = ⟨(11, .own 5 hd.length 0 hd.length) :: (10, vi i) :: bnE a h b, bnO m i X ++ [E0, .arr hd.length 1 34 (hd.map vbar)]⟩) ⟨rfl, rfl⟩).mono fun e s ⟨s', hw, he, hs⟩ => by
   subst he; exact ⟨s', hw, hs⟩
 rintro _ rfl
 have hin : (X.all (AV.inn 6)) = true := hX 6 (by omega)
 have hin2 : ((hd.map vbar).all (AV.inn 6)) = true := inn_map fun _ => rfl
 refine CwpE.vc ?_
 simp only [go_sem, Nat.reducePow, Nat.reduceLeDiff, ↓reduceIte, Nat.reduceLT, Nat.reduceEqDiff, Nat.reduceAdd, Nat.reduceMul, List.cons_append, List.nil_append, q2, htk, hXl]
 refine ⟨_, WkE.round (by simp only [go_sem, ↓reduceIte, Nat.reduceEqDiff]) rfl ?_ rfl, rfl⟩
 have e : (X ++ [AV.own 5 hd.length 0 hd.length]).all (AV.inn 6) = true := by rw [List.all_append, hin]; rfl
 simp only [List.all_cons, List.all_nil, innO_arr, e, hin2, hE0 6 (by omega), List.length_cons, List.length_nil, Nat.zero_add, Nat.reduceAdd, Bool.and_self, Bool.and_true]
 rfl
theorem bn_hand6 (F0 : FD) (w0 : World) (m : List (List (List Nt))) (a h b : Int) (X : List AV) (E0 : AObj) (E1 : AObj) (hX : ∀ k, 6 <= k -> (X.all (AV.inn k)) = true) (hE0 : ∀ k, 6 <= k -> E0.innO k = true) (hE1 : ∀ k, 6 <= k -> E1.innO k = true) (i : Nat) (hXl : X.length = i) (hd : List (List Nt)) (hi : m[i]? = some hd) (hml : m.length <= 100000) (hhl : hd.length <= 100000) (hbl : ∀ r ∈ hd, r.length <= 100000)
 {Q : Exit -> Est -> Prop} (hQ : ∀ s, WkE 263 s ⟨(10, vi (i + 1 : Nat)) :: bnE a h b, bnO m (i + 1) (X ++ [vhand hd]) ++ [E0, E1]⟩ -> Q .normal s) : CwpE Tryd.prog F0 w0 263 bnH Q ⟨(10, vi i) :: bnE a h b, bnO m i X ++ [E0, E1]⟩ := by
 have hil : i < m.length := (List.getElem?_eq_some_iff.1 hi).1
 have i1 : (i : Int) < (m.length : Int) := by omega
 have i0 : (0 : Int) <= (i : Int) := by omega
 have hw : IntKind.i64.wrap ((i : Int) + 1) = ((i + 1 : Nat) : Int) := by rw [wrap_id (by omega) (by omega)]; omega
 have q2 : (i + 1) * 24 <= 140737488355328 := by omega
 have htk : List.take i X = X := List.take_of_length_le (by omega)
 unfold bnH c11
 refine CwpE.cut (st := ⟨(10, vi i) :: bnE a h b, bnO m i X ++ [E0, E1]⟩) ?_ ?_
 ·simp only [go_sem, ↓reduceIte, Nat.reduceLT, Nat.reduceEqDiff, List.cons_append, List.nil_append, List.length_map, i1]
  exact ⟨_, WkE.keep (by simp only [go_sem, ↓reduceIte, Nat.reduceEqDiff]), rfl⟩
 refine CwpE.seqJ (fun s => s = ⟨(10, vi i) :: bnE a h b, bnO m (i + 1) (X ++ [vhand hd]) ++ [E0, E1]⟩) ?_ ?_
 rotate_left
 ·rintro _ rfl
  refine CwpE.vc ?_
  simp only [go_sem, ↓reduceIte, Nat.reduceLT, List.cons_append, List.nil_append, hw]
  exact hQ _ (WkE.keep (by simp only [go_sem, ↓reduceIte, Nat.reduceEqDiff]))
 refine CwpE.block ?_
 refine CwpE.cut (st := ⟨(11, .own 6 0 0 0) :: (10, vi i) :: bnE a h b, bnO m i X ++ [E0, E1, .arr 0 1 34 []]⟩) ?_ ?_
 ·simp only [go_sem, ↓reduceIte, Nat.reduceLT]
  exact ⟨_, (WkE.nil 11 1 34 (by omega) rfl).trans (WkE.keep (by simp only [go_sem, ↓reduceIte, Nat.reduceEqDiff, Nat.reduceAdd])), rfl⟩
 refine CwpE.seqJ (fun s => s = ⟨(11, .own 6 hd.length 0 hd.length) :: (10, vi i) :: bnE a h b, bnO m i X ++ [E0, E1, .arr hd.length 1 34 (hd.map vbar)]⟩) ?_ ?_
 ·refine CwpE.cut (st := ⟨bnL a h b i 6 0 0, bnO m i X ++ [E0, E1, .arr 0 1 34 []]⟩) ?_ ?_
  ·simp only [go_sem, ↓reduceIte, Nat.reduceLT]
   exact ⟨_, WkE.keep (by simp only [go_sem, ↓reduceIte, Nat.reduceEqDiff]; rfl), rfl⟩
  exact (bn_bars6 F0 w0 m a h b i X (hX 7 (by omega)) E0 E1 (hE0 7 (by omega)) (hE1 7 (by omega)) i hd hi hml hhl hbl (Q := fun e s => e = .normal /\ s = ⟨(11, .own 6 hd.length 0 hd.length) :: (10, vi i) :: bnE a h b, bnO m i X ++ [E0, E1, .arr hd.length 1 34 (hd.map vbar)]⟩) ⟨rfl, rfl⟩).mono fun e s ⟨s', hw, he, hs⟩ => by
   subst he; exact ⟨s', hw, hs⟩
 rintro _ rfl
 have hin : (X.all (AV.inn 6)) = true := hX 6 (by omega)
 refine CwpE.wk (s' := ⟨(11, vhand hd) :: (10, vi i) :: bnE a h b, bnO m i X ++ [E0, E1]⟩) ?_ ?_
 ·refine (WkE.freeze 11 6 hd.length 0 hd.length 1 34 (hd.map vbar) (by omega) rfl rfl (by simp) (List.all_eq_true.2 fun y hy => by obtain ⟨v, _, rfl⟩ := List.mem_map.1 hy; rfl)).trans (WkE.round ?_ ?_ ?_ ?_)
  ·have e : List.take hd.length (List.drop 0 (hd.map vbar)) = hd.map vbar := List.take_of_length_le (by simp)
   rw [e]
   simp only [go_sem, ↓reduceIte, Nat.reduceEqDiff]
  ·rfl
  ·simp only [List.all_cons, List.all_nil, innO_arr, hin, hE0 6 (by omega), hE1 6 (by omega), List.length_cons, List.length_nil, List.cons_append, List.nil_append, Nat.zero_add, Nat.reduceAdd, Bool.and_self, Bool.and_true]
   rfl
  ·rfl
 refine CwpE.vc ?_
 simp only [go_sem, Nat.reducePow, Nat.reduceLeDiff, ↓reduceIte, Nat.reduceLT, Nat.reduceEqDiff, Nat.reduceAdd, Nat.reduceMul, List.cons_append, List.nil_append, q2, htk, hXl]
 exact ⟨_, WkE.keep (by simp only [go_sem, ↓reduceIte, Nat.reduceEqDiff]), rfl⟩
end Go.Proofs.YtnncijjkbonokaaDoor
namespace Go.Proofs.YtnncijjkbonokaaDoor
open Go.RowKit Dak
abbrev brV (bar : List Nt) : AV := .own 5 bar.length 0 bar.length
abbrev brO (bar : List Nt) : AObj := .arr bar.length 3 64 (bar.map vnote)
theorem bn_at (F0 : FD) (w0 : World) (m : List (List (List Nt))) (a h b : Int) (n : Nat) (X : List AV) (hX : (X.all (AV.inn 6)) = true) (i : Nat) (hd : List (List Nt)) (hi : m[i]? = some hd) (k : Nat) (Y : List AV) (hY : Y.length = k) (hYi : (Y.all (AV.inn 6)) = true)
 (bar : List Nt) (hb : hd[k]? = some bar) (hk : k < hd.length) (hil : i < m.length) (hml : m.length <= 100000) (hhl : hd.length <= 100000) (hbl : bar.length <= 100000)
 {Q : Exit -> Est -> Prop} (hQ : ∀ s, WkE 263 s ⟨bnL a h b i 4 (k + 1) (k + 1), bnO m n X ++ [hdO (Y ++ [brV bar]), brO bar]⟩ -> Q .normal s) : CwpE Tryd.prog F0 w0 263 bnB Q ⟨bnL a h b i 4 k k, bnO m n X ++ [.arr k 1 34 Y]⟩ := by
 have h1 : (k : Int) < (hd.length : Int) := by omega
 have h0 : (0 : Int) <= (k : Int) := by omega
 have i1 : (i : Int) < (m.length : Int) := by omega
 have i0 : (0 : Int) <= (i : Int) := by omega
 have hw : IntKind.i64.wrap ((k : Int) + 1) = ((k + 1 : Nat) : Int) := by rw [wrap_id (by omega) (by omega)]; omega
 have q1 : bar.length * 24 <= 140737488355328 := by omega
 have q2 : (k + 1) * 24 <= 140737488355328 := by omega
 have htk : List.take k Y = Y := List.take_of_length_le (by omega)
 unfold bnB bnH c11
 refine CwpE.vc ?_
 simp only [go_sem, Nat.reducePow, Nat.reduceLeDiff, ↓reduceIte, Nat.reduceLT, Nat.reduceEqDiff, Nat.reduceAdd, Nat.reduceMul, List.cons_append, List.nil_append, h1, h0, i0, hw, List.length_map, List.getElem?_map, hi, hb, Option.map_some, q1, q2, htk, hY, Nat.zero_add]
 refine hQ _ (WkE.round ?_ ?_ ?_ ?_)
 ·simp only [go_sem, ↓reduceIte, Nat.reduceEqDiff]
 ·rfl
 ·have e : (Y ++ [brV bar]).all (AV.inn 6) = true := by rw [List.all_append, hYi]; rfl
  have e2 : (bar.map vnote).all (AV.inn 6) = true := inn_map fun _ => rfl
  simp only [List.all_cons, List.all_nil, innO_arr, e, e2, hX, List.length_cons, List.length_nil, List.cons_append, List.nil_append, Nat.zero_add, Nat.reduceAdd, Bool.and_self, Bool.and_true]
  rfl
 ·have e : List.take bar.length (bar.map vnote) = bar.map vnote := List.take_of_length_le (by simp)
  simp only [List.take_succ_cons, List.take_zero, List.length_cons, List.length_nil, Nat.zero_add, Nat.reduceAdd, List.cons_append, List.nil_append, hdO, List.length_append, hY]
theorem bn_after (b0 : List Nt) (F0 : FD) (w0 : World) (m : List (List (List Nt))) (a h b : Int) (n : Nat) (X : List AV) (hX : (X.all (AV.inn 6)) = true) (i : Nat) (hd : List (List Nt)) (hi : m[i]? = some hd) (k : Nat) (Y : List AV) (hY : Y.length = k) (hYi : (Y.all (AV.inn 6)) = true)
 (bar : List Nt) (hb : hd[k]? = some bar) (hk : k < hd.length) (hil : i < m.length) (hml : m.length <= 100000) (hhl : hd.length <= 100000) (hbl : bar.length <= 100000)
 {Q : Exit -> Est -> Prop} (hQ : ∀ s, WkE 263 s ⟨bnL a h b i 4 (k + 1) (k + 1), bnO m n X ++ [hdO (Y ++ [vbar bar]), brO b0]⟩ -> Q .normal s) : CwpE Tryd.prog F0 w0 263 bnB Q ⟨bnL a h b i 4 k k, bnO m n X ++ [.arr k 1 34 Y, brO b0]⟩ := by
 have h1 : (k : Int) < (hd.length : Int) := by omega
 have h0 : (0 : Int) <= (k : Int) := by omega
 have i1 : (i : Int) < (m.length : Int) := by omega
 have i0 : (0 : Int) <= (i : Int) := by omega
 have hw : IntKind.i64.wrap ((k : Int) + 1) = ((k + 1 : Nat) : Int) := by rw [wrap_id (by omega) (by omega)]; omega
 have q1 : bar.length * 24 <= 140737488355328 := by omega
 have q2 : (k + 1) * 24 <= 140737488355328 := by omega
 have htk : List.take k Y = Y := List.take_of_length_le (by omega)
 unfold bnB bnH c11
 refine CwpE.vc ?_
 simp only [go_sem, Nat.reducePow, Nat.reduceLeDiff, ↓reduceIte, Nat.reduceLT, Nat.reduceEqDiff, Nat.reduceAdd, Nat.reduceMul, List.cons_append, List.nil_append, h1, h0, i0, hw, List.length_map, List.getElem?_map, hi, hb, Option.map_some, q1, q2, htk, hY, Nat.zero_add]
 refine hQ _ ?_
 have fl : 0 + bar.length <= (bar.map vnote).length := by simp
 have hg : (Y ++ [AV.own 6 bar.length 0 bar.length])[k]? = some (AV.own 6 bar.length 0 bar.length) := by rw [List.getElem?_append_right (by omega), hY, Nat.sub_self]; rfl
 refine (WkE.freezeCell 4 (k + 1) 1 k 0 6 bar.length 0 bar.length 3 34 64 _ _ _ rfl hg rfl rfl (by omega) fl (List.all_eq_true.2 fun y hy => by obtain ⟨z, _, rfl⟩ := List.mem_map.1 hy; rfl)).trans (WkE.round ?_ ?_ ?_ ?_)
 ·simp only [go_sem, ↓reduceIte, Nat.reduceEqDiff]
 ·rfl
 ·have e : (Y ++ [vbar bar]).all (AV.inn 6) = true := by rw [List.all_append, hYi]; rfl
  have e2 : (b0.map vnote).all (AV.inn 6) = true := inn_map fun _ => rfl
  simp only [List.all_cons, List.all_nil, innO_arr, e, e2, hX, List.length_cons, List.length_nil, List.cons_append, List.nil_append, Nat.zero_add, Nat.reduceAdd, Bool.and_self, Bool.and_true]
  rfl
 ·have e : List.take bar.length (bar.map vnote) = bar.map vnote := List.take_of_length_le (by simp)
  simp only [List.set_cons_succ, List.set_cons_zero, List.take_succ_cons, List.take_zero, List.length_cons, List.length_nil, Nat.zero_add, Nat.reduceAdd, List.cons_append, List.nil_append, recell, AV.cells, List.drop_zero, e, hdO, List.length_append, hY]
  rw [List.set_append_right _ _ (by omega), hY, Nat.sub_self]; rfl
def bnX (hd : List (List Nt)) (bi : Nat) (bar : List Nt) (k : Nat) : List AV := if k <= bi then (hd.take k).map vbar else ((hd.take k).map vbar).set bi (brV bar)
def bnXO (bi : Nat) (bar : List Nt) (k : Nat) : List AObj := if k <= bi then [] else [brO bar]
theorem bnX_len {hd : List (List Nt)} {bi : Nat} {bar : List Nt} {k : Nat} (hk : k <= hd.length) : (bnX hd bi bar k).length = k := by
 unfold bnX; split <;> simp <;> omega
theorem bn_barsT (F0 : FD) (w0 : World) (m : List (List (List Nt))) (a h b : Int) (n : Nat) (X : List AV) (hX : ∀ k, 4 <= k -> (X.all (AV.inn k)) = true) (i : Nat) (hd : List (List Nt)) (hi : m[i]? = some hd) (bi : Nat) (b0 : List Nt) (hb0 : hd[bi]? = some b0) (hml : m.length <= 100000) (hhl : hd.length <= 100000) (hbl : ∀ r ∈ hd, r.length <= 100000)
 {Q : Exit -> Est -> Prop} (hQ : Q .normal ⟨(11, .own 4 hd.length 0 hd.length) :: (10, vi i) :: bnE a h b, bnO m n X ++ [.arr hd.length 1 34 ((hd.map vbar).set bi (brV b0)), brO b0]⟩) :
 CwpE Tryd.prog F0 w0 263 (.block 2 (.loop bnB)) (fun e s => ∃ s', WkE 263 s s' /\ Q e s') ⟨bnL a h b i 4 0 0, bnO m n X ++ [.arr 0 1 34 []]⟩ := by
 have hil : i < m.length := (List.getElem?_eq_some_iff.1 hi).1
 have hbi : bi < hd.length := (List.getElem?_eq_some_iff.1 hb0).1
 have i1 : (i : Int) < (m.length : Int) := by omega
 have i0 : (0 : Int) <= (i : Int) := by omega
 refine CwpE.block ?_
 refine loopXC 2 (fun z s => ∃ k : Nat, k + z = hd.length /\ s = ⟨bnL a h b i 4 k k, bnO m n X ++ (.arr k 1 34 (bnX hd bi b0 k) :: bnXO bi b0 k)⟩)
  (fun s => s = ⟨(11, .own 4 hd.length 0 hd.length) :: (10, vi i) :: bnE a h b, bnO m n X ++ [.arr hd.length 1 34 ((hd.map vbar).set bi (brV b0)), brO b0]⟩) hd.length _ (.refl _ _) ⟨0, by omega, by simp [bnX, bnXO]⟩ ?_ ?_
 rotate_left
 ·rintro s rfl
  simp only [inBlockE, if_true]
  exact ⟨_, .refl _ _, hQ⟩
 rintro z s ⟨k, hk, rfl⟩
 cases z with
 | zero =>
  obtain rfl : k = hd.length := by omega
  have h1 : ¬ (hd.length : Int) < (hd.length : Int) := by omega
  have e1 : bnX hd bi b0 hd.length = (hd.map vbar).set bi (brV b0) := by rw [bnX, if_neg (by omega), List.take_length]
  have e2 : bnXO bi b0 hd.length = [brO b0] := if_neg (by omega)
  rw [e1, e2]
  obtain ⟨Z, hZ⟩ : ∃ Z, (hd.map vbar).set bi (brV b0) = Z := ⟨_, rfl⟩
  rw [hZ]
  unfold bnB bnH c11
  refine CwpE.vc ?_
  simp only [go_sem, ↓reduceIte, Nat.reduceLT, Nat.reduceEqDiff, List.cons_append, List.nil_append, h1, i0, List.length_map, List.getElem?_map, hi, Option.map_some]
  exact ⟨_, WkE.keep (by simp only [go_sem, ↓reduceIte, Nat.reduceEqDiff]), rfl⟩
 | succ z =>
  have hlt : k < hd.length := by omega
  obtain ⟨bar, hbr⟩ : ∃ r, hd[k] = r := ⟨_, rfl⟩
  have gb : hd[k]? = some bar := by rw [List.getElem?_eq_getElem hlt, hbr]
  have hl := hbl bar (hbr ▸ List.getElem_mem hlt)
  have hin : ∀ (m n : Nat), ((hd.take m).map vbar).all (AV.inn n) = true := fun m n => inn_map fun _ => rfl
  have htk : (hd.take (k + 1)).map vbar = (hd.take k).map vbar ++ [vbar bar] := by rw [List.take_succ_eq_append_getElem hlt, hbr, List.map_append]; rfl
  have hXl := bnX_len (hd := hd) (bi := bi) (bar := b0) (k := k) (by omega)
  by_cases h1 : k < bi
  ·have e1 : bnX hd bi b0 k = (hd.take k).map vbar := if_pos (by omega)
   have e2 : bnX hd bi b0 (k + 1) = bnX hd bi b0 k ++ [vbar bar] := by rw [e1, <- htk]; exact if_pos (by omega)
   have e3 : bnXO bi b0 k = [] := if_pos (by omega)
   have e4 : bnXO bi b0 (k + 1) = [] := if_pos (by omega)
   rw [e3]
   refine bn_bar4 F0 w0 m a h b n X (hX 5 (by omega)) i hd hi k _ hXl (by rw [e1]; exact hin _ _) bar gb hlt hil hml hhl hl fun s hs => ⟨z, _, by omega, hs, k + 1, by omega, ?_⟩
   rw [e2, e4, hdO, List.length_append, hXl]; rfl
  ·by_cases h2 : k = bi
   ·subst h2
    obtain rfl : bar = b0 := by rw [gb] at hb0; exact Option.some.inj hb0
    have e1 : bnX hd k bar k = (hd.take k).map vbar := if_pos (by omega)
    have e2 : bnX hd k bar (k + 1) = bnX hd k bar k ++ [brV bar] := by
     unfold bnX
     rw [if_neg (by omega), if_pos (by omega), htk, List.set_append_right _ _ (by rw [List.length_map, List.length_take]; omega)]
     have : k - ((hd.take k).map vbar).length = 0 := by rw [List.length_map, List.length_take]; omega
     rw [this]; rfl
    have e3 : bnXO k bar k = [] := if_pos (by omega)
    have e4 : bnXO k bar (k + 1) = [brO bar] := if_neg (by omega)
    rw [e3]
    refine bn_at F0 w0 m a h b n X (hX 6 (by omega)) i hd hi k _ hXl (by rw [e1]; exact hin _ _) bar gb hlt hil hml hhl hl fun s hs => ⟨z, _, by omega, hs, k + 1, by omega, ?_⟩
    rw [e2, e4, hdO, List.length_append, hXl]; rfl
   ·have e1 : bnX hd bi b0 k = ((hd.take k).map vbar).set bi (brV b0) := if_neg (by omega)
    have e2 : bnX hd bi b0 (k + 1) = bnX hd bi b0 k ++ [vbar bar] := by
     unfold bnX
     rw [if_neg (by omega), if_neg (by omega), htk, List.set_append_left _ _ (by simp; omega)]
    have e3 : bnXO bi b0 k = [brO b0] := if_neg (by omega)
    have e4 : bnXO bi b0 (k + 1) = [brO b0] := if_neg (by omega)
    rw [e3]
    refine bn_after b0 F0 w0 m a h b n X (hX 6 (by omega)) i hd hi k _ hXl (by rw [e1]; exact inn_set (hin k 6) rfl) bar gb hlt hil hml hhl hl fun s hs => ⟨z, _, by omega, hs, k + 1, by omega, ?_⟩
    rw [e2, e4, hdO, List.length_append, hXl]; rfl
theorem bn_ownT (F0 : FD) (w0 : World) (m : List (List (List Nt))) (a h b : Int) (X : List AV) (hX : ∀ k, 4 <= k -> (X.all (AV.inn k)) = true) (i : Nat) (hXl : X.length = i) (hd : List (List Nt)) (hi : m[i]? = some hd) (hml : m.length <= 100000) (hhl : hd.length <= 100000) (hbl : ∀ r ∈ hd, r.length <= 100000) (bi : Nat) (b0 : List Nt) (hb0 : hd[bi]? = some b0)
 {Q : Exit -> Est -> Prop} (hQ : ∀ s, WkE 263 s ⟨(10, vi (i + 1 : Nat)) :: bnE a h b, bnO m (i + 1) (X ++ [.own 4 hd.length 0 hd.length]) ++ [.arr hd.length 1 34 ((hd.map vbar).set bi (brV b0)), brO b0]⟩ -> Q .normal s) : CwpE Tryd.prog F0 w0 263 bnH Q ⟨(10, vi i) :: bnE a h b, bnO m i X ++ []⟩ := by
 have hil : i < m.length := (List.getElem?_eq_some_iff.1 hi).1
 have i1 : (i : Int) < (m.length : Int) := by omega
 have i0 : (0 : Int) <= (i : Int) := by omega
 have hw : IntKind.i64.wrap ((i : Int) + 1) = ((i + 1 : Nat) : Int) := by rw [wrap_id (by omega) (by omega)]; omega
 have q2 : (i + 1) * 24 <= 140737488355328 := by omega
 have htk : List.take i X = X := List.take_of_length_le (by omega)
 unfold bnH c11
 refine CwpE.cut (st := ⟨(10, vi i) :: bnE a h b, bnO m i X ++ []⟩) ?_ ?_
 ·simp only [go_sem, ↓reduceIte, Nat.reduceLT, Nat.reduceEqDiff, List.cons_append, List.nil_append, List.length_map, i1]
  exact ⟨_, WkE.keep (by simp only [go_sem, ↓reduceIte, Nat.reduceEqDiff]), rfl⟩
 refine CwpE.seqJ (fun s => s = ⟨(10, vi i) :: bnE a h b, bnO m (i + 1) (X ++ [.own 4 hd.length 0 hd.length]) ++ [.arr hd.length 1 34 ((hd.map vbar).set bi (brV b0)), brO b0]⟩) ?_ ?_
 rotate_left
 ·rintro _ rfl
  refine CwpE.vc ?_
  simp only [go_sem, ↓reduceIte, Nat.reduceLT, List.cons_append, List.nil_append, hw]
  exact hQ _ (WkE.keep (by simp only [go_sem, ↓reduceIte, Nat.reduceEqDiff]))
 refine CwpE.block ?_
 refine CwpE.cut (st := ⟨(11, .own 4 0 0 0) :: (10, vi i) :: bnE a h b, bnO m i X ++ [.arr 0 1 34 []]⟩) ?_ ?_
 ·simp only [go_sem, ↓reduceIte, Nat.reduceLT]
  exact ⟨_, (WkE.nil 11 1 34 (by omega) rfl).trans (WkE.keep (by simp only [go_sem, ↓reduceIte, Nat.reduceEqDiff, Nat.reduceAdd])), rfl⟩
 refine CwpE.seqJ (fun s => s = ⟨(11, .own 4 hd.length 0 hd.length) :: (10, vi i) :: bnE a h b, bnO m i X ++ [.arr hd.length 1 34 ((hd.map vbar).set bi (brV b0)), brO b0]⟩) ?_ ?_
 ·refine CwpE.cut (st := ⟨bnL a h b i 4 0 0, bnO m i X ++ [.arr 0 1 34 []]⟩) ?_ ?_
  ·simp only [go_sem, ↓reduceIte, Nat.reduceLT]
   exact ⟨_, WkE.keep (by simp only [go_sem, ↓reduceIte, Nat.reduceEqDiff]; rfl), rfl⟩
  exact (bn_barsT F0 w0 m a h b i X hX i hd hi bi b0 hb0 hml hhl hbl (Q := fun e s => e = .normal /\ s = ⟨(11, .own 4 hd.length 0 hd.length) :: (10, vi i) :: bnE a h b, bnO m i X ++ [.arr hd.length 1 34 ((hd.map vbar).set bi (brV b0)), brO b0]⟩) ⟨rfl, rfl⟩).mono fun e s ⟨s', hw, he, hs⟩ => by
   subst he; exact ⟨s', hw, hs⟩
 rintro _ rfl
 have hin : (X.all (AV.inn 6)) = true := hX 6 (by omega)
 have hin2 : (((hd.map vbar).set bi (brV b0)).all (AV.inn 6)) = true := inn_set (inn_map fun _ => rfl) rfl
 have hin3 : (b0.map vnote).all (AV.inn 6) = true := inn_map fun _ => rfl
 obtain ⟨Z, hZ⟩ : ∃ Z, (hd.map vbar).set bi (brV b0) = Z := ⟨_, rfl⟩
 rw [hZ] at hin2 ⊢
 refine CwpE.vc ?_
 simp only [go_sem, Nat.reducePow, Nat.reduceLeDiff, ↓reduceIte, Nat.reduceLT, Nat.reduceEqDiff, Nat.reduceAdd, Nat.reduceMul, List.cons_append, List.nil_append, q2, htk, hXl]
 refine ⟨_, WkE.round (by simp only [go_sem, ↓reduceIte, Nat.reduceEqDiff]) rfl ?_ rfl, rfl⟩
 have e : (X ++ [AV.own 4 hd.length 0 hd.length]).all (AV.inn 6) = true := by rw [List.all_append, hin]; rfl
 simp only [List.all_cons, List.all_nil, innO_arr, e, hin2, hin3, List.length_cons, List.length_nil, Nat.zero_add, Nat.reduceAdd, Bool.and_self, Bool.and_true]
 rfl
end Go.Proofs.YtnncijjkbonokaaDoor
namespace Go.Proofs.YtnncijjkbonokaaDoor
open Go.RowKit Dak
def melB (m : List (List (List Nt))) : Prop := m.length <= 100000 /\ ∀ h ∈ m, h.length <= 100000 /\ ∀ b ∈ h, b.length <= 100000
theorem bn_end (F0 : FD) (w0 : World) (m : List (List (List Nt))) (a h b : Int) (X : List AV) (R : List AObj) {Q : Exit -> Est -> Prop} (hQ : ∀ s, WkE 263 s ⟨bnE a h b, bnO m m.length X ++ R⟩ -> Q (.exit 0) s) :
 CwpE Tryd.prog F0 w0 263 bnH Q ⟨(10, vi m.length) :: bnE a h b, bnO m m.length X ++ R⟩ := by
 have h1 : ¬ (m.length : Int) < (m.length : Int) := by omega
 unfold bnH c11
 refine CwpE.vc ?_
 simp only [go_sem, ↓reduceIte, Nat.reduceLT, Nat.reduceEqDiff, List.cons_append, List.nil_append, h1, List.length_map]
 exact hQ _ (WkE.keep (by simp only [go_sem, ↓reduceIte, Nat.reduceEqDiff]))
theorem own_inn {id g o l k : Nat} (h : id < k) : (AV.own id g o l).inn k = true := decide_eq_true h
theorem bn_loop0 (F0 : FD) (w0 : World) (m : List (List (List Nt))) (a h b : Int) (hm : melB m) {Q : Exit -> Est -> Prop} (hQ : Q .normal ⟨bnE a h b, bnO m m.length (m.map vhand) ++ []⟩) :
 CwpE Tryd.prog F0 w0 263 (.block 0 (.loop bnH)) (fun e s => ∃ s', WkE 263 s s' /\ Q e s') ⟨(10, vi (0 : Nat)) :: bnE a h b, bnO m 0 [] ++ []⟩ := by
 refine CwpE.block ?_
 refine loopXC 0 (fun z s => ∃ k : Nat, k + z = m.length /\ s = ⟨(10, vi k) :: bnE a h b, bnO m k ((m.take k).map vhand) ++ []⟩)
  (fun s => s = ⟨bnE a h b, bnO m m.length (m.map vhand) ++ []⟩) m.length _ (.refl _ _) ⟨0, by omega, rfl⟩ ?_ ?_
 rotate_left
 ·rintro s rfl
  simp only [inBlockE, if_true]
  exact ⟨_, .refl _ _, hQ⟩
 rintro z s ⟨k, hk, rfl⟩
 cases z with
 | zero =>
  obtain rfl : k = m.length := by omega
  rw [List.take_length]
  refine bn_end F0 w0 m a h b _ [] fun s hs => ?_
  simp only [RoundX, if_true]
  exact ⟨_, hs, rfl⟩
 | succ z =>
  have hlt : k < m.length := by omega
  obtain ⟨hd, hhd⟩ : ∃ r, m[k] = r := ⟨_, rfl⟩
  have gh : m[k]? = some hd := by rw [List.getElem?_eq_getElem hlt, hhd]
  have hl := hm.2 hd (hhd ▸ List.getElem_mem hlt)
  have htk : (m.take (k + 1)).map vhand = (m.take k).map vhand ++ [vhand hd] := by rw [List.take_succ_eq_append_getElem hlt, hhd, List.map_append]; rfl
  refine bn_hand4 F0 w0 m a h b _ (fun j _ => inn_map fun _ => rfl) k (by simp; omega) hd gh hm.1 hl.1 hl.2 fun s hs => ⟨z, _, by omega, hs, k + 1, by omega, ?_⟩
  rw [htk]
def bnY (m : List (List (List Nt))) (hi : Nat) (n : Nat) (k : Nat) : List AV := if k <= hi then (m.take k).map vhand else ((m.take k).map vhand).set hi (.own 4 n 0 n)
def bnYO (hi : Nat) (hd : List (List Nt)) (bi : Nat) (b0 : List Nt) (k : Nat) : List AObj := if k <= hi then [] else [.arr hd.length 1 34 ((hd.map vbar).set bi (brV b0)), brO b0]
theorem bnY_len {m : List (List (List Nt))} {hi n k : Nat} (hk : k <= m.length) : (bnY m hi n k).length = k := by
 unfold bnY; split <;> simp <;> omega
theorem bn_loopT (F0 : FD) (w0 : World) (m : List (List (List Nt))) (a h b : Int) (hm : melB m) (hi : Nat) (hd : List (List Nt)) (hhi : m[hi]? = some hd) (bi : Nat) (b0 : List Nt) (hb0 : hd[bi]? = some b0) {Q : Exit -> Est -> Prop}
 (hQ : Q .normal ⟨bnE a h b, bnO m m.length ((m.map vhand).set hi (.own 4 hd.length 0 hd.length)) ++ [.arr hd.length 1 34 ((hd.map vbar).set bi (brV b0)), brO b0]⟩) :
 CwpE Tryd.prog F0 w0 263 (.block 0 (.loop bnH)) (fun e s => ∃ s', WkE 263 s s' /\ Q e s') ⟨(10, vi (0 : Nat)) :: bnE a h b, bnO m 0 [] ++ []⟩ := by
 have hhl : hi < m.length := (List.getElem?_eq_some_iff.1 hhi).1
 refine CwpE.block ?_
 refine loopXC 0 (fun z s => ∃ k : Nat, k + z = m.length /\ s = ⟨(10, vi k) :: bnE a h b, bnO m k (bnY m hi hd.length k) ++ bnYO hi hd bi b0 k⟩)
  (fun s => s = ⟨bnE a h b, bnO m m.length ((m.map vhand).set hi (.own 4 hd.length 0 hd.length)) ++ [.arr hd.length 1 34 ((hd.map vbar).set bi (brV b0)), brO b0]⟩) m.length _ (.refl _ _) ⟨0, by omega, by simp [bnY, bnYO]⟩ ?_ ?_
 rotate_left
 ·rintro s rfl
  simp only [inBlockE, if_true]
  exact ⟨_, .refl _ _, hQ⟩
 rintro z s ⟨k, hk, rfl⟩
 cases z with
 | zero =>
  obtain rfl : k = m.length := by omega
  have e1 : bnY m hi hd.length m.length = (m.map vhand).set hi (.own 4 hd.length 0 hd.length) := by rw [bnY, if_neg (by omega), List.take_length]
  have e2 : bnYO hi hd bi b0 m.length = [.arr hd.length 1 34 ((hd.map vbar).set bi (brV b0)), brO b0] := if_neg (by omega)
  rw [e1, e2]
  refine bn_end F0 w0 m a h b _ _ fun s hs => ?_
  simp only [RoundX, if_true]
  exact ⟨_, hs, rfl⟩
 | succ z =>
  have hlt : k < m.length := by omega
  obtain ⟨hc, hhc⟩ : ∃ r, m[k] = r := ⟨_, rfl⟩
  have gh : m[k]? = some hc := by rw [List.getElem?_eq_getElem hlt, hhc]
  have hl := hm.2 hc (hhc ▸ List.getElem_mem hlt)
  have htk : (m.take (k + 1)).map vhand = (m.take k).map vhand ++ [vhand hc] := by rw [List.take_succ_eq_append_getElem hlt, hhc, List.map_append]; rfl
  have hYl := bnY_len (m := m) (hi := hi) (n := hd.length) (k := k) (by omega)
  have hin : ∀ (t n : Nat), ((m.take t).map vhand).all (AV.inn n) = true := fun t n => inn_map fun _ => rfl
  by_cases h1 : k < hi
  ·have e1 : bnY m hi hd.length k = (m.take k).map vhand := if_pos (by omega)
   have e2 : bnY m hi hd.length (k + 1) = bnY m hi hd.length k ++ [vhand hc] := by rw [e1, <- htk]; exact if_pos (by omega)
   have e3 : bnYO hi hd bi b0 k = [] := if_pos (by omega)
   have e4 : bnYO hi hd bi b0 (k + 1) = [] := if_pos (by omega)
   rw [e3]
   refine bn_hand4 F0 w0 m a h b _ (fun j _ => by rw [e1]; exact hin _ _) k hYl hc gh hm.1 hl.1 hl.2 fun s hs => ⟨z, _, by omega, hs, k + 1, by omega, ?_⟩
   rw [e2, e4]
  ·by_cases h2 : k = hi
   ·subst h2
    obtain rfl : hc = hd := by rw [gh] at hhi; exact Option.some.inj hhi
    have e1 : bnY m k hc.length k = (m.take k).map vhand := if_pos (by omega)
    have e2 : bnY m k hc.length (k + 1) = bnY m k hc.length k ++ [.own 4 hc.length 0 hc.length] := by
     unfold bnY
     rw [if_neg (by omega), if_pos (by omega), htk, List.set_append_right _ _ (by rw [List.length_map, List.length_take]; omega)]
     have : k - ((m.take k).map vhand).length = 0 := by rw [List.length_map, List.length_take]; omega
     rw [this]; rfl
    have e3 : bnYO k hc bi b0 k = [] := if_pos (by omega)
    have e4 : bnYO k hc bi b0 (k + 1) = [.arr hc.length 1 34 ((hc.map vbar).set bi (brV b0)), brO b0] := if_neg (by omega)
    rw [e3]
    refine bn_ownT F0 w0 m a h b _ (fun j _ => by rw [e1]; exact hin _ _) k hYl hc gh hm.1 hl.1 hl.2 bi b0 hb0 fun s hs => ⟨z, _, by omega, hs, k + 1, by omega, ?_⟩
    rw [e2, e4]
   ·have e1 : bnY m hi hd.length k = ((m.take k).map vhand).set hi (.own 4 hd.length 0 hd.length) := if_neg (by omega)
    have e2 : bnY m hi hd.length (k + 1) = bnY m hi hd.length k ++ [vhand hc] := by
     unfold bnY
     rw [if_neg (by omega), if_neg (by omega), htk, List.set_append_left _ _ (by simp; omega)]
    have e3 : bnYO hi hd bi b0 k = [.arr hd.length 1 34 ((hd.map vbar).set bi (brV b0)), brO b0] := if_neg (by omega)
    have e4 : bnYO hi hd bi b0 (k + 1) = [.arr hd.length 1 34 ((hd.map vbar).set bi (brV b0)), brO b0] := if_neg (by omega)
    rw [e3]
    refine bn_hand6 F0 w0 m a h b _ (.arr hd.length 1 34 ((hd.map vbar).set bi (brV b0))) (brO b0) (fun j hj => by rw [e1]; exact inn_set (hin _ _) (own_inn (by omega))) (fun j hj => by rw [innO_arr]; exact inn_set (inn_map fun _ => rfl) (own_inn (by omega))) (fun j hj => by rw [innO_arr]; exact inn_map fun _ => rfl) k hYl hc gh hm.1 hl.1 hl.2 fun s hs => ⟨z, _, by omega, hs, k + 1, by omega, ?_⟩
    rw [e2, e4]
end Go.Proofs.YtnncijjkbonokaaDoor
namespace Go.Proofs.YtnncijjkbonokaaDoor
open Go.RowKit Dak
theorem allT_map {α : Type} {f : α -> AV} {l : List α} (h : ∀ x, (f x).isT = true) : (l.map f).all AV.isT = true := List.all_eq_true.2 fun y hy => by
 obtain ⟨z, _, rfl⟩ := List.mem_map.1 hy
 exact h z
theorem all_mono {E : List (Nat × AV)} {j k : Nat} (h : (E.all fun p => p.2.inn j) = true) (hk : ∀ v : AV, v.inn j = true -> v.inn k = true) : ∀ p ∈ E, p.2.inn k = true := fun p hp => hk _ (List.all_eq_true.1 h p hp)
theorem inn_up {j k : Nat} (hjk : j <= k) (v : AV) (h : v.inn j = true) : v.inn k = true := by
 have one : ∀ v : AV, v.inn1 j = true -> v.inn1 k = true := by
  intro v h
  cases v with
  | clo fn cs => exact h
  | own id g o l => exact decide_eq_true (by have := of_decide_eq_true h; omega)
  | ref id g e c => exact decide_eq_true (by have := of_decide_eq_true h; omega)
  | _ => exact h
 have all : ∀ cs : List AV, cs.all (AV.inn1 j) = true -> cs.all (AV.inn1 k) = true := fun cs h => List.all_eq_true.2 fun x hx => one x (List.all_eq_true.1 h x hx)
 cases v with
 | agg cs => exact all cs h
 | tup cs => exact all cs h
 | clo fn cs => exact all cs h
 | own id g o l => exact one (.own id g o l) h
 | ref id g e c => exact one (.ref id g e c) h
 | val v => exact one (.val v) h
 | list s xs => exact one (.list s xs) h
 | ptr s => exact one (.ptr s) h
 | junk => exact one .junk h
 | emp => exact one .emp h
 | anyB => exact one .anyB h
theorem frz_bar {E : List (Nat × AV)} (hE : (E.all fun p => p.2.inn 3) = true) {m : List (List (List Nt))} {n : Nat} {X : List AV} (hX : (X.all (AV.inn 5)) = true) {hd : List (List Nt)} {bi : Nat} (hbi : bi < hd.length) (bar : List Nt) {N : Nat} (hN : N = hd.length) :
 WkE 263 ⟨E, bnO m n X ++ [.arr N 1 34 ((hd.map vbar).set bi (brV bar)), brO bar]⟩ ⟨E, bnO m n X ++ [.arr N 1 34 ((hd.set bi bar).map vbar)]⟩ := by
 have hg : ((hd.map vbar).set bi (brV bar))[bi]? = some (brV bar) := List.getElem?_set_self (by simpa using hbi)
 have fl : 0 + bar.length <= (bar.map vnote).length := by simp
 have hz : List.take bar.length (List.drop 0 (bar.map vnote)) = bar.map vnote := List.take_of_length_le (by simp)
 have hset : ((hd.map vbar).set bi (brV bar)).set bi (vbar bar) = (hd.set bi bar).map vbar := by rw [List.set_set, <- List.map_set]
 have h1 := WkE.freezeCell (n := 263) (env := E) (objs := bnO m n X ++ [.arr N 1 34 ((hd.map vbar).set bi (brV bar)), brO bar]) 4 N 1 bi 0 5 bar.length 0 bar.length 3 34 64 _ _ _ rfl hg rfl rfl (by omega) fl (allT_map fun _ => rfl)
 rw [hz, show recell (brV bar) ((brV bar).cells.set 0 (.list 3 (bar.map vnote))) = vbar bar from rfl, hset] at h1
 refine h1.trans (WkE.drop 5 (all_mono hE (inn_up (by omega))) fun o ho => ?_)
 have e : ((hd.set bi bar).map vbar).all (AV.inn 5) = true := inn_map fun _ => rfl
 simp only [List.cons_append, List.nil_append, List.set_cons_succ, List.set_cons_zero, List.take_succ_cons, List.take_zero, List.mem_cons, List.not_mem_nil, or_false] at ho
 rcases ho with rfl | rfl | rfl | rfl | rfl
 ·rfl
 ·rfl
 ·rfl
 ·exact hX
 ·exact e
theorem frz_hand {E : List (Nat × AV)} (hE : (E.all fun p => p.2.inn 3) = true) {m0 m : List (List (List Nt))} {n : Nat} {hi : Nat} (hhi : hi < m.length) (hd : List (List Nt)) {N : Nat} (hN : N = hd.length) :
 WkE 263 ⟨E, bnO m0 n ((m.map vhand).set hi (.own 4 N 0 N)) ++ [.arr N 1 34 (hd.map vbar)]⟩ ⟨E, bnO m0 n ((m.set hi hd).map vhand) ++ []⟩ := by
 subst hN
 have hg : ((m.map vhand).set hi (AV.own 4 hd.length 0 hd.length))[hi]? = some (AV.own 4 hd.length 0 hd.length) := List.getElem?_set_self (by simpa using hhi)
 have fl : 0 + hd.length <= (hd.map vbar).length := by simp
 have hz : List.take hd.length (List.drop 0 (hd.map vbar)) = hd.map vbar := List.take_of_length_le (by simp)
 have hset : ((m.map vhand).set hi (AV.own 4 hd.length 0 hd.length)).set hi (vhand hd) = (m.set hi hd).map vhand := by rw [List.set_set, <- List.map_set]
 have h1 := WkE.freezeCell (n := 263) (env := E) (objs := bnO m0 n ((m.map vhand).set hi (.own 4 hd.length 0 hd.length)) ++ [.arr hd.length 1 34 (hd.map vbar)]) 3 n 1 hi 0 4 hd.length 0 hd.length 1 28 34 _ _ _ rfl hg rfl rfl (by omega) fl (allT_map fun _ => rfl)
 rw [hz, show recell (AV.own 4 hd.length 0 hd.length) ((AV.own 4 hd.length 0 hd.length).cells.set 0 (.list 1 (hd.map vbar))) = vhand hd from rfl, hset] at h1
 refine h1.trans (WkE.drop 4 (all_mono hE (inn_up (by omega))) fun o ho => ?_)
 have e : ((m.set hi hd).map vhand).all (AV.inn 4) = true := inn_map fun _ => rfl
 simp only [List.cons_append, List.nil_append, List.set_cons_succ, List.set_cons_zero, List.take_succ_cons, List.take_zero, List.mem_cons, List.not_mem_nil, or_false] at ho
 rcases ho with rfl | rfl | rfl | rfl
 ·rfl
 ·rfl
 ·rfl
 ·exact e
theorem frz_out {E : List (Nat × AV)} (hE : (E.all fun p => p.2.inn 3) = true) {m0 r : List (List (List Nt))} {n k : Nat} (hk : k <= r.length) :
 WkE 263 ⟨E, [.arr 1 1 25 [vmel m0], .arr 1 1 25 [nilT], .arr 1 1 25 [.agg [.own 3 n 0 k]], .arr n 1 28 (r.map vhand)] ++ []⟩ ⟨E, [.arr 1 1 25 [vmel m0], .arr 1 1 25 [nilT], .arr 1 1 25 [vmel (r.take k)]]⟩ := by
 have fl : 0 + k <= (r.map vhand).length := by simp; omega
 have h1 := WkE.freezeCell (n := 263) (env := E) (objs := [.arr 1 1 25 [vmel m0], .arr 1 1 25 [nilT], .arr 1 1 25 [.agg [.own 3 n 0 k]], .arr n 1 28 (r.map vhand)]) 2 1 1 0 0 3 n 0 k 1 25 28 _ _ (.agg [.own 3 n 0 k]) rfl rfl rfl rfl (by omega) fl (allT_map fun _ => rfl)
 have hz : List.take k (List.drop 0 (r.map vhand)) = (r.take k).map vhand := by rw [List.drop_zero, List.map_take]
 rw [hz] at h1
 refine h1.trans (WkE.drop 3 (all_mono hE (inn_up (by omega))) fun o ho => ?_)
 simp only [List.set_cons_succ, List.set_cons_zero, List.take_succ_cons, List.take_zero, List.mem_cons, List.not_mem_nil, or_false] at ho
 rcases ho with rfl | rfl | rfl
 ·rfl
 ·rfl
 ·rfl
abbrev bnR (m r : List (List (List Nt))) : List AObj := [.arr 1 1 25 [vmel m], .arr 1 1 25 [nilT], .arr 1 1 25 [vmel r]]
theorem frz_all {E : List (Nat × AV)} (hE : (E.all fun p => p.2.inn 3) = true) {m0 r : List (List (List Nt))} {n : Nat} (hn : n = r.length) : WkE 263 ⟨E, bnO m0 n (r.map vhand) ++ []⟩ ⟨E, bnR m0 r⟩ := by
 subst hn
 have := frz_out (m0 := m0) (r := r) (n := r.length) (k := r.length) hE (Nat.le_refl _)
 rw [List.take_length] at this
 exact this
end Go.Proofs.YtnncijjkbonokaaDoor
namespace Go.Proofs.YtnncijjkbonokaaDoor
open Go.RowKit Dak
abbrev bnS : CCode := match c11 with | .seq _ (.seq _ (.seq _ (.seq _ (.seq _ (.seq _ (.seq _ (.seq _ (.seq _ (.seq (.seq _ b) _))))))))) => b | _ => .skip
abbrev bnW (a h b : Int) (hi bi k : Nat) (some : Bool) (j : Int) : List (Nat × AV) := (105, vi j) :: (13, vi hi) :: (14, vi bi) :: (15, vi k) :: (16, vb some) :: bnE a h b
abbrev bnZ : List (Nat × AV) := [(8, .ref 1 1 0 0), (9, .ref 2 1 0 0)]
abbrev bnT (m : List (List (List Nt))) (hi : Nat) (hd : List (List Nt)) (bi : Nat) (b0 : List Nt) : List AObj := bnO m m.length ((m.map vhand).set hi (.own 4 hd.length 0 hd.length)) ++ [.arr hd.length 1 34 ((hd.map vbar).set bi (brV b0)), brO b0]
structure BnT (m : List (List (List Nt))) (hi : Nat) (hd : List (List Nt)) (bi : Nat) (b0 : List Nt) : Prop where
 th : m[hi]? = some hd
 tb : hd[bi]? = some b0
 sm : melB m
theorem frz_bars {E : List (Nat × AV)} (hE : (E.all fun p => p.2.inn 3) = true) {m : List (List (List Nt))} {hi : Nat} {hd : List (List Nt)} {bi : Nat} {b0 : List Nt} (h : BnT m hi hd bi b0) (bar : List Nt) :
 WkE 263 ⟨E, bnO m m.length ((m.map vhand).set hi (.own 4 hd.length 0 hd.length)) ++ [.arr hd.length 1 34 ((hd.map vbar).set bi (brV bar)), brO bar]⟩ ⟨E, bnR m (m.set hi (hd.set bi bar))⟩ := by
 have hhi : hi < m.length := (List.getElem?_eq_some_iff.1 h.th).1
 have hbi : bi < hd.length := (List.getElem?_eq_some_iff.1 h.tb).1
 refine (frz_bar hE (inn_set (inn_map fun _ => rfl) rfl) hbi bar rfl).trans ((frz_hand hE hhi (hd.set bi bar) (N := hd.length) (by simp)).trans (frz_all hE (by simp)))
theorem bn_c0 (F0 : FD) (w0 : World) (m : List (List (List Nt))) (a h b : Int) (hb : I64 b) (hi : Nat) (hd : List (List Nt)) (bi : Nat) (b0 : List Nt) (T : BnT m hi hd bi b0) (k : Nat) (nt : Nt) (hk : b0[k]? = some nt)
 {Q : Exit -> Est -> Prop} (hQ : ∀ s, WkE 263 s ⟨bnZ, bnR m (m.set hi (hd.set bi (b0.set k ⟨[-2, -1, 0, 48, 49, 21].getD (aroundL b 6).toNat 0, nt.l, nt.a⟩)))⟩ -> Q .normal s) : CwpE Tryd.prog F0 w0 263 bnS Q ⟨bnW a h b hi bi k true 0, bnT m hi hd bi b0⟩ := by
 have T' := T
 obtain ⟨h1, h2, h3⟩ := T
 have hhi : hi < m.length := (List.getElem?_eq_some_iff.1 h1).1
 have hbi : bi < hd.length := (List.getElem?_eq_some_iff.1 h2).1
 have i0 : (0 : Int) <= (hi : Int) := by omega
 have i1 : (hi : Int) < (m.length : Int) := by omega
 have j0 : (0 : Int) <= (bi : Int) := by omega
 have j1 : (bi : Int) < (hd.length : Int) := by omega
 have gH : ((m.map vhand).set hi (.own 4 hd.length 0 hd.length))[hi]? = some (.own 4 hd.length 0 hd.length) := List.getElem?_set_self (by simpa using hhi)
 have gB : ((hd.map vbar).set bi (brV b0))[bi]? = some (brV b0) := List.getElem?_set_self (by simpa using hbi)
 have hkl : k < b0.length := (List.getElem?_eq_some_iff.1 hk).1
 have k0 : (0 : Int) <= (k : Int) := by omega
 have k1 : (k : Int) < (b0.length : Int) := by omega
 have gK : (b0.map vnote)[k]? = some (vnote nt) := by rw [List.getElem?_map, hk]; rfl
 have g := around_bd (n := b) (most := 6) (by omega)
 have bn : I64 6 := ⟨by decide, by decide⟩
 obtain ⟨q, hq⟩ : ∃ q : Nat, aroundL b 6 = (q : Int) := ⟨(aroundL b 6).toNat, by omega⟩
 have q0 : (0 : Int) <= (q : Int) := by omega
 have q6 : (q : Int) < 6 := by omega
 have gq : ([vi (-2), vi (-1), vi 0, vi 48, vi 49, vi 21] : List AV)[q]? = some (vi ([-2, -1, 0, 48, 49, 21].getD q 0)) := by
  have : q < 6 := by omega
  rcases q with _ | _ | _ | _ | _ | _ | q
  all_goals first | rfl | omega
 rw [hq, Int.toNat_natCast] at hQ
 have hset : (b0.map vnote).set k (vnote ⟨[-2, -1, 0, 48, 49, 21].getD q 0, nt.l, nt.a⟩) = (b0.set k ⟨[-2, -1, 0, 48, 49, 21].getD q 0, nt.l, nt.a⟩).map vnote := by rw [<- List.map_set]
 have hlen : (b0.set k ⟨[-2, -1, 0, 48, 49, 21].getD q 0, nt.l, nt.a⟩).length = b0.length := List.length_set
 have hW := frz_bars (E := bnZ) rfl T' (b0.set k ⟨[-2, -1, 0, 48, 49, 21].getD q 0, nt.l, nt.a⟩)
 unfold brV brO at hW
 rw [hlen, <- hset] at hW
 unfold bnT
 obtain ⟨X, hX⟩ : ∃ X, (m.map vhand).set hi (.own 4 hd.length 0 hd.length) = X := ⟨_, rfl⟩
 obtain ⟨Y, hY⟩ : ∃ Y, (hd.map vbar).set bi (.own 5 b0.length 0 b0.length) = Y := ⟨_, rfl⟩
 unfold brV at gB ⊢
 rw [hX] at gH hW ⊢
 rw [hY] at gB hW ⊢
 unfold bnS c11
 refine CwpE.vc ?_
 simp only [go_sem, Nat.reducePow, Nat.reduceLeDiff, ↓reduceIte, reduceCtorEq, Nat.reduceLT, Nat.reduceEqDiff, Nat.reduceAdd, Nat.reduceMul, Int.reduceNeg, List.cons_append, List.nil_append, i0, i1, j0, j1, gH, gB]
 refine callT (Around_s b 6 hb bn) rfl ?_
 simp only [go_sem, Nat.reducePow, Nat.reduceLeDiff, ↓reduceIte, reduceCtorEq, Nat.reduceLT, Nat.reduceEqDiff, Nat.reduceAdd, Nat.reduceMul, Int.reduceNeg, i0, i1, j0, j1, k0, k1, gH, gB, gK, hq, q0, Int.toNat_natCast, gq]
 exact hQ _ ((WkE.keep (by simp only [go_sem, ↓reduceIte, Nat.reduceEqDiff])).trans hW)
theorem bn_c1 (F0 : FD) (w0 : World) (m : List (List (List Nt))) (a h b : Int) (hb : I64 b) (hi : Nat) (hd : List (List Nt)) (bi : Nat) (b0 : List Nt) (T : BnT m hi hd bi b0) (k : Nat) (nt : Nt) (hk : b0[k]? = some nt)
 {Q : Exit -> Est -> Prop} (hQ : ∀ s, WkE 263 s ⟨bnZ, bnR m (m.set hi (hd.set bi (b0.set k ⟨nt.s, (aroundL b 7 - 1), nt.a⟩)))⟩ -> Q .normal s) : CwpE Tryd.prog F0 w0 263 bnS Q ⟨bnW a h b hi bi k true 1, bnT m hi hd bi b0⟩ := by
 have T' := T
 obtain ⟨h1, h2, h3⟩ := T
 have hhi : hi < m.length := (List.getElem?_eq_some_iff.1 h1).1
 have hbi : bi < hd.length := (List.getElem?_eq_some_iff.1 h2).1
 have i0 : (0 : Int) <= (hi : Int) := by omega
 have i1 : (hi : Int) < (m.length : Int) := by omega
 have j0 : (0 : Int) <= (bi : Int) := by omega
 have j1 : (bi : Int) < (hd.length : Int) := by omega
 have gH : ((m.map vhand).set hi (.own 4 hd.length 0 hd.length))[hi]? = some (.own 4 hd.length 0 hd.length) := List.getElem?_set_self (by simpa using hhi)
 have gB : ((hd.map vbar).set bi (brV b0))[bi]? = some (brV b0) := List.getElem?_set_self (by simpa using hbi)
 have hkl : k < b0.length := (List.getElem?_eq_some_iff.1 hk).1
 have k0 : (0 : Int) <= (k : Int) := by omega
 have k1 : (k : Int) < (b0.length : Int) := by omega
 have gK : (b0.map vnote)[k]? = some (vnote nt) := by rw [List.getElem?_map, hk]; rfl
 have g := around_bd (n := b) (most := 7) (by omega)
 have bn : I64 7 := ⟨by decide, by decide⟩
 have wv : IntKind.i64.wrap (aroundL b 7 - 1) = aroundL b 7 - 1 := wrap_id (by omega) (by omega)
 have hset : (b0.map vnote).set k (vnote ⟨nt.s, (aroundL b 7 - 1), nt.a⟩) = (b0.set k ⟨nt.s, (aroundL b 7 - 1), nt.a⟩).map vnote := by rw [<- List.map_set]
 have hlen : (b0.set k ⟨nt.s, (aroundL b 7 - 1), nt.a⟩).length = b0.length := List.length_set
 have hW := frz_bars (E := bnZ) rfl T' (b0.set k ⟨nt.s, (aroundL b 7 - 1), nt.a⟩)
 unfold brV brO at hW
 rw [hlen, <- hset] at hW
 unfold bnT
 obtain ⟨X, hX⟩ : ∃ X, (m.map vhand).set hi (.own 4 hd.length 0 hd.length) = X := ⟨_, rfl⟩
 obtain ⟨Y, hY⟩ : ∃ Y, (hd.map vbar).set bi (.own 5 b0.length 0 b0.length) = Y := ⟨_, rfl⟩
 unfold brV at gB ⊢
 rw [hX] at gH hW ⊢
 rw [hY] at gB hW ⊢
 unfold bnS c11
 refine CwpE.vc ?_
 simp only [go_sem, ↓reduceIte, Nat.reduceLT, Nat.reduceEqDiff, Int.reduceEq, Int.reduceNeg, List.cons_append, List.nil_append, i0, i1, j0, j1, gH, gB]
 refine callT (Around_s b 7 hb bn) rfl ?_
 simp only [go_sem, Nat.reduceLeDiff, ↓reduceIte, Nat.reduceLT, Nat.reduceEqDiff, Nat.reduceAdd, i0, i1, j0, j1, k0, k1, gH, gB, gK, wv]
 exact hQ _ ((WkE.keep (by simp only [go_sem, ↓reduceIte, Nat.reduceEqDiff])).trans hW)
theorem bn_c2 (F0 : FD) (w0 : World) (m : List (List (List Nt))) (a h b : Int) (hb : I64 b) (hi : Nat) (hd : List (List Nt)) (bi : Nat) (b0 : List Nt) (T : BnT m hi hd bi b0) (k : Nat) (nt : Nt) (hk : b0[k]? = some nt)
 {Q : Exit -> Est -> Prop} (hQ : ∀ s, WkE 263 s ⟨bnZ, bnR m (m.set hi (hd.set bi (b0.set k ⟨nt.s, nt.l, (aroundL b 5 - 2)⟩)))⟩ -> Q .normal s) : CwpE Tryd.prog F0 w0 263 bnS Q ⟨bnW a h b hi bi k true 2, bnT m hi hd bi b0⟩ := by
 have T' := T
 obtain ⟨h1, h2, h3⟩ := T
 have hhi : hi < m.length := (List.getElem?_eq_some_iff.1 h1).1
 have hbi : bi < hd.length := (List.getElem?_eq_some_iff.1 h2).1
 have i0 : (0 : Int) <= (hi : Int) := by omega
 have i1 : (hi : Int) < (m.length : Int) := by omega
 have j0 : (0 : Int) <= (bi : Int) := by omega
 have j1 : (bi : Int) < (hd.length : Int) := by omega
 have gH : ((m.map vhand).set hi (.own 4 hd.length 0 hd.length))[hi]? = some (.own 4 hd.length 0 hd.length) := List.getElem?_set_self (by simpa using hhi)
 have gB : ((hd.map vbar).set bi (brV b0))[bi]? = some (brV b0) := List.getElem?_set_self (by simpa using hbi)
 have hkl : k < b0.length := (List.getElem?_eq_some_iff.1 hk).1
 have k0 : (0 : Int) <= (k : Int) := by omega
 have k1 : (k : Int) < (b0.length : Int) := by omega
 have gK : (b0.map vnote)[k]? = some (vnote nt) := by rw [List.getElem?_map, hk]; rfl
 have g := around_bd (n := b) (most := 5) (by omega)
 have bn : I64 5 := ⟨by decide, by decide⟩
 have wv : IntKind.i64.wrap (aroundL b 5 - 2) = aroundL b 5 - 2 := wrap_id (by omega) (by omega)
 have hset : (b0.map vnote).set k (vnote ⟨nt.s, nt.l, (aroundL b 5 - 2)⟩) = (b0.set k ⟨nt.s, nt.l, (aroundL b 5 - 2)⟩).map vnote := by rw [<- List.map_set]
 have hlen : (b0.set k ⟨nt.s, nt.l, (aroundL b 5 - 2)⟩).length = b0.length := List.length_set
 have hW := frz_bars (E := bnZ) rfl T' (b0.set k ⟨nt.s, nt.l, (aroundL b 5 - 2)⟩)
 unfold brV brO at hW
 rw [hlen, <- hset] at hW
 unfold bnT
 obtain ⟨X, hX⟩ : ∃ X, (m.map vhand).set hi (.own 4 hd.length 0 hd.length) = X := ⟨_, rfl⟩
 obtain ⟨Y, hY⟩ : ∃ Y, (hd.map vbar).set bi (.own 5 b0.length 0 b0.length) = Y := ⟨_, rfl⟩
 unfold brV at gB ⊢
 rw [hX] at gH hW ⊢
 rw [hY] at gB hW ⊢
 unfold bnS c11
 refine CwpE.vc ?_
 simp only [go_sem, ↓reduceIte, Nat.reduceLT, Nat.reduceEqDiff, Int.reduceEq, Int.reduceNeg, List.cons_append, List.nil_append, i0, i1, j0, j1, gH, gB]
 refine callT (Around_s b 5 hb bn) rfl ?_
 simp only [go_sem, ↓reduceIte, Nat.reduceLT, Nat.reduceEqDiff, Nat.reduceAdd, i0, i1, j0, j1, k0, k1, gH, gB, gK, wv]
 exact hQ _ ((WkE.keep (by simp only [go_sem, ↓reduceIte, Nat.reduceEqDiff])).trans hW)
end Go.Proofs.YtnncijjkbonokaaDoor
namespace Go.Proofs.YtnncijjkbonokaaDoor
open Go.RowKit Dak
theorem set_self {α : Type} {l : List α} {i : Nat} {x : α} (h : l[i]? = some x) : l.set i x = l := by
 obtain ⟨hi, rfl⟩ := List.getElem?_eq_some_iff.1 h
 exact List.set_getElem_self hi
theorem BnT.back {m : List (List (List Nt))} {hi : Nat} {hd : List (List Nt)} {bi : Nat} {b0 : List Nt} (T : BnT m hi hd bi b0) : m.set hi (hd.set bi b0) = m := by
 rw [set_self T.tb, set_self T.th]
theorem bn_cN (F0 : FD) (w0 : World) (m : List (List (List Nt))) (a h b : Int) (hi : Nat) (hd : List (List Nt)) (bi : Nat) (b0 : List Nt) (T : BnT m hi hd bi b0) (k j : Nat) (hj : j < 3)
 {Q : Exit -> Est -> Prop} (hQ : ∀ s, WkE 263 s ⟨bnZ, bnR m m⟩ -> Q .normal s) : CwpE Tryd.prog F0 w0 263 bnS Q ⟨bnW a h b hi bi k false j, bnT m hi hd bi b0⟩ := by
 have hW := frz_bars (E := bnZ) rfl T b0
 rw [T.back] at hW
 unfold bnT
 obtain ⟨O, hO⟩ : ∃ O, bnO m m.length ((m.map vhand).set hi (.own 4 hd.length 0 hd.length)) ++ [.arr hd.length 1 34 ((hd.map vbar).set bi (brV b0)), brO b0] = O := ⟨_, rfl⟩
 rw [hO] at hW ⊢
 unfold bnS c11
 refine CwpE.vc ?_
 have z0 : ((0 : Nat) : Int) = 0 := rfl
 have z1 : ((1 : Nat) : Int) = 1 := rfl
 have z2 : ((2 : Nat) : Int) = 2 := rfl
 rcases j with _ | _ | _ | j
 ·simp only [go_sem, ↓reduceIte, Nat.reduceLT, Nat.reduceEqDiff, Int.reduceNeg, z0]
  exact hQ _ ((WkE.keep (by simp only [go_sem, ↓reduceIte, Nat.reduceEqDiff])).trans hW)
 ·simp only [go_sem, ↓reduceIte, Nat.reduceLT, Nat.reduceEqDiff, Int.reduceEq, Int.reduceNeg, z1]
  exact hQ _ ((WkE.keep (by simp only [go_sem, ↓reduceIte, Nat.reduceEqDiff])).trans hW)
 ·simp only [go_sem, ↓reduceIte, Nat.reduceLT, Nat.reduceEqDiff, Nat.reduceAdd, Int.reduceEq, Int.reduceNeg, z2]
  exact hQ _ ((WkE.keep (by simp only [go_sem, ↓reduceIte, Nat.reduceEqDiff])).trans hW)
 ·omega
theorem bnT_bar {E : List (Nat × AV)} (hE : (E.all fun p => p.2.inn 3) = true) {m : List (List (List Nt))} {hi : Nat} {hd : List (List Nt)} {bi : Nat} {b0 : List Nt} (T : BnT m hi hd bi b0) :
 WkE 263 ⟨E, bnT m hi hd bi b0⟩ ⟨E, bnO m m.length ((m.map vhand).set hi (.own 4 hd.length 0 hd.length)) ++ [.arr hd.length 1 34 (hd.map vbar)]⟩ := by
 have := frz_bar (m := m) (n := m.length) (bar := b0) (N := hd.length) hE (inn_set (inn_map (l := m) (f := vhand) fun _ => rfl) (h := hi) (v := .own 4 hd.length 0 hd.length) rfl) (List.getElem?_eq_some_iff.1 T.tb).1 rfl
 rw [set_self T.tb] at this
 exact this
theorem bnT_hands {E : List (Nat × AV)} (hE : (E.all fun p => p.2.inn 3) = true) {m : List (List (List Nt))} {hi : Nat} {hd : List (List Nt)} {bi : Nat} {b0 : List Nt} (T : BnT m hi hd bi b0) :
 WkE 263 ⟨E, bnT m hi hd bi b0⟩ ⟨E, bnO m m.length (m.map vhand) ++ []⟩ := by
 have := frz_hand (m0 := m) (m := m) (n := m.length) (hd := hd) (N := hd.length) hE (List.getElem?_eq_some_iff.1 T.th).1 rfl
 rw [set_self T.th] at this
 exact (bnT_bar hE T).trans this
theorem bn_c3 (F0 : FD) (w0 : World) (m : List (List (List Nt))) (a h b : Int) (hi : Nat) (hd : List (List Nt)) (bi : Nat) (b0 : List Nt) (T : BnT m hi hd bi b0) (k : Nat) (sm : Bool)
 {Q : Exit -> Est -> Prop} (hQ : ∀ s, WkE 263 s ⟨bnZ, bnR m (m.set hi (hd.set bi []))⟩ -> Q .normal s) : CwpE Tryd.prog F0 w0 263 bnS Q ⟨bnW a h b hi bi k sm 3, bnT m hi hd bi b0⟩ := by
 have T' := T
 obtain ⟨h1, h2, h3⟩ := T
 have hhi : hi < m.length := (List.getElem?_eq_some_iff.1 h1).1
 have hbi : bi < hd.length := (List.getElem?_eq_some_iff.1 h2).1
 have i0 : (0 : Int) <= (hi : Int) := by omega
 have i1 : (hi : Int) < (m.length : Int) := by omega
 have j0 : (0 : Int) <= (bi : Int) := by omega
 have j1 : (bi : Int) < (hd.length : Int) := by omega
 have gH : ((m.map vhand).set hi (.own 4 hd.length 0 hd.length))[hi]? = some (.own 4 hd.length 0 hd.length) := List.getElem?_set_self (by simpa using hhi)
 have gB : (hd.map vbar)[bi]? = some (vbar b0) := by rw [List.getElem?_map, h2]; rfl
 refine CwpE.wk (bnT_bar rfl T') ?_
 have hW : WkE 263 ⟨bnZ, bnO m m.length ((m.map vhand).set hi (.own 4 hd.length 0 hd.length)) ++ [.arr hd.length 1 34 ((hd.map vbar).set bi (.val (.slice none 0 0)))]⟩ ⟨bnZ, bnR m (m.set hi (hd.set bi []))⟩ := by
  have gn : ((hd.map vbar).set bi (.val (.slice none 0 0)))[bi]? = some (.val (.slice none 0 0)) := List.getElem?_set_self (by simpa using hbi)
  have e1 := WkE.nilCell (n := 263) (env := bnZ) (objs := bnO m m.length ((m.map vhand).set hi (.own 4 hd.length 0 hd.length)) ++ [.arr hd.length 1 34 ((hd.map vbar).set bi (.val (.slice none 0 0)))]) 4 hd.length 1 bi 0 3 64 34 _ _ rfl gn rfl
  have hset : ((hd.map vbar).set bi (.val (.slice none 0 0))).set bi (brV []) = (hd.map vbar).set bi (brV []) := List.set_set ..
  have e2 := frz_bars (E := bnZ) rfl T' []
  refine e1.trans ?_
  have : (recell (AV.val (Value.slice none 0 0)) ((AV.val (Value.slice none 0 0)).cells.set 0 (AV.own 5 0 0 0))) = brV [] := rfl
  simp only [List.cons_append, List.nil_append, List.length_cons, List.length_nil, Nat.zero_add, Nat.reduceAdd, List.set_cons_succ, List.set_cons_zero, this, hset]
  exact e2
 obtain ⟨X, hX⟩ : ∃ X, (m.map vhand).set hi (.own 4 hd.length 0 hd.length) = X := ⟨_, rfl⟩
 obtain ⟨Y, hY⟩ : ∃ Y, hd.map vbar = Y := ⟨_, rfl⟩
 rw [hX] at gH hW ⊢
 rw [hY] at gB hW ⊢
 unfold bnS c11
 refine CwpE.vc ?_
 simp only [go_sem, ↓reduceIte, Nat.reduceLT, Nat.reduceEqDiff, Int.reduceEq, Int.reduceNeg, List.cons_append, List.nil_append, i0, i1, j0, j1, gH, gB]
 exact hQ _ ((WkE.keep (by simp only [go_sem, ↓reduceIte, Nat.reduceEqDiff])).trans hW)
theorem bn_c4 (F0 : FD) (w0 : World) (m : List (List (List Nt))) (a h b : Int) (hi : Nat) (hd : List (List Nt)) (bi : Nat) (b0 : List Nt) (T : BnT m hi hd bi b0) (k : Nat) (sm : Bool)
 {Q : Exit -> Est -> Prop} (hQ : ∀ s, WkE 263 s ⟨bnZ, bnR m (m.set hi (hd.take bi))⟩ -> Q .normal s) : CwpE Tryd.prog F0 w0 263 bnS Q ⟨bnW a h b hi bi k sm 4, bnT m hi hd bi b0⟩ := by
 have T' := T
 obtain ⟨h1, h2, h3⟩ := T
 have hhi : hi < m.length := (List.getElem?_eq_some_iff.1 h1).1
 have hbi : bi < hd.length := (List.getElem?_eq_some_iff.1 h2).1
 have i0 : (0 : Int) <= (hi : Int) := by omega
 have i1 : (hi : Int) < (m.length : Int) := by omega
 have j0 : (0 : Int) <= (bi : Int) := by omega
 have j1 : (bi : Int) <= (hd.length : Int) := by omega
 have gH : (m.map vhand)[hi]? = some (vhand hd) := by rw [List.getElem?_map, h1]; rfl
 refine CwpE.wk (bnT_hands rfl T') ?_
 have hset : (m.map vhand).set hi (.list 1 (List.take bi (hd.map vbar))) = (m.set hi (hd.take bi)).map vhand := by rw [List.map_set, vhand, List.map_take]
 have hW := frz_all (E := bnZ) (m0 := m) (r := m.set hi (hd.take bi)) (n := m.length) rfl (by simp)
 rw [<- hset] at hW
 obtain ⟨X, hX⟩ : ∃ X, m.map vhand = X := ⟨_, rfl⟩
 rw [hX] at gH hW ⊢
 unfold bnS c11
 refine CwpE.vc ?_
 simp only [go_sem, ↓reduceIte, Nat.reduceLT, Nat.reduceEqDiff, Int.reduceEq, Int.reduceNeg, List.cons_append, List.nil_append, i0, i1, j0, j1, gH, List.length_map, List.drop_zero]
 exact hQ _ ((WkE.keep (by simp only [go_sem, ↓reduceIte, Nat.reduceEqDiff])).trans hW)
theorem bn_c6 (F0 : FD) (w0 : World) (m : List (List (List Nt))) (a h b : Int) (hi : Nat) (hd : List (List Nt)) (bi : Nat) (b0 : List Nt) (T : BnT m hi hd bi b0) (k : Nat) (sm : Bool)
 {Q : Exit -> Est -> Prop} (hQ : ∀ s, WkE 263 s ⟨bnZ, bnR m (m ++ [m.headD []])⟩ -> Q .normal s) : CwpE Tryd.prog F0 w0 263 bnS Q ⟨bnW a h b hi bi k sm 6, bnT m hi hd bi b0⟩ := by
 have T' := T
 obtain ⟨h1, h2, h3⟩ := T
 have hhi : hi < m.length := (List.getElem?_eq_some_iff.1 h1).1
 have i1 : (0 : Int) < (m.length : Int) := by omega
 have hml := h3.1
 obtain ⟨x, hx, hxd⟩ : ∃ x, m[0]? = some x /\ m.headD [] = x := by
  cases m with
  | nil => simp at hhi
  | cons x r => exact ⟨x, rfl, rfl⟩
 rw [hxd] at hQ
 have gH : (m.map vhand)[0]? = some (vhand x) := by rw [List.getElem?_map, hx]; rfl
 have q : (m.length + 1) * 24 <= 140737488355328 := by omega
 have htk : List.take m.length (m.map vhand) = m.map vhand := List.take_of_length_le (by simp)
 refine CwpE.wk (bnT_hands rfl T') ?_
 have hW := frz_all (E := bnZ) (m0 := m) (r := m ++ [x]) (n := m.length + 1) rfl (by simp)
 rw [List.map_append, List.map_cons, List.map_nil] at hW
 obtain ⟨X, hX⟩ : ∃ X, m.map vhand = X := ⟨_, rfl⟩
 have hXl : X.length = m.length := by rw [<- hX]; simp
 rw [hX] at gH hW htk ⊢
 unfold bnS c11
 refine CwpE.vc ?_
 simp only [go_sem, Nat.reducePow, Nat.reduceLeDiff, ↓reduceIte, Nat.reduceLT, Nat.reduceEqDiff, Nat.reduceAdd, Nat.reduceMul, Int.reduceToNat, Int.reduceEq, Int.reduceNeg, Int.reduceToNat, Int.le_refl, List.cons_append, List.nil_append, i1, gH, q, htk, hXl]
 exact hQ _ ((WkE.keep (by simp only [go_sem, ↓reduceIte, Nat.reduceEqDiff])).trans hW)
theorem bn_c8 (F0 : FD) (w0 : World) (m : List (List (List Nt))) (a h b : Int) (hi : Nat) (hd : List (List Nt)) (bi : Nat) (b0 : List Nt) (T : BnT m hi hd bi b0) (k : Nat) (sm : Bool)
 {Q : Exit -> Est -> Prop} (hQ : ∀ s, WkE 263 s ⟨bnZ, bnR m (m.take hi)⟩ -> Q .normal s) : CwpE Tryd.prog F0 w0 263 bnS Q ⟨bnW a h b hi bi k sm 8, bnT m hi hd bi b0⟩ := by
 have T' := T
 obtain ⟨h1, h2, h3⟩ := T
 have hhi : hi < m.length := (List.getElem?_eq_some_iff.1 h1).1
 have i0 : (0 : Int) <= (hi : Int) := by omega
 have i1 : (hi : Int) <= (m.length : Int) := by omega
 refine CwpE.wk (bnT_hands rfl T') ?_
 have hW := frz_out (E := bnZ) (m0 := m) (r := m) (n := m.length) (k := hi) rfl (by omega)
 obtain ⟨X, hX⟩ : ∃ X, m.map vhand = X := ⟨_, rfl⟩
 rw [hX] at hW ⊢
 unfold bnS c11
 refine CwpE.vc ?_
 simp only [go_sem, ↓reduceIte, Nat.reduceLT, Nat.reduceEqDiff, Int.reduceEq, Int.reduceNeg, List.cons_append, List.nil_append, i0, i1, Nat.zero_add, Nat.sub_zero]
 exact hQ _ ((WkE.keep (by simp only [go_sem, ↓reduceIte, Nat.reduceEqDiff])).trans hW)
end Go.Proofs.YtnncijjkbonokaaDoor
namespace Go.Proofs.YtnncijjkbonokaaDoor
open Go.RowKit Dak
def nt21 : Nt := ⟨21, 0, 0⟩
def nt20 : Nt := ⟨20, 3, 0⟩
abbrev bnF : CCode := match bnS with | .block _ (.seq _ (.cond _ _ (.seq _ (.cond _ _ (.seq _ (.cond _ _ (.seq _ (.cond _ _ (.seq _ (.cond _ _ (.seq _ (.cond _ (.block _ (.loop b)) _))))))))))))  => b | _ => .skip
theorem BnT.grow {m : List (List (List Nt))} {hi : Nat} {hd : List (List Nt)} {bi : Nat} {b0 : List Nt} (T : BnT m hi hd bi b0) : hi < m.length /\ bi < hd.length := ⟨(List.getElem?_eq_some_iff.1 T.th).1, (List.getElem?_eq_some_iff.1 T.tb).1⟩
theorem set_own5 {hd : List (List Nt)} {bi : Nat} {v w : AV} : (((hd.map vbar).set bi v).set bi w) = (hd.map vbar).set bi w := List.set_set ..
theorem bn_f_round (F0 : FD) (w0 : World) (m : List (List (List Nt))) (a h b : Int) (hb : I64 b) (hi : Nat) (hd : List (List Nt)) (bi : Nat) (T : hi < m.length /\ bi < hd.length) (hml : m.length <= 100000 /\ hd.length <= 100000) (bar : List Nt) (hbl : bar.length <= 100000) (hlt : (bar.length : Int) < 12 + aroundL b 7)
 {Q : Exit -> Est -> Prop} (hQ : ∀ s, WkE 263 s ⟨[(3, vi b), (9, .ref 2 1 0 0), (8, .ref 1 1 0 0), (13, vi hi), (14, vi bi)], bnT m hi hd bi (bar ++ [nt21])⟩ -> Q .normal s) :
 CwpE Tryd.prog F0 w0 263 bnF Q ⟨[(3, vi b), (9, .ref 2 1 0 0), (8, .ref 1 1 0 0), (13, vi hi), (14, vi bi)], bnT m hi hd bi bar⟩ := by
 obtain ⟨hhi, hbi⟩ := T
 have i0 : (0 : Int) <= (hi : Int) := by omega
 have i1 : (hi : Int) < (m.length : Int) := by omega
 have j0 : (0 : Int) <= (bi : Int) := by omega
 have j1 : (bi : Int) < (hd.length : Int) := by omega
 have g := around_bd (n := b) (most := 7) (by omega)
 have bn : I64 7 := ⟨by decide, by decide⟩
 have wv : IntKind.i64.wrap (12 + aroundL b 7) = 12 + aroundL b 7 := wrap_id (by omega) (by omega)
 have gH : ((m.map vhand).set hi (.own 4 hd.length 0 hd.length))[hi]? = some (.own 4 hd.length 0 hd.length) := List.getElem?_set_self (by simpa using hhi)
 have gB : ((hd.map vbar).set bi (brV bar))[bi]? = some (brV bar) := List.getElem?_set_self (by simpa using hbi)
 have q : (bar.length + 1) * 24 <= 140737488355328 := by omega
 have htk : List.take bar.length (bar.map vnote) = bar.map vnote := List.take_of_length_le (by simp)
 have hset : ((hd.map vbar).set bi (brV bar)).set bi (.own 5 (bar.length + 1) 0 (bar.length + 1)) = (hd.map vbar).set bi (brV (bar ++ [nt21])) := by
  rw [set_own5]; unfold brV; rw [List.length_append]; rfl
 have happ : brO (bar ++ [nt21]) = .arr (bar.length + 1) 3 64 (bar.map vnote ++ [vnote nt21]) := by
  unfold brO; rw [List.length_append, List.map_append]; rfl
 unfold bnT at hQ ⊢
 rw [happ, <- hset] at hQ
 obtain ⟨X, hX⟩ : ∃ X, (m.map vhand).set hi (.own 4 hd.length 0 hd.length) = X := ⟨_, rfl⟩
 obtain ⟨Y, hY⟩ : ∃ Y, (hd.map vbar).set bi (brV bar) = Y := ⟨_, rfl⟩
 rw [hX] at gH hQ ⊢
 rw [hY] at gB hQ ⊢
 unfold brV at gB
 unfold bnF bnS c11
 refine CwpE.vc ?_
 simp only [go_sem, ↓reduceIte, Nat.reduceLT, Nat.reduceEqDiff, List.cons_append, List.nil_append, i0, i1, j0, j1, gH, gB]
 refine callT (Around_s b 7 hb bn) rfl ?_
 simp only [go_sem, Nat.reducePow, Nat.reduceLeDiff, ↓reduceIte, Nat.reduceLT, Nat.reduceEqDiff, Nat.reduceAdd, Nat.reduceMul, List.cons_append, List.nil_append, i0, i1, j0, j1, gH, gB, wv, hlt, q, htk]
 exact hQ _ (WkE.keep (by simp only [go_sem, ↓reduceIte, Nat.reduceEqDiff]))
theorem bn_f_end (F0 : FD) (w0 : World) (m : List (List (List Nt))) (a h b : Int) (hb : I64 b) (hi : Nat) (hd : List (List Nt)) (bi : Nat) (T : hi < m.length /\ bi < hd.length) (bar : List Nt) (hbl : bar.length <= 100000) (hlt : ¬ (bar.length : Int) < 12 + aroundL b 7)
 {Q : Exit -> Est -> Prop} (hQ : ∀ s, WkE 263 s ⟨[(3, vi b), (9, .ref 2 1 0 0), (8, .ref 1 1 0 0), (13, vi hi), (14, vi bi)], bnT m hi hd bi bar⟩ -> Q (.exit 5) s) :
 CwpE Tryd.prog F0 w0 263 bnF Q ⟨[(3, vi b), (9, .ref 2 1 0 0), (8, .ref 1 1 0 0), (13, vi hi), (14, vi bi)], bnT m hi hd bi bar⟩ := by
 obtain ⟨hhi, hbi⟩ := T
 have i0 : (0 : Int) <= (hi : Int) := by omega
 have i1 : (hi : Int) < (m.length : Int) := by omega
 have j0 : (0 : Int) <= (bi : Int) := by omega
 have j1 : (bi : Int) < (hd.length : Int) := by omega
 have g := around_bd (n := b) (most := 7) (by omega)
 have bn : I64 7 := ⟨by decide, by decide⟩
 have wv : IntKind.i64.wrap (12 + aroundL b 7) = 12 + aroundL b 7 := wrap_id (by omega) (by omega)
 have gH : ((m.map vhand).set hi (.own 4 hd.length 0 hd.length))[hi]? = some (.own 4 hd.length 0 hd.length) := List.getElem?_set_self (by simpa using hhi)
 have gB : ((hd.map vbar).set bi (brV bar))[bi]? = some (brV bar) := List.getElem?_set_self (by simpa using hbi)
 unfold bnT at hQ ⊢
 obtain ⟨X, hX⟩ : ∃ X, (m.map vhand).set hi (.own 4 hd.length 0 hd.length) = X := ⟨_, rfl⟩
 obtain ⟨Y, hY⟩ : ∃ Y, (hd.map vbar).set bi (brV bar) = Y := ⟨_, rfl⟩
 rw [hX] at gH hQ ⊢
 rw [hY] at gB hQ ⊢
 unfold brV at gB
 unfold bnF bnS c11
 refine CwpE.vc ?_
 simp only [go_sem, ↓reduceIte, Nat.reduceLT, Nat.reduceEqDiff, List.cons_append, List.nil_append, i0, i1, j0, j1, gH, gB]
 refine callT (Around_s b 7 hb bn) rfl ?_
 simp only [go_sem, ↓reduceIte, Nat.reduceLT, Nat.reduceEqDiff, i0, i1, j0, j1, gH, gB, wv, hlt]
 exact hQ _ (WkE.keep (by simp only [go_sem, ↓reduceIte, Nat.reduceEqDiff]))
def growB (b : Int) (b0 : List Nt) : List Nt := b0 ++ List.replicate ((12 + aroundL b 7).toNat - b0.length) nt21
theorem bn_c5 (F0 : FD) (w0 : World) (m : List (List (List Nt))) (a h b : Int) (hb : I64 b) (hi : Nat) (hd : List (List Nt)) (bi : Nat) (b0 : List Nt) (T : BnT m hi hd bi b0) (k : Nat) (sm : Bool)
 {Q : Exit -> Est -> Prop} (hQ : ∀ s, WkE 263 s ⟨bnZ, bnR m (m.set hi (hd.set bi (growB b b0)))⟩ -> Q .normal s) : CwpE Tryd.prog F0 w0 263 bnS (fun e s => ∃ s', WkE 263 s s' /\ Q e s') ⟨bnW a h b hi bi k sm 5, bnT m hi hd bi b0⟩ := by
 have hT := T.grow
 have hml := T.sm
 have hhd := hml.2 hd (List.mem_of_getElem? T.th)
 have hbl := hhd.2 b0 (List.mem_of_getElem? T.tb)
 have g := around_bd (n := b) (most := 7) (by omega)
 have hW := frz_bars (E := bnZ) rfl T (growB b b0)
 obtain ⟨S, hS⟩ : ∃ S, [AObj.arr hd.length 1 34 ((hd.map vbar).set bi (brV b0)), brO b0] = S := ⟨_, rfl⟩
 have key : CwpE Tryd.prog F0 w0 263 (.block 5 (.loop bnF)) (fun e s => e = .normal /\ ∃ s', WkE 263 s s' /\ s' = ⟨[(3, vi b), (9, .ref 2 1 0 0), (8, .ref 1 1 0 0), (13, vi hi), (14, vi bi)], bnT m hi hd bi (growB b b0)⟩) ⟨[(3, vi b), (9, .ref 2 1 0 0), (8, .ref 1 1 0 0), (13, vi hi), (14, vi bi)], bnT m hi hd bi b0⟩ := by
  refine CwpE.block ?_
  refine loopXC 5 (fun z s => ∃ t : Nat, t + z = (12 + aroundL b 7).toNat - b0.length /\ s = ⟨[(3, vi b), (9, .ref 2 1 0 0), (8, .ref 1 1 0 0), (13, vi hi), (14, vi bi)], bnT m hi hd bi (b0 ++ List.replicate t nt21)⟩)
   (fun s => s = ⟨[(3, vi b), (9, .ref 2 1 0 0), (8, .ref 1 1 0 0), (13, vi hi), (14, vi bi)], bnT m hi hd bi (growB b b0)⟩) ((12 + aroundL b 7).toNat - b0.length) _ (.refl _ _) ⟨0, by omega, by simp⟩ ?_ ?_
  rotate_left
  ·rintro s rfl
   simp only [inBlockE, if_true]
   exact ⟨trivial, _, .refl _ _, rfl⟩
  rintro z s ⟨t, ht, rfl⟩
  cases z with
  | zero =>
   obtain rfl : t = (12 + aroundL b 7).toNat - b0.length := by omega
   refine bn_f_end F0 w0 m a h b hb hi hd bi hT _ (by simp; omega) (by simp; omega) fun s hs => ?_
   simp only [RoundX, if_true]
   exact ⟨_, hs, rfl⟩
  | succ z =>
   refine bn_f_round F0 w0 m a h b hb hi hd bi hT ⟨hml.1, hhd.1⟩ _ (by simp; omega) (by simp; omega) fun s hs => ⟨z, _, by omega, hs, t + 1, by omega, ?_⟩
   rw [List.append_assoc, <- List.replicate_succ']
 obtain ⟨O, hO⟩ : ∃ O, bnT m hi hd bi b0 = O := ⟨_, rfl⟩
 rw [hO]
 unfold bnS c11
 refine CwpE.block ?_
 refine CwpE.cut (st := ⟨(111, vb false) :: bnW a h b hi bi k sm 5, O⟩) ?_ ?_
 ·simp only [go_sem, ↓reduceIte, Nat.reduceLT, Int.reduceEq]
  exact ⟨_, WkE.keep (by simp only [go_sem, ↓reduceIte, Nat.reduceEqDiff]), rfl⟩
 refine CwpE.cond_f (by simp only [go_sem, ↓reduceIte]) ?_
 refine CwpE.cut (st := ⟨(130, vb false) :: bnW a h b hi bi k sm 5, O⟩) ?_ ?_
 ·simp only [go_sem, ↓reduceIte, Nat.reduceLT, Nat.reduceEqDiff, Int.reduceEq]
  exact ⟨_, WkE.keep (by simp only [go_sem, ↓reduceIte, Nat.reduceEqDiff]), rfl⟩
 refine CwpE.cond_f (by simp only [go_sem, ↓reduceIte]) ?_
 refine CwpE.cut (st := ⟨(147, vb false) :: bnW a h b hi bi k sm 5, O⟩) ?_ ?_
 ·simp only [go_sem, ↓reduceIte, Nat.reduceLT, Nat.reduceEqDiff, Int.reduceEq]
  exact ⟨_, WkE.keep (by simp only [go_sem, ↓reduceIte, Nat.reduceEqDiff]), rfl⟩
 refine CwpE.cond_f (by simp only [go_sem, ↓reduceIte]) ?_
 refine CwpE.cut (st := ⟨(164, vb false) :: bnW a h b hi bi k sm 5, O⟩) ?_ ?_
 ·simp only [go_sem, ↓reduceIte, Nat.reduceLT, Nat.reduceEqDiff, Int.reduceEq]
  exact ⟨_, WkE.keep (by simp only [go_sem, ↓reduceIte, Nat.reduceEqDiff]), rfl⟩
 refine CwpE.cond_f (by simp only [go_sem, ↓reduceIte]) ?_
 refine CwpE.cut (st := ⟨(173, vb false) :: bnW a h b hi bi k sm 5, O⟩) ?_ ?_
 ·simp only [go_sem, ↓reduceIte, Nat.reduceLT, Nat.reduceEqDiff, Int.reduceEq]
  exact ⟨_, WkE.keep (by simp only [go_sem, ↓reduceIte, Nat.reduceEqDiff]), rfl⟩
 refine CwpE.cond_f (by simp only [go_sem, ↓reduceIte]) ?_
 refine CwpE.cut (st := ⟨(186, vb true) :: bnW a h b hi bi k sm 5, O⟩) ?_ ?_
 ·simp only [go_sem, ↓reduceIte, Nat.reduceLT, Nat.reduceEqDiff]
  exact ⟨_, WkE.keep (by simp only [go_sem, ↓reduceIte, Nat.reduceEqDiff]), rfl⟩
 refine CwpE.cond_t (by simp only [go_sem, ↓reduceIte]) ?_
 subst hO
 refine CwpE.wk (s' := ⟨[(3, vi b), (9, .ref 2 1 0 0), (8, .ref 1 1 0 0), (13, vi hi), (14, vi bi)], bnT m hi hd bi b0⟩) (WkE.keep (by simp only [go_sem, ↓reduceIte, Nat.reduceEqDiff])) ?_
 refine key.mono ?_
 rintro e s ⟨rfl, s', hw, rfl⟩
 simp only [inBlockE]
 exact ⟨s, .refl _ _, hQ _ (hw.trans ((WkE.keep (by simp only [go_sem, ↓reduceIte, Nat.reduceEqDiff])).trans hW))⟩
end Go.Proofs.YtnncijjkbonokaaDoor
namespace Go.Proofs.YtnncijjkbonokaaDoor
open Go.RowKit Dak
abbrev bnV7 : CCode := match bnS with | .block _ (.seq _ (.cond _ _ (.seq _ (.cond _ _ (.seq _ (.cond _ _ (.seq _ (.cond _ _ (.seq _ (.cond _ _ (.seq _ (.cond _ _ (.seq _ (.cond _ _ (.seq _ (.cond _ (.seq _ (.block _ (.loop b))) _))))))))))))))))  => b | _ => .skip
abbrev bnV9 : CCode := match bnV7 with | .seq _ (.seq (.block _ (.block _ (.loop b))) _) => b | _ => .skip
abbrev bnU (b : Int) (i : Nat) : List (Nat × AV) := [(3, vi b), (9, .ref 2 1 0 0), (8, .ref 1 1 0 0), (17, vi i)]
abbrev hnO (h : List (List Nt)) : AObj := .arr h.length 1 34 (h.map vbar)
abbrev hnV (id : Nat) (h : List (List Nt)) : AV := .own id h.length 0 h.length
def growH (b : Int) (h : List (List Nt)) : List (List Nt) := h ++ List.replicate ((30 + aroundL b 5).toNat - h.length) [nt20]
theorem bn_v10_r (F0 : FD) (w0 : World) (m : List (List (List Nt))) (b : Int) (hb : I64 b) (h0 : List (List Nt)) (hbl : h0.length <= 1000000) (hlt : (h0.length : Int) < 30 + aroundL b 5)
 {Q : Exit -> Est -> Prop} (hQ : ∀ s, WkE 263 s ⟨bnU b 0, bnO m 1 [hnV 4 (h0 ++ [[nt20]])] ++ [hnO (h0 ++ [[nt20]])]⟩ -> Q .normal s) : CwpE Tryd.prog F0 w0 263 bnV9 Q ⟨bnU b 0, bnO m 1 [hnV 4 h0] ++ [hnO h0]⟩ := by
 have z0 : ((0 : Nat) : Int) = 0 := rfl
 have z1 : ((1 : Nat) : Int) = 1 := rfl
 have z2 : ((2 : Nat) : Int) = 2 := rfl
 have z3 : ((3 : Nat) : Int) = 3 := rfl
 have g := around_bd (n := b) (most := 5) (by omega)
 have bn : I64 5 := ⟨by decide, by decide⟩
 have wv : IntKind.i64.wrap (30 + aroundL b 5) = 30 + aroundL b 5 := wrap_id (by omega) (by omega)
 have q : (h0.length + 1) * 24 <= 140737488355328 := by omega
 have htk : List.take h0.length (h0.map vbar) = h0.map vbar := List.take_of_length_le (by simp)
 have e1 : hnV 4 (h0 ++ [[nt20]]) = .own 4 (h0.length + 1) 0 (h0.length + 1) := by unfold hnV; rw [List.length_append]; rfl
 have e2 : hnO (h0 ++ [[nt20]]) = .arr (h0.length + 1) 1 34 (h0.map vbar ++ [vbar [nt20]]) := by unfold hnO; rw [List.length_append, List.map_append]; rfl
 rw [e1, e2] at hQ
 unfold bnV9 bnV7 bnS c11
 refine CwpE.vc ?_
 simp only [go_sem, ↓reduceIte, Nat.reduceLT, Nat.reduceEqDiff, Int.reduceToNat, Int.reduceLT, Int.reduceToNat, Int.le_refl, List.cons_append, List.nil_append, z0, z1]
 refine callT (Around_s b 5 hb bn) rfl ?_
 simp only [go_sem, Nat.reducePow, Nat.reduceLeDiff, ↓reduceIte, Nat.reduceLT, Nat.reduceEqDiff, Nat.reduceAdd, Nat.reduceMul, Int.reduceToNat, Int.reduceLT, Int.reduceToNat, Int.le_refl, List.cons_append, List.nil_append, z0, z1, wv, hlt, q, htk]
 exact hQ _ (WkE.keep (by simp only [go_sem, ↓reduceIte, Nat.reduceEqDiff]))
theorem bn_v10_e (F0 : FD) (w0 : World) (m : List (List (List Nt))) (b : Int) (hb : I64 b) (h0 : List (List Nt)) (hlt : ¬ (h0.length : Int) < 30 + aroundL b 5)
 {Q : Exit -> Est -> Prop} (hQ : ∀ s, WkE 263 s ⟨bnU b 0, bnO m 1 [hnV 4 h0] ++ [hnO h0]⟩ -> Q (.exit 9) s) : CwpE Tryd.prog F0 w0 263 bnV9 Q ⟨bnU b 0, bnO m 1 [hnV 4 h0] ++ [hnO h0]⟩ := by
 have z0 : ((0 : Nat) : Int) = 0 := rfl
 have z1 : ((1 : Nat) : Int) = 1 := rfl
 have z2 : ((2 : Nat) : Int) = 2 := rfl
 have z3 : ((3 : Nat) : Int) = 3 := rfl
 have g := around_bd (n := b) (most := 5) (by omega)
 have bn : I64 5 := ⟨by decide, by decide⟩
 have wv : IntKind.i64.wrap (30 + aroundL b 5) = 30 + aroundL b 5 := wrap_id (by omega) (by omega)
 unfold bnV9 bnV7 bnS c11
 refine CwpE.vc ?_
 simp only [go_sem, ↓reduceIte, Nat.reduceLT, Nat.reduceEqDiff, Int.reduceToNat, Int.reduceLT, Int.reduceToNat, Int.le_refl, List.cons_append, List.nil_append, z0, z1]
 refine callT (Around_s b 5 hb bn) rfl ?_
 simp only [go_sem, ↓reduceIte, Nat.reduceLT, Nat.reduceEqDiff, Int.reduceToNat, Int.reduceLT, Int.reduceToNat, Int.le_refl, z0, z1, wv, hlt]
 exact hQ _ (WkE.keep (by simp only [go_sem, ↓reduceIte, Nat.reduceEqDiff]))
theorem bn_v10 (F0 : FD) (w0 : World) (m : List (List (List Nt))) (b : Int) (hb : I64 b) (h0 : List (List Nt)) (hbl : h0.length <= 100000)
 {Q : Exit -> Est -> Prop} (hQ : ∀ s, WkE 263 s ⟨bnU b 1, bnO m 1 [hnV 4 (growH b h0)] ++ [hnO (growH b h0)]⟩ -> Q .normal s) : CwpE Tryd.prog F0 w0 263 bnV7 Q ⟨bnU b 0, bnO m 1 [hnV 4 h0] ++ [hnO h0]⟩ := by
 have z0 : ((0 : Nat) : Int) = 0 := rfl
 have z1 : ((1 : Nat) : Int) = 1 := rfl
 have z2 : ((2 : Nat) : Int) = 2 := rfl
 have z3 : ((3 : Nat) : Int) = 3 := rfl
 have g := around_bd (n := b) (most := 5) (by omega)
 have bn : I64 5 := ⟨by decide, by decide⟩
 have wv : IntKind.i64.wrap (30 + aroundL b 5) = 30 + aroundL b 5 := wrap_id (by omega) (by omega)
 have key : CwpE Tryd.prog F0 w0 263 (.block 9 (.loop bnV9)) (fun e s => ∃ s', WkE 263 s s' /\ e = .normal /\ s' = ⟨bnU b 0, bnO m 1 [hnV 4 (growH b h0)] ++ [hnO (growH b h0)]⟩) ⟨bnU b 0, bnO m 1 [hnV 4 h0] ++ [hnO h0]⟩ := by
  refine CwpE.block ?_
  refine loopXC 9 (fun z s => ∃ t : Nat, t + z = (30 + aroundL b 5).toNat - h0.length /\ s = ⟨bnU b 0, bnO m 1 [hnV 4 (h0 ++ List.replicate t [nt20])] ++ [hnO (h0 ++ List.replicate t [nt20])]⟩)
   (fun s => s = ⟨bnU b 0, bnO m 1 [hnV 4 (growH b h0)] ++ [hnO (growH b h0)]⟩) ((30 + aroundL b 5).toNat - h0.length) _ (.refl _ _) ⟨0, by omega, by simp⟩ ?_ ?_
  rotate_left
  ·rintro s rfl
   simp only [inBlockE, if_true]
   exact ⟨_, .refl _ _, trivial, rfl⟩
  rintro z s ⟨t, ht, rfl⟩
  cases z with
  | zero =>
   obtain rfl : t = (30 + aroundL b 5).toNat - h0.length := by omega
   refine bn_v10_e F0 w0 m b hb _ (by simp; omega) fun s hs => ?_
   simp only [RoundX, if_true]
   exact ⟨_, hs, rfl⟩
  | succ z =>
   refine bn_v10_r F0 w0 m b hb _ (by simp; omega) (by simp; omega) fun s hs => ⟨z, _, by omega, hs, t + 1, by omega, ?_⟩
   rw [List.append_assoc, <- List.replicate_succ']
 obtain ⟨O, hO⟩ : ∃ O, bnO m 1 [hnV 4 h0] ++ [hnO h0] = O := ⟨_, rfl⟩
 have wi : IntKind.i64.wrap (0 + 1) = 1 := rfl
 unfold bnV7 bnS c11
 refine CwpE.cut (st := ⟨bnU b 0, bnO m 1 [hnV 4 h0] ++ [hnO h0]⟩) ?_ ?_
 ·simp only [go_sem, ↓reduceIte, Nat.reduceLT, Nat.reduceEqDiff, Int.reduceLT, List.cons_append, List.nil_append, z0, z1]
  exact ⟨_, WkE.keep (by simp only [go_sem, ↓reduceIte, Nat.reduceEqDiff]), rfl⟩
 refine CwpE.seqJ (fun s => s = ⟨bnU b 0, bnO m 1 [hnV 4 (growH b h0)] ++ [hnO (growH b h0)]⟩) ?_ ?_
 ·refine CwpE.block ?_
  refine key.mono ?_
  rintro e s ⟨s', hw, rfl, rfl⟩
  exact ⟨_, hw, rfl⟩
 rintro _ rfl
 refine CwpE.vc ?_
 simp only [go_sem, ↓reduceIte, Nat.reduceLT, Nat.reduceEqDiff, List.cons_append, List.nil_append, z0, wi]
 exact hQ _ (WkE.keep (by simp only [go_sem, ↓reduceIte, Nat.reduceEqDiff]; rfl))
theorem bn_v20_r (F0 : FD) (w0 : World) (m : List (List (List Nt))) (b : Int) (hb : I64 b) (h0 : List (List Nt)) (h1 : List (List Nt)) (hbl : h0.length <= 1000000) (hlt : (h0.length : Int) < 30 + aroundL b 5)
 {Q : Exit -> Est -> Prop} (hQ : ∀ s, WkE 263 s ⟨bnU b 0, bnO m 2 [hnV 4 (h0 ++ [[nt20]]), hnV 5 h1] ++ [hnO (h0 ++ [[nt20]]), hnO h1]⟩ -> Q .normal s) : CwpE Tryd.prog F0 w0 263 bnV9 Q ⟨bnU b 0, bnO m 2 [hnV 4 h0, hnV 5 h1] ++ [hnO h0, hnO h1]⟩ := by
 have z0 : ((0 : Nat) : Int) = 0 := rfl
 have z1 : ((1 : Nat) : Int) = 1 := rfl
 have z2 : ((2 : Nat) : Int) = 2 := rfl
 have z3 : ((3 : Nat) : Int) = 3 := rfl
 have g := around_bd (n := b) (most := 5) (by omega)
 have bn : I64 5 := ⟨by decide, by decide⟩
 have wv : IntKind.i64.wrap (30 + aroundL b 5) = 30 + aroundL b 5 := wrap_id (by omega) (by omega)
 have q : (h0.length + 1) * 24 <= 140737488355328 := by omega
 have htk : List.take h0.length (h0.map vbar) = h0.map vbar := List.take_of_length_le (by simp)
 have e1 : hnV 4 (h0 ++ [[nt20]]) = .own 4 (h0.length + 1) 0 (h0.length + 1) := by unfold hnV; rw [List.length_append]; rfl
 have e2 : hnO (h0 ++ [[nt20]]) = .arr (h0.length + 1) 1 34 (h0.map vbar ++ [vbar [nt20]]) := by unfold hnO; rw [List.length_append, List.map_append]; rfl
 rw [e1, e2] at hQ
 unfold bnV9 bnV7 bnS c11
 refine CwpE.vc ?_
 simp only [go_sem, ↓reduceIte, Nat.reduceLT, Nat.reduceEqDiff, Int.reduceToNat, Int.reduceLT, Int.reduceToNat, Int.le_refl, List.cons_append, List.nil_append, z0, z2]
 refine callT (Around_s b 5 hb bn) rfl ?_
 simp only [go_sem, Nat.reducePow, Nat.reduceLeDiff, ↓reduceIte, Nat.reduceLT, Nat.reduceEqDiff, Nat.reduceAdd, Nat.reduceMul, Int.reduceToNat, Int.reduceLT, Int.reduceToNat, Int.le_refl, List.cons_append, List.nil_append, z0, z2, wv, hlt, q, htk]
 exact hQ _ (WkE.keep (by simp only [go_sem, ↓reduceIte, Nat.reduceEqDiff]))
theorem bn_v20_e (F0 : FD) (w0 : World) (m : List (List (List Nt))) (b : Int) (hb : I64 b) (h0 : List (List Nt)) (h1 : List (List Nt)) (hlt : ¬ (h0.length : Int) < 30 + aroundL b 5)
 {Q : Exit -> Est -> Prop} (hQ : ∀ s, WkE 263 s ⟨bnU b 0, bnO m 2 [hnV 4 h0, hnV 5 h1] ++ [hnO h0, hnO h1]⟩ -> Q (.exit 9) s) : CwpE Tryd.prog F0 w0 263 bnV9 Q ⟨bnU b 0, bnO m 2 [hnV 4 h0, hnV 5 h1] ++ [hnO h0, hnO h1]⟩ := by
 have z0 : ((0 : Nat) : Int) = 0 := rfl
 have z1 : ((1 : Nat) : Int) = 1 := rfl
 have z2 : ((2 : Nat) : Int) = 2 := rfl
 have z3 : ((3 : Nat) : Int) = 3 := rfl
 have g := around_bd (n := b) (most := 5) (by omega)
 have bn : I64 5 := ⟨by decide, by decide⟩
 have wv : IntKind.i64.wrap (30 + aroundL b 5) = 30 + aroundL b 5 := wrap_id (by omega) (by omega)
 unfold bnV9 bnV7 bnS c11
 refine CwpE.vc ?_
 simp only [go_sem, ↓reduceIte, Nat.reduceLT, Nat.reduceEqDiff, Int.reduceToNat, Int.reduceLT, Int.reduceToNat, Int.le_refl, List.cons_append, List.nil_append, z0, z2]
 refine callT (Around_s b 5 hb bn) rfl ?_
 simp only [go_sem, ↓reduceIte, Nat.reduceLT, Nat.reduceEqDiff, Int.reduceToNat, Int.reduceLT, Int.reduceToNat, Int.le_refl, z0, z2, wv, hlt]
 exact hQ _ (WkE.keep (by simp only [go_sem, ↓reduceIte, Nat.reduceEqDiff]))
theorem bn_v20 (F0 : FD) (w0 : World) (m : List (List (List Nt))) (b : Int) (hb : I64 b) (h0 : List (List Nt)) (h1 : List (List Nt)) (hbl : h0.length <= 100000)
 {Q : Exit -> Est -> Prop} (hQ : ∀ s, WkE 263 s ⟨bnU b 1, bnO m 2 [hnV 4 (growH b h0), hnV 5 h1] ++ [hnO (growH b h0), hnO h1]⟩ -> Q .normal s) : CwpE Tryd.prog F0 w0 263 bnV7 Q ⟨bnU b 0, bnO m 2 [hnV 4 h0, hnV 5 h1] ++ [hnO h0, hnO h1]⟩ := by
 have z0 : ((0 : Nat) : Int) = 0 := rfl
 have z1 : ((1 : Nat) : Int) = 1 := rfl
 have z2 : ((2 : Nat) : Int) = 2 := rfl
 have z3 : ((3 : Nat) : Int) = 3 := rfl
 have g := around_bd (n := b) (most := 5) (by omega)
 have bn : I64 5 := ⟨by decide, by decide⟩
 have wv : IntKind.i64.wrap (30 + aroundL b 5) = 30 + aroundL b 5 := wrap_id (by omega) (by omega)
 have key : CwpE Tryd.prog F0 w0 263 (.block 9 (.loop bnV9)) (fun e s => ∃ s', WkE 263 s s' /\ e = .normal /\ s' = ⟨bnU b 0, bnO m 2 [hnV 4 (growH b h0), hnV 5 h1] ++ [hnO (growH b h0), hnO h1]⟩) ⟨bnU b 0, bnO m 2 [hnV 4 h0, hnV 5 h1] ++ [hnO h0, hnO h1]⟩ := by
  refine CwpE.block ?_
  refine loopXC 9 (fun z s => ∃ t : Nat, t + z = (30 + aroundL b 5).toNat - h0.length /\ s = ⟨bnU b 0, bnO m 2 [hnV 4 (h0 ++ List.replicate t [nt20]), hnV 5 h1] ++ [hnO (h0 ++ List.replicate t [nt20]), hnO h1]⟩)
   (fun s => s = ⟨bnU b 0, bnO m 2 [hnV 4 (growH b h0), hnV 5 h1] ++ [hnO (growH b h0), hnO h1]⟩) ((30 + aroundL b 5).toNat - h0.length) _ (.refl _ _) ⟨0, by omega, by simp⟩ ?_ ?_
  rotate_left
  ·rintro s rfl
   simp only [inBlockE, if_true]
   exact ⟨_, .refl _ _, trivial, rfl⟩
  rintro z s ⟨t, ht, rfl⟩
  cases z with
  | zero =>
   obtain rfl : t = (30 + aroundL b 5).toNat - h0.length := by omega
   refine bn_v20_e F0 w0 m b hb _ h1 (by simp; omega) fun s hs => ?_
   simp only [RoundX, if_true]
   exact ⟨_, hs, rfl⟩
  | succ z =>
   refine bn_v20_r F0 w0 m b hb _ h1 (by simp; omega) (by simp; omega) fun s hs => ⟨z, _, by omega, hs, t + 1, by omega, ?_⟩
   rw [List.append_assoc, <- List.replicate_succ']
 obtain ⟨O, hO⟩ : ∃ O, bnO m 2 [hnV 4 h0, hnV 5 h1] ++ [hnO h0, hnO h1] = O := ⟨_, rfl⟩
 have wi : IntKind.i64.wrap (0 + 1) = 1 := rfl
 unfold bnV7 bnS c11
 refine CwpE.cut (st := ⟨bnU b 0, bnO m 2 [hnV 4 h0, hnV 5 h1] ++ [hnO h0, hnO h1]⟩) ?_ ?_
 ·simp only [go_sem, ↓reduceIte, Nat.reduceLT, Nat.reduceEqDiff, Int.reduceLT, List.cons_append, List.nil_append, z0, z2]
  exact ⟨_, WkE.keep (by simp only [go_sem, ↓reduceIte, Nat.reduceEqDiff]), rfl⟩
 refine CwpE.seqJ (fun s => s = ⟨bnU b 0, bnO m 2 [hnV 4 (growH b h0), hnV 5 h1] ++ [hnO (growH b h0), hnO h1]⟩) ?_ ?_
 ·refine CwpE.block ?_
  refine key.mono ?_
  rintro e s ⟨s', hw, rfl, rfl⟩
  exact ⟨_, hw, rfl⟩
 rintro _ rfl
 refine CwpE.vc ?_
 simp only [go_sem, ↓reduceIte, Nat.reduceLT, Nat.reduceEqDiff, List.cons_append, List.nil_append, z0, wi]
 exact hQ _ (WkE.keep (by simp only [go_sem, ↓reduceIte, Nat.reduceEqDiff]; rfl))
theorem bn_v21_r (F0 : FD) (w0 : World) (m : List (List (List Nt))) (b : Int) (hb : I64 b) (h0 : List (List Nt)) (h1 : List (List Nt)) (hbl : h1.length <= 1000000) (hlt : (h1.length : Int) < 30 + aroundL b 5)
 {Q : Exit -> Est -> Prop} (hQ : ∀ s, WkE 263 s ⟨bnU b 1, bnO m 2 [hnV 4 h0, hnV 5 (h1 ++ [[nt20]])] ++ [hnO h0, hnO (h1 ++ [[nt20]])]⟩ -> Q .normal s) : CwpE Tryd.prog F0 w0 263 bnV9 Q ⟨bnU b 1, bnO m 2 [hnV 4 h0, hnV 5 h1] ++ [hnO h0, hnO h1]⟩ := by
 have z0 : ((0 : Nat) : Int) = 0 := rfl
 have z1 : ((1 : Nat) : Int) = 1 := rfl
 have z2 : ((2 : Nat) : Int) = 2 := rfl
 have z3 : ((3 : Nat) : Int) = 3 := rfl
 have g := around_bd (n := b) (most := 5) (by omega)
 have bn : I64 5 := ⟨by decide, by decide⟩
 have wv : IntKind.i64.wrap (30 + aroundL b 5) = 30 + aroundL b 5 := wrap_id (by omega) (by omega)
 have q : (h1.length + 1) * 24 <= 140737488355328 := by omega
 have htk : List.take h1.length (h1.map vbar) = h1.map vbar := List.take_of_length_le (by simp)
 have e1 : hnV 5 (h1 ++ [[nt20]]) = .own 5 (h1.length + 1) 0 (h1.length + 1) := by unfold hnV; rw [List.length_append]; rfl
 have e2 : hnO (h1 ++ [[nt20]]) = .arr (h1.length + 1) 1 34 (h1.map vbar ++ [vbar [nt20]]) := by unfold hnO; rw [List.length_append, List.map_append]; rfl
 rw [e1, e2] at hQ
 unfold bnV9 bnV7 bnS c11
 refine CwpE.vc ?_
 simp only [go_sem, ↓reduceIte, Nat.reduceLT, Nat.reduceEqDiff, Int.reduceToNat, Int.reduceLT, Int.reduceLE, Int.reduceToNat, List.cons_append, List.nil_append, z1, z2]
 refine callT (Around_s b 5 hb bn) rfl ?_
 simp only [go_sem, Nat.reducePow, Nat.reduceLeDiff, ↓reduceIte, Nat.reduceLT, Nat.reduceEqDiff, Nat.reduceAdd, Nat.reduceMul, Int.reduceToNat, Int.reduceLT, Int.reduceLE, Int.reduceToNat, List.cons_append, List.nil_append, z1, z2, wv, hlt, q, htk]
 exact hQ _ (WkE.keep (by simp only [go_sem, ↓reduceIte, Nat.reduceEqDiff]))
theorem bn_v21_e (F0 : FD) (w0 : World) (m : List (List (List Nt))) (b : Int) (hb : I64 b) (h0 : List (List Nt)) (h1 : List (List Nt)) (hlt : ¬ (h1.length : Int) < 30 + aroundL b 5)
 {Q : Exit -> Est -> Prop} (hQ : ∀ s, WkE 263 s ⟨bnU b 1, bnO m 2 [hnV 4 h0, hnV 5 h1] ++ [hnO h0, hnO h1]⟩ -> Q (.exit 9) s) : CwpE Tryd.prog F0 w0 263 bnV9 Q ⟨bnU b 1, bnO m 2 [hnV 4 h0, hnV 5 h1] ++ [hnO h0, hnO h1]⟩ := by
 have z0 : ((0 : Nat) : Int) = 0 := rfl
 have z1 : ((1 : Nat) : Int) = 1 := rfl
 have z2 : ((2 : Nat) : Int) = 2 := rfl
 have z3 : ((3 : Nat) : Int) = 3 := rfl
 have g := around_bd (n := b) (most := 5) (by omega)
 have bn : I64 5 := ⟨by decide, by decide⟩
 have wv : IntKind.i64.wrap (30 + aroundL b 5) = 30 + aroundL b 5 := wrap_id (by omega) (by omega)
 unfold bnV9 bnV7 bnS c11
 refine CwpE.vc ?_
 simp only [go_sem, ↓reduceIte, Nat.reduceLT, Nat.reduceEqDiff, Int.reduceToNat, Int.reduceLT, Int.reduceLE, Int.reduceToNat, List.cons_append, List.nil_append, z1, z2]
 refine callT (Around_s b 5 hb bn) rfl ?_
 simp only [go_sem, ↓reduceIte, Nat.reduceLT, Nat.reduceEqDiff, Int.reduceToNat, Int.reduceLT, Int.reduceLE, Int.reduceToNat, z1, z2, wv, hlt]
 exact hQ _ (WkE.keep (by simp only [go_sem, ↓reduceIte, Nat.reduceEqDiff]))
theorem bn_v21 (F0 : FD) (w0 : World) (m : List (List (List Nt))) (b : Int) (hb : I64 b) (h0 : List (List Nt)) (h1 : List (List Nt)) (hbl : h1.length <= 100000)
 {Q : Exit -> Est -> Prop} (hQ : ∀ s, WkE 263 s ⟨bnU b 2, bnO m 2 [hnV 4 h0, hnV 5 (growH b h1)] ++ [hnO h0, hnO (growH b h1)]⟩ -> Q .normal s) : CwpE Tryd.prog F0 w0 263 bnV7 Q ⟨bnU b 1, bnO m 2 [hnV 4 h0, hnV 5 h1] ++ [hnO h0, hnO h1]⟩ := by
 have z0 : ((0 : Nat) : Int) = 0 := rfl
 have z1 : ((1 : Nat) : Int) = 1 := rfl
 have z2 : ((2 : Nat) : Int) = 2 := rfl
 have z3 : ((3 : Nat) : Int) = 3 := rfl
 have g := around_bd (n := b) (most := 5) (by omega)
 have bn : I64 5 := ⟨by decide, by decide⟩
 have wv : IntKind.i64.wrap (30 + aroundL b 5) = 30 + aroundL b 5 := wrap_id (by omega) (by omega)
 have key : CwpE Tryd.prog F0 w0 263 (.block 9 (.loop bnV9)) (fun e s => ∃ s', WkE 263 s s' /\ e = .normal /\ s' = ⟨bnU b 1, bnO m 2 [hnV 4 h0, hnV 5 (growH b h1)] ++ [hnO h0, hnO (growH b h1)]⟩) ⟨bnU b 1, bnO m 2 [hnV 4 h0, hnV 5 h1] ++ [hnO h0, hnO h1]⟩ := by
  refine CwpE.block ?_
  refine loopXC 9 (fun z s => ∃ t : Nat, t + z = (30 + aroundL b 5).toNat - h1.length /\ s = ⟨bnU b 1, bnO m 2 [hnV 4 h0, hnV 5 (h1 ++ List.replicate t [nt20])] ++ [hnO h0, hnO (h1 ++ List.replicate t [nt20])]⟩)
   (fun s => s = ⟨bnU b 1, bnO m 2 [hnV 4 h0, hnV 5 (growH b h1)] ++ [hnO h0, hnO (growH b h1)]⟩) ((30 + aroundL b 5).toNat - h1.length) _ (.refl _ _) ⟨0, by omega, by simp⟩ ?_ ?_
  rotate_left
  ·rintro s rfl
   simp only [inBlockE, if_true]
   exact ⟨_, .refl _ _, trivial, rfl⟩
  rintro z s ⟨t, ht, rfl⟩
  cases z with
  | zero =>
   obtain rfl : t = (30 + aroundL b 5).toNat - h1.length := by omega
   refine bn_v21_e F0 w0 m b hb h0 _ (by simp; omega) fun s hs => ?_
   simp only [RoundX, if_true]
   exact ⟨_, hs, rfl⟩
  | succ z =>
   refine bn_v21_r F0 w0 m b hb h0 _ (by simp; omega) (by simp; omega) fun s hs => ⟨z, _, by omega, hs, t + 1, by omega, ?_⟩
   rw [List.append_assoc, <- List.replicate_succ']
 obtain ⟨O, hO⟩ : ∃ O, bnO m 2 [hnV 4 h0, hnV 5 h1] ++ [hnO h0, hnO h1] = O := ⟨_, rfl⟩
 have wi : IntKind.i64.wrap (1 + 1) = 2 := rfl
 unfold bnV7 bnS c11
 refine CwpE.cut (st := ⟨bnU b 1, bnO m 2 [hnV 4 h0, hnV 5 h1] ++ [hnO h0, hnO h1]⟩) ?_ ?_
 ·simp only [go_sem, ↓reduceIte, Nat.reduceLT, Nat.reduceEqDiff, Int.reduceLT, List.cons_append, List.nil_append, z1, z2]
  exact ⟨_, WkE.keep (by simp only [go_sem, ↓reduceIte, Nat.reduceEqDiff]), rfl⟩
 refine CwpE.seqJ (fun s => s = ⟨bnU b 1, bnO m 2 [hnV 4 h0, hnV 5 (growH b h1)] ++ [hnO h0, hnO (growH b h1)]⟩) ?_ ?_
 ·refine CwpE.block ?_
  refine key.mono ?_
  rintro e s ⟨s', hw, rfl, rfl⟩
  exact ⟨_, hw, rfl⟩
 rintro _ rfl
 refine CwpE.vc ?_
 simp only [go_sem, ↓reduceIte, Nat.reduceLT, Nat.reduceEqDiff, List.cons_append, List.nil_append, z1, wi]
 exact hQ _ (WkE.keep (by simp only [go_sem, ↓reduceIte, Nat.reduceEqDiff]; rfl))
end Go.Proofs.YtnncijjkbonokaaDoor
namespace Go.Proofs.YtnncijjkbonokaaDoor
open Go.RowKit Dak
abbrev bnM : CCode := match c11 with | .seq _ (.seq _ (.seq _ b)) => b | _ => .skip
abbrev bnM9 : CCode := match bnM with | .seq _ (.seq _ (.seq _ (.seq _ (.seq _ (.seq _ b))))) => b | _ => .skip
theorem bn_m9 (F0 : FD) (w0 : World) (m r : List (List (List Nt))) (a h b : Int) (hh : I64 h) (hi bi k : Nat) (sm : Bool) (O : List AObj)
 (hS : CwpE Tryd.prog F0 w0 263 bnS (fun e s => e = .normal /\ ∃ s', WkE 263 s s' /\ s' = ⟨bnZ, bnR m r⟩) ⟨bnW a h b hi bi k sm (aroundL h 9), O⟩) :
 CwpE Tryd.prog F0 w0 263 bnM9 (retE [.cell 8 true 1] (vmel r)) ⟨(13, vi hi) :: (14, vi bi) :: (15, vi k) :: (16, vb sm) :: bnE a h b, O⟩ := by
 have b9 : I64 9 := ⟨by decide, by decide⟩
 unfold bnM9 bnM c11
 refine CwpE.seqJ (fun s => s = ⟨bnZ, bnR m r⟩) ?_ ?_
 ·refine CwpE.cut (st := ⟨bnW a h b hi bi k sm (aroundL h 9), O⟩) ?_ ?_
  ·simp only [go_sem, ↓reduceIte, Nat.reduceLT, Nat.reduceEqDiff]
   refine callT (Around_s h 9 hh b9) rfl ?_
   simp only [go_sem]
   exact ⟨_, WkE.keep (by simp only [go_sem, ↓reduceIte, Nat.reduceEqDiff]), rfl⟩
  refine hS.mono ?_
  rintro e s ⟨rfl, s', hw, hs⟩
  exact ⟨_, hw, hs⟩
 rintro _ rfl
 refine CwpE.vc ?_
 simp only [go_sem, ↓reduceIte, Nat.reduceEqDiff]
 exact .tree _ rfl
end Go.Proofs.YtnncijjkbonokaaDoor
namespace Go.Proofs.YtnncijjkbonokaaDoor
open Go.RowKit Dak
theorem quoI {a : Int} (ha : I64 a) (n : Nat) (hn : 2 <= n) : I64 (a.tdiv n) /\ IntKind.i64.wrap (a.tdiv n) = a.tdiv n := by
 have e : (a.tdiv n).natAbs = a.natAbs / n := by rw [Int.natAbs_tdiv]; rfl
 have h1 := ha.1; have h2 := ha.2
 have : a.natAbs / n <= a.natAbs / 2 := Nat.div_le_div_left hn (by omega)
 have q : I64 (a.tdiv n) := ⟨by omega, by omega⟩
 exact ⟨q, wrap_id q.1 q.2⟩
theorem maxOne (L : Nat) : (if (L : Int) < 1 then 1 else (L : Int)) = ((max L 1 : Nat) : Int) := by split <;> omega
theorem bn_midT (F0 : FD) (w0 : World) (m r : List (List (List Nt))) (a h b : Int) (ha : I64 a) (hh : I64 h) (hi : Nat) (hd : List (List Nt)) (bi : Nat) (b0 : List Nt) (T : BnT m hi hd bi b0) (k : Nat)
 (ehi : aroundL a (m.length : Nat) = ((hi : Nat) : Int)) (ebi : aroundL (a.tdiv (2 : Nat)) (hd.length : Nat) = (bi : Nat)) (ek : aroundL (a.tdiv (8 : Nat)) ((max b0.length 1 : Nat) : Int) = (k : Nat))
 (hS : CwpE Tryd.prog F0 w0 263 bnS (fun e s => e = .normal /\ ∃ s', WkE 263 s s' /\ s' = ⟨bnZ, bnR m r⟩) ⟨bnW a h b hi bi k (decide (0 < b0.length)) (aroundL h 9), bnT m hi hd bi b0⟩) :
 CwpE Tryd.prog F0 w0 263 bnM (retE [.cell 8 true 1] (vmel r)) ⟨bnE a h b, bnT m hi hd bi b0⟩ := by
 obtain ⟨h1, h2, h3⟩ := T
 have hhi : hi < m.length := (List.getElem?_eq_some_iff.1 h1).1
 have hbi : bi < hd.length := (List.getElem?_eq_some_iff.1 h2).1
 have hml := h3.1
 have hhl := (h3.2 hd (List.mem_of_getElem? h1))
 have hbl := hhl.2 b0 (List.mem_of_getElem? h2)
 have hnl := hhl.1
 have gH : ((m.map vhand).set hi (.own 4 hd.length 0 hd.length))[hi]? = some (.own 4 hd.length 0 hd.length) := List.getElem?_set_self (by simpa using hhi)
 have gB : ((hd.map vbar).set bi (brV b0))[bi]? = some (brV b0) := List.getElem?_set_self (by simpa using hbi)
 obtain ⟨q2, w2⟩ := quoI ha 2 (by omega)
 obtain ⟨q8, w8⟩ := quoI ha 8 (by omega)
 have t2 : ((2 : Nat) : Int) = 2 := rfl
 have t8 : ((8 : Nat) : Int) = 8 := rfl
 rw [t2] at ebi q2 w2
 rw [t8] at ek q8 w8
 have n0 : ¬ ((m.length : Nat) : Int) = 0 := by omega
 have N0 : ¬ ((hd.length : Nat) : Int) = 0 := by omega
 have i0 : (0 : Int) <= ((hi : Nat) : Int) := by omega
 have i1 : ((hi : Nat) : Int) < ((m.length : Nat) : Int) := by omega
 have j0 : (0 : Int) <= (bi : Int) := by omega
 have j1 : (bi : Int) < ((hd.length : Nat) : Int) := by omega
 have L0 : decide ((0 : Int) < ((b0.length : Nat) : Int)) = decide (0 < b0.length) := by congr 1; apply propext; omega
 have bnI : I64 ((m.length : Nat) : Int) := ⟨by omega, by omega⟩
 have bNI : I64 ((hd.length : Nat) : Int) := ⟨by omega, by omega⟩
 have bLI : I64 ((max b0.length 1 : Nat) : Int) := ⟨by omega, by omega⟩
 unfold bnT at hS ⊢
 obtain ⟨X, hX⟩ : ∃ X, (m.map vhand).set hi (.own 4 hd.length 0 hd.length) = X := ⟨_, rfl⟩
 obtain ⟨Y, hY⟩ : ∃ Y, (hd.map vbar).set bi (brV b0) = Y := ⟨_, rfl⟩
 rw [hX] at gH hS ⊢
 rw [hY] at gB hS ⊢
 unfold brV at gB
 unfold bnM c11
 refine CwpE.cut (st := ⟨bnE a h b, bnO m m.length X ++ [.arr hd.length 1 34 Y, brO b0]⟩) ?_ ?_
 ·simp only [go_sem, ↓reduceIte, Nat.reduceLT, Nat.reduceEqDiff, List.cons_append, List.nil_append, n0]
  exact ⟨_, WkE.keep (by simp only [go_sem, ↓reduceIte, Nat.reduceEqDiff]), rfl⟩
 refine CwpE.cut (st := ⟨(13, vi hi) :: bnE a h b, bnO m m.length X ++ [.arr hd.length 1 34 Y, brO b0]⟩) ?_ ?_
 ·simp only [go_sem, ↓reduceIte, Nat.reduceLT, Nat.reduceEqDiff, List.cons_append, List.nil_append]
  refine callT (Around_s a m.length ha bnI) rfl ?_
  simp only [go_sem, ↓reduceIte, Nat.reduceLT, ehi]
  exact ⟨_, WkE.keep (by simp only [go_sem, ↓reduceIte, Nat.reduceEqDiff]), rfl⟩
 refine CwpE.cut (st := ⟨(13, vi hi) :: bnE a h b, bnO m m.length X ++ [.arr hd.length 1 34 Y, brO b0]⟩) ?_ ?_
 ·simp only [go_sem, ↓reduceIte, Nat.reduceLT, Nat.reduceEqDiff, List.cons_append, List.nil_append, i0, i1, N0, gH]
  exact ⟨_, WkE.keep (by simp only [go_sem, ↓reduceIte, Nat.reduceEqDiff]), rfl⟩
 refine CwpE.cut (st := ⟨(13, vi hi) :: (14, vi bi) :: bnE a h b, bnO m m.length X ++ [.arr hd.length 1 34 Y, brO b0]⟩) ?_ ?_
 ·simp only [go_sem, ↓reduceIte, Nat.reduceLT, Nat.reduceEqDiff, Int.reduceEq, List.cons_append, List.nil_append, i0, i1, gH, w2]
  refine callT (Around_s (a.tdiv 2) hd.length q2 bNI) rfl ?_
  simp only [go_sem, ↓reduceIte, Nat.reduceLT, ebi]
  exact ⟨_, WkE.keep (by simp only [go_sem, ↓reduceIte, Nat.reduceEqDiff]), rfl⟩
 refine CwpE.cut (st := ⟨(13, vi hi) :: (14, vi bi) :: (15, vi k) :: bnE a h b, bnO m m.length X ++ [.arr hd.length 1 34 Y, brO b0]⟩) ?_ ?_
 ·simp only [go_sem, ↓reduceIte, Nat.reduceLT, Nat.reduceEqDiff, Int.reduceEq, List.cons_append, List.nil_append, i0, i1, j0, j1, gH, gB, w8, maxOne]
  refine callT (Around_s (a.tdiv 8) (max b0.length 1 : Nat) q8 bLI) rfl ?_
  simp only [go_sem, ↓reduceIte, Nat.reduceLT, ek]
  exact ⟨_, WkE.keep (by simp only [go_sem, ↓reduceIte, Nat.reduceEqDiff]), rfl⟩
 refine CwpE.cut (st := ⟨(13, vi hi) :: (14, vi bi) :: (15, vi k) :: (16, vb (decide (0 < b0.length))) :: bnE a h b, bnO m m.length X ++ [.arr hd.length 1 34 Y, brO b0]⟩) ?_ ?_
 ·simp only [go_sem, ↓reduceIte, Nat.reduceLT, Nat.reduceEqDiff, List.cons_append, List.nil_append, i0, i1, j0, j1, gH, gB, L0]
  exact ⟨_, WkE.keep (by simp only [go_sem, ↓reduceIte, Nat.reduceEqDiff]), rfl⟩
 exact bn_m9 F0 w0 m r a h b hh hi bi k _ _ hS
theorem bn_mid10 (F0 : FD) (w0 : World) (m r : List (List (List Nt))) (a h b : Int) (ha : I64 a) (hh : I64 h) (h0 : List (List Nt)) (bi : Nat) (b0 : List Nt) (hb0 : h0[bi]? = some b0) (hnl : h0.length <= 100000) (hbl : b0.length <= 100000) (k : Nat)
 (ehi : aroundL a (1 : Nat) = ((0 : Nat) : Int)) (ebi : aroundL (a.tdiv (2 : Nat)) (h0.length : Nat) = (bi : Nat)) (ek : aroundL (a.tdiv (8 : Nat)) ((max b0.length 1 : Nat) : Int) = (k : Nat))
 (hS : CwpE Tryd.prog F0 w0 263 bnS (fun e s => e = .normal /\ ∃ s', WkE 263 s s' /\ s' = ⟨bnZ, bnR m r⟩) ⟨bnW a h b 0 bi k (decide (0 < b0.length)) (aroundL h 9), bnO m 1 [hnV 4 h0] ++ [hnO h0]⟩) :
 CwpE Tryd.prog F0 w0 263 bnM (retE [.cell 8 true 1] (vmel r)) ⟨bnE a h b, bnO m 1 [hnV 4 h0] ++ [hnO h0]⟩ := by
 have hbi : bi < h0.length := (List.getElem?_eq_some_iff.1 hb0).1
 have gB : (h0.map vbar)[bi]? = some (vbar b0) := by rw [List.getElem?_map, hb0]; rfl
 have z0 : ((0 : Nat) : Int) = 0 := rfl
 have z1 : ((1 : Nat) : Int) = 1 := rfl
 have z2 : ((2 : Nat) : Int) = 2 := rfl
 have z3 : ((3 : Nat) : Int) = 3 := rfl
 obtain ⟨q2, w2⟩ := quoI ha 2 (by omega)
 obtain ⟨q8, w8⟩ := quoI ha 8 (by omega)
 have t2 : ((2 : Nat) : Int) = 2 := rfl
 have t8 : ((8 : Nat) : Int) = 8 := rfl
 rw [t2] at ebi q2 w2
 rw [t8] at ek q8 w8
 have n0 : ¬ ((1 : Nat) : Int) = 0 := by omega
 have N0 : ¬ ((h0.length : Nat) : Int) = 0 := by omega
 have i0 : (0 : Int) <= ((0 : Nat) : Int) := by omega
 have i1 : ((0 : Nat) : Int) < ((1 : Nat) : Int) := by omega
 have j0 : (0 : Int) <= (bi : Int) := by omega
 have j1 : (bi : Int) < ((h0.length : Nat) : Int) := by omega
 have L0 : decide ((0 : Int) < ((b0.length : Nat) : Int)) = decide (0 < b0.length) := by congr 1; apply propext; omega
 have bnI : I64 ((1 : Nat) : Int) := ⟨by omega, by omega⟩
 have bNI : I64 ((h0.length : Nat) : Int) := ⟨by omega, by omega⟩
 have bLI : I64 ((max b0.length 1 : Nat) : Int) := ⟨by omega, by omega⟩
 rw [z1] at ehi n0 i1 bnI
 rw [z0] at ehi i0 i1
 unfold bnM c11
 refine CwpE.cut (st := ⟨bnE a h b, bnO m 1 [hnV 4 h0] ++ [hnO h0]⟩) ?_ ?_
 ·simp only [go_sem, ↓reduceIte, Nat.reduceLT, Nat.reduceEqDiff, List.cons_append, List.nil_append, n0, z1]
  exact ⟨_, WkE.keep (by simp only [go_sem, ↓reduceIte, Nat.reduceEqDiff]), rfl⟩
 refine CwpE.cut (st := ⟨(13, vi 0) :: bnE a h b, bnO m 1 [hnV 4 h0] ++ [hnO h0]⟩) ?_ ?_
 ·simp only [go_sem, ↓reduceIte, Nat.reduceLT, Nat.reduceEqDiff, List.cons_append, List.nil_append, z1]
  refine callT (Around_s a 1 ha bnI) rfl ?_
  simp only [go_sem, ↓reduceIte, Nat.reduceLT, ehi]
  exact ⟨_, WkE.keep (by simp only [go_sem, ↓reduceIte, Nat.reduceEqDiff]), rfl⟩
 refine CwpE.cut (st := ⟨(13, vi 0) :: bnE a h b, bnO m 1 [hnV 4 h0] ++ [hnO h0]⟩) ?_ ?_
 ·simp only [go_sem, ↓reduceIte, Nat.reduceLT, Nat.reduceEqDiff, Int.reduceToNat, Int.reduceToNat, List.cons_append, List.nil_append, i0, i1, N0, z1]
  exact ⟨_, WkE.keep (by simp only [go_sem, ↓reduceIte, Nat.reduceEqDiff]), rfl⟩
 refine CwpE.cut (st := ⟨(13, vi 0) :: (14, vi bi) :: bnE a h b, bnO m 1 [hnV 4 h0] ++ [hnO h0]⟩) ?_ ?_
 ·simp only [go_sem, ↓reduceIte, Nat.reduceLT, Nat.reduceEqDiff, Int.reduceToNat, Int.reduceEq, Int.reduceToNat, List.cons_append, List.nil_append, i0, i1, z1, w2]
  refine callT (Around_s (a.tdiv 2) h0.length q2 bNI) rfl ?_
  simp only [go_sem, ↓reduceIte, Nat.reduceLT, ebi]
  exact ⟨_, WkE.keep (by simp only [go_sem, ↓reduceIte, Nat.reduceEqDiff]), rfl⟩
 refine CwpE.cut (st := ⟨(13, vi 0) :: (14, vi bi) :: (15, vi k) :: bnE a h b, bnO m 1 [hnV 4 h0] ++ [hnO h0]⟩) ?_ ?_
 ·simp only [go_sem, ↓reduceIte, Nat.reduceLT, Nat.reduceEqDiff, Int.reduceToNat, Int.reduceEq, Int.reduceToNat, List.cons_append, List.nil_append, i0, i1, j0, j1, List.length_map, gB, z1, w8, maxOne]
  refine callT (Around_s (a.tdiv 8) (max b0.length 1 : Nat) q8 bLI) rfl ?_
  simp only [go_sem, ↓reduceIte, Nat.reduceLT, ek]
  exact ⟨_, WkE.keep (by simp only [go_sem, ↓reduceIte, Nat.reduceEqDiff]), rfl⟩
 refine CwpE.cut (st := ⟨(13, vi 0) :: (14, vi bi) :: (15, vi k) :: (16, vb (decide (0 < b0.length))) :: bnE a h b, bnO m 1 [hnV 4 h0] ++ [hnO h0]⟩) ?_ ?_
 ·simp only [go_sem, ↓reduceIte, Nat.reduceLT, Nat.reduceEqDiff, Int.reduceToNat, Int.reduceToNat, List.cons_append, List.nil_append, i0, i1, j0, j1, List.length_map, gB, z1, L0]
  exact ⟨_, WkE.keep (by simp only [go_sem, ↓reduceIte, Nat.reduceEqDiff]), rfl⟩
 exact bn_m9 F0 w0 m r a h b hh 0 bi k _ _ hS
theorem bn_mid20 (F0 : FD) (w0 : World) (m r : List (List (List Nt))) (a h b : Int) (ha : I64 a) (hh : I64 h) (h0 : List (List Nt)) (h1 : List (List Nt)) (bi : Nat) (b0 : List Nt) (hb0 : h0[bi]? = some b0) (hnl : h0.length <= 100000) (hbl : b0.length <= 100000) (k : Nat)
 (ehi : aroundL a (2 : Nat) = ((0 : Nat) : Int)) (ebi : aroundL (a.tdiv (2 : Nat)) (h0.length : Nat) = (bi : Nat)) (ek : aroundL (a.tdiv (8 : Nat)) ((max b0.length 1 : Nat) : Int) = (k : Nat))
 (hS : CwpE Tryd.prog F0 w0 263 bnS (fun e s => e = .normal /\ ∃ s', WkE 263 s s' /\ s' = ⟨bnZ, bnR m r⟩) ⟨bnW a h b 0 bi k (decide (0 < b0.length)) (aroundL h 9), bnO m 2 [hnV 4 h0, hnV 5 h1] ++ [hnO h0, hnO h1]⟩) :
 CwpE Tryd.prog F0 w0 263 bnM (retE [.cell 8 true 1] (vmel r)) ⟨bnE a h b, bnO m 2 [hnV 4 h0, hnV 5 h1] ++ [hnO h0, hnO h1]⟩ := by
 have hbi : bi < h0.length := (List.getElem?_eq_some_iff.1 hb0).1
 have gB : (h0.map vbar)[bi]? = some (vbar b0) := by rw [List.getElem?_map, hb0]; rfl
 have z0 : ((0 : Nat) : Int) = 0 := rfl
 have z1 : ((1 : Nat) : Int) = 1 := rfl
 have z2 : ((2 : Nat) : Int) = 2 := rfl
 have z3 : ((3 : Nat) : Int) = 3 := rfl
 obtain ⟨q2, w2⟩ := quoI ha 2 (by omega)
 obtain ⟨q8, w8⟩ := quoI ha 8 (by omega)
 have t2 : ((2 : Nat) : Int) = 2 := rfl
 have t8 : ((8 : Nat) : Int) = 8 := rfl
 rw [t2] at ebi q2 w2
 rw [t8] at ek q8 w8
 have n0 : ¬ ((2 : Nat) : Int) = 0 := by omega
 have N0 : ¬ ((h0.length : Nat) : Int) = 0 := by omega
 have i0 : (0 : Int) <= ((0 : Nat) : Int) := by omega
 have i1 : ((0 : Nat) : Int) < ((2 : Nat) : Int) := by omega
 have j0 : (0 : Int) <= (bi : Int) := by omega
 have j1 : (bi : Int) < ((h0.length : Nat) : Int) := by omega
 have L0 : decide ((0 : Int) < ((b0.length : Nat) : Int)) = decide (0 < b0.length) := by congr 1; apply propext; omega
 have bnI : I64 ((2 : Nat) : Int) := ⟨by omega, by omega⟩
 have bNI : I64 ((h0.length : Nat) : Int) := ⟨by omega, by omega⟩
 have bLI : I64 ((max b0.length 1 : Nat) : Int) := ⟨by omega, by omega⟩
 rw [z2] at ehi n0 i1 bnI
 rw [z0] at ehi i0 i1
 unfold bnM c11
 refine CwpE.cut (st := ⟨bnE a h b, bnO m 2 [hnV 4 h0, hnV 5 h1] ++ [hnO h0, hnO h1]⟩) ?_ ?_
 ·simp only [go_sem, ↓reduceIte, Nat.reduceLT, Nat.reduceEqDiff, List.cons_append, List.nil_append, n0, z2]
  exact ⟨_, WkE.keep (by simp only [go_sem, ↓reduceIte, Nat.reduceEqDiff]), rfl⟩
 refine CwpE.cut (st := ⟨(13, vi 0) :: bnE a h b, bnO m 2 [hnV 4 h0, hnV 5 h1] ++ [hnO h0, hnO h1]⟩) ?_ ?_
 ·simp only [go_sem, ↓reduceIte, Nat.reduceLT, Nat.reduceEqDiff, List.cons_append, List.nil_append, z2]
  refine callT (Around_s a 2 ha bnI) rfl ?_
  simp only [go_sem, ↓reduceIte, Nat.reduceLT, ehi]
  exact ⟨_, WkE.keep (by simp only [go_sem, ↓reduceIte, Nat.reduceEqDiff]), rfl⟩
 refine CwpE.cut (st := ⟨(13, vi 0) :: bnE a h b, bnO m 2 [hnV 4 h0, hnV 5 h1] ++ [hnO h0, hnO h1]⟩) ?_ ?_
 ·simp only [go_sem, ↓reduceIte, Nat.reduceLT, Nat.reduceEqDiff, Int.reduceToNat, Int.reduceToNat, List.cons_append, List.nil_append, i0, i1, N0, z2]
  exact ⟨_, WkE.keep (by simp only [go_sem, ↓reduceIte, Nat.reduceEqDiff]), rfl⟩
 refine CwpE.cut (st := ⟨(13, vi 0) :: (14, vi bi) :: bnE a h b, bnO m 2 [hnV 4 h0, hnV 5 h1] ++ [hnO h0, hnO h1]⟩) ?_ ?_
 ·simp only [go_sem, ↓reduceIte, Nat.reduceLT, Nat.reduceEqDiff, Int.reduceToNat, Int.reduceEq, Int.reduceToNat, List.cons_append, List.nil_append, i0, i1, z2, w2]
  refine callT (Around_s (a.tdiv 2) h0.length q2 bNI) rfl ?_
  simp only [go_sem, ↓reduceIte, Nat.reduceLT, ebi]
  exact ⟨_, WkE.keep (by simp only [go_sem, ↓reduceIte, Nat.reduceEqDiff]), rfl⟩
 refine CwpE.cut (st := ⟨(13, vi 0) :: (14, vi bi) :: (15, vi k) :: bnE a h b, bnO m 2 [hnV 4 h0, hnV 5 h1] ++ [hnO h0, hnO h1]⟩) ?_ ?_
 ·simp only [go_sem, ↓reduceIte, Nat.reduceLT, Nat.reduceEqDiff, Int.reduceToNat, Int.reduceEq, Int.reduceToNat, List.cons_append, List.nil_append, i0, i1, j0, j1, List.length_map, gB, z2, w8, maxOne]
  refine callT (Around_s (a.tdiv 8) (max b0.length 1 : Nat) q8 bLI) rfl ?_
  simp only [go_sem, ↓reduceIte, Nat.reduceLT, ek]
  exact ⟨_, WkE.keep (by simp only [go_sem, ↓reduceIte, Nat.reduceEqDiff]), rfl⟩
 refine CwpE.cut (st := ⟨(13, vi 0) :: (14, vi bi) :: (15, vi k) :: (16, vb (decide (0 < b0.length))) :: bnE a h b, bnO m 2 [hnV 4 h0, hnV 5 h1] ++ [hnO h0, hnO h1]⟩) ?_ ?_
 ·simp only [go_sem, ↓reduceIte, Nat.reduceLT, Nat.reduceEqDiff, Int.reduceToNat, Int.reduceToNat, List.cons_append, List.nil_append, i0, i1, j0, j1, List.length_map, gB, z2, L0]
  exact ⟨_, WkE.keep (by simp only [go_sem, ↓reduceIte, Nat.reduceEqDiff]), rfl⟩
 exact bn_m9 F0 w0 m r a h b hh 0 bi k _ _ hS
theorem bn_mid21 (F0 : FD) (w0 : World) (m r : List (List (List Nt))) (a h b : Int) (ha : I64 a) (hh : I64 h) (h0 : List (List Nt)) (h1 : List (List Nt)) (bi : Nat) (b0 : List Nt) (hb0 : h1[bi]? = some b0) (hnl : h1.length <= 100000) (hbl : b0.length <= 100000) (k : Nat)
 (ehi : aroundL a (2 : Nat) = ((1 : Nat) : Int)) (ebi : aroundL (a.tdiv (2 : Nat)) (h1.length : Nat) = (bi : Nat)) (ek : aroundL (a.tdiv (8 : Nat)) ((max b0.length 1 : Nat) : Int) = (k : Nat))
 (hS : CwpE Tryd.prog F0 w0 263 bnS (fun e s => e = .normal /\ ∃ s', WkE 263 s s' /\ s' = ⟨bnZ, bnR m r⟩) ⟨bnW a h b 1 bi k (decide (0 < b0.length)) (aroundL h 9), bnO m 2 [hnV 4 h0, hnV 5 h1] ++ [hnO h0, hnO h1]⟩) :
 CwpE Tryd.prog F0 w0 263 bnM (retE [.cell 8 true 1] (vmel r)) ⟨bnE a h b, bnO m 2 [hnV 4 h0, hnV 5 h1] ++ [hnO h0, hnO h1]⟩ := by
 have hbi : bi < h1.length := (List.getElem?_eq_some_iff.1 hb0).1
 have gB : (h1.map vbar)[bi]? = some (vbar b0) := by rw [List.getElem?_map, hb0]; rfl
 have z0 : ((0 : Nat) : Int) = 0 := rfl
 have z1 : ((1 : Nat) : Int) = 1 := rfl
 have z2 : ((2 : Nat) : Int) = 2 := rfl
 have z3 : ((3 : Nat) : Int) = 3 := rfl
 obtain ⟨q2, w2⟩ := quoI ha 2 (by omega)
 obtain ⟨q8, w8⟩ := quoI ha 8 (by omega)
 have t2 : ((2 : Nat) : Int) = 2 := rfl
 have t8 : ((8 : Nat) : Int) = 8 := rfl
 rw [t2] at ebi q2 w2
 rw [t8] at ek q8 w8
 have n0 : ¬ ((2 : Nat) : Int) = 0 := by omega
 have N0 : ¬ ((h1.length : Nat) : Int) = 0 := by omega
 have i0 : (0 : Int) <= ((1 : Nat) : Int) := by omega
 have i1 : ((1 : Nat) : Int) < ((2 : Nat) : Int) := by omega
 have j0 : (0 : Int) <= (bi : Int) := by omega
 have j1 : (bi : Int) < ((h1.length : Nat) : Int) := by omega
 have L0 : decide ((0 : Int) < ((b0.length : Nat) : Int)) = decide (0 < b0.length) := by congr 1; apply propext; omega
 have bnI : I64 ((2 : Nat) : Int) := ⟨by omega, by omega⟩
 have bNI : I64 ((h1.length : Nat) : Int) := ⟨by omega, by omega⟩
 have bLI : I64 ((max b0.length 1 : Nat) : Int) := ⟨by omega, by omega⟩
 rw [z2] at ehi n0 i1 bnI
 rw [z1] at ehi i0 i1
 unfold bnM c11
 refine CwpE.cut (st := ⟨bnE a h b, bnO m 2 [hnV 4 h0, hnV 5 h1] ++ [hnO h0, hnO h1]⟩) ?_ ?_
 ·simp only [go_sem, ↓reduceIte, Nat.reduceLT, Nat.reduceEqDiff, List.cons_append, List.nil_append, n0, z2]
  exact ⟨_, WkE.keep (by simp only [go_sem, ↓reduceIte, Nat.reduceEqDiff]), rfl⟩
 refine CwpE.cut (st := ⟨(13, vi 1) :: bnE a h b, bnO m 2 [hnV 4 h0, hnV 5 h1] ++ [hnO h0, hnO h1]⟩) ?_ ?_
 ·simp only [go_sem, ↓reduceIte, Nat.reduceLT, Nat.reduceEqDiff, List.cons_append, List.nil_append, z2]
  refine callT (Around_s a 2 ha bnI) rfl ?_
  simp only [go_sem, ↓reduceIte, Nat.reduceLT, ehi]
  exact ⟨_, WkE.keep (by simp only [go_sem, ↓reduceIte, Nat.reduceEqDiff]), rfl⟩
 refine CwpE.cut (st := ⟨(13, vi 1) :: bnE a h b, bnO m 2 [hnV 4 h0, hnV 5 h1] ++ [hnO h0, hnO h1]⟩) ?_ ?_
 ·simp only [go_sem, ↓reduceIte, Nat.reduceLT, Nat.reduceEqDiff, Int.reduceToNat, Int.reduceToNat, List.cons_append, List.nil_append, i0, i1, N0, z2]
  exact ⟨_, WkE.keep (by simp only [go_sem, ↓reduceIte, Nat.reduceEqDiff]), rfl⟩
 refine CwpE.cut (st := ⟨(13, vi 1) :: (14, vi bi) :: bnE a h b, bnO m 2 [hnV 4 h0, hnV 5 h1] ++ [hnO h0, hnO h1]⟩) ?_ ?_
 ·simp only [go_sem, ↓reduceIte, Nat.reduceLT, Nat.reduceEqDiff, Int.reduceToNat, Int.reduceEq, Int.reduceToNat, List.cons_append, List.nil_append, i0, i1, z2, w2]
  refine callT (Around_s (a.tdiv 2) h1.length q2 bNI) rfl ?_
  simp only [go_sem, ↓reduceIte, Nat.reduceLT, ebi]
  exact ⟨_, WkE.keep (by simp only [go_sem, ↓reduceIte, Nat.reduceEqDiff]), rfl⟩
 refine CwpE.cut (st := ⟨(13, vi 1) :: (14, vi bi) :: (15, vi k) :: bnE a h b, bnO m 2 [hnV 4 h0, hnV 5 h1] ++ [hnO h0, hnO h1]⟩) ?_ ?_
 ·simp only [go_sem, ↓reduceIte, Nat.reduceLT, Nat.reduceEqDiff, Int.reduceToNat, Int.reduceEq, Int.reduceToNat, List.cons_append, List.nil_append, i0, i1, j0, j1, List.length_map, gB, z2, w8, maxOne]
  refine callT (Around_s (a.tdiv 8) (max b0.length 1 : Nat) q8 bLI) rfl ?_
  simp only [go_sem, ↓reduceIte, Nat.reduceLT, ek]
  exact ⟨_, WkE.keep (by simp only [go_sem, ↓reduceIte, Nat.reduceEqDiff]), rfl⟩
 refine CwpE.cut (st := ⟨(13, vi 1) :: (14, vi bi) :: (15, vi k) :: (16, vb (decide (0 < b0.length))) :: bnE a h b, bnO m 2 [hnV 4 h0, hnV 5 h1] ++ [hnO h0, hnO h1]⟩) ?_ ?_
 ·simp only [go_sem, ↓reduceIte, Nat.reduceLT, Nat.reduceEqDiff, Int.reduceToNat, Int.reduceToNat, List.cons_append, List.nil_append, i0, i1, j0, j1, List.length_map, gB, z2, L0]
  exact ⟨_, WkE.keep (by simp only [go_sem, ↓reduceIte, Nat.reduceEqDiff]), rfl⟩
 exact bn_m9 F0 w0 m r a h b hh 1 bi k _ _ hS
end Go.Proofs.YtnncijjkbonokaaDoor
namespace Go.Proofs.YtnncijjkbonokaaDoor
open Go.RowKit Dak
theorem own_inn2 {id g o l k : Nat} (h : id < k) : (AV.own id g o l).inn k = true := decide_eq_true h
theorem bn_loopA1 (F0 : FD) (w0 : World) (m : List (List (List Nt))) (a h b : Int) (h0 : List (List Nt)) (hmm : m = [h0]) (hm : melB m) {Q : Exit -> Est -> Prop} (hQ : Q .normal ⟨bnE a h b, bnO m 1 [hnV 4 h0] ++ [hnO h0]⟩) :
 CwpE Tryd.prog F0 w0 263 (.block 0 (.loop bnH)) (fun e s => ∃ s', WkE 263 s s' /\ Q e s') ⟨(10, vi (0 : Nat)) :: bnE a h b, bnO m 0 [] ++ []⟩ := by
 have hlen : m.length = 1 := by subst hmm; rfl
 refine CwpE.block ?_
 refine loopXC 0 (fun z s => (z = 1 /\ s = ⟨(10, vi (0 : Nat)) :: bnE a h b, bnO m 0 [] ++ []⟩) \/ (z = 0 /\ s = ⟨(10, vi (1 : Nat)) :: bnE a h b, bnO m 1 [hnV 4 h0] ++ [hnO h0]⟩))
  (fun s => s = ⟨bnE a h b, bnO m 1 [hnV 4 h0] ++ [hnO h0]⟩) 1 _ (.refl _ _) (.inl ⟨rfl, rfl⟩) ?_ ?_
 rotate_left
 ·rintro s rfl
  simp only [inBlockE, if_true]
  exact ⟨_, .refl _ _, hQ⟩
 rintro z s (⟨rfl, rfl⟩ | ⟨rfl, rfl⟩)
 ·refine bn_own4 F0 w0 m a h b []  (fun j hj => rfl)  0 rfl h0 (by subst hmm; rfl) hm.1 (hm.2 h0 (by subst hmm; simp)).1 (hm.2 h0 (by subst hmm; simp)).2 fun s hs => ⟨0, _, by omega, hs, .inr ⟨rfl, rfl⟩⟩
 ·have := bn_end F0 w0 m a h b [hnV 4 h0] [hnO h0] (Q := RoundX 263 (fun z s => (z = 1 /\ s = ⟨(10, vi (0 : Nat)) :: bnE a h b, bnO m 0 [] ++ []⟩) \/ (z = 0 /\ s = ⟨(10, vi (1 : Nat)) :: bnE a h b, bnO m 1 [hnV 4 h0] ++ [hnO h0]⟩)) 0 0 (fun s => s = ⟨bnE a h b, bnO m 1 [hnV 4 h0] ++ [hnO h0]⟩) (inBlockE 0 fun e s => ∃ s', WkE 263 s s' /\ Q e s')) fun s hs => by
   simp only [RoundX, if_true]
   rw [hlen] at hs
   exact ⟨_, hs, rfl⟩
  rw [hlen] at this
  exact this
theorem bn_frz1 {E : List (Nat × AV)} (hE : (E.all fun p => p.2.inn 3) = true) (m : List (List (List Nt))) (h0 : List (List Nt)) : WkE 263 ⟨E, bnO m 1 [hnV 4 h0] ++ [hnO h0]⟩ ⟨E, bnR m [h0]⟩ := by
 have hz : ∀ hd : List (List Nt), List.take hd.length (List.drop 0 (hd.map vbar)) = hd.map vbar := fun hd => List.take_of_length_le (by simp)
 have e0 := WkE.freezeCell (n := 263) (env := E) (objs := bnO m 1 [hnV 4 h0] ++ [hnO h0]) 3 1 1 0 0 4 h0.length 0 h0.length 1 28 34 _ (h0.map vbar) _ rfl rfl rfl rfl (by omega) (by simp) (allT_map fun _ => rfl)
 rw [hz h0] at e0
 refine e0.trans ((WkE.drop (env := E) (objs := bnO m 1 [vhand h0] ++ [.dead]) 4 (all_mono hE (inn_up (by omega))) fun o ho => ?_).trans (frz_all hE rfl))
 simp only [List.cons_append, List.nil_append, List.take_succ_cons, List.take_zero, List.mem_cons, List.not_mem_nil, or_false] at ho
 rcases ho with rfl | rfl | rfl | rfl <;> rfl
theorem bn_ve1 (F0 : FD) (w0 : World) (m : List (List (List Nt))) (b : Int) (h0 : List (List Nt)) {Q : Exit -> Est -> Prop} (hQ : ∀ s, WkE 263 s ⟨bnU b 1, bnO m 1 [hnV 4 h0] ++ [hnO h0]⟩ -> Q (.exit 7) s) : CwpE Tryd.prog F0 w0 263 bnV7 Q ⟨bnU b 1, bnO m 1 [hnV 4 h0] ++ [hnO h0]⟩ := by
 have z0 : ((0 : Nat) : Int) = 0 := rfl
 have z1 : ((1 : Nat) : Int) = 1 := rfl
 have z2 : ((2 : Nat) : Int) = 2 := rfl
 have z3 : ((3 : Nat) : Int) = 3 := rfl
 unfold bnV7 bnS c11
 refine CwpE.vc ?_
 simp only [go_sem, ↓reduceIte, Nat.reduceLT, Nat.reduceEqDiff, Int.lt_irrefl, List.cons_append, List.nil_append, z1]
 exact hQ _ (WkE.keep (by simp only [go_sem, ↓reduceIte, Nat.reduceEqDiff]))
theorem bn_c7_1 (F0 : FD) (w0 : World) (m : List (List (List Nt))) (a h b : Int) (hb : I64 b) (h0 : List (List Nt)) (hl0 : h0.length <= 100000) (hi bi k : Nat) (sm : Bool)
 {Q : Exit -> Est -> Prop} (hQ : ∀ s, WkE 263 s ⟨bnZ, bnR m [(growH b h0)]⟩ -> Q .normal s) : CwpE Tryd.prog F0 w0 263 bnS (fun e s => ∃ s', WkE 263 s s' /\ Q e s') ⟨bnW a h b hi bi k sm 7, bnO m 1 [hnV 4 h0] ++ [hnO h0]⟩ := by
 have hW := bn_frz1 (E := bnZ) rfl m (growH b h0)
 have key : CwpE Tryd.prog F0 w0 263 (.block 7 (.loop bnV7)) (fun e s => ∃ s', WkE 263 s s' /\ e = .normal /\ s' = ⟨bnU b 1, bnO m 1 [hnV 4 (growH b h0)] ++ [hnO (growH b h0)]⟩) ⟨bnU b 0, bnO m 1 [hnV 4 h0] ++ [hnO h0]⟩ := by
  refine CwpE.block ?_
  refine loopXC 7 (fun z s => (z = 1 /\ s = ⟨bnU b 0, bnO m 1 [hnV 4 h0] ++ [hnO h0]⟩) \/ (z = 0 /\ s = ⟨bnU b 1, bnO m 1 [hnV 4 (growH b h0)] ++ [hnO (growH b h0)]⟩))
   (fun s => s = ⟨bnU b 1, bnO m 1 [hnV 4 (growH b h0)] ++ [hnO (growH b h0)]⟩) 1 _ (.refl _ _) (.inl ⟨rfl, rfl⟩) ?_ ?_
  rotate_left
  ·rintro s rfl
   simp only [inBlockE, if_true]
   exact ⟨_, .refl _ _, trivial, rfl⟩
  rintro z s (⟨rfl, rfl⟩ | ⟨rfl, rfl⟩)
  ·exact bn_v10 F0 w0 m b hb h0 hl0 fun s hs => ⟨0, _, by omega, hs, .inr ⟨rfl, rfl⟩⟩
  ·refine bn_ve1 F0 w0 m b (growH b h0) fun s hs => ?_
   simp only [RoundX, if_true]
   exact ⟨_, hs, rfl⟩
 obtain ⟨O, hO⟩ : ∃ O, bnO m 1 [hnV 4 h0] ++ [hnO h0] = O := ⟨_, rfl⟩
 rw [hO]
 unfold bnS c11
 refine CwpE.block ?_
 refine CwpE.cut (st := ⟨(111, vb false) :: bnW a h b hi bi k sm 7, O⟩) ?_ ?_
 ·simp only [go_sem, ↓reduceIte, Nat.reduceLT, Int.reduceEq]
  exact ⟨_, WkE.keep (by simp only [go_sem, ↓reduceIte, Nat.reduceEqDiff]), rfl⟩
 refine CwpE.cond_f (by simp only [go_sem, ↓reduceIte]) ?_
 refine CwpE.cut (st := ⟨(130, vb false) :: bnW a h b hi bi k sm 7, O⟩) ?_ ?_
 ·simp only [go_sem, ↓reduceIte, Nat.reduceLT, Nat.reduceEqDiff, Int.reduceEq]
  exact ⟨_, WkE.keep (by simp only [go_sem, ↓reduceIte, Nat.reduceEqDiff]), rfl⟩
 refine CwpE.cond_f (by simp only [go_sem, ↓reduceIte]) ?_
 refine CwpE.cut (st := ⟨(147, vb false) :: bnW a h b hi bi k sm 7, O⟩) ?_ ?_
 ·simp only [go_sem, ↓reduceIte, Nat.reduceLT, Nat.reduceEqDiff, Int.reduceEq]
  exact ⟨_, WkE.keep (by simp only [go_sem, ↓reduceIte, Nat.reduceEqDiff]), rfl⟩
 refine CwpE.cond_f (by simp only [go_sem, ↓reduceIte]) ?_
 refine CwpE.cut (st := ⟨(164, vb false) :: bnW a h b hi bi k sm 7, O⟩) ?_ ?_
 ·simp only [go_sem, ↓reduceIte, Nat.reduceLT, Nat.reduceEqDiff, Int.reduceEq]
  exact ⟨_, WkE.keep (by simp only [go_sem, ↓reduceIte, Nat.reduceEqDiff]), rfl⟩
 refine CwpE.cond_f (by simp only [go_sem, ↓reduceIte]) ?_
 refine CwpE.cut (st := ⟨(173, vb false) :: bnW a h b hi bi k sm 7, O⟩) ?_ ?_
 ·simp only [go_sem, ↓reduceIte, Nat.reduceLT, Nat.reduceEqDiff, Int.reduceEq]
  exact ⟨_, WkE.keep (by simp only [go_sem, ↓reduceIte, Nat.reduceEqDiff]), rfl⟩
 refine CwpE.cond_f (by simp only [go_sem, ↓reduceIte]) ?_
 refine CwpE.cut (st := ⟨(186, vb false) :: bnW a h b hi bi k sm 7, O⟩) ?_ ?_
 ·simp only [go_sem, ↓reduceIte, Nat.reduceLT, Nat.reduceEqDiff, Int.reduceEq]
  exact ⟨_, WkE.keep (by simp only [go_sem, ↓reduceIte, Nat.reduceEqDiff]), rfl⟩
 refine CwpE.cond_f (by simp only [go_sem, ↓reduceIte]) ?_
 refine CwpE.cut (st := ⟨(219, vb false) :: bnW a h b hi bi k sm 7, O⟩) ?_ ?_
 ·simp only [go_sem, ↓reduceIte, Nat.reduceLT, Nat.reduceEqDiff, Int.reduceEq]
  exact ⟨_, WkE.keep (by simp only [go_sem, ↓reduceIte, Nat.reduceEqDiff]), rfl⟩
 refine CwpE.cond_f (by simp only [go_sem, ↓reduceIte]) ?_
 refine CwpE.cut (st := ⟨(230, vb true) :: bnW a h b hi bi k sm 7, O⟩) ?_ ?_
 ·simp only [go_sem, ↓reduceIte, Nat.reduceLT, Nat.reduceEqDiff]
  exact ⟨_, WkE.keep (by simp only [go_sem, ↓reduceIte, Nat.reduceEqDiff]), rfl⟩
 refine CwpE.cond_t (by simp only [go_sem, ↓reduceIte]) ?_
 subst hO
 refine CwpE.cut (st := ⟨bnU b 0, bnO m 1 [hnV 4 h0] ++ [hnO h0]⟩) ?_ ?_
 ·simp only [go_sem, ↓reduceIte, Nat.reduceLT, List.cons_append, List.nil_append]
  exact ⟨_, WkE.keep (by simp only [go_sem, ↓reduceIte, Nat.reduceEqDiff]; rfl), rfl⟩
 refine key.mono ?_
 rintro e s ⟨s', hw, rfl, rfl⟩
 simp only [inBlockE]
 exact ⟨s, .refl _ _, hQ _ (hw.trans ((WkE.keep (by simp only [go_sem, ↓reduceIte, Nat.reduceEqDiff])).trans hW))⟩
theorem bn_loopA2 (F0 : FD) (w0 : World) (m : List (List (List Nt))) (a h b : Int) (h0 : List (List Nt)) (h1 : List (List Nt)) (hmm : m = [h0, h1]) (hm : melB m) {Q : Exit -> Est -> Prop} (hQ : Q .normal ⟨bnE a h b, bnO m 2 [hnV 4 h0, hnV 5 h1] ++ [hnO h0, hnO h1]⟩) :
 CwpE Tryd.prog F0 w0 263 (.block 0 (.loop bnH)) (fun e s => ∃ s', WkE 263 s s' /\ Q e s') ⟨(10, vi (0 : Nat)) :: bnE a h b, bnO m 0 [] ++ []⟩ := by
 have hlen : m.length = 2 := by subst hmm; rfl
 refine CwpE.block ?_
 refine loopXC 0 (fun z s => (z = 2 /\ s = ⟨(10, vi (0 : Nat)) :: bnE a h b, bnO m 0 [] ++ []⟩) \/ (z = 1 /\ s = ⟨(10, vi (1 : Nat)) :: bnE a h b, bnO m 1 [hnV 4 h0] ++ [hnO h0]⟩) \/ (z = 0 /\ s = ⟨(10, vi (2 : Nat)) :: bnE a h b, bnO m 2 [hnV 4 h0, hnV 5 h1] ++ [hnO h0, hnO h1]⟩))
  (fun s => s = ⟨bnE a h b, bnO m 2 [hnV 4 h0, hnV 5 h1] ++ [hnO h0, hnO h1]⟩) 2 _ (.refl _ _) (.inl ⟨rfl, rfl⟩) ?_ ?_
 rotate_left
 ·rintro s rfl
  simp only [inBlockE, if_true]
  exact ⟨_, .refl _ _, hQ⟩
 rintro z s (⟨rfl, rfl⟩ | ⟨rfl, rfl⟩ | ⟨rfl, rfl⟩)
 ·refine bn_own4 F0 w0 m a h b []  (fun j hj => rfl)  0 rfl h0 (by subst hmm; rfl) hm.1 (hm.2 h0 (by subst hmm; simp)).1 (hm.2 h0 (by subst hmm; simp)).2 fun s hs => ⟨1, _, by omega, hs, .inr <| .inl ⟨rfl, rfl⟩⟩
 ·refine bn_own5 F0 w0 m a h b [hnV 4 h0] (hnO h0) (fun j hj => List.all_eq_true.2 fun v hv => by
   simp only [List.mem_cons, List.not_mem_nil, or_false] at hv
   rcases hv with rfl
   all_goals exact own_inn2 (by omega)) (fun j hj => by rw [innO_arr]; exact inn_map fun _ => rfl) 1 rfl h1 (by subst hmm; rfl) hm.1 (hm.2 h1 (by subst hmm; simp)).1 (hm.2 h1 (by subst hmm; simp)).2 fun s hs => ⟨0, _, by omega, hs, .inr <| .inr ⟨rfl, rfl⟩⟩
 ·have := bn_end F0 w0 m a h b [hnV 4 h0, hnV 5 h1] [hnO h0, hnO h1] (Q := RoundX 263 (fun z s => (z = 2 /\ s = ⟨(10, vi (0 : Nat)) :: bnE a h b, bnO m 0 [] ++ []⟩) \/ (z = 1 /\ s = ⟨(10, vi (1 : Nat)) :: bnE a h b, bnO m 1 [hnV 4 h0] ++ [hnO h0]⟩) \/ (z = 0 /\ s = ⟨(10, vi (2 : Nat)) :: bnE a h b, bnO m 2 [hnV 4 h0, hnV 5 h1] ++ [hnO h0, hnO h1]⟩)) 0 0 (fun s => s = ⟨bnE a h b, bnO m 2 [hnV 4 h0, hnV 5 h1] ++ [hnO h0, hnO h1]⟩) (inBlockE 0 fun e s => ∃ s', WkE 263 s s' /\ Q e s')) fun s hs => by
   simp only [RoundX, if_true]
   rw [hlen] at hs
   exact ⟨_, hs, rfl⟩
  rw [hlen] at this
  exact this
theorem bn_frz2 {E : List (Nat × AV)} (hE : (E.all fun p => p.2.inn 3) = true) (m : List (List (List Nt))) (h0 : List (List Nt)) (h1 : List (List Nt)) : WkE 263 ⟨E, bnO m 2 [hnV 4 h0, hnV 5 h1] ++ [hnO h0, hnO h1]⟩ ⟨E, bnR m [h0, h1]⟩ := by
 have hz : ∀ hd : List (List Nt), List.take hd.length (List.drop 0 (hd.map vbar)) = hd.map vbar := fun hd => List.take_of_length_le (by simp)
 have e0 := WkE.freezeCell (n := 263) (env := E) (objs := bnO m 2 [hnV 4 h0, hnV 5 h1] ++ [hnO h0, hnO h1]) 3 2 1 0 0 4 h0.length 0 h0.length 1 28 34 _ (h0.map vbar) _ rfl rfl rfl rfl (by omega) (by simp) (allT_map fun _ => rfl)
 rw [hz h0] at e0
 have e1 := WkE.freezeCell (n := 263) (env := E) (objs := bnO m 2 [vhand h0, hnV 5 h1] ++ [.dead, hnO h1]) 3 2 1 1 0 5 h1.length 0 h1.length 1 28 34 _ (h1.map vbar) _ rfl rfl rfl rfl (by omega) (by simp) (allT_map fun _ => rfl)
 rw [hz h1] at e1
 refine e0.trans (e1.trans ((WkE.drop (env := E) (objs := bnO m 2 [vhand h0, vhand h1] ++ [.dead, .dead]) 4 (all_mono hE (inn_up (by omega))) fun o ho => ?_).trans (frz_all hE rfl)))
 simp only [List.cons_append, List.nil_append, List.take_succ_cons, List.take_zero, List.mem_cons, List.not_mem_nil, or_false] at ho
 rcases ho with rfl | rfl | rfl | rfl <;> rfl
theorem bn_ve2 (F0 : FD) (w0 : World) (m : List (List (List Nt))) (b : Int) (h0 : List (List Nt)) (h1 : List (List Nt)) {Q : Exit -> Est -> Prop} (hQ : ∀ s, WkE 263 s ⟨bnU b 2, bnO m 2 [hnV 4 h0, hnV 5 h1] ++ [hnO h0, hnO h1]⟩ -> Q (.exit 7) s) : CwpE Tryd.prog F0 w0 263 bnV7 Q ⟨bnU b 2, bnO m 2 [hnV 4 h0, hnV 5 h1] ++ [hnO h0, hnO h1]⟩ := by
 have z0 : ((0 : Nat) : Int) = 0 := rfl
 have z1 : ((1 : Nat) : Int) = 1 := rfl
 have z2 : ((2 : Nat) : Int) = 2 := rfl
 have z3 : ((3 : Nat) : Int) = 3 := rfl
 unfold bnV7 bnS c11
 refine CwpE.vc ?_
 simp only [go_sem, ↓reduceIte, Nat.reduceLT, Nat.reduceEqDiff, Int.lt_irrefl, List.cons_append, List.nil_append, z2]
 exact hQ _ (WkE.keep (by simp only [go_sem, ↓reduceIte, Nat.reduceEqDiff]))
theorem bn_c7_2 (F0 : FD) (w0 : World) (m : List (List (List Nt))) (a h b : Int) (hb : I64 b) (h0 : List (List Nt)) (h1 : List (List Nt)) (hl0 : h0.length <= 100000) (hl1 : h1.length <= 100000) (hi bi k : Nat) (sm : Bool)
 {Q : Exit -> Est -> Prop} (hQ : ∀ s, WkE 263 s ⟨bnZ, bnR m [(growH b h0), (growH b h1)]⟩ -> Q .normal s) : CwpE Tryd.prog F0 w0 263 bnS (fun e s => ∃ s', WkE 263 s s' /\ Q e s') ⟨bnW a h b hi bi k sm 7, bnO m 2 [hnV 4 h0, hnV 5 h1] ++ [hnO h0, hnO h1]⟩ := by
 have hW := bn_frz2 (E := bnZ) rfl m (growH b h0) (growH b h1)
 have key : CwpE Tryd.prog F0 w0 263 (.block 7 (.loop bnV7)) (fun e s => ∃ s', WkE 263 s s' /\ e = .normal /\ s' = ⟨bnU b 2, bnO m 2 [hnV 4 (growH b h0), hnV 5 (growH b h1)] ++ [hnO (growH b h0), hnO (growH b h1)]⟩) ⟨bnU b 0, bnO m 2 [hnV 4 h0, hnV 5 h1] ++ [hnO h0, hnO h1]⟩ := by
  refine CwpE.block ?_
  refine loopXC 7 (fun z s => (z = 2 /\ s = ⟨bnU b 0, bnO m 2 [hnV 4 h0, hnV 5 h1] ++ [hnO h0, hnO h1]⟩) \/ (z = 1 /\ s = ⟨bnU b 1, bnO m 2 [hnV 4 (growH b h0), hnV 5 h1] ++ [hnO (growH b h0), hnO h1]⟩) \/ (z = 0 /\ s = ⟨bnU b 2, bnO m 2 [hnV 4 (growH b h0), hnV 5 (growH b h1)] ++ [hnO (growH b h0), hnO (growH b h1)]⟩))
   (fun s => s = ⟨bnU b 2, bnO m 2 [hnV 4 (growH b h0), hnV 5 (growH b h1)] ++ [hnO (growH b h0), hnO (growH b h1)]⟩) 2 _ (.refl _ _) (.inl ⟨rfl, rfl⟩) ?_ ?_
  rotate_left
  ·rintro s rfl
   simp only [inBlockE, if_true]
   exact ⟨_, .refl _ _, trivial, rfl⟩
  rintro z s (⟨rfl, rfl⟩ | ⟨rfl, rfl⟩ | ⟨rfl, rfl⟩)
  ·exact bn_v20 F0 w0 m b hb h0 h1 hl0 fun s hs => ⟨1, _, by omega, hs, .inr <| .inl ⟨rfl, rfl⟩⟩
  ·exact bn_v21 F0 w0 m b hb (growH b h0) h1 hl1 fun s hs => ⟨0, _, by omega, hs, .inr <| .inr ⟨rfl, rfl⟩⟩
  ·refine bn_ve2 F0 w0 m b (growH b h0) (growH b h1) fun s hs => ?_
   simp only [RoundX, if_true]
   exact ⟨_, hs, rfl⟩
 obtain ⟨O, hO⟩ : ∃ O, bnO m 2 [hnV 4 h0, hnV 5 h1] ++ [hnO h0, hnO h1] = O := ⟨_, rfl⟩
 rw [hO]
 unfold bnS c11
 refine CwpE.block ?_
 refine CwpE.cut (st := ⟨(111, vb false) :: bnW a h b hi bi k sm 7, O⟩) ?_ ?_
 ·simp only [go_sem, ↓reduceIte, Nat.reduceLT, Int.reduceEq]
  exact ⟨_, WkE.keep (by simp only [go_sem, ↓reduceIte, Nat.reduceEqDiff]), rfl⟩
 refine CwpE.cond_f (by simp only [go_sem, ↓reduceIte]) ?_
 refine CwpE.cut (st := ⟨(130, vb false) :: bnW a h b hi bi k sm 7, O⟩) ?_ ?_
 ·simp only [go_sem, ↓reduceIte, Nat.reduceLT, Nat.reduceEqDiff, Int.reduceEq]
  exact ⟨_, WkE.keep (by simp only [go_sem, ↓reduceIte, Nat.reduceEqDiff]), rfl⟩
 refine CwpE.cond_f (by simp only [go_sem, ↓reduceIte]) ?_
 refine CwpE.cut (st := ⟨(147, vb false) :: bnW a h b hi bi k sm 7, O⟩) ?_ ?_
 ·simp only [go_sem, ↓reduceIte, Nat.reduceLT, Nat.reduceEqDiff, Int.reduceEq]
  exact ⟨_, WkE.keep (by simp only [go_sem, ↓reduceIte, Nat.reduceEqDiff]), rfl⟩
 refine CwpE.cond_f (by simp only [go_sem, ↓reduceIte]) ?_
 refine CwpE.cut (st := ⟨(164, vb false) :: bnW a h b hi bi k sm 7, O⟩) ?_ ?_
 ·simp only [go_sem, ↓reduceIte, Nat.reduceLT, Nat.reduceEqDiff, Int.reduceEq]
  exact ⟨_, WkE.keep (by simp only [go_sem, ↓reduceIte, Nat.reduceEqDiff]), rfl⟩
 refine CwpE.cond_f (by simp only [go_sem, ↓reduceIte]) ?_
 refine CwpE.cut (st := ⟨(173, vb false) :: bnW a h b hi bi k sm 7, O⟩) ?_ ?_
 ·simp only [go_sem, ↓reduceIte, Nat.reduceLT, Nat.reduceEqDiff, Int.reduceEq]
  exact ⟨_, WkE.keep (by simp only [go_sem, ↓reduceIte, Nat.reduceEqDiff]), rfl⟩
 refine CwpE.cond_f (by simp only [go_sem, ↓reduceIte]) ?_
 refine CwpE.cut (st := ⟨(186, vb false) :: bnW a h b hi bi k sm 7, O⟩) ?_ ?_
 ·simp only [go_sem, ↓reduceIte, Nat.reduceLT, Nat.reduceEqDiff, Int.reduceEq]
  exact ⟨_, WkE.keep (by simp only [go_sem, ↓reduceIte, Nat.reduceEqDiff]), rfl⟩
 refine CwpE.cond_f (by simp only [go_sem, ↓reduceIte]) ?_
 refine CwpE.cut (st := ⟨(219, vb false) :: bnW a h b hi bi k sm 7, O⟩) ?_ ?_
 ·simp only [go_sem, ↓reduceIte, Nat.reduceLT, Nat.reduceEqDiff, Int.reduceEq]
  exact ⟨_, WkE.keep (by simp only [go_sem, ↓reduceIte, Nat.reduceEqDiff]), rfl⟩
 refine CwpE.cond_f (by simp only [go_sem, ↓reduceIte]) ?_
 refine CwpE.cut (st := ⟨(230, vb true) :: bnW a h b hi bi k sm 7, O⟩) ?_ ?_
 ·simp only [go_sem, ↓reduceIte, Nat.reduceLT, Nat.reduceEqDiff]
  exact ⟨_, WkE.keep (by simp only [go_sem, ↓reduceIte, Nat.reduceEqDiff]), rfl⟩
 refine CwpE.cond_t (by simp only [go_sem, ↓reduceIte]) ?_
 subst hO
 refine CwpE.cut (st := ⟨bnU b 0, bnO m 2 [hnV 4 h0, hnV 5 h1] ++ [hnO h0, hnO h1]⟩) ?_ ?_
 ·simp only [go_sem, ↓reduceIte, Nat.reduceLT, List.cons_append, List.nil_append]
  exact ⟨_, WkE.keep (by simp only [go_sem, ↓reduceIte, Nat.reduceEqDiff]; rfl), rfl⟩
 refine key.mono ?_
 rintro e s ⟨s', hw, rfl, rfl⟩
 simp only [inBlockE]
 exact ⟨s, .refl _ _, hQ _ (hw.trans ((WkE.keep (by simp only [go_sem, ↓reduceIte, Nat.reduceEqDiff])).trans hW))⟩
end Go.Proofs.YtnncijjkbonokaaDoor
namespace Go.Proofs.YtnncijjkbonokaaDoor
open Go.RowKit Dak
def bentN (j : Nat) (b : Int) (n : Nt) : Nt :=
 if j = 0 then ⟨[-2, -1, 0, 48, 49, 21].getD (aroundL b 6).toNat 0, n.l, n.a⟩ else if j = 1 then ⟨n.s, aroundL b 7 - 1, n.a⟩ else ⟨n.s, n.l, aroundL b 5 - 2⟩
def bentB (j : Nat) (b : Int) (k : Nat) (b0 : List Nt) : List Nt := match b0[k]? with
 | some n => b0.set k (bentN j b n)
 | none => b0
def bentT (m : List (List (List Nt))) (hi : Nat) (hd : List (List Nt)) (bi : Nat) (b0 : List Nt) (k : Nat) (b : Int) (j : Nat) : List (List (List Nt)) :=
 if j < 3 then m.set hi (hd.set bi (bentB j b k b0)) else if j = 3 then m.set hi (hd.set bi []) else if j = 4 then m.set hi (hd.take bi) else if j = 5 then m.set hi (hd.set bi (growB b b0))
 else if j = 6 then m ++ [m.headD []] else if j = 7 then m.map (growH b) else m.take hi
def bentK (m : List (List (List Nt))) (hi : Nat) (hd : List (List Nt)) (bi : Nat) (b0 : List Nt) (a h b : Int) : List (List (List Nt)) := bentT m hi hd bi b0 (aroundL (a.tdiv 8) (max b0.length 1 : Nat)).toNat b (aroundL h 9).toNat
def bentH (m : List (List (List Nt))) (hi : Nat) (hd : List (List Nt)) (a h b : Int) : List (List (List Nt)) :=
 if hd.length = 0 then m else bentK m hi hd (aroundL (a.tdiv 2) hd.length).toNat (hd.getD (aroundL (a.tdiv 2) hd.length).toNat []) a h b
def bentP (m : List (List (List Nt))) (a h b : Int) : List (List (List Nt)) :=
 if m.length = 0 then m else bentH m (aroundL a m.length).toNat (m.getD (aroundL a m.length).toNat []) a h b
theorem bent_fin {m r : List (List (List Nt))} {Z : Exit -> Est -> Prop} {E : List (Nat × AV)} {O : List AObj} {F0 : FD} {w0 : World} {c : CCode}
 (h : CwpE Tryd.prog F0 w0 263 c (fun e s => ∃ s', WkE 263 s s' /\ (e = .normal /\ ∃ s'', WkE 263 s' s'' /\ s'' = ⟨bnZ, bnR m r⟩)) ⟨E, O⟩) : CwpE Tryd.prog F0 w0 263 c (fun e s => e = .normal /\ ∃ s', WkE 263 s s' /\ s' = ⟨bnZ, bnR m r⟩) ⟨E, O⟩ :=
 h.mono fun e s ⟨s', hw, he, s'', hw', hs⟩ => ⟨he, s'', hw.trans hw', hs⟩
theorem bn_target (F0 : FD) (w0 : World) (m : List (List (List Nt))) (a h b : Int) (hb : I64 b) (hi : Nat) (hd : List (List Nt)) (bi : Nat) (b0 : List Nt) (T : BnT m hi hd bi b0) (k j : Nat) (hj : j < 9) (hj7 : j ≠ 7) (hk : k < max b0.length 1) :
 CwpE Tryd.prog F0 w0 263 bnS (fun e s => e = .normal /\ ∃ s', WkE 263 s s' /\ s' = ⟨bnZ, bnR m (bentT m hi hd bi b0 k b j)⟩) ⟨bnW a h b hi bi k (decide (0 < b0.length)) (j : Nat), bnT m hi hd bi b0⟩ := by
 by_cases j3 : j < 3
 ·have e : bentT m hi hd bi b0 k b j = m.set hi (hd.set bi (bentB j b k b0)) := if_pos j3
  rw [e]
  by_cases hL : 0 < b0.length
  ·rw [decide_eq_true hL]
   obtain ⟨nt, hnt⟩ : ∃ nt, b0[k]? = some nt := ⟨_, List.getElem?_eq_getElem (by omega)⟩
   have eB : bentB j b k b0 = b0.set k (bentN j b nt) := by rw [bentB, hnt]
   rw [eB]
   rcases j with _ | _ | _ | j
   ·exact bn_c0 F0 w0 m a h b hb hi hd bi b0 T k nt hnt fun s hs => ⟨rfl, _, hs, rfl⟩
   ·exact bn_c1 F0 w0 m a h b hb hi hd bi b0 T k nt hnt fun s hs => ⟨rfl, _, hs, rfl⟩
   ·exact bn_c2 F0 w0 m a h b hb hi hd bi b0 T k nt hnt fun s hs => ⟨rfl, _, hs, rfl⟩
   ·omega
  ·rw [decide_eq_false hL]
   have eB : bentB j b k b0 = b0 := by rw [bentB, List.getElem?_eq_none (by omega)]
   rw [eB, T.back]
   exact bn_cN F0 w0 m a h b hi hd bi b0 T k j j3 fun s hs => ⟨rfl, _, hs, rfl⟩
 ·have j' : j = 3 \/ j = 4 \/ j = 5 \/ j = 6 \/ j = 8 := by omega
  rcases j' with rfl | rfl | rfl | rfl | rfl
  ·exact bn_c3 F0 w0 m a h b hi hd bi b0 T k _ fun s hs => ⟨rfl, _, hs, rfl⟩
  ·exact bn_c4 F0 w0 m a h b hi hd bi b0 T k _ fun s hs => ⟨rfl, _, hs, rfl⟩
  ·exact bent_fin (Z := fun _ _ => True) (bn_c5 F0 w0 m a h b hb hi hd bi b0 T k _ fun s hs => ⟨rfl, _, hs, rfl⟩)
  ·exact bn_c6 F0 w0 m a h b hi hd bi b0 T k _ fun s hs => ⟨rfl, _, hs, rfl⟩
  ·exact bn_c8 F0 w0 m a h b hi hd bi b0 T k _ fun s hs => ⟨rfl, _, hs, rfl⟩
end Go.Proofs.YtnncijjkbonokaaDoor
namespace Go.Proofs.YtnncijjkbonokaaDoor
open Go.RowKit Dak
structure Shp (A B C : Nat) (m : List (List (List Nt))) : Prop where
 a : m.length <= A
 b : ∀ h ∈ m, h.length <= B
 c : ∀ h ∈ m, ∀ r ∈ h, r.length <= C /\ ∀ n ∈ r, okA n
theorem mem_set {α : Type} {P : α -> Prop} {l : List α} {i : Nat} {y : α} (h : ∀ x ∈ l, P x) (hy : P y) : ∀ x ∈ l.set i y, P x := fun x hx => by
 rcases List.mem_or_eq_of_mem_set hx with h1 | rfl
 ·exact h x h1
 ·exact hy
theorem getD_ok {α : Type} {P : List α -> Prop} {l : List (List α)} {i : Nat} (h : ∀ x ∈ l, P x) (h0 : P []) : P (l.getD i []) := by
 rw [List.getD_eq_getElem?_getD]
 cases hx : l[i]? with
 | none => exact h0
 | some y => exact h y (List.mem_of_getElem? hx)
def okR (C : Nat) (r : List Nt) : Prop := r.length <= C /\ ∀ n ∈ r, okA n
def okH (B C : Nat) (h : List (List Nt)) : Prop := h.length <= B /\ ∀ r ∈ h, okR C r
theorem Shp.ok {A B C : Nat} {m : List (List (List Nt))} (h : Shp A B C m) : ∀ x ∈ m, okH B C x := fun x hx => ⟨h.b x hx, h.c x hx⟩
theorem Shp.of {A B C : Nat} {m : List (List (List Nt))} (h : m.length <= A) (k : ∀ x ∈ m, okH B C x) : Shp A B C m := ⟨h, fun x hx => (k x hx).1, fun x hx => (k x hx).2⟩
theorem bentN_ok {j : Nat} {b : Int} {n : Nt} (h : okA n) : okA (bentN j b n) := by
 have g := around_bd (n := b) (most := 5) (by omega)
 unfold bentN
 split
 ·exact h
 ·split
  ·exact h
  ·unfold okA; constructor <;> simp only <;> omega
theorem bent_shp {A B C : Nat} {m : List (List (List Nt))} (h : Shp A B C m) (a w b : Int) : Shp (A + 1) (max B 34) (max C 18) (bentP m a w b) := by
 have g7 := around_bd (n := b) (most := 7) (by omega)
 have g5 := around_bd (n := b) (most := 5) (by omega)
 have h1 := h.ok
 have hA := h.a
 have upR : ∀ r, okR C r -> okR (max C 18) r := fun r hr => ⟨by have := hr.1; omega, hr.2⟩
 have upH : ∀ x, okH B C x -> okH (max B 34) (max C 18) x := fun x hx => ⟨by have := hx.1; omega, fun r hr => upR r (hx.2 r hr)⟩
 have self : Shp (A + 1) (max B 34) (max C 18) m := .of (by omega) fun x hx => upH x (h1 x hx)
 have em : okH (max B 34) (max C 18) ([] : List (List Nt)) := ⟨by simp, fun r hr => by cases hr⟩
 have er : okR (max C 18) ([] : List Nt) := ⟨by simp, fun r hr => by cases hr⟩
 unfold bentP
 split
 ·exact self
 ·unfold bentH
  have hdok : okH B C (m.getD (aroundL a m.length).toNat []) := getD_ok h1 ⟨by simp, fun r hr => by cases hr⟩
  obtain ⟨hd, hhd⟩ : ∃ hd, m.getD (aroundL a m.length).toNat [] = hd := ⟨_, rfl⟩
  rw [hhd] at hdok ⊢
  split
  ·exact self
  ·unfold bentK
   have b0ok : okR C (hd.getD (aroundL (a.tdiv 2) hd.length).toNat []) := getD_ok hdok.2 ⟨by simp, fun r hr => by cases hr⟩
   obtain ⟨b0, hb0⟩ : ∃ b0, hd.getD (aroundL (a.tdiv 2) hd.length).toNat [] = b0 := ⟨_, rfl⟩
   rw [hb0] at b0ok ⊢
   obtain ⟨hi, _⟩ : ∃ x, (aroundL a m.length).toNat = x := ⟨_, rfl⟩
   have setH : ∀ (hi bi : Nat) (y : List Nt), okR (max C 18) y -> Shp (A + 1) (max B 34) (max C 18) (m.set hi (hd.set bi y)) := fun hi bi y hy =>
    .of (by simp; omega) (mem_set (fun x hx => upH x (h1 x hx)) ⟨by have := hdok.1; simp; omega, mem_set (fun r hr => upR r (hdok.2 r hr)) hy⟩)
   unfold bentT
   split
   ·refine setH _ _ _ ?_
    unfold bentB
    split
    ·rename_i n hn
     exact ⟨by have := b0ok.1; simp; omega, mem_set b0ok.2 (bentN_ok (b0ok.2 n (List.mem_of_getElem? hn)))⟩
    ·exact upR _ b0ok
   ·split
    ·exact setH _ _ _ er
    ·split
     ·exact .of (by simp; omega) (mem_set (fun x hx => upH x (h1 x hx)) ⟨by have := hdok.1; simp; omega, fun r hr => upR r (hdok.2 r (List.mem_of_mem_take hr))⟩)
     ·split
      ·refine setH _ _ _ ⟨by have := b0ok.1; simp [growB]; omega, fun n hn => ?_⟩
       rcases List.mem_append.1 hn with h | h
       ·exact b0ok.2 n h
       ·rw [(List.mem_replicate.1 h).2]; exact ⟨by decide, by decide⟩
      ·split
       ·refine .of (by simp; omega) fun x hx => ?_
        rcases List.mem_append.1 hx with h' | h'
        ·exact upH x (h1 x h')
        ·rw [List.mem_singleton.1 h']
         cases m with
         | nil => exact em
         | cons y r => exact upH y (h1 y (List.mem_cons_self ..))
       ·split
        ·refine .of (by simp; omega) fun x hx => ?_
         obtain ⟨y, hy, rfl⟩ := List.mem_map.1 hx
         have hyk := h1 y hy
         refine ⟨by have := hyk.1; simp [growH]; omega, fun r hr => ?_⟩
         rcases List.mem_append.1 hr with h' | h'
         ·exact upR r (hyk.2 r h')
         ·rw [(List.mem_replicate.1 h').2]
          exact ⟨by simp; omega, fun n hn => by rw [List.mem_singleton.1 hn]; exact ⟨by decide, by decide⟩⟩
        ·exact .of (by simp; omega) fun x hx => upH x (h1 x (List.mem_of_mem_take hx))
theorem vm_shp {m : List (List (List Nt))} (hm : Vm m) : Shp 2 32 16 m := by
 refine .of (by rcases hm.hands with h | h <;> omega) fun x hx => ⟨by have := hm.bars x hx; have := hm.pos; omega, fun r hr => ⟨(hm.notes x hx r hr).1, fun n hn => ?_⟩⟩
 have := rightP_iff ((hm.notes x hx r hr).2.2 n hn)
 exact ⟨by omega, by omega⟩
theorem Shp.len {A B C : Nat} {m : List (List (List Nt))} (h : Shp A B C m) (hA : A <= 100000) (hB : B <= 100000) (hC : C <= 100000) : lenM m /\ okM m /\ melB m :=
 ⟨⟨by have := h.a; omega, fun x hx => ⟨by have := h.b x hx; omega, fun r hr => by have := (h.c x hx r hr).1; omega⟩⟩, fun x hx r hr => (h.c x hx r hr).2, ⟨by have := h.a; omega, fun x hx => ⟨by have := h.b x hx; omega, fun r hr => by have := (h.c x hx r hr).1; omega⟩⟩⟩
end Go.Proofs.YtnncijjkbonokaaDoor
namespace Go.Proofs.YtnncijjkbonokaaDoor
open Go.RowKit Dak
abbrev v3 (t : Nat × Nat × Nat) : AV := .agg [vi t.1, vi t.2.1, vi t.2.2]
end Go.Proofs.YtnncijjkbonokaaDoor
namespace Go.Proofs.YtnncijjkbonokaaDoor
open Dak
def c3 : CCode :=
 (.seq (.region [oo 10 (.mov (.const (.bool false)))])
 (.seq (.region [vv 23 0, oo 24 (.call (.func 10) [(T 23)]), oo 11 (.alloc 25 (.agg [(.val (.slice none 0 0))])), nn (.store 1 (T 11) (T 24))])
 (.seq (.region [oo 25 (.load true 1 (T 11)), vv 26 1, vv 27 2, vv 28 3, oo 29 (.call (.func 11) [(T 25), (T 26), (T 27), (T 28)]), oo 12 (.alloc 25 (.agg [(.val (.slice none 0 0))])), nn (.store 1 (T 12) (T 29))])
 (.seq (.region [oo 30 (.bslice 34 1 [(.const (.slice none 0 0))]), vv 13 30])
 (.seq (.seq (.region [oo 14 (.mov (kk 0))])
 (.block 0 (.loop
 (.seq (.seq (.region [vv 31 14, oo 32 (.fieldAddr 0 (T 11)), oo 33 (.load false 1 (T 32)), oo 34 (.len (T 33)), oo 35 (.ibin .lss (T 31) (T 34))])
 (.cond (T 35)
 .skip
 (.exit 0)))
 (.seq (.block 1 (.region [vv 38 13, oo 39 (.fieldAddr 0 (T 11)), oo 40 (.load false 1 (T 39)), vv 41 14, oo 42 (.idxS 1 (T 40) (T 41)), oo 43 (.load false 1 (T 42)), oo 44 (.append 34 1 24 (T 38) (T 43)), vv 13 44]))
 (.region [vv 36 14, oo 37 (.ibin .add (T 36) (kk 1)), vv 14 37]))))))
 (.seq (.seq (.region [oo 15 (.mov (kk 0))])
 (.block 2 (.loop
 (.seq (.seq (.region [vv 45 15, oo 46 (.fieldAddr 0 (T 12)), oo 47 (.load false 1 (T 46)), oo 48 (.len (T 47)), oo 49 (.ibin .lss (T 45) (T 48))])
 (.cond (T 49)
 .skip
 (.exit 2)))
 (.seq (.block 3 (.region [vv 52 13, oo 53 (.fieldAddr 0 (T 12)), oo 54 (.load false 1 (T 53)), vv 55 15, oo 56 (.idxS 1 (T 54) (T 55)), oo 57 (.load false 1 (T 56)), oo 58 (.append 34 1 24 (T 52) (T 57)), vv 13 58]))
 (.region [vv 50 15, oo 51 (.ibin .add (T 50) (kk 1)), vv 15 51]))))))
 (.seq (.region [vv 59 4, oo 60 (.call (.func 12) [(T 59), (kk 51)]), oo 61 (.ibin .sub (T 60) (kk 1)), vv 62 4, oo 63 (.bslice 3 1 [(T 61), (T 62), (kk (-1))]), vv 16 63])
 (.seq (.seq (.region [oo 17 (.mov (kk 0))])
 (.block 4 (.loop
 (.seq (.seq (.region [vv 64 17, vv 65 13, oo 66 (.len (T 65)), oo 67 (.ibin .lss (T 64) (T 66)), vv 68 67, vt 69 68 17, gt 70 68 (.ibin .lss (T 69) (kk 20)), oo 71 (.pick (T 68) (T 70) (.const (.bool false)))])
 (.cond (T 71)
 .skip
 (.exit 4)))
 (.seq (.block 5 (.seq (.region [oo 18 (.mov (kk 0))])
 (.block 6 (.loop
 (.seq (.seq (.region [vv 74 18, oo 75 (.ibin .lss (T 74) (kk 3))])
 (.cond (T 75)
 .skip
 (.exit 6)))
 (.seq (.block 7 (.seq (.drawn [vv 79 13, vv 80 17, oo 81 (.idxS 1 (T 79) (T 80)), oo 82 (.load false 1 (T 81)), vv 83 16, vv 84 18, oo 85 (.idxS 1 (T 83) (T 84)), oo 86 (.load false 1 (T 85))] [(oo 87 (.call (.func 13) [(T 82), (T 86)]), []), (vv 78 87, []), (oo 88 (.extract (T 78) 0), []), (oo 89 (.extract (T 78) 1), []), (vv 19 88, []), (vv 20 89, [])])
 (.seq (.drawn [vv 91 13, vv 92 17, oo 93 (.idxS 1 (T 91) (T 92)), oo 94 (.load false 1 (T 93)), vv 95 16, vv 96 18, oo 97 (.idxS 1 (T 95) (T 96)), oo 98 (.load false 1 (T 97))] [(oo 99 (.call (.func 14) [(T 94), (T 98)]), []), (vv 90 99, []), (oo 100 (.extract (T 90) 0), []), (oo 101 (.extract (T 90) 1), []), (vv 21 100, []), (vv 22 101, [])])
 (.seq (.region [vv 102 20, vv 103 22, oo 104 (.ibin .neq (T 102) (T 103)), vv 105 104, vf 106 105 19, vf 107 105 21, gf 108 105 (.call (.func 15) [(T 106), (T 107)]), gf 109 105 (.lnot (T 108)), oo 110 (.pick (T 105) (.const (.bool true)) (T 109))])
 (.cond (T 110)
 (.seq (.region [oo 10 (.mov (.const (.bool false)))])
 .ret)
 .skip)))))
 (.region [vv 76 18, oo 77 (.ibin .add (T 76) (kk 1)), vv 18 77])))))))
 (.region [vv 72 17, oo 73 (.ibin .add (T 72) (kk 1)), vv 17 73]))))))
 (.seq (.region [oo 111 (.call (.func 16) []), vv 10 111])
 .ret)))))))))
end Go.Proofs.YtnncijjkbonokaaDoor
namespace Dak
open Go Go.RowKit
variable [Globs]
theorem tr_ofRow {k : IntKind} {w : World} {a : Option Addr} {len cap : Nat} {zs : List Int} (h : (a = none /\ len = 0 /\ cap = 0 /\ zs = []) \/
 ∃ x, a = some x /\ len <= cap /\ cap <= maxLen /\ zs.length = cap /\ (∀ i, i < zs.length -> w.cell? (x.add i) = some (.int k (zs.getD i 0))) /\ ∀ n ∈ zs, (Lit.int k n).wf = true) :
 TR w (fun _ => True) (.list 1 ((zs.take len).map fun n => .val (.int k n))) (.slice a len cap) := by
 rcases h with ⟨rfl, rfl, rfl, rfl⟩ | ⟨⟨b, o, sp⟩, rfl, hl, hm, hz, hc, _⟩
 ·exact .nolist _ _ _ (Nat.zero_le _)
 ·by_cases h0 : len = 0
  ·subst h0; exact .nolist _ _ _ hm
  ·have hsp : sp = none := World.cell?_spot (hc 0 (by omega))
   subst hsp
   have hlen : ((zs.take len).map fun n => AV.val (.int k n)).length = len := by simp; omega
   have := TR.list (w := w) (F := fun _ => True) 1 ((zs.take len).map fun n => AV.val (.int k n)) b o cap (fun i _ => .int k (zs.getD i 0)) trivial (isC.of_cell (hc 0 (by omega))) (by omega) hm
    (fun i hi => by simp [AV.cells]) (fun i j hi hj => by
     have : j = 0 := by omega
     subst this
     have := hc i (by omega)
     rw [Nat.mul_one, Nat.add_zero]
     by_cases hi0 : i = 0
     ·subst hi0; simpa [Addr.add] using this
     ·simpa [Addr.add, hi0] using this) (fun i j hi hj => rfl) (fun i hi j hj => by
     simp only [List.getElem_map, AV.cells, List.length_singleton] at hj ⊢
     have : j = 0 := by omega
     subst this
     have h1 : i < zs.length := by omega
     simp only [List.getElem_cons_zero, List.getElem_take, List.getD_eq_getElem?_getD, List.getElem?_eq_getElem h1, Option.getD_some]
     exact .val _)
   rw [hlen] at this
   exact this
theorem wf_i64 {n : Int} (h : (Lit.int .i64 n).wf = true) : -9223372036854775808 <= n /\ n <= 9223372036854775807 := by
 simp [Lit.wf] at h
 have : IntKind.i64.min = -9223372036854775808 := by decide
 omega
end Dak
namespace Go.Proofs.YtnncijjkbonokaaDoor
open Go Go.RowKit Dak Go.ChangeAt Go.ChangeShapes Go.WideShapes
theorem u91 : Tryd.prog.underlying 91 = some (.array 7 5) := by kernel_rfl
theorem u92 : Tryd.prog.underlying 92 = some (.array 8 5) := by kernel_rfl
theorem u93 : Tryd.prog.underlying 93 = some (.array 5 5) := by kernel_rfl
theorem u5 : Tryd.prog.underlying 5 = some (.int .u8) := by kernel_rfl
theorem cl5 : Tryd.prog.cellsOf 5 = 1 := by kernel_rfl
theorem cl91 : Tryd.prog.cellsOf 91 = 7 := by kernel_rfl
theorem cl92 : Tryd.prog.cellsOf 92 = 8 := by kernel_rfl
theorem cl93 : Tryd.prog.cellsOf 93 = 5 := by kernel_rfl
theorem g0n : Tryd.prog.globalNamed "dactyl/music.octaves" = some 0 := by kernel_rfl
theorem g1n : Tryd.prog.globalNamed "dactyl/music.names" = some 1 := by kernel_rfl
theorem g2n : Tryd.prog.globalNamed "dactyl/music.lengths" = some 2 := by kernel_rfl
theorem g0t : (Tryd.prog.globals[0]?).map (·.type) = some 91 := by kernel_rfl
theorem g1t : (Tryd.prog.globals[1]?).map (·.type) = some 92 := by kernel_rfl
theorem g2t : (Tryd.prog.globals[2]?).map (·.type) = some 93 := by kernel_rfl
abbrev laidL : List (String × DataW Unit) := [("dactyl/music.octaves", Rows.laid_dactyl_music_octaves), ("dactyl/music.names", Rows.laid_dactyl_music_names), ("dactyl/music.lengths", Rows.laid_dactyl_music_lengths)]
section
variable {H : Type} {enc : TypeId × Value -> H} {W : World} {base : Nat} {sp : Nat -> Bool} {held : Bool}
theorem laid_cells {g n t : Nat} {nm : String} {cs : Array Value} {fuel : Nat} {l : List Int} {p : List MemPlace} (hg : Tryd.prog.globalNamed nm = some g) (hv : W.var? Tryd.prog nm = some cs) (hu : Tryd.prog.underlying t = some (.array n 5)) (hct : Tryd.prog.cellsOf t = n)
 (h : DataW.trod enc Tryd.prog W base sp held fuel t cs.toList = some (.agg (l.map fun x => .lit (.int .u8 x)), p)) : ∀ (j : Nat) (hj : j < l.length), W.cell? ⟨g, j, none⟩ = some (.int .u8 l[j]) := by
 obtain ⟨xs, m, rfl, hx, hlen, hn, hel⟩ := DataW.trod_array hu h
 simp only [Prod.mk.injEq, DataW.agg.injEq] at hx
 have hl : l.length = n := by
  have := congrArg List.length hx.1
  simp only [List.length_map] at this
  omega
 intro j hj
 have hE := hel j (by omega)
 have hxj : j < xs.length := by omega
 rw [cl5, Nat.mul_one, List.getElem?_eq_getElem hxj] at hE
 obtain ⟨k, e1, e2, _⟩ := DataW.trod_int u5 hE
 have hk : k = l[j] := by
  have h1 : (l.map fun x => DataW.lit (H := H) (.int .u8 x))[j]? = (xs.map (·.1))[j]? := by rw [hx.1]
  rw [List.getElem?_map, List.getElem?_map, List.getElem?_eq_getElem hj, List.getElem?_eq_getElem hxj, e2] at h1
  simpa using h1.symm
 rw [World.var?_cell hg hv j, <- Array.getElem?_toList, <- hk]
 have h2 : (List.take 1 (List.drop j cs.toList))[0]? = some (Value.int .u8 k) := by rw [e1]; rfl
 rw [List.getElem?_take, if_pos (by omega), List.getElem?_drop, Nat.add_zero] at h2
 exact h2
end
theorem gl_of_laid {W : World} (h : laidMetH Tryd.prog laidL W) : GlOk W (fun _ => True) := by
 rw [MakeChecks.laidMetH_plain _ _ _ (by kernel_rfl)] at h
 obtain ⟨ps, ⟨g0, t0, cs0, f0, p0, q0, hg0, ht0, hv0, hd0, ⟨g1, t1, cs1, f1, p1, q1, hg1, ht1, hv1, hd1, ⟨g2, t2, cs2, f2, p2, q2, hg2, ht2, hv2, hd2, _, _⟩, _⟩, _⟩, _, _⟩ := h
 obtain rfl := Option.some.inj (g0n.symm.trans hg0)
 obtain rfl := Option.some.inj (g1n.symm.trans hg1)
 obtain rfl := Option.some.inj (g2n.symm.trans hg2)
 obtain rfl := Option.some.inj (g0t.symm.trans ht0)
 obtain rfl := Option.some.inj (g1t.symm.trans ht1)
 obtain rfl := Option.some.inj (g2t.symm.trans ht2)
 have k0 := laid_cells (l := [8, 24, 56, 16, 40, 48, 32]) hg0 hv0 u91 cl91 hd0
 have k1 := laid_cells (l := [25, 17, 11, 27, 19, 10, 26, 9]) hg1 hv1 u92 cl92 hd1
 have k2 := laid_cells (l := [36, 4, 32, 0, 36]) hg2 hv2 u93 cl93 hd2
 have key : ∀ (g : Nat) (l : List Int), 0 < l.length -> Globs.tab g = l.map (fun x => Value.int .u8 x) -> (∀ (j : Nat) (hj : j < l.length), W.cell? ⟨g, j, none⟩ = some (.int .u8 l[j])) ->
  True /\ g < W.heap.size /\ ∀ j (h : j < (Globs.tab g).length), W.cell? ⟨g, j, none⟩ = some (Globs.tab g)[j] /\ (Globs.tab g)[j].oneCell' = true := by
  intro g l hl hT hc
  refine ⟨trivial, (isC.of_cell (hc 0 hl)).lt, fun j hj => ?_⟩
  have hj' : j < l.length := by rw [hT, List.length_map] at hj; exact hj
  have e : (Globs.tab g)[j] = Value.int .u8 l[j] := by simp only [hT, List.getElem_map]
  rw [e]
  exact ⟨hc j hj', rfl⟩
 intro g hg
 match g, hg with
 | 0, _ => exact key 0 _ (by decide) rfl k0
 | 1, _ => exact key 1 _ (by decide) rfl k1
 | 2, _ => exact key 2 _ (by decide) rfl k2
 | _ + 3, hg => exact absurd rfl hg
section
variable {H : Type} {enc : TypeId × Value -> H} {W : World} {base : Nat} {sp : Nat -> Bool} {held : Bool}
end
theorem door_met (os : Os) (args : Array Value) : laidMetH Tryd.prog laidL ((World.doorLaid Tryd.prog 400 os).forCall (fun _ _ => 0) ⟨#[], args, []⟩).memory :=
 laidMetH_of_parts3 (fuel := 8) (laidMet_of_run' 8 (by kernel_rfl) (by kernel_rfl)) (by kernel_rfl) (by kernel_rfl)
end Go.Proofs.YtnncijjkbonokaaDoor
