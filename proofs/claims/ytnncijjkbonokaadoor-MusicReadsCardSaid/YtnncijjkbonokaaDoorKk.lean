/- Lemmas used by Bars, Encodes, Reads, Valid. -/
import Derived.Test.YtnncijjkbonokaaDoorKa
import Derived.Test.YtnncijjkbonokaaDoorKb
import Derived.Test.YtnncijjkbonokaaDoorKc
import Derived.Test.YtnncijjkbonokaaDoorKd
import Derived.Test.YtnncijjkbonokaaDoorKe
import Derived.Test.YtnncijjkbonokaaDoorProg
import Derived.WalkKit
import Derived.WalkSpells
import Derived.WalkLawsBesides
import Derived.Orders
import Derived.Laws.MakeOwn
import Derived.Deep.AppendSrc
import Derived.Lib.AppendZerosOnto
import Derived.Defers
import Derived.Laws.StructEq
import Derived.Scope
import Derived.Deep.LoopGhost
import Derived.OrdersIn
import Derived.ControlIn
import Derived.Sort.LoopGhostIn
import Derived.RangeFuncLeaves
import Derived.RangeFuncRecord
import Derived.RangeFuncFrom
set_option linter.unusedSimpArgs false
set_option linter.unusedVariables false
set_option linter.unusedSectionVars false
namespace Go.Proofs.YtnncijjkbonokaaDoor
open Dak
def c37 : CCode :=
 (.seq (.region [oo 2 (.mov (kk 0))])
 (.seq (.seq (.region [vv 4 0, oo 5 (.len (T 4)), oo 6 (.ibin .eql (T 5) (kk 0))])
 (.cond (T 6)
 (.seq (.region [oo 2 (.mov (kk 1))])
 .ret)
 .skip))
 (.seq (.seq (.region [oo 3 (.mov (kk 0))])
 (.block 0 (.loop
 (.seq (.seq (.region [vv 7 3, vv 8 0, oo 9 (.len (T 8)), oo 10 (.ibin .lss (T 7) (T 9))])
 (.cond (T 10)
 .skip
 (.exit 0)))
 (.seq (.block 1 (.seq (.region [vv 13 0, vv 14 3, oo 15 (.idxS 3 (T 13) (T 14)), oo 16 (.load true 3 (T 15)), oo 17 (.call (.func 69) [(T 16)]), oo 18 (.lnot (T 17))])
 (.cond (T 18)
 (.seq (.region [oo 2 (.mov (kk 1))])
 .ret)
 .skip)))
 (.region [vv 11 3, oo 12 (.ibin .add (T 11) (kk 1)), vv 3 12]))))))
 (.seq (.region [oo 2 (.mov (kk 0))])
 .ret))))
theorem f37 : fnC Tryd.prog 37 = some (c37, 19, [(.tmp 2)]) := by kernel_rfl
end Go.Proofs.YtnncijjkbonokaaDoor
namespace Go.Proofs.YtnncijjkbonokaaDoor
open Dak
def c69 : CCode :=
 (.seq (.region [oo 1 (.box 64 (T 0)), oo 2 (.mov (.const (.bool false)))])
 (.seq (.seq (.region [oo 3 (.fieldAddr 0 (T 1)), oo 4 (.load false 1 (T 3)), oo 5 (.ibin .lss (T 4) (kk (-1))), vv 6 5, gf 7 6 (.fieldAddr 0 (T 1)), gf 8 6 (.load false 1 (T 7)), gf 9 6 (.ibin .gtr (T 8) (kk 48)), oo 10 (.pick (T 6) (.const (.bool true)) (T 9)), vv 11 10, gf 12 11 (.fieldAddr 1 (T 1)), gf 13 11 (.load false 1 (T 12)), gf 14 11 (.ibin .lss (T 13) (kk 0)), oo 15 (.pick (T 11) (.const (.bool true)) (T 14)), vv 16 15, gf 17 16 (.fieldAddr 1 (T 1)), gf 18 16 (.load false 1 (T 17)), gf 19 16 (.ibin .gtr (T 18) (kk 4)), oo 20 (.pick (T 16) (.const (.bool true)) (T 19)), vv 21 20, gf 22 21 (.fieldAddr 2 (T 1)), gf 23 21 (.load false 1 (T 22)), gf 24 21 (.ibin .lss (T 23) (kk (-1))), oo 25 (.pick (T 21) (.const (.bool true)) (T 24)), vv 26 25, gf 27 26 (.fieldAddr 2 (T 1)), gf 28 26 (.load false 1 (T 27)), gf 29 26 (.ibin .gtr (T 28) (kk 1)), oo 30 (.pick (T 26) (.const (.bool true)) (T 29))])
 (.cond (T 30)
 (.seq (.region [oo 2 (.mov (.const (.bool false)))])
 .ret)
 .skip))
 (.seq (.region [oo 31 (.fieldAddr 0 (T 1)), oo 32 (.load false 1 (T 31)), oo 33 (.ibin .geq (T 32) (kk 0)), vv 34 33, gf 35 34 (.fieldAddr 2 (T 1)), gf 36 34 (.load false 1 (T 35)), gf 37 34 (.ibin .eql (T 36) (kk 0)), oo 38 (.pick (T 34) (.const (.bool true)) (T 37)), vv 2 38])
 .ret)))
theorem f69 : fnC Tryd.prog 69 = some (c69, 39, [(.tmp 2)]) := by kernel_rfl
end Go.Proofs.YtnncijjkbonokaaDoor
namespace Go.Proofs.YtnncijjkbonokaaDoor
open Go.RowKit Dak
set_option maxRecDepth 100000 in
theorem note_s (n : Nt) : Ctr Tryd.prog 69 [vnote n] (vb (rightP n)) := by
 refine specE f69 (by simp) fun F0 w0 => ?_
 by_cases h1 : n.s < -1
 ·simp only [c69, go_sem, ↓reduceIte, Nat.reduceLT, Nat.reduceEqDiff, Nat.reduceAdd, h1]
  rw [show rightP n = false by simp only [rightP, decide_eq_false_iff_not]; omega]
  exact .tree _ rfl
 by_cases h2 : 48 < n.s
 ·simp only [c69, go_sem, ↓reduceIte, Nat.reduceLT, Nat.reduceEqDiff, Nat.reduceAdd, h1, h2]
  rw [show rightP n = false by simp only [rightP, decide_eq_false_iff_not]; omega]
  exact .tree _ rfl
 by_cases h3 : n.l < 0
 ·simp only [c69, go_sem, ↓reduceIte, Nat.reduceLT, Nat.reduceEqDiff, Nat.reduceAdd, h1, h2, h3]
  rw [show rightP n = false by simp only [rightP, decide_eq_false_iff_not]; omega]
  exact .tree _ rfl
 by_cases h4 : 4 < n.l
 ·simp only [c69, go_sem, ↓reduceIte, Nat.reduceLT, Nat.reduceEqDiff, Nat.reduceAdd, h1, h2, h3, h4]
  rw [show rightP n = false by simp only [rightP, decide_eq_false_iff_not]; omega]
  exact .tree _ rfl
 by_cases h5 : n.a < -1
 ·simp only [c69, go_sem, ↓reduceIte, Nat.reduceLT, Nat.reduceEqDiff, Nat.reduceAdd, h1, h2, h3, h4, h5]
  rw [show rightP n = false by simp only [rightP, decide_eq_false_iff_not]; omega]
  exact .tree _ rfl
 by_cases h6 : 1 < n.a
 ·simp only [c69, go_sem, ↓reduceIte, Nat.reduceLT, Nat.reduceEqDiff, Nat.reduceAdd, h1, h2, h3, h4, h5, h6]
  rw [show rightP n = false by simp only [rightP, decide_eq_false_iff_not]; omega]
  exact .tree _ rfl
 by_cases h7 : 0 <= n.s
 ·simp only [c69, go_sem, ↓reduceIte, Nat.reduceLT, Nat.reduceEqDiff, Nat.reduceAdd, h1, h2, h3, h4, h5, h6, h7]
  rw [show rightP n = true by simp only [rightP, decide_eq_true_eq]; omega]
  exact .tree _ rfl
 by_cases h8 : n.a = 0
 ·have e1 : ¬ ((0 : Int) < -1) := by decide
  have e2 : ¬ ((1 : Int) < 0) := by decide
  simp only [c69, go_sem, ↓reduceIte, Nat.reduceLT, Nat.reduceEqDiff, Nat.reduceAdd, h1, h2, h3, h4, h8, e1, e2, h7]
  rw [show rightP n = true by simp only [rightP, decide_eq_true_eq]; omega]
  exact .tree _ rfl
 ·simp only [c69, go_sem, ↓reduceIte, Nat.reduceLT, Nat.reduceEqDiff, Nat.reduceAdd, h1, h2, h3, h4, h5, h6, h7, h8]
  rw [show rightP n = false by simp only [rightP, decide_eq_false_iff_not]; omega]
  exact .tree _ rfl
def barE (l : List Nt) : Int := bif barP l then 0 else 1
set_option maxRecDepth 100000 in
theorem bar_s (l : List Nt) (hl : l.length <= 9223372036854775806) : Ctr Tryd.prog 37 [vbar l] (ve (barE l)) := by
 refine specE f37 (by simp) fun F0 w0 => ?_
 by_cases h : (l.length : Int) = 0
 ·simp only [c37, go_sem, ↓reduceIte, reduceCtorEq, Nat.reduceLT, h]
  rw [barE, barP_nil (by omega)]
  exact .tree _ rfl
 simp only [c37, go_sem, ↓reduceIte, reduceCtorEq, Nat.reduceLT, h]
 refine loopX 0 (fun m s => ∃ k : Nat, m = l.length - k /\ k <= l.length /\ (l.take k).all rightP = true /\ s = ⟨[(0, vbar l), (3, vi k)], []⟩) (fun s => barE l = 0 /\ s = ⟨[], []⟩) l.length ⟨[(0, vbar l), (3, vi (0 : Nat))], []⟩ (WkE.keep (by simp only [go_sem, ↓reduceIte, reduceCtorEq]; rfl)) ⟨0, by omega, by omega, rfl, rfl⟩ ?_ ?_
 rotate_left
 ·rintro s ⟨e, rfl⟩
  rw [e]
  simp only [go_sem, ↓reduceIte, Nat.reduceLT]
  exact .tree _ rfl
 rintro m s ⟨k, rfl, hk, ht, rfl⟩
 by_cases hlt : k < l.length
 ·have h1 : (k : Int) < (l.length : Int) := by omega
  have h0 : (0 : Int) <= (k : Int) := by omega
  have hw : IntKind.i64.wrap ((k : Int) + 1) = ((k + 1 : Nat) : Int) := by rw [wrap_id (by omega) (by omega)]; omega
  simp only [go_sem, ↓reduceIte, reduceCtorEq, Nat.reduceLT, Nat.reduceEqDiff, Nat.reduceAdd, h1, h0, List.getElem?_map, List.getElem?_eq_getElem hlt]
  refine callT (note_s l[k]) rfl ?_
  cases hr : rightP l[k] with
  | true =>
   simp only [go_sem, ↓reduceIte, reduceCtorEq, Nat.reduceLT, Nat.reduceEqDiff, hw]
   exact ⟨l.length - (k + 1), ⟨[(0, vbar l), (3, vi (k + 1 : Nat))], []⟩, by omega, WkE.keep (by simp only [go_sem, ↓reduceIte, reduceCtorEq]), k + 1, rfl, by omega, by rw [List.take_succ_eq_append_getElem hlt, List.all_append, ht]; simp [hr], rfl⟩
  | false =>
   simp only [go_sem, ↓reduceIte, Nat.reduceLT]
   have : barE l = 1 := by
    have hb : barP l = false := by
     rw [Bool.eq_false_iff]
     intro hh
     have := List.all_eq_true.1 (Bool.and_eq_true_iff.1 hh).2 _ (List.getElem_mem hlt)
     rw [hr] at this; cases this
    rw [barE, hb]; rfl
   rw [this]
   exact .tree _ rfl
 ·have h1 : ¬ (k : Int) < (l.length : Int) := by omega
  simp only [go_sem, ↓reduceIte, reduceCtorEq, Nat.reduceLT, Nat.reduceEqDiff, h1]
  refine ⟨⟨[], []⟩, WkE.keep trivial, ?_, rfl⟩
  rw [List.take_of_length_le (by omega)] at ht
  rw [barE, barP_pos (by omega), ht]; rfl
end Go.Proofs.YtnncijjkbonokaaDoor
