/- Lemmas used by Encodes, Lines, Reads. -/
import Derived.Test.YtnncijjkbonokaaDoorKa
import Derived.Test.YtnncijjkbonokaaDoorKb
import Derived.Test.YtnncijjkbonokaaDoorKc
import Derived.Test.YtnncijjkbonokaaDoorKd
import Derived.Test.YtnncijjkbonokaaDoorKe
import Derived.Test.YtnncijjkbonokaaDoorKf
import Derived.Test.YtnncijjkbonokaaDoorKj
import Derived.Test.YtnncijjkbonokaaDoorProg
import Derived.WalkKit
import Derived.WalkSpells
import Derived.WalkLawsBesides
import Derived.Orders
import Derived.Laws.MakeOwn
import Derived.Deep.AppendSrc
import Derived.Lib.AppendZerosOnto
import Derived.Defers
import Derived.Laws.StructEq
import Derived.Scope
import Derived.Deep.LoopGhost
import Derived.OrdersIn
import Derived.ControlIn
import Derived.Sort.LoopGhostIn
import Derived.RangeFuncLeaves
import Derived.RangeFuncRecord
import Derived.RangeFuncFrom
set_option linter.unusedSimpArgs false
set_option linter.unusedVariables false
set_option linter.unusedSectionVars false
namespace Go.Proofs.YtnncijjkbonokaaDoor
open Dak
def c27 : CCode :=
 (.seq (.region [oo 3 (.box 25 (T 0)), oo 6 (.mov (.const (.slice none 0 0)))])
 (.seq (.region [oo 17 (.fieldAddr 0 (T 3)), oo 18 (.load false 1 (T 17)), oo 19 (.len (T 18)), vv 7 19])
 (.seq (.region [vv 20 7, oo 21 (.mkslice 30 1 24 (.val (.slice none 0 0)) (T 20) (T 20)), vv 8 21])
 (.seq (.region [vv 22 7, oo 23 (.mkslice 3 1 8 (.val (.int .i64 0)) (T 22) (T 22)), vv 9 23])
 (.seq (.seq (.region [oo 10 (.mov (kk 0))])
 (.block 0 (.loop
 (.seq (.seq (.region [vv 24 10, vv 25 7, oo 26 (.ibin .lss (T 24) (T 25))])
 (.cond (T 26)
 .skip
 (.exit 0)))
 (.seq (.block 1 (.seq (.region [vv 29 9, vv 30 10, oo 31 (.idxS 1 (T 29) (T 30)), nn (.store 1 (T 31) (kk (-1)))])
 (.seq (.region [vv 32 7, oo 33 (.ibin .eql (T 32) (kk 2))])
 (.cond (T 33)
 (.drawn [vv 34 8, vv 35 10, vv 36 8, vv 37 10, oo 38 (.idxS 1 (T 36) (T 37)), oo 39 (.load false 1 (T 38)), oo 40 (.bslice 5 1 [(.const (.int .u8 60)), (.const (.int .u8 28))]), vv 41 10, oo 42 (.idxS 1 (T 40) (T 41)), oo 43 (.load false 1 (T 42)), oo 44 (.bslice 5 1 [(T 43)])] [(oo 45 (.append 5 1 1 (T 39) (T 44)), [vv 34 8, vv 35 10]), (oo 46 (.idxS 1 (T 34) (T 35)), []), (nn (.store 1 (T 46) (T 45)), [])])
 .skip))))
 (.region [vv 27 10, oo 28 (.ibin .add (T 27) (kk 1)), vv 10 28]))))))
 (.seq (.seq (.region [vv 47 1, vv 11 47])
 (.block 2 (.loop
 (.seq (.seq (.region [vv 48 11, vv 49 2, oo 50 (.ibin .lss (T 48) (T 49))])
 (.cond (T 50)
 .skip
 (.exit 2)))
 (.seq (.block 3 (.seq (.region [oo 12 (.mov (kk 0))])
 (.seq (.seq (.region [oo 13 (.mov (kk 0))])
 (.block 4 (.loop
 (.seq (.seq (.region [vv 53 13, vv 54 7, oo 55 (.ibin .lss (T 53) (T 54))])
 (.cond (T 55)
 .skip
 (.exit 4)))
 (.seq (.block 5 (.seq (.seq (.region [vv 58 11, vv 59 1, oo 60 (.ibin .gtr (T 58) (T 59))])
 (.cond (T 60)
 (.region [vv 61 8, vv 62 13, vv 63 8, vv 64 13, oo 65 (.idxS 1 (T 63) (T 64)), oo 66 (.load false 1 (T 65)), oo 67 (.bslice 5 1 [(.const (.int .u8 0))]), oo 68 (.append 5 1 1 (T 66) (T 67)), oo 69 (.idxS 1 (T 61) (T 62)), nn (.store 1 (T 69) (T 68))])
 .skip))
 (.seq (.drawn [oo 71 (.fieldAddr 0 (T 3)), oo 72 (.load false 1 (T 71)), vv 73 13, oo 74 (.idxS 1 (T 72) (T 73)), oo 75 (.load false 1 (T 74)), vv 76 11, oo 77 (.idxS 1 (T 75) (T 76)), oo 78 (.load false 1 (T 77)), vv 79 9, vv 80 13, oo 81 (.idxS 1 (T 79) (T 80)), oo 82 (.load false 1 (T 81))] [(oo 83 (.call (.func 38) [(T 78), (T 82)]), []), (vv 70 83, []), (oo 84 (.extract (T 70) 0), []), (oo 85 (.extract (T 70) 1), []), (vv 14 84, []), (vv 15 85, [])])
 (.seq (.region [vv 86 9, vv 87 13, vv 88 15, oo 89 (.idxS 1 (T 86) (T 87)), nn (.store 1 (T 89) (T 88))])
 (.seq (.region [vv 90 8, vv 91 13, vv 92 8, vv 93 13, oo 94 (.idxS 1 (T 92) (T 93)), oo 95 (.load false 1 (T 94)), vv 96 14, oo 97 (.append 5 1 1 (T 95) (T 96)), oo 98 (.idxS 1 (T 90) (T 91)), nn (.store 1 (T 98) (T 97))])
 (.region [vv 99 12, vv 100 8, vv 101 13, oo 102 (.idxS 1 (T 100) (T 101)), oo 103 (.load false 1 (T 102)), oo 104 (.len (T 103)), oo 105 (.imax (T 99) (T 104)), vv 12 105]))))))
 (.region [vv 56 13, oo 57 (.ibin .add (T 56) (kk 1)), vv 13 57]))))))
 (.seq (.region [oo 16 (.mov (kk 0))])
 (.block 6 (.loop
 (.seq (.seq (.region [vv 106 16, vv 107 7, oo 108 (.ibin .lss (T 106) (T 107)), vv 109 108, vt 110 109 11, gt 111 109 (.ibin .add (T 110) (kk 1)), vt 112 109 2, gt 113 109 (.ibin .lss (T 111) (T 112)), oo 114 (.pick (T 109) (T 113) (.const (.bool false)))])
 (.cond (T 114)
 .skip
 (.exit 6)))
 (.seq (.block 7 (.block 8 (.loop
 (.seq (.seq (.region [vv 117 8, vv 118 16, oo 119 (.idxS 1 (T 117) (T 118)), oo 120 (.load false 1 (T 119)), oo 121 (.len (T 120)), vv 122 12, oo 123 (.ibin .lss (T 121) (T 122))])
 (.cond (T 123)
 .skip
 (.exit 8)))
 (.block 9 (.region [vv 124 8, vv 125 16, vv 126 8, vv 127 16, oo 128 (.idxS 1 (T 126) (T 127)), oo 129 (.load false 1 (T 128)), oo 130 (.bslice 5 1 [(.const (.int .u8 0))]), oo 131 (.append 5 1 1 (T 129) (T 130)), oo 132 (.idxS 1 (T 124) (T 125)), nn (.store 1 (T 132) (T 131))]))))))
 (.region [vv 115 16, oo 116 (.ibin .add (T 115) (kk 1)), vv 16 116])))))))))
 (.region [vv 51 11, oo 52 (.ibin .add (T 51) (kk 1)), vv 11 52]))))))
 (.seq (.region [vv 133 8, vv 6 133])
 .ret)))))))
theorem f27 : fnC Tryd.prog 27 = some (c27, 134, [(.tmp 6)]) := by kernel_rfl
end Go.Proofs.YtnncijjkbonokaaDoor
namespace Go.Proofs.YtnncijjkbonokaaDoor
open Go.RowKit Dak
def sepC (b : Bool) (a : List Int) : List Int := bif b then a ++ [0] else a
abbrev lineB : CCode := match c27 with | .seq _ (.seq _ (.seq _ (.seq _ (.seq _ (.seq (.seq _ (.block _ (.loop (.seq _ (.seq (.block _ (.seq _ (.seq (.seq _ (.block _ (.loop (.seq _ (.seq (.block _ b) _))))) _))) _))))) _))))) => b | _ => .skip
abbrev rowO (a : List Int) : AObj := .arr a.length 1 5 (a.map vu)
abbrev l1O (h0 : List (List Nt)) (a0 : List Int) (x0 : Int) : List AObj := [.arr 1 1 25 [vmel [h0]], .arr 1 1 30 [.own 3 a0.length 0 a0.length], .arr 1 1 3 [vi x0], rowO a0]
abbrev l2O (h0 h1 : List (List Nt)) (a0 a1 : List Int) (x0 x1 : Int) : List AObj := [.arr 1 1 25 [vmel [h0, h1]], .arr 2 1 30 [.own 3 a0.length 0 a0.length, .own 4 a1.length 0 a1.length], .arr 2 1 3 [vi x0, vi x1], rowO a0, rowO a1]
abbrev lineE (n : Nat) (fr to b most h : Nat) : List (Nat × AV) := [(1, vi fr), (2, vi to), (3, .ref 0 1 0 0), (7, vi n), (8, .own 1 n 0 n), (9, .own 2 n 0 n), (11, vi b), (12, vi most), (13, vi h)]
theorem map_sep (a : List Int) : a.map vu ++ [AV.val (.int .u8 0)] = (a ++ [0]).map vu := by simp
theorem len_sep (a : List Int) : a.length + 1 = (a ++ [0]).length := by simp
theorem map_app (a b : List Int) : a.map vu ++ b.map vu = (a ++ b).map vu := by simp
theorem len_app (a b : List Int) : a.length + b.length = (a ++ b).length := by simp
theorem take_all (a : List Int) : List.take a.length (a.map vu) = a.map vu := List.take_of_length_le (by simp)
set_option maxRecDepth 100000 in
theorem line_round10 (F0 : FD) (w0 : World) (h0 : List (List Nt)) (fr to b most : Nat) (a0 : List Int) (x0 : Int) (nb : List Nt) (hnb : h0[b]? = some nb) (hlen : nb.length <= 10000) (hr : ∀ n ∈ nb, rightP n = true) (hl : small x0) (hal : a0.length <= 10000) (hb : b <= 10000)
 {Q : Exit -> Est -> Prop} (hQ : ∀ s, WkE 134 s ⟨lineE 1 fr to b (max most (sepC (decide (fr < b)) a0 ++ cellsP nb x0).length) 0, l1O h0 (sepC (decide (fr < b)) a0 ++ cellsP nb x0) (lastP nb x0)⟩ -> Q .normal s) : CwpE Tryd.prog F0 w0 134 lineB Q ⟨lineE 1 fr to b most 0, l1O h0 a0 x0⟩ := by
 have gb : (0 : Int) <= (b : Int) := by omega
 have k0 : ((0 : Nat) : Int) = 0 := rfl
 have k1 : ((1 : Nat) : Int) = 1 := rfl
 have k2 : ((2 : Nat) : Int) = 2 := rfl
 have l01 : (0 : Int) < 1 := by decide
 have l02 : (0 : Int) < 2 := by decide
 have l12 : (1 : Int) < 2 := by decide
 have le01 : (0 : Int) <= 1 := by decide
 have hcl := cells_len nb x0
 unfold lineB c27
 refine CwpE.seqJ (fun s => s = ⟨lineE 1 fr to b most 0, l1O h0 (sepC (decide (fr < b)) a0) x0⟩) ?_ ?_
 ·refine CwpE.vc ?_
  by_cases hbf : fr < b
  ·have hbf' : (fr : Int) < (b : Int) := by omega
   have q1 : a0.length + 1 <= 140737488355328 := by omega
   simp only [go_sem, Nat.reducePow, Nat.reduceLeDiff, ↓reduceIte, Nat.reduceLT, Nat.reduceEqDiff, Nat.reduceAdd, Int.reduceToNat, Int.reduceToNat, Int.le_refl, hbf', k0, k1, l01, q1, take_all, Nat.mul_one]
   rw [show sepC (decide (fr < b)) a0 = a0 ++ [0] by simp only [sepC, hbf, decide_true, cond_true], len_sep, map_sep]
   exact ⟨_, WkE.keep (by simp only [go_sem, ↓reduceIte, Nat.reduceEqDiff, k0, k1]), rfl⟩
  ·have hbf' : ¬ (fr : Int) < (b : Int) := by omega
   simp only [go_sem, ↓reduceIte, Nat.reduceLT, Nat.reduceEqDiff, hbf']
   rw [show sepC (decide (fr < b)) a0 = a0 by simp only [sepC, hbf, decide_false, cond_false]]
   exact ⟨_, WkE.keep (by simp only [go_sem, ↓reduceIte, Nat.reduceEqDiff, k0, k1]), rfl⟩
 rintro _ rfl
 have hrl : (sepC (decide (fr < b)) a0).length <= 10001 := by
  cases decide (fr < b)
  ·simp only [sepC, cond_false]; omega
  ·simp only [sepC, cond_true, List.length_append, List.length_cons, List.length_nil]; omega
 generalize sepC (decide (fr < b)) a0 = r at hQ hrl ⊢
 have q2 : r.length + (cellsP nb x0).length <= 140737488355328 := by omega
 refine CwpE.vc ?_
 simp only [go_sem, ↓reduceIte, Nat.reduceLT, Nat.reduceEqDiff, Int.reduceToNat, Int.reduceToNat, Int.le_refl, k0, k1, l01, gb, hnb, List.getElem?_map, Option.map_some]
 refine callT (Cells_s nb x0 hlen hr hl) rfl ?_
 simp only [go_sem, ↓reduceIte, Nat.reduceLT, Nat.reduceEqDiff, Nat.reduceAdd, Int.reduceToNat, Int.reduceToNat, Int.le_refl, k0, k1, l01, Option.map_some, q2, take_all, Nat.mul_one, List.length_map]
 rw [len_app, map_app]
 simp only [max_if]
 exact hQ _ (WkE.keep (by simp only [go_sem, ↓reduceIte, Nat.reduceEqDiff, k0, k1]))
set_option maxRecDepth 100000 in
theorem line_round20 (F0 : FD) (w0 : World) (h0 h1 : List (List Nt)) (fr to b most : Nat) (a0 a1 : List Int) (x0 x1 : Int) (nb : List Nt) (hnb : h0[b]? = some nb) (hlen : nb.length <= 10000) (hr : ∀ n ∈ nb, rightP n = true) (hl : small x0) (hal : a0.length <= 10000) (hb : b <= 10000)
 {Q : Exit -> Est -> Prop} (hQ : ∀ s, WkE 134 s ⟨lineE 2 fr to b (max most (sepC (decide (fr < b)) a0 ++ cellsP nb x0).length) 0, l2O h0 h1 (sepC (decide (fr < b)) a0 ++ cellsP nb x0) a1 (lastP nb x0) x1⟩ -> Q .normal s) : CwpE Tryd.prog F0 w0 134 lineB Q ⟨lineE 2 fr to b most 0, l2O h0 h1 a0 a1 x0 x1⟩ := by
 have gb : (0 : Int) <= (b : Int) := by omega
 have k0 : ((0 : Nat) : Int) = 0 := rfl
 have k1 : ((1 : Nat) : Int) = 1 := rfl
 have k2 : ((2 : Nat) : Int) = 2 := rfl
 have l01 : (0 : Int) < 1 := by decide
 have l02 : (0 : Int) < 2 := by decide
 have l12 : (1 : Int) < 2 := by decide
 have le01 : (0 : Int) <= 1 := by decide
 have hcl := cells_len nb x0
 unfold lineB c27
 refine CwpE.seqJ (fun s => s = ⟨lineE 2 fr to b most 0, l2O h0 h1 (sepC (decide (fr < b)) a0) a1 x0 x1⟩) ?_ ?_
 ·refine CwpE.vc ?_
  by_cases hbf : fr < b
  ·have hbf' : (fr : Int) < (b : Int) := by omega
   have q1 : a0.length + 1 <= 140737488355328 := by omega
   simp only [go_sem, Nat.reducePow, Nat.reduceLeDiff, ↓reduceIte, Nat.reduceLT, Nat.reduceEqDiff, Nat.reduceAdd, Int.reduceToNat, Int.reduceToNat, Int.le_refl, hbf', k0, k2, l02, q1, take_all, Nat.mul_one]
   rw [show sepC (decide (fr < b)) a0 = a0 ++ [0] by simp only [sepC, hbf, decide_true, cond_true], len_sep, map_sep]
   exact ⟨_, WkE.keep (by simp only [go_sem, ↓reduceIte, Nat.reduceEqDiff, k0, k2]), rfl⟩
  ·have hbf' : ¬ (fr : Int) < (b : Int) := by omega
   simp only [go_sem, ↓reduceIte, Nat.reduceLT, Nat.reduceEqDiff, hbf']
   rw [show sepC (decide (fr < b)) a0 = a0 by simp only [sepC, hbf, decide_false, cond_false]]
   exact ⟨_, WkE.keep (by simp only [go_sem, ↓reduceIte, Nat.reduceEqDiff, k0, k2]), rfl⟩
 rintro _ rfl
 have hrl : (sepC (decide (fr < b)) a0).length <= 10001 := by
  cases decide (fr < b)
  ·simp only [sepC, cond_false]; omega
  ·simp only [sepC, cond_true, List.length_append, List.length_cons, List.length_nil]; omega
 generalize sepC (decide (fr < b)) a0 = r at hQ hrl ⊢
 have q2 : r.length + (cellsP nb x0).length <= 140737488355328 := by omega
 refine CwpE.vc ?_
 simp only [go_sem, ↓reduceIte, Nat.reduceLT, Nat.reduceEqDiff, Int.reduceToNat, Int.reduceToNat, Int.le_refl, k0, k2, l02, gb, hnb, List.getElem?_map, Option.map_some]
 refine callT (Cells_s nb x0 hlen hr hl) rfl ?_
 simp only [go_sem, ↓reduceIte, Nat.reduceLT, Nat.reduceEqDiff, Nat.reduceAdd, Int.reduceToNat, Int.reduceToNat, Int.le_refl, k0, k2, l02, Option.map_some, q2, take_all, Nat.mul_one, List.length_map]
 rw [len_app, map_app]
 simp only [max_if]
 exact hQ _ (WkE.keep (by simp only [go_sem, ↓reduceIte, Nat.reduceEqDiff, k0, k2]))
set_option maxRecDepth 100000 in
theorem line_round21 (F0 : FD) (w0 : World) (h0 h1 : List (List Nt)) (fr to b most : Nat) (a0 a1 : List Int) (x0 x1 : Int) (nb : List Nt) (hnb : h1[b]? = some nb) (hlen : nb.length <= 10000) (hr : ∀ n ∈ nb, rightP n = true) (hl : small x1) (hal : a1.length <= 10000) (hb : b <= 10000)
 {Q : Exit -> Est -> Prop} (hQ : ∀ s, WkE 134 s ⟨lineE 2 fr to b (max most (sepC (decide (fr < b)) a1 ++ cellsP nb x1).length) 1, l2O h0 h1 a0 (sepC (decide (fr < b)) a1 ++ cellsP nb x1) x0 (lastP nb x1)⟩ -> Q .normal s) : CwpE Tryd.prog F0 w0 134 lineB Q ⟨lineE 2 fr to b most 1, l2O h0 h1 a0 a1 x0 x1⟩ := by
 have gb : (0 : Int) <= (b : Int) := by omega
 have k0 : ((0 : Nat) : Int) = 0 := rfl
 have k1 : ((1 : Nat) : Int) = 1 := rfl
 have k2 : ((2 : Nat) : Int) = 2 := rfl
 have l01 : (0 : Int) < 1 := by decide
 have l02 : (0 : Int) < 2 := by decide
 have l12 : (1 : Int) < 2 := by decide
 have le01 : (0 : Int) <= 1 := by decide
 have hcl := cells_len nb x1
 unfold lineB c27
 refine CwpE.seqJ (fun s => s = ⟨lineE 2 fr to b most 1, l2O h0 h1 a0 (sepC (decide (fr < b)) a1) x0 x1⟩) ?_ ?_
 ·refine CwpE.vc ?_
  by_cases hbf : fr < b
  ·have hbf' : (fr : Int) < (b : Int) := by omega
   have q1 : a1.length + 1 <= 140737488355328 := by omega
   simp only [go_sem, Nat.reducePow, Nat.reduceLeDiff, ↓reduceIte, Nat.reduceLT, Nat.reduceEqDiff, Nat.reduceAdd, Int.reduceToNat, Int.reduceToNat, hbf', k1, k2, l12, le01, q1, take_all, Nat.mul_one]
   rw [show sepC (decide (fr < b)) a1 = a1 ++ [0] by simp only [sepC, hbf, decide_true, cond_true], len_sep, map_sep]
   exact ⟨_, WkE.keep (by simp only [go_sem, ↓reduceIte, Nat.reduceEqDiff, k1, k2]), rfl⟩
  ·have hbf' : ¬ (fr : Int) < (b : Int) := by omega
   simp only [go_sem, ↓reduceIte, Nat.reduceLT, Nat.reduceEqDiff, hbf']
   rw [show sepC (decide (fr < b)) a1 = a1 by simp only [sepC, hbf, decide_false, cond_false]]
   exact ⟨_, WkE.keep (by simp only [go_sem, ↓reduceIte, Nat.reduceEqDiff, k1, k2]), rfl⟩
 rintro _ rfl
 have hrl : (sepC (decide (fr < b)) a1).length <= 10001 := by
  cases decide (fr < b)
  ·simp only [sepC, cond_false]; omega
  ·simp only [sepC, cond_true, List.length_append, List.length_cons, List.length_nil]; omega
 generalize sepC (decide (fr < b)) a1 = r at hQ hrl ⊢
 have q2 : r.length + (cellsP nb x1).length <= 140737488355328 := by omega
 refine CwpE.vc ?_
 simp only [go_sem, ↓reduceIte, Nat.reduceLT, Nat.reduceEqDiff, Int.reduceToNat, Int.reduceToNat, k1, k2, l12, le01, gb, hnb, List.getElem?_map, Option.map_some]
 refine callT (Cells_s nb x1 hlen hr hl) rfl ?_
 simp only [go_sem, ↓reduceIte, Nat.reduceLT, Nat.reduceEqDiff, Nat.reduceAdd, Int.reduceToNat, Int.reduceToNat, k1, k2, l12, le01, Option.map_some, q2, take_all, Nat.mul_one, List.length_map]
 rw [len_app, map_app]
 simp only [max_if]
 exact hQ _ (WkE.keep (by simp only [go_sem, ↓reduceIte, Nat.reduceEqDiff, k1, k2]))
end Go.Proofs.YtnncijjkbonokaaDoor
namespace Go.Proofs.YtnncijjkbonokaaDoor
open Go.RowKit Dak
abbrev lineR : CCode := match c27 with | .seq _ (.seq _ (.seq _ (.seq _ (.seq _ (.seq (.seq _ (.block _ (.loop b))) _))))) => b | _ => .skip
abbrev fillB : CCode := match c27 with | .seq _ (.seq _ (.seq _ (.seq _ (.seq _ (.seq (.seq _ (.block _ (.loop (.seq _ (.seq (.block _ (.seq _ (.seq _ (.seq _ (.block _ (.loop (.seq _ (.seq b _)))))))  ) _))))) _))))) => b | _ => .skip
abbrev fillE (n : Nat) (fr to b most h : Nat) : List (Nat × AV) := [(1, vi fr), (2, vi to), (3, .ref 0 1 0 0), (7, vi n), (8, .own 1 n 0 n), (9, .own 2 n 0 n), (11, vi b), (12, vi most), (16, vi h)]
def fillC (most : Nat) (a : List Int) : List Int := a ++ List.replicate (most - a.length) 0
theorem fill_snoc (a : List Int) (j : Nat) : a ++ List.replicate j 0 ++ [0] = a ++ List.replicate (j + 1) 0 := by rw [List.append_assoc, List.replicate_succ']
set_option maxRecDepth 100000 in
theorem line_fill10 (F0 : FD) (w0 : World) (h0 : List (List Nt)) (fr to b most : Nat) (a0 : List Int) (x0 : Int) (hal : most <= 10000) (hal2 : a0.length <= 10000)
 {Q : Exit -> Est -> Prop} (hQ : Q .normal ⟨fillE 1 fr to b most 0, l1O h0 (fillC most a0) x0⟩) : CwpE Tryd.prog F0 w0 134 fillB Q ⟨fillE 1 fr to b most 0, l1O h0 a0 x0⟩ := by
 have k0 : ((0 : Nat) : Int) = 0 := rfl
 have k1 : ((1 : Nat) : Int) = 1 := rfl
 have k2 : ((2 : Nat) : Int) = 2 := rfl
 have l01 : (0 : Int) < 1 := by decide
 have l02 : (0 : Int) < 2 := by decide
 have l12 : (1 : Int) < 2 := by decide
 have le01 : (0 : Int) <= 1 := by decide
 unfold fillB c27
 refine CwpE.block (CwpE.block ?_)
 refine loopXC 8 (fun m s => ∃ j : Nat, m = most - a0.length - j /\ j <= most - a0.length /\ s = ⟨fillE 1 fr to b most 0, l1O h0 (a0 ++ List.replicate j 0) x0⟩) (fun s => s = ⟨fillE 1 fr to b most 0, l1O h0 (fillC most a0) x0⟩) (most - a0.length) ⟨fillE 1 fr to b most 0, l1O h0 a0 x0⟩ (.refl _ _) ⟨0, by omega, by omega, by simp⟩ ?_ ?_
 rotate_left
 ·rintro s rfl
  simp only [inBlockE, if_true]
  exact hQ
 rintro m s ⟨j, rfl, hj, rfl⟩
 refine CwpE.vc ?_
 by_cases hlt : a0.length + j < most
 ·have q1 : a0.length + j + 1 <= 140737488355328 := by omega
  have q2 : ((a0 ++ List.replicate j 0).length : Int) < (most : Int) := by simp only [List.length_append, List.length_replicate]; omega
  have q3 : (a0 ++ List.replicate j 0).length + 1 <= 140737488355328 := by simp only [List.length_append, List.length_replicate]; omega
  rw [show fillC most a0 = a0 ++ List.replicate (most - a0.length) 0 from rfl]
  have hs : ∃ r, r = a0 ++ List.replicate j 0 := ⟨_, rfl⟩
  obtain ⟨r, hr⟩ := hs
  rw [<- hr] at q2 q3 ⊢
  simp only [go_sem, Nat.reducePow, Nat.reduceLeDiff, ↓reduceIte, Nat.reduceLT, Nat.reduceEqDiff, Nat.reduceAdd, Int.reduceToNat, Int.reduceToNat, Int.le_refl, k0, k1, l01, q2, q3, take_all, Nat.mul_one]
  rw [len_sep, map_sep, hr, fill_snoc]
  exact ⟨most - a0.length - (j + 1), _, by omega, WkE.keep (by simp only [go_sem, List.replicate_succ, ↓reduceIte, Nat.reduceEqDiff, k0, k1]), j + 1, rfl, by omega, rfl⟩
 ·have q2 : ¬ ((a0 ++ List.replicate j 0).length : Int) < (most : Int) := by simp only [List.length_append, List.length_replicate]; omega
  have e : a0 ++ List.replicate j 0 = fillC most a0 := by rw [fillC]; congr 2; omega
  rw [e] at q2 ⊢
  simp only [go_sem, ↓reduceIte, Nat.reduceLT, Nat.reduceEqDiff, Int.reduceToNat, Int.reduceToNat, Int.le_refl, k0, k1, l01, q2]
  exact ⟨_, WkE.keep (by simp only [go_sem, ↓reduceIte, Nat.reduceEqDiff, k0, k1]), rfl⟩
set_option maxRecDepth 100000 in
theorem line_fill20 (F0 : FD) (w0 : World) (h0 h1 : List (List Nt)) (fr to b most : Nat) (a0 a1 : List Int) (x0 x1 : Int) (hal : most <= 10000) (hal2 : a0.length <= 10000)
 {Q : Exit -> Est -> Prop} (hQ : Q .normal ⟨fillE 2 fr to b most 0, l2O h0 h1 (fillC most a0) a1 x0 x1⟩) : CwpE Tryd.prog F0 w0 134 fillB Q ⟨fillE 2 fr to b most 0, l2O h0 h1 a0 a1 x0 x1⟩ := by
 have k0 : ((0 : Nat) : Int) = 0 := rfl
 have k1 : ((1 : Nat) : Int) = 1 := rfl
 have k2 : ((2 : Nat) : Int) = 2 := rfl
 have l01 : (0 : Int) < 1 := by decide
 have l02 : (0 : Int) < 2 := by decide
 have l12 : (1 : Int) < 2 := by decide
 have le01 : (0 : Int) <= 1 := by decide
 unfold fillB c27
 refine CwpE.block (CwpE.block ?_)
 refine loopXC 8 (fun m s => ∃ j : Nat, m = most - a0.length - j /\ j <= most - a0.length /\ s = ⟨fillE 2 fr to b most 0, l2O h0 h1 (a0 ++ List.replicate j 0) a1 x0 x1⟩) (fun s => s = ⟨fillE 2 fr to b most 0, l2O h0 h1 (fillC most a0) a1 x0 x1⟩) (most - a0.length) ⟨fillE 2 fr to b most 0, l2O h0 h1 a0 a1 x0 x1⟩ (.refl _ _) ⟨0, by omega, by omega, by simp⟩ ?_ ?_
 rotate_left
 ·rintro s rfl
  simp only [inBlockE, if_true]
  exact hQ
 rintro m s ⟨j, rfl, hj, rfl⟩
 refine CwpE.vc ?_
 by_cases hlt : a0.length + j < most
 ·have q1 : a0.length + j + 1 <= 140737488355328 := by omega
  have q2 : ((a0 ++ List.replicate j 0).length : Int) < (most : Int) := by simp only [List.length_append, List.length_replicate]; omega
  have q3 : (a0 ++ List.replicate j 0).length + 1 <= 140737488355328 := by simp only [List.length_append, List.length_replicate]; omega
  rw [show fillC most a0 = a0 ++ List.replicate (most - a0.length) 0 from rfl]
  have hs : ∃ r, r = a0 ++ List.replicate j 0 := ⟨_, rfl⟩
  obtain ⟨r, hr⟩ := hs
  rw [<- hr] at q2 q3 ⊢
  simp only [go_sem, Nat.reducePow, Nat.reduceLeDiff, ↓reduceIte, Nat.reduceLT, Nat.reduceEqDiff, Nat.reduceAdd, Int.reduceToNat, Int.reduceToNat, Int.le_refl, k0, k2, l02, q2, q3, take_all, Nat.mul_one]
  rw [len_sep, map_sep, hr, fill_snoc]
  exact ⟨most - a0.length - (j + 1), _, by omega, WkE.keep (by simp only [go_sem, List.replicate_succ, ↓reduceIte, Nat.reduceEqDiff, k0, k2]), j + 1, rfl, by omega, rfl⟩
 ·have q2 : ¬ ((a0 ++ List.replicate j 0).length : Int) < (most : Int) := by simp only [List.length_append, List.length_replicate]; omega
  have e : a0 ++ List.replicate j 0 = fillC most a0 := by rw [fillC]; congr 2; omega
  rw [e] at q2 ⊢
  simp only [go_sem, ↓reduceIte, Nat.reduceLT, Nat.reduceEqDiff, Int.reduceToNat, Int.reduceToNat, Int.le_refl, k0, k2, l02, q2]
  exact ⟨_, WkE.keep (by simp only [go_sem, ↓reduceIte, Nat.reduceEqDiff, k0, k2]), rfl⟩
set_option maxRecDepth 100000 in
theorem line_fill21 (F0 : FD) (w0 : World) (h0 h1 : List (List Nt)) (fr to b most : Nat) (a0 a1 : List Int) (x0 x1 : Int) (hal : most <= 10000) (hal2 : a1.length <= 10000)
 {Q : Exit -> Est -> Prop} (hQ : Q .normal ⟨fillE 2 fr to b most 1, l2O h0 h1 a0 (fillC most a1) x0 x1⟩) : CwpE Tryd.prog F0 w0 134 fillB Q ⟨fillE 2 fr to b most 1, l2O h0 h1 a0 a1 x0 x1⟩ := by
 have k0 : ((0 : Nat) : Int) = 0 := rfl
 have k1 : ((1 : Nat) : Int) = 1 := rfl
 have k2 : ((2 : Nat) : Int) = 2 := rfl
 have l01 : (0 : Int) < 1 := by decide
 have l02 : (0 : Int) < 2 := by decide
 have l12 : (1 : Int) < 2 := by decide
 have le01 : (0 : Int) <= 1 := by decide
 unfold fillB c27
 refine CwpE.block (CwpE.block ?_)
 refine loopXC 8 (fun m s => ∃ j : Nat, m = most - a1.length - j /\ j <= most - a1.length /\ s = ⟨fillE 2 fr to b most 1, l2O h0 h1 a0 (a1 ++ List.replicate j 0) x0 x1⟩) (fun s => s = ⟨fillE 2 fr to b most 1, l2O h0 h1 a0 (fillC most a1) x0 x1⟩) (most - a1.length) ⟨fillE 2 fr to b most 1, l2O h0 h1 a0 a1 x0 x1⟩ (.refl _ _) ⟨0, by omega, by omega, by simp⟩ ?_ ?_
 rotate_left
 ·rintro s rfl
  simp only [inBlockE, if_true]
  exact hQ
 rintro m s ⟨j, rfl, hj, rfl⟩
 refine CwpE.vc ?_
 by_cases hlt : a1.length + j < most
 ·have q1 : a1.length + j + 1 <= 140737488355328 := by omega
  have q2 : ((a1 ++ List.replicate j 0).length : Int) < (most : Int) := by simp only [List.length_append, List.length_replicate]; omega
  have q3 : (a1 ++ List.replicate j 0).length + 1 <= 140737488355328 := by simp only [List.length_append, List.length_replicate]; omega
  rw [show fillC most a1 = a1 ++ List.replicate (most - a1.length) 0 from rfl]
  have hs : ∃ r, r = a1 ++ List.replicate j 0 := ⟨_, rfl⟩
  obtain ⟨r, hr⟩ := hs
  rw [<- hr] at q2 q3 ⊢
  simp only [go_sem, Nat.reducePow, Nat.reduceLeDiff, ↓reduceIte, Nat.reduceLT, Nat.reduceEqDiff, Nat.reduceAdd, Int.reduceToNat, Int.reduceToNat, k1, k2, l12, le01, q2, q3, take_all, Nat.mul_one]
  rw [len_sep, map_sep, hr, fill_snoc]
  exact ⟨most - a1.length - (j + 1), _, by omega, WkE.keep (by simp only [go_sem, List.replicate_succ, ↓reduceIte, Nat.reduceEqDiff, k1, k2]), j + 1, rfl, by omega, rfl⟩
 ·have q2 : ¬ ((a1 ++ List.replicate j 0).length : Int) < (most : Int) := by simp only [List.length_append, List.length_replicate]; omega
  have e : a1 ++ List.replicate j 0 = fillC most a1 := by rw [fillC]; congr 2; omega
  rw [e] at q2 ⊢
  simp only [go_sem, ↓reduceIte, Nat.reduceLT, Nat.reduceEqDiff, Int.reduceToNat, Int.reduceToNat, k1, k2, l12, le01, q2]
  exact ⟨_, WkE.keep (by simp only [go_sem, ↓reduceIte, Nat.reduceEqDiff, k1, k2]), rfl⟩
abbrev initB : CCode := match c27 with | .seq _ (.seq _ (.seq _ (.seq _ (.seq (.seq _ (.block _ (.loop b))) _)))) => b | _ => .skip
abbrev initE (n : Nat) (fr to h : Nat) : List (Nat × AV) := [(1, vi fr), (2, vi to), (3, .ref 0 1 0 0), (7, vi n), (8, .own 1 n 0 n), (9, .own 2 n 0 n), (10, vi h)]
abbrev startE (n : Nat) (fr to : Nat) : List (Nat × AV) := [(1, vi fr), (2, vi to), (3, .ref 0 1 0 0), (7, vi n), (8, .own 1 n 0 n), (9, .own 2 n 0 n)]
set_option maxRecDepth 100000 in
theorem line_init1 (F0 : FD) (w0 : World) (h0 : List (List Nt)) (fr to : Nat)
 {Q : Exit -> Est -> Prop} (hQ : Q .normal ⟨startE 1 fr to, l1O h0 [] (-1)⟩) : CwpE Tryd.prog F0 w0 134 (.block 0 (.loop initB)) Q ⟨initE 1 fr to 0, [.arr 1 1 25 [vmel [h0]], .arr 1 1 30 [.val (.slice none 0 0)], .arr 1 1 3 [vi 0]]⟩ := by
 have k0 : ((0 : Nat) : Int) = 0 := rfl
 have k1 : ((1 : Nat) : Int) = 1 := rfl
 have k2 : ((2 : Nat) : Int) = 2 := rfl
 have l01 : (0 : Int) < 1 := by decide
 have l02 : (0 : Int) < 2 := by decide
 have l12 : (1 : Int) < 2 := by decide
 have le01 : (0 : Int) <= 1 := by decide
 have n12 : ¬ (1 : Int) = 2 := by decide
 have w1 : IntKind.i64.wrap (0 + 1) = 1 := by decide
 have w2 : IntKind.i64.wrap (1 + 1) = 2 := by decide
 unfold initB c27
 refine CwpE.block ?_
 refine loopX 0 (fun m s => (m = 1 /\ s = ⟨initE 1 fr to 0, l1O h0 [] 0⟩) \/ (m = 0 /\ s = ⟨initE 1 fr to 1, l1O h0 [] (-1)⟩)) (fun s => s = ⟨startE 1 fr to, l1O h0 [] (-1)⟩) 1 ⟨initE 1 fr to 0, l1O h0 [] 0⟩ ((WkE.nilCell 1 1 1 0 0 1 5 30 [.val (.slice none 0 0)] _ rfl rfl rfl)) (.inl ⟨rfl, rfl⟩) ?_ ?_
 rotate_left
 ·rintro s rfl
  simp only [inBlockE, if_true]
  exact hQ
 rintro m s (⟨rfl, rfl⟩ | ⟨rfl, rfl⟩)
 ·simp only [go_sem, ↓reduceIte, Nat.reduceLT, Nat.reduceEqDiff, Int.reduceToNat, Int.reduceNeg, Int.reduceToNat, Int.le_refl, k0, k1, l01, n12, w1]
  exact ⟨0, ⟨initE 1 fr to 1, l1O h0 [] (-1)⟩, by omega, WkE.keep (by simp only [go_sem, ↓reduceIte, Nat.reduceEqDiff, k0, k1]), .inr (⟨rfl, rfl⟩)⟩
 ·simp only [go_sem, ↓reduceIte, Nat.reduceLT, Nat.reduceEqDiff, Int.reduceNeg, Int.lt_irrefl, k1]
  exact ⟨_, WkE.keep (by simp only [go_sem, ↓reduceIte, Nat.reduceEqDiff, k1]), rfl⟩
set_option maxRecDepth 100000 in
theorem line_init2 (F0 : FD) (w0 : World) (h0 h1 : List (List Nt)) (fr to : Nat)
 {Q : Exit -> Est -> Prop} (hQ : Q .normal ⟨startE 2 fr to, l2O h0 h1 [60] [28] (-1) (-1)⟩) : CwpE Tryd.prog F0 w0 134 (.block 0 (.loop initB)) Q ⟨initE 2 fr to 0, [.arr 1 1 25 [vmel [h0, h1]], .arr 2 1 30 [.val (.slice none 0 0), .val (.slice none 0 0)], .arr 2 1 3 [vi 0, vi 0]]⟩ := by
 have k0 : ((0 : Nat) : Int) = 0 := rfl
 have k1 : ((1 : Nat) : Int) = 1 := rfl
 have k2 : ((2 : Nat) : Int) = 2 := rfl
 have l01 : (0 : Int) < 1 := by decide
 have l02 : (0 : Int) < 2 := by decide
 have l12 : (1 : Int) < 2 := by decide
 have le01 : (0 : Int) <= 1 := by decide
 have n12 : ¬ (1 : Int) = 2 := by decide
 have w1 : IntKind.i64.wrap (0 + 1) = 1 := by decide
 have w2 : IntKind.i64.wrap (1 + 1) = 2 := by decide
 unfold initB c27
 refine CwpE.block ?_
 refine loopX 0 (fun m s => (m = 2 /\ s = ⟨initE 2 fr to 0, l2O h0 h1 [] [] 0 0⟩) \/ (m = 1 /\ s = ⟨initE 2 fr to 1, l2O h0 h1 [60] [] (-1) 0⟩) \/ (m = 0 /\ s = ⟨initE 2 fr to 2, l2O h0 h1 [60] [28] (-1) (-1)⟩)) (fun s => s = ⟨startE 2 fr to, l2O h0 h1 [60] [28] (-1) (-1)⟩) 2 ⟨initE 2 fr to 0, l2O h0 h1 [] [] 0 0⟩ ((WkE.nilCell 1 2 1 0 0 1 5 30 [.val (.slice none 0 0), .val (.slice none 0 0)] _ rfl rfl rfl).trans (WkE.nilCell 1 2 1 1 0 1 5 30 [.own 3 0 0 0, .val (.slice none 0 0)] _ rfl rfl rfl)) (.inl ⟨rfl, rfl⟩) ?_ ?_
 rotate_left
 ·rintro s rfl
  simp only [inBlockE, if_true]
  exact hQ
 rintro m s (⟨rfl, rfl⟩ | ⟨rfl, rfl⟩ | ⟨rfl, rfl⟩)
 ·simp only [go_sem, Nat.reducePow, Nat.reduceLeDiff, ↓reduceIte, reduceCtorEq, Nat.reduceLT, Nat.reduceEqDiff, Nat.reduceAdd, Nat.reduceMul, Int.reduceToNat, Int.reduceNeg, Int.reduceToNat, Int.le_refl, k0, k2, l02, w1]
  exact ⟨1, ⟨initE 2 fr to 1, l2O h0 h1 [60] [] (-1) 0⟩, by omega, WkE.keep (by simp only [go_sem, ↓reduceIte, Nat.reduceEqDiff, k0, k1, k2]), .inr (.inl ⟨rfl, rfl⟩)⟩
 ·simp only [go_sem, Nat.reducePow, Nat.reduceLeDiff, ↓reduceIte, reduceCtorEq, Nat.reduceLT, Nat.reduceEqDiff, Nat.reduceAdd, Nat.reduceMul, Int.reduceToNat, Int.reduceNeg, Int.reduceToNat, k1, k2, l12, le01, w2]
  exact ⟨0, ⟨initE 2 fr to 2, l2O h0 h1 [60] [28] (-1) (-1)⟩, by omega, WkE.keep (by simp only [go_sem, ↓reduceIte, Nat.reduceEqDiff, k1, k2]), .inr (.inr ⟨rfl, rfl⟩)⟩
 ·simp only [go_sem, ↓reduceIte, Nat.reduceLT, Nat.reduceEqDiff, Int.reduceNeg, Int.lt_irrefl, k2]
  exact ⟨_, WkE.keep (by simp only [go_sem, ↓reduceIte, Nat.reduceEqDiff, k2]), rfl⟩
end Go.Proofs.YtnncijjkbonokaaDoor
namespace Go.Proofs.YtnncijjkbonokaaDoor
open Go.RowKit Dak
def rowR (k w : Nat) (more : Bool) (a : List Int) : List Int := if k = 0 then a else bif more then fillC w a else a
theorem sep_row (k w : Nat) (a : List Int) : sepC (decide (0 < k)) (rowR k w true a) = padC k w a := by
 unfold sepC rowR padC fillC
 by_cases h : k = 0
 ·subst h; rfl
 ·simp [h, show 0 < k from by omega]
theorem wide_line {m : List (List (List Nt))} (hm : Vm m) {fr : Nat} : ∀ k, fr + k <= manyP m -> wideP (lineP m fr k).ls 0 <= 1 + 65 * k
 | 0, _ => first_wide _
 | k + 1, h => by
  have := wide_line hm (fr := fr) k (by omega)
  have h2 := add_wide hm (sok_line hm (fr := fr) k (by omega)) (bar := fr + k) (by omega)
  show wideP ((lineP m fr k).add m (fr + k)).ls 0 <= _
  omega
set_option maxRecDepth 100000 in
theorem Line_1 (h0 : List (List Nt)) (fr to : Nat) (hm : Vm [h0]) (hft : fr <= to) (htm : to <= manyP [h0]) : Ctr Tryd.prog 27 [vmel [h0], vi fr, vi to] (vpage (lineP [h0] fr (to - fr)).ls) := by
 have k0 : ((0 : Nat) : Int) = 0 := rfl
 have k1 : ((1 : Nat) : Int) = 1 := rfl
 have k2 : ((2 : Nat) : Int) = 2 := rfl
 have k24 : ((24 : Nat) : Int) = 24 := rfl
 have k8 : ((8 : Nat) : Int) = 8 := rfl
 have n2 : (24 : Int) * 1 <= 281474976710656 := by decide
 have n3 : (8 : Int) * 1 <= 281474976710656 := by decide
 have l01 : (0 : Int) < 1 := by decide
 have l02 : (0 : Int) < 2 := by decide
 have l12 : (1 : Int) < 2 := by decide
 have w01 : IntKind.i64.wrap (0 + 1) = 1 := by decide
 have w12 : IntKind.i64.wrap (1 + 1) = 2 := by decide
 have hmp := hm.pos
 refine specC f27 (by simp) fun F0 w0 => ?_
 unfold c27
 refine CwpE.cut (st := ⟨[(1, vi fr), (2, vi to), (3, .ref 0 1 0 0)], [.arr 1 1 25 [vmel [h0]]]⟩) ?_ ?_
 ·simp only [go_sem, ↓reduceIte, Nat.reduceLT, Nat.reduceAdd]
  exact ⟨_, WkE.keep (by simp only [go_sem, ↓reduceIte, reduceCtorEq, Nat.reduceEqDiff]), rfl⟩
 refine CwpE.cut (st := ⟨[(1, vi fr), (2, vi to), (3, .ref 0 1 0 0), (7, vi 1)], [.arr 1 1 25 [vmel [h0]]]⟩) ?_ ?_
 ·simp only [go_sem, ↓reduceIte, Nat.reduceLT, Nat.reduceEqDiff, k1]
  exact ⟨_, WkE.keep (by simp only [go_sem, ↓reduceIte, Nat.reduceEqDiff]), rfl⟩
 refine CwpE.cut (st := ⟨[(1, vi fr), (2, vi to), (3, .ref 0 1 0 0), (7, vi 1), (8, .own 1 1 0 1)], [.arr 1 1 25 [vmel [h0]], .arr 1 1 30 [.val (.slice none 0 0)]]⟩) ?_ ?_
 ·simp only [go_sem, List.replicate_succ, ↓reduceIte, Nat.reduceLT, Nat.reduceEqDiff, Int.reduceToNat, Int.reduceLE, Int.reduceToNat, Int.le_refl, k24, n2]
  exact ⟨_, WkE.keep (by simp only [go_sem, ↓reduceIte, Nat.reduceEqDiff]), rfl⟩
 refine CwpE.cut (st := ⟨[(1, vi fr), (2, vi to), (3, .ref 0 1 0 0), (7, vi 1), (8, .own 1 1 0 1), (9, .own 2 1 0 1)], [.arr 1 1 25 [vmel [h0]], .arr 1 1 30 [.val (.slice none 0 0)], .arr 1 1 3 [vi 0]]⟩) ?_ ?_
 ·simp only [go_sem, List.replicate_succ, ↓reduceIte, Nat.reduceLT, Nat.reduceEqDiff, Nat.reduceAdd, Int.reduceToNat, Int.reduceLE, Int.reduceToNat, Int.le_refl, k8, n3]
  exact ⟨_, WkE.keep (by simp only [go_sem, ↓reduceIte, Nat.reduceEqDiff]), rfl⟩
 refine CwpE.seqJ (fun s => s = ⟨startE 1 fr to, l1O h0 [] (-1)⟩) ?_ ?_
 ·refine CwpE.cut (st := ⟨initE 1 fr to 0, [.arr 1 1 25 [vmel [h0]], .arr 1 1 30 [.val (.slice none 0 0)], .arr 1 1 3 [vi 0]]⟩) ?_ ?_
  ·simp only [go_sem, ↓reduceIte, Nat.reduceLT, Int.reduceNeg]
   exact ⟨_, WkE.keep (by simp only [go_sem, ↓reduceIte, Nat.reduceEqDiff, k0, k1]), rfl⟩
  ·exact line_init1 F0 w0 h0 fr to ⟨_, .refl _ _, rfl⟩
 rintro _ rfl
 refine CwpE.seqJ (fun s => ∃ (a0 : List Int) (x0 : Int), (lineP [h0] fr (to - fr)).ls = [a0] /\ s = ⟨startE 1 fr to, l1O h0 a0 x0⟩) ?_ ?_
 rotate_left
 ·rintro _ ⟨a0, x0, e, rfl⟩
  rw [e]
  refine CwpE.vc ?_
  simp only [go_sem, ↓reduceIte, Nat.reduceLT, Nat.reduceEqDiff, k1]
  refine .own 1 1 0 1 1 30 _ _ rfl (by simp) (by simp) fun i hi => ?_
  match i, hi with
  | 0, _ => exact snap_bytes rfl
 refine CwpE.cut (st := ⟨((11, vi (fr + 0 : Nat)) :: startE 1 fr to), l1O h0 [] (-1)⟩) ?_ ?_
 ·simp only [go_sem, ↓reduceIte, Nat.reduceLT, Int.reduceNeg]
  exact ⟨_, WkE.keep (by simp only [go_sem, ↓reduceIte, Nat.reduceEqDiff]), rfl⟩
 refine CwpE.block ?_
 refine loopXC 2 (fun z s => ∃ (k : Nat) (a0 : List Int) (x0 : Int), k + z = to - fr /\ (lineP [h0] fr k).ls = [a0] /\ (lineP [h0] fr k).la = [x0] /\ s = ⟨((11, vi (fr + k : Nat)) :: startE 1 fr to), l1O h0 (rowR k (wideP [a0] 0) (decide (fr + k < to)) a0) x0⟩)
  (fun s => ∃ (a0 : List Int) (x0 : Int), (lineP [h0] fr (to - fr)).ls = [a0] /\ s = ⟨startE 1 fr to, l1O h0 a0 x0⟩) (to - fr) _ (.refl _ _) ⟨0, [], -1, by omega, rfl, rfl, rfl⟩ ?_ ?_
 rotate_left
 ·rintro s h
  simp only [inBlockE, if_true]
  exact ⟨s, .refl _ _, h⟩
 rintro z s ⟨k, a0, x0, hk, e1, e2, rfl⟩
 cases z with
 | zero =>
  obtain rfl : k = to - fr := by omega
  have hlt : ¬ ((fr + (to - fr) : Nat) : Int) < (to : Int) := by omega
  refine CwpE.vc ?_
  simp only [go_sem, ↓reduceIte, Nat.reduceLT, Nat.reduceEqDiff, hlt]
  refine ⟨⟨startE 1 fr to, l1O h0 a0 x0⟩, ?_, a0, x0, e1, rfl⟩
  have hr : ∀ y w, rowR (to - fr) w (decide (fr + (to - fr) < to)) y = y := fun y w => by
   rw [show decide (fr + (to - fr) < to) = false by rw [decide_eq_false_iff_not]; omega]
   unfold rowR; split <;> rfl
  simp only [hr]
  exact WkE.keep (by simp only [go_sem, ↓reduceIte, Nat.reduceEqDiff])
 | succ z =>
  have hb : fr + k < to := by omega
  have hlt : ((fr + k : Nat) : Int) < (to : Int) := by omega
  have hsk := sok_line hm (fr := fr) k (by omega)
  have hwk := wide_line hm (fr := fr) k (by omega)
  have hnk := line_n [h0] fr k
  have e1' : (lineP [h0] fr (k + 1)).ls = addL (lineP [h0] fr k).n (wideP (lineP [h0] fr k).ls 0) (fr + k) (lineP [h0] fr k).ls (lineP [h0] fr k).la [h0] := rfl
  have e2' : (lineP [h0] fr (k + 1)).la = addT (fr + k) (lineP [h0] fr k).la [h0] := rfl
  have hwk1 := wide_line hm (fr := fr) (k + 1) (by omega)
  rw [e1, e2, hnk] at e1'
  rw [e2] at e2'
  rw [e1] at hwk
  have sms := hsk.sm
  rw [e2] at sms
  simp only [addL] at e1'
  simp only [addT] at e2'
  obtain ⟨nb0, hnb0⟩ : ∃ nb, h0[fr + k]? = some nb := ⟨_, List.getElem?_eq_getElem (by have := hm.bars h0 (by simp); omega)⟩
  have hn0 := hm.notes h0 (by simp) nb0 (List.mem_of_getElem? hnb0)
  rw [show h0.getD (fr + k) [] = nb0 by rw [List.getD_eq_getElem?_getD, hnb0]; rfl] at e1' e2'
  have wl0 := (wide_mono [a0] 0).2 a0 (by simp)
  rw [e1'] at hwk1
  have hmore : decide (fr + k < to) = true := by rw [decide_eq_true_eq]; exact hb
  rw [hmore]
  obtain ⟨w, hw⟩ : ∃ w, wideP [a0] 0 = w := ⟨_, rfl⟩
  rw [hw] at e1' hwk1 hwk wl0 ⊢
  have hrow : ∀ y : List Int, y.length <= w -> (rowR k w true y).length <= 10000 := fun y hy => by
   unfold rowR; split
   ·omega
   ·simp only [cond_true, fillC, List.length_append, List.length_replicate]; omega
  have hsep : ∀ y, sepC (decide (fr < fr + k)) (rowR k w true y) = padC k w y := fun y => by rw [show decide (fr < fr + k) = decide (0 < k) by by_cases hz : 0 < k <;> simp [hz]]; exact sep_row k w y
  refine CwpE.cut (st := ⟨((11, vi (fr + k : Nat)) :: startE 1 fr to), l1O h0 (rowR k w true a0) x0⟩) ?_ ?_
  ·simp only [go_sem, ↓reduceIte, Nat.reduceLT, Nat.reduceEqDiff, hlt]
   exact ⟨_, WkE.keep (by simp only [go_sem, ↓reduceIte, Nat.reduceEqDiff]), rfl⟩
  have wb : IntKind.i64.wrap ((fr + k : Nat) : Int) = ((fr + k : Nat) : Int) := wrap_id (by omega) (by omega)
  have wb1 : IntKind.i64.wrap (((fr + k : Nat) : Int) + 1) = ((fr + (k + 1) : Nat) : Int) := by rw [wrap_id (by omega) (by omega)]; omega
  obtain ⟨b0, hb0⟩ : ∃ b, b = addC k w a0 nb0 x0 := ⟨_, rfl⟩
  have hb0' : padC k w a0 ++ cellsP nb0 x0 = b0 := hb0.symm
  rw [<- hb0] at e1' hwk1
  have vl0 := (wide_mono [b0] 0).2 b0 (by simp)
  refine CwpE.seqJ (fun s => s = ⟨((11, vi (fr + k : Nat)) :: startE 1 fr to), l1O h0 (rowR (k + 1) (wideP [b0] 0) (decide (fr + (k + 1) < to)) b0) (lastP nb0 x0)⟩) (CwpE.block ?_) ?_
  rotate_left
  ·rintro _ rfl
   refine CwpE.vc ?_
   simp only [go_sem, ↓reduceIte, Nat.reduceLT, wb1]
   exact ⟨z, _, by omega, WkE.keep (by simp only [go_sem, ↓reduceIte, Nat.reduceEqDiff]), k + 1, b0, (lastP nb0 x0), by omega, e1', e2', rfl⟩
  refine CwpE.cut (st := ⟨(12, vi 0) :: ((11, vi (fr + k : Nat)) :: startE 1 fr to), l1O h0 (rowR k w true a0) x0⟩) ?_ ?_
  ·simp only [go_sem, ↓reduceIte, Nat.reduceLT]
   exact ⟨_, WkE.keep (by simp only [go_sem, ↓reduceIte, Nat.reduceEqDiff]), rfl⟩
  refine CwpE.seqJ (fun s => s = ⟨(12, vi (wideP [b0] 0 : Nat)) :: ((11, vi (fr + k : Nat)) :: startE 1 fr to), l1O h0 b0 (lastP nb0 x0)⟩) ?_ ?_
  ·refine CwpE.cut (st := ⟨lineE 1 fr to (fr + k) 0 0, l1O h0 (rowR k w true a0) x0⟩) ?_ ?_
   ·simp only [go_sem, ↓reduceIte, Nat.reduceLT]
    exact ⟨_, WkE.keep (by simp only [go_sem, ↓reduceIte, Nat.reduceEqDiff, k0, k1]), rfl⟩
   refine CwpE.block ?_
   refine loopXC 4 (fun u s => (u = 1 /\ s = ⟨lineE 1 fr to (fr + k) 0 0, l1O h0 (rowR k w true a0) x0⟩) \/ (u = 0 /\ s = ⟨lineE 1 fr to (fr + k) (max 0 b0.length) 1, l1O h0 b0 (lastP nb0 x0)⟩)) (fun s => s = ⟨(12, vi (wideP [b0] 0 : Nat)) :: ((11, vi (fr + k : Nat)) :: startE 1 fr to), l1O h0 b0 (lastP nb0 x0)⟩) 1 ⟨lineE 1 fr to (fr + k) 0 0, l1O h0 (rowR k w true a0) x0⟩ (.refl _ _) (.inl ⟨rfl, rfl⟩) ?_ ?_
   rotate_left
   ·rintro s rfl
    simp only [inBlockE, if_true]
    exact ⟨_, .refl _ _, rfl⟩
   rintro u s (⟨rfl, rfl⟩ | ⟨rfl, rfl⟩)
   ·refine CwpE.cut (st := ⟨lineE 1 fr to (fr + k) 0 0, l1O h0 (rowR k w true a0) x0⟩) ?_ ?_
    ·simp only [go_sem, ↓reduceIte, Nat.reduceLT, Nat.reduceEqDiff, k0, k1, l01]
     exact ⟨_, WkE.keep (by simp only [go_sem, ↓reduceIte, Nat.reduceEqDiff, k0, k1]), rfl⟩
    refine CwpE.seqJ (fun s => s = ⟨lineE 1 fr to (fr + k) (max 0 b0.length) 0, l1O h0 b0 (lastP nb0 x0)⟩) (CwpE.block ?_) ?_
    ·refine line_round10 F0 w0 h0 fr to (fr + k) 0 (rowR k w true a0) x0 nb0 hnb0 (by omega) hn0.2.2 (sms _ (by simp)) (hrow _ wl0) (by omega) fun s hs => ?_
     rw [hsep, hb0'] at hs
     exact ⟨_, hs, rfl⟩
    ·rintro _ rfl
     refine CwpE.vc ?_
     simp only [go_sem, ↓reduceIte, Nat.reduceLT, Nat.reduceEqDiff, k0, k1, w01]
     exact ⟨0, ⟨lineE 1 fr to (fr + k) (max 0 b0.length) 1, l1O h0 b0 (lastP nb0 x0)⟩, by omega, WkE.keep (by simp only [go_sem, ↓reduceIte, Nat.reduceEqDiff, k0, k1]), .inr (⟨rfl, rfl⟩)⟩
   ·refine CwpE.vc ?_
    simp only [go_sem, ↓reduceIte, Nat.reduceLT, Nat.reduceEqDiff, Int.lt_irrefl, k1]
    exact ⟨_, WkE.keep (by simp only [go_sem, ↓reduceIte, Nat.reduceEqDiff, wideP]), rfl⟩
  rintro _ rfl
  obtain ⟨v, hv⟩ : ∃ v, wideP [b0] 0 = v := ⟨_, rfl⟩
  rw [hv] at hwk1 vl0 ⊢
  have hrows : ∀ y, rowR (k + 1) v (decide (fr + (k + 1) < to)) y = bif decide (fr + (k + 1) < to) then fillC v y else y := fun y => by unfold rowR; rw [if_neg (by omega)]
  simp only [hrows]
  refine CwpE.cut (st := ⟨fillE 1 fr to (fr + k) v 0, l1O h0 b0 (lastP nb0 x0)⟩) ?_ ?_
  ·simp only [go_sem, ↓reduceIte, Nat.reduceLT]
   exact ⟨_, WkE.keep (by simp only [go_sem, ↓reduceIte, Nat.reduceEqDiff, k0, k1]), rfl⟩
  refine CwpE.block ?_
  have hbx : ∀ s, s = ⟨((11, vi (fr + k : Nat)) :: startE 1 fr to), l1O h0 (bif decide (fr + (k + 1) < to) then fillC v b0 else b0) (lastP nb0 x0)⟩ -> inBlockE 6 (inBlockE 3 (thenE (fun s => ∃ s', WkE 134 s s' /\ s' = ⟨((11, vi (fr + k : Nat)) :: startE 1 fr to), l1O h0 (bif decide (fr + (k + 1) < to) then fillC v b0 else b0) (lastP nb0 x0)⟩) (RoundX 134 (fun z s => False) 0 2 (fun s => False) (fun _ _ => False)))) (.exit 6) s := by
   rintro s rfl
   simp only [inBlockE, if_true, thenE]
   exact ⟨_, .refl _ _, rfl⟩
  clear hbx
  by_cases hmr : fr + (k + 1) < to
  rotate_left
  ·have hmr' : ¬ ((fr + (k + 1) : Nat) : Int) < (to : Int) := by omega
   simp only [hmr, decide_false, cond_false]
   refine loopXC 6 (fun u s => s = ⟨fillE 1 fr to (fr + k) v 0, l1O h0 b0 (lastP nb0 x0)⟩) (fun s => s = ⟨((11, vi (fr + k : Nat)) :: startE 1 fr to), l1O h0 b0 (lastP nb0 x0)⟩) 0 ⟨fillE 1 fr to (fr + k) v 0, l1O h0 b0 (lastP nb0 x0)⟩ (.refl _ _) rfl ?_ ?_
   rotate_left
   ·rintro s rfl
    simp only [inBlockE, if_true, thenE]
    exact ⟨_, .refl _ _, rfl⟩
   rintro u s rfl
   refine CwpE.vc ?_
   simp only [go_sem, ↓reduceIte, Nat.reduceLT, Nat.reduceEqDiff, k0, k1, l01, wb1, hmr']
   exact ⟨_, WkE.keep (by simp only [go_sem, ↓reduceIte, Nat.reduceEqDiff]), rfl⟩
  have hmr' : ((fr + (k + 1) : Nat) : Int) < (to : Int) := by omega
  simp only [hmr, decide_true, cond_true]
  refine loopXC 6 (fun u s => (u = 1 /\ s = ⟨fillE 1 fr to (fr + k) v 0, l1O h0 b0 (lastP nb0 x0)⟩) \/ (u = 0 /\ s = ⟨fillE 1 fr to (fr + k) v 1, l1O h0 (fillC v b0) (lastP nb0 x0)⟩)) (fun s => s = ⟨((11, vi (fr + k : Nat)) :: startE 1 fr to), l1O h0 (fillC v b0) (lastP nb0 x0)⟩) 1 ⟨fillE 1 fr to (fr + k) v 0, l1O h0 b0 (lastP nb0 x0)⟩ (.refl _ _) (.inl ⟨rfl, rfl⟩) ?_ ?_
  rotate_left
  ·rintro s rfl
   simp only [inBlockE, if_true, thenE]
   exact ⟨_, .refl _ _, rfl⟩
  rintro u s (⟨rfl, rfl⟩ | ⟨rfl, rfl⟩)
  ·refine CwpE.cut (st := ⟨fillE 1 fr to (fr + k) v 0, l1O h0 b0 (lastP nb0 x0)⟩) ?_ ?_
   ·simp only [go_sem, ↓reduceIte, Nat.reduceLT, Nat.reduceEqDiff, k0, k1, l01, wb1, hmr']
    exact ⟨_, WkE.keep (by simp only [go_sem, ↓reduceIte, Nat.reduceEqDiff, k0, k1]), rfl⟩
   refine CwpE.seqJ (fun s => s = ⟨fillE 1 fr to (fr + k) v 0, l1O h0 (fillC v b0) (lastP nb0 x0)⟩) ?_ ?_
   ·exact line_fill10 F0 w0 h0 fr to (fr + k) v b0 (lastP nb0 x0) (by omega) (by omega) ⟨_, .refl _ _, rfl⟩
   ·rintro _ rfl
    refine CwpE.vc ?_
    simp only [go_sem, ↓reduceIte, Nat.reduceLT, Nat.reduceEqDiff, k0, k1, w01]
    exact ⟨0, ⟨fillE 1 fr to (fr + k) v 1, l1O h0 (fillC v b0) (lastP nb0 x0)⟩, by omega, WkE.keep (by simp only [go_sem, ↓reduceIte, Nat.reduceEqDiff, k0, k1]), .inr (⟨rfl, rfl⟩)⟩
  ·refine CwpE.vc ?_
   simp only [go_sem, ↓reduceIte, Nat.reduceLT, Nat.reduceEqDiff, Int.lt_irrefl, k1]
   exact ⟨_, WkE.keep (by simp only [go_sem, ↓reduceIte, Nat.reduceEqDiff]), rfl⟩
set_option maxRecDepth 100000 in
theorem Line_2 (h0 h1 : List (List Nt)) (fr to : Nat) (hm : Vm [h0, h1]) (hft : fr <= to) (htm : to <= manyP [h0, h1]) : Ctr Tryd.prog 27 [vmel [h0, h1], vi fr, vi to] (vpage (lineP [h0, h1] fr (to - fr)).ls) := by
 have k0 : ((0 : Nat) : Int) = 0 := rfl
 have k1 : ((1 : Nat) : Int) = 1 := rfl
 have k2 : ((2 : Nat) : Int) = 2 := rfl
 have k24 : ((24 : Nat) : Int) = 24 := rfl
 have k8 : ((8 : Nat) : Int) = 8 := rfl
 have n2 : (24 : Int) * 2 <= 281474976710656 := by decide
 have n3 : (8 : Int) * 2 <= 281474976710656 := by decide
 have l01 : (0 : Int) < 1 := by decide
 have l02 : (0 : Int) < 2 := by decide
 have l12 : (1 : Int) < 2 := by decide
 have w01 : IntKind.i64.wrap (0 + 1) = 1 := by decide
 have w12 : IntKind.i64.wrap (1 + 1) = 2 := by decide
 have hmp := hm.pos
 refine specC f27 (by simp) fun F0 w0 => ?_
 unfold c27
 refine CwpE.cut (st := ⟨[(1, vi fr), (2, vi to), (3, .ref 0 1 0 0)], [.arr 1 1 25 [vmel [h0, h1]]]⟩) ?_ ?_
 ·simp only [go_sem, ↓reduceIte, Nat.reduceLT, Nat.reduceAdd]
  exact ⟨_, WkE.keep (by simp only [go_sem, ↓reduceIte, reduceCtorEq, Nat.reduceEqDiff]), rfl⟩
 refine CwpE.cut (st := ⟨[(1, vi fr), (2, vi to), (3, .ref 0 1 0 0), (7, vi 2)], [.arr 1 1 25 [vmel [h0, h1]]]⟩) ?_ ?_
 ·simp only [go_sem, ↓reduceIte, Nat.reduceLT, Nat.reduceEqDiff, Nat.reduceAdd, k2]
  exact ⟨_, WkE.keep (by simp only [go_sem, ↓reduceIte, Nat.reduceEqDiff]), rfl⟩
 refine CwpE.cut (st := ⟨[(1, vi fr), (2, vi to), (3, .ref 0 1 0 0), (7, vi 2), (8, .own 1 2 0 2)], [.arr 1 1 25 [vmel [h0, h1]], .arr 2 1 30 [.val (.slice none 0 0), .val (.slice none 0 0)]]⟩) ?_ ?_
 ·simp only [go_sem, List.replicate_succ, ↓reduceIte, Nat.reduceLT, Nat.reduceEqDiff, Int.reduceToNat, Int.reduceLE, Int.reduceToNat, Int.le_refl, k24, n2]
  exact ⟨_, WkE.keep (by simp only [go_sem, ↓reduceIte, Nat.reduceEqDiff]), rfl⟩
 refine CwpE.cut (st := ⟨[(1, vi fr), (2, vi to), (3, .ref 0 1 0 0), (7, vi 2), (8, .own 1 2 0 2), (9, .own 2 2 0 2)], [.arr 1 1 25 [vmel [h0, h1]], .arr 2 1 30 [.val (.slice none 0 0), .val (.slice none 0 0)], .arr 2 1 3 [vi 0, vi 0]]⟩) ?_ ?_
 ·simp only [go_sem, List.replicate_succ, ↓reduceIte, Nat.reduceLT, Nat.reduceEqDiff, Nat.reduceAdd, Int.reduceToNat, Int.reduceLE, Int.reduceToNat, Int.le_refl, k8, n3]
  exact ⟨_, WkE.keep (by simp only [go_sem, ↓reduceIte, Nat.reduceEqDiff]), rfl⟩
 refine CwpE.seqJ (fun s => s = ⟨startE 2 fr to, l2O h0 h1 [60] [28] (-1) (-1)⟩) ?_ ?_
 ·refine CwpE.cut (st := ⟨initE 2 fr to 0, [.arr 1 1 25 [vmel [h0, h1]], .arr 2 1 30 [.val (.slice none 0 0), .val (.slice none 0 0)], .arr 2 1 3 [vi 0, vi 0]]⟩) ?_ ?_
  ·simp only [go_sem, ↓reduceIte, Nat.reduceLT, Int.reduceNeg]
   exact ⟨_, WkE.keep (by simp only [go_sem, ↓reduceIte, Nat.reduceEqDiff, k0, k2]), rfl⟩
  ·exact line_init2 F0 w0 h0 h1 fr to ⟨_, .refl _ _, rfl⟩
 rintro _ rfl
 refine CwpE.seqJ (fun s => ∃ (a0 a1 : List Int) (x0 x1 : Int), (lineP [h0, h1] fr (to - fr)).ls = [a0, a1] /\ s = ⟨startE 2 fr to, l2O h0 h1 a0 a1 x0 x1⟩) ?_ ?_
 rotate_left
 ·rintro _ ⟨a0, a1, x0, x1, e, rfl⟩
  rw [e]
  refine CwpE.vc ?_
  simp only [go_sem, ↓reduceIte, Nat.reduceLT, Nat.reduceEqDiff, k2]
  refine .own 1 2 0 2 1 30 _ _ rfl (by simp) (by simp) fun i hi => ?_
  match i, hi with
  | 0, _ => exact snap_bytes rfl
  | 1, _ => exact snap_bytes rfl
 refine CwpE.cut (st := ⟨((11, vi (fr + 0 : Nat)) :: startE 2 fr to), l2O h0 h1 [60] [28] (-1) (-1)⟩) ?_ ?_
 ·simp only [go_sem, ↓reduceIte, Nat.reduceLT, Int.reduceNeg]
  exact ⟨_, WkE.keep (by simp only [go_sem, ↓reduceIte, Nat.reduceEqDiff]), rfl⟩
 refine CwpE.block ?_
 refine loopXC 2 (fun z s => ∃ (k : Nat) (a0 a1 : List Int) (x0 x1 : Int), k + z = to - fr /\ (lineP [h0, h1] fr k).ls = [a0, a1] /\ (lineP [h0, h1] fr k).la = [x0, x1] /\ s = ⟨((11, vi (fr + k : Nat)) :: startE 2 fr to), l2O h0 h1 (rowR k (wideP [a0, a1] 0) (decide (fr + k < to)) a0) (rowR k (wideP [a0, a1] 0) (decide (fr + k < to)) a1) x0 x1⟩)
  (fun s => ∃ (a0 a1 : List Int) (x0 x1 : Int), (lineP [h0, h1] fr (to - fr)).ls = [a0, a1] /\ s = ⟨startE 2 fr to, l2O h0 h1 a0 a1 x0 x1⟩) (to - fr) _ (.refl _ _) ⟨0, [60], [28], -1, -1, by omega, rfl, rfl, rfl⟩ ?_ ?_
 rotate_left
 ·rintro s h
  simp only [inBlockE, if_true]
  exact ⟨s, .refl _ _, h⟩
 rintro z s ⟨k, a0, a1, x0, x1, hk, e1, e2, rfl⟩
 cases z with
 | zero =>
  obtain rfl : k = to - fr := by omega
  have hlt : ¬ ((fr + (to - fr) : Nat) : Int) < (to : Int) := by omega
  refine CwpE.vc ?_
  simp only [go_sem, ↓reduceIte, Nat.reduceLT, Nat.reduceEqDiff, hlt]
  refine ⟨⟨startE 2 fr to, l2O h0 h1 a0 a1 x0 x1⟩, ?_, a0, a1, x0, x1, e1, rfl⟩
  have hr : ∀ y w, rowR (to - fr) w (decide (fr + (to - fr) < to)) y = y := fun y w => by
   rw [show decide (fr + (to - fr) < to) = false by rw [decide_eq_false_iff_not]; omega]
   unfold rowR; split <;> rfl
  simp only [hr]
  exact WkE.keep (by simp only [go_sem, ↓reduceIte, Nat.reduceEqDiff])
 | succ z =>
  have hb : fr + k < to := by omega
  have hlt : ((fr + k : Nat) : Int) < (to : Int) := by omega
  have hsk := sok_line hm (fr := fr) k (by omega)
  have hwk := wide_line hm (fr := fr) k (by omega)
  have hnk := line_n [h0, h1] fr k
  have e1' : (lineP [h0, h1] fr (k + 1)).ls = addL (lineP [h0, h1] fr k).n (wideP (lineP [h0, h1] fr k).ls 0) (fr + k) (lineP [h0, h1] fr k).ls (lineP [h0, h1] fr k).la [h0, h1] := rfl
  have e2' : (lineP [h0, h1] fr (k + 1)).la = addT (fr + k) (lineP [h0, h1] fr k).la [h0, h1] := rfl
  have hwk1 := wide_line hm (fr := fr) (k + 1) (by omega)
  rw [e1, e2, hnk] at e1'
  rw [e2] at e2'
  rw [e1] at hwk
  have sms := hsk.sm
  rw [e2] at sms
  simp only [addL] at e1'
  simp only [addT] at e2'
  obtain ⟨nb0, hnb0⟩ : ∃ nb, h0[fr + k]? = some nb := ⟨_, List.getElem?_eq_getElem (by have := hm.bars h0 (by simp); omega)⟩
  have hn0 := hm.notes h0 (by simp) nb0 (List.mem_of_getElem? hnb0)
  rw [show h0.getD (fr + k) [] = nb0 by rw [List.getD_eq_getElem?_getD, hnb0]; rfl] at e1' e2'
  have wl0 := (wide_mono [a0, a1] 0).2 a0 (by simp)
  obtain ⟨nb1, hnb1⟩ : ∃ nb, h1[fr + k]? = some nb := ⟨_, List.getElem?_eq_getElem (by have := hm.bars h1 (by simp); omega)⟩
  have hn1 := hm.notes h1 (by simp) nb1 (List.mem_of_getElem? hnb1)
  rw [show h1.getD (fr + k) [] = nb1 by rw [List.getD_eq_getElem?_getD, hnb1]; rfl] at e1' e2'
  have wl1 := (wide_mono [a0, a1] 0).2 a1 (by simp)
  rw [e1'] at hwk1
  have hmore : decide (fr + k < to) = true := by rw [decide_eq_true_eq]; exact hb
  rw [hmore]
  obtain ⟨w, hw⟩ : ∃ w, wideP [a0, a1] 0 = w := ⟨_, rfl⟩
  rw [hw] at e1' hwk1 hwk wl0 wl1 ⊢
  have hrow : ∀ y : List Int, y.length <= w -> (rowR k w true y).length <= 10000 := fun y hy => by
   unfold rowR; split
   ·omega
   ·simp only [cond_true, fillC, List.length_append, List.length_replicate]; omega
  have hsep : ∀ y, sepC (decide (fr < fr + k)) (rowR k w true y) = padC k w y := fun y => by rw [show decide (fr < fr + k) = decide (0 < k) by by_cases hz : 0 < k <;> simp [hz]]; exact sep_row k w y
  refine CwpE.cut (st := ⟨((11, vi (fr + k : Nat)) :: startE 2 fr to), l2O h0 h1 (rowR k w true a0) (rowR k w true a1) x0 x1⟩) ?_ ?_
  ·simp only [go_sem, ↓reduceIte, Nat.reduceLT, Nat.reduceEqDiff, hlt]
   exact ⟨_, WkE.keep (by simp only [go_sem, ↓reduceIte, Nat.reduceEqDiff]), rfl⟩
  have wb : IntKind.i64.wrap ((fr + k : Nat) : Int) = ((fr + k : Nat) : Int) := wrap_id (by omega) (by omega)
  have wb1 : IntKind.i64.wrap (((fr + k : Nat) : Int) + 1) = ((fr + (k + 1) : Nat) : Int) := by rw [wrap_id (by omega) (by omega)]; omega
  obtain ⟨b0, hb0⟩ : ∃ b, b = addC k w a0 nb0 x0 := ⟨_, rfl⟩
  have hb0' : padC k w a0 ++ cellsP nb0 x0 = b0 := hb0.symm
  rw [<- hb0] at e1' hwk1
  obtain ⟨b1, hb1⟩ : ∃ b, b = addC k w a1 nb1 x1 := ⟨_, rfl⟩
  have hb1' : padC k w a1 ++ cellsP nb1 x1 = b1 := hb1.symm
  rw [<- hb1] at e1' hwk1
  have vl0 := (wide_mono [b0, b1] 0).2 b0 (by simp)
  have vl1 := (wide_mono [b0, b1] 0).2 b1 (by simp)
  refine CwpE.seqJ (fun s => s = ⟨((11, vi (fr + k : Nat)) :: startE 2 fr to), l2O h0 h1 (rowR (k + 1) (wideP [b0, b1] 0) (decide (fr + (k + 1) < to)) b0) (rowR (k + 1) (wideP [b0, b1] 0) (decide (fr + (k + 1) < to)) b1) (lastP nb0 x0) (lastP nb1 x1)⟩) (CwpE.block ?_) ?_
  rotate_left
  ·rintro _ rfl
   refine CwpE.vc ?_
   simp only [go_sem, ↓reduceIte, Nat.reduceLT, wb1]
   exact ⟨z, _, by omega, WkE.keep (by simp only [go_sem, ↓reduceIte, Nat.reduceEqDiff]), k + 1, b0, b1, (lastP nb0 x0), (lastP nb1 x1), by omega, e1', e2', rfl⟩
  refine CwpE.cut (st := ⟨(12, vi 0) :: ((11, vi (fr + k : Nat)) :: startE 2 fr to), l2O h0 h1 (rowR k w true a0) (rowR k w true a1) x0 x1⟩) ?_ ?_
  ·simp only [go_sem, ↓reduceIte, Nat.reduceLT]
   exact ⟨_, WkE.keep (by simp only [go_sem, ↓reduceIte, Nat.reduceEqDiff]), rfl⟩
  refine CwpE.seqJ (fun s => s = ⟨(12, vi (wideP [b0, b1] 0 : Nat)) :: ((11, vi (fr + k : Nat)) :: startE 2 fr to), l2O h0 h1 b0 b1 (lastP nb0 x0) (lastP nb1 x1)⟩) ?_ ?_
  ·refine CwpE.cut (st := ⟨lineE 2 fr to (fr + k) 0 0, l2O h0 h1 (rowR k w true a0) (rowR k w true a1) x0 x1⟩) ?_ ?_
   ·simp only [go_sem, ↓reduceIte, Nat.reduceLT]
    exact ⟨_, WkE.keep (by simp only [go_sem, ↓reduceIte, Nat.reduceEqDiff, k0, k2]), rfl⟩
   refine CwpE.block ?_
   refine loopXC 4 (fun u s => (u = 2 /\ s = ⟨lineE 2 fr to (fr + k) 0 0, l2O h0 h1 (rowR k w true a0) (rowR k w true a1) x0 x1⟩) \/ (u = 1 /\ s = ⟨lineE 2 fr to (fr + k) (max 0 b0.length) 1, l2O h0 h1 b0 (rowR k w true a1) (lastP nb0 x0) x1⟩) \/ (u = 0 /\ s = ⟨lineE 2 fr to (fr + k) (max (max 0 b0.length) b1.length) 2, l2O h0 h1 b0 b1 (lastP nb0 x0) (lastP nb1 x1)⟩)) (fun s => s = ⟨(12, vi (wideP [b0, b1] 0 : Nat)) :: ((11, vi (fr + k : Nat)) :: startE 2 fr to), l2O h0 h1 b0 b1 (lastP nb0 x0) (lastP nb1 x1)⟩) 2 ⟨lineE 2 fr to (fr + k) 0 0, l2O h0 h1 (rowR k w true a0) (rowR k w true a1) x0 x1⟩ (.refl _ _) (.inl ⟨rfl, rfl⟩) ?_ ?_
   rotate_left
   ·rintro s rfl
    simp only [inBlockE, if_true]
    exact ⟨_, .refl _ _, rfl⟩
   rintro u s (⟨rfl, rfl⟩ | ⟨rfl, rfl⟩ | ⟨rfl, rfl⟩)
   ·refine CwpE.cut (st := ⟨lineE 2 fr to (fr + k) 0 0, l2O h0 h1 (rowR k w true a0) (rowR k w true a1) x0 x1⟩) ?_ ?_
    ·simp only [go_sem, ↓reduceIte, Nat.reduceLT, Nat.reduceEqDiff, k0, k2, l02]
     exact ⟨_, WkE.keep (by simp only [go_sem, ↓reduceIte, Nat.reduceEqDiff, k0, k2]), rfl⟩
    refine CwpE.seqJ (fun s => s = ⟨lineE 2 fr to (fr + k) (max 0 b0.length) 0, l2O h0 h1 b0 (rowR k w true a1) (lastP nb0 x0) x1⟩) (CwpE.block ?_) ?_
    ·refine line_round20 F0 w0 h0 h1 fr to (fr + k) 0 (rowR k w true a0) (rowR k w true a1) x0 x1 nb0 hnb0 (by omega) hn0.2.2 (sms _ (by simp)) (hrow _ wl0) (by omega) fun s hs => ?_
     rw [hsep, hb0'] at hs
     exact ⟨_, hs, rfl⟩
    ·rintro _ rfl
     refine CwpE.vc ?_
     simp only [go_sem, ↓reduceIte, Nat.reduceLT, Nat.reduceEqDiff, k0, k2, w01]
     exact ⟨1, ⟨lineE 2 fr to (fr + k) (max 0 b0.length) 1, l2O h0 h1 b0 (rowR k w true a1) (lastP nb0 x0) x1⟩, by omega, WkE.keep (by simp only [go_sem, ↓reduceIte, Nat.reduceEqDiff, k0, k1, k2]), .inr (.inl ⟨rfl, rfl⟩)⟩
   ·refine CwpE.cut (st := ⟨lineE 2 fr to (fr + k) (max 0 b0.length) 1, l2O h0 h1 b0 (rowR k w true a1) (lastP nb0 x0) x1⟩) ?_ ?_
    ·simp only [go_sem, ↓reduceIte, Nat.reduceLT, Nat.reduceEqDiff, k1, k2, l12]
     exact ⟨_, WkE.keep (by simp only [go_sem, ↓reduceIte, Nat.reduceEqDiff, k1, k2]), rfl⟩
    refine CwpE.seqJ (fun s => s = ⟨lineE 2 fr to (fr + k) (max (max 0 b0.length) b1.length) 1, l2O h0 h1 b0 b1 (lastP nb0 x0) (lastP nb1 x1)⟩) (CwpE.block ?_) ?_
    ·refine line_round21 F0 w0 h0 h1 fr to (fr + k) (max 0 b0.length) b0 (rowR k w true a1) (lastP nb0 x0) x1 nb1 hnb1 (by omega) hn1.2.2 (sms _ (by simp)) (hrow _ wl1) (by omega) fun s hs => ?_
     rw [hsep, hb1'] at hs
     exact ⟨_, hs, rfl⟩
    ·rintro _ rfl
     refine CwpE.vc ?_
     simp only [go_sem, ↓reduceIte, Nat.reduceLT, Nat.reduceEqDiff, k1, k2, w12]
     exact ⟨0, ⟨lineE 2 fr to (fr + k) (max (max 0 b0.length) b1.length) 2, l2O h0 h1 b0 b1 (lastP nb0 x0) (lastP nb1 x1)⟩, by omega, WkE.keep (by simp only [go_sem, ↓reduceIte, Nat.reduceEqDiff, k1, k2]), .inr (.inr (⟨rfl, rfl⟩))⟩
   ·refine CwpE.vc ?_
    simp only [go_sem, ↓reduceIte, Nat.reduceLT, Nat.reduceEqDiff, Int.lt_irrefl, k2]
    exact ⟨_, WkE.keep (by simp only [go_sem, ↓reduceIte, Nat.reduceEqDiff, wideP]), rfl⟩
  rintro _ rfl
  obtain ⟨v, hv⟩ : ∃ v, wideP [b0, b1] 0 = v := ⟨_, rfl⟩
  rw [hv] at hwk1 vl0 vl1 ⊢
  have hrows : ∀ y, rowR (k + 1) v (decide (fr + (k + 1) < to)) y = bif decide (fr + (k + 1) < to) then fillC v y else y := fun y => by unfold rowR; rw [if_neg (by omega)]
  simp only [hrows]
  refine CwpE.cut (st := ⟨fillE 2 fr to (fr + k) v 0, l2O h0 h1 b0 b1 (lastP nb0 x0) (lastP nb1 x1)⟩) ?_ ?_
  ·simp only [go_sem, ↓reduceIte, Nat.reduceLT]
   exact ⟨_, WkE.keep (by simp only [go_sem, ↓reduceIte, Nat.reduceEqDiff, k0, k2]), rfl⟩
  refine CwpE.block ?_
  have hbx : ∀ s, s = ⟨((11, vi (fr + k : Nat)) :: startE 2 fr to), l2O h0 h1 (bif decide (fr + (k + 1) < to) then fillC v b0 else b0) (bif decide (fr + (k + 1) < to) then fillC v b1 else b1) (lastP nb0 x0) (lastP nb1 x1)⟩ -> inBlockE 6 (inBlockE 3 (thenE (fun s => ∃ s', WkE 134 s s' /\ s' = ⟨((11, vi (fr + k : Nat)) :: startE 2 fr to), l2O h0 h1 (bif decide (fr + (k + 1) < to) then fillC v b0 else b0) (bif decide (fr + (k + 1) < to) then fillC v b1 else b1) (lastP nb0 x0) (lastP nb1 x1)⟩) (RoundX 134 (fun z s => False) 0 2 (fun s => False) (fun _ _ => False)))) (.exit 6) s := by
   rintro s rfl
   simp only [inBlockE, if_true, thenE]
   exact ⟨_, .refl _ _, rfl⟩
  clear hbx
  by_cases hmr : fr + (k + 1) < to
  rotate_left
  ·have hmr' : ¬ ((fr + (k + 1) : Nat) : Int) < (to : Int) := by omega
   simp only [hmr, decide_false, cond_false]
   refine loopXC 6 (fun u s => s = ⟨fillE 2 fr to (fr + k) v 0, l2O h0 h1 b0 b1 (lastP nb0 x0) (lastP nb1 x1)⟩) (fun s => s = ⟨((11, vi (fr + k : Nat)) :: startE 2 fr to), l2O h0 h1 b0 b1 (lastP nb0 x0) (lastP nb1 x1)⟩) 0 ⟨fillE 2 fr to (fr + k) v 0, l2O h0 h1 b0 b1 (lastP nb0 x0) (lastP nb1 x1)⟩ (.refl _ _) rfl ?_ ?_
   rotate_left
   ·rintro s rfl
    simp only [inBlockE, if_true, thenE]
    exact ⟨_, .refl _ _, rfl⟩
   rintro u s rfl
   refine CwpE.vc ?_
   simp only [go_sem, ↓reduceIte, Nat.reduceLT, Nat.reduceEqDiff, k0, k2, l02, wb1, hmr']
   exact ⟨_, WkE.keep (by simp only [go_sem, ↓reduceIte, Nat.reduceEqDiff]), rfl⟩
  have hmr' : ((fr + (k + 1) : Nat) : Int) < (to : Int) := by omega
  simp only [hmr, decide_true, cond_true]
  refine loopXC 6 (fun u s => (u = 2 /\ s = ⟨fillE 2 fr to (fr + k) v 0, l2O h0 h1 b0 b1 (lastP nb0 x0) (lastP nb1 x1)⟩) \/ (u = 1 /\ s = ⟨fillE 2 fr to (fr + k) v 1, l2O h0 h1 (fillC v b0) b1 (lastP nb0 x0) (lastP nb1 x1)⟩) \/ (u = 0 /\ s = ⟨fillE 2 fr to (fr + k) v 2, l2O h0 h1 (fillC v b0) (fillC v b1) (lastP nb0 x0) (lastP nb1 x1)⟩)) (fun s => s = ⟨((11, vi (fr + k : Nat)) :: startE 2 fr to), l2O h0 h1 (fillC v b0) (fillC v b1) (lastP nb0 x0) (lastP nb1 x1)⟩) 2 ⟨fillE 2 fr to (fr + k) v 0, l2O h0 h1 b0 b1 (lastP nb0 x0) (lastP nb1 x1)⟩ (.refl _ _) (.inl ⟨rfl, rfl⟩) ?_ ?_
  rotate_left
  ·rintro s rfl
   simp only [inBlockE, if_true, thenE]
   exact ⟨_, .refl _ _, rfl⟩
  rintro u s (⟨rfl, rfl⟩ | ⟨rfl, rfl⟩ | ⟨rfl, rfl⟩)
  ·refine CwpE.cut (st := ⟨fillE 2 fr to (fr + k) v 0, l2O h0 h1 b0 b1 (lastP nb0 x0) (lastP nb1 x1)⟩) ?_ ?_
   ·simp only [go_sem, ↓reduceIte, Nat.reduceLT, Nat.reduceEqDiff, k0, k2, l02, wb1, hmr']
    exact ⟨_, WkE.keep (by simp only [go_sem, ↓reduceIte, Nat.reduceEqDiff, k0, k2]), rfl⟩
   refine CwpE.seqJ (fun s => s = ⟨fillE 2 fr to (fr + k) v 0, l2O h0 h1 (fillC v b0) b1 (lastP nb0 x0) (lastP nb1 x1)⟩) ?_ ?_
   ·exact line_fill20 F0 w0 h0 h1 fr to (fr + k) v b0 b1 (lastP nb0 x0) (lastP nb1 x1) (by omega) (by omega) ⟨_, .refl _ _, rfl⟩
   ·rintro _ rfl
    refine CwpE.vc ?_
    simp only [go_sem, ↓reduceIte, Nat.reduceLT, Nat.reduceEqDiff, k0, k2, w01]
    exact ⟨1, ⟨fillE 2 fr to (fr + k) v 1, l2O h0 h1 (fillC v b0) b1 (lastP nb0 x0) (lastP nb1 x1)⟩, by omega, WkE.keep (by simp only [go_sem, ↓reduceIte, Nat.reduceEqDiff, k0, k1, k2]), .inr (.inl ⟨rfl, rfl⟩)⟩
  ·refine CwpE.cut (st := ⟨fillE 2 fr to (fr + k) v 1, l2O h0 h1 (fillC v b0) b1 (lastP nb0 x0) (lastP nb1 x1)⟩) ?_ ?_
   ·simp only [go_sem, ↓reduceIte, Nat.reduceLT, Nat.reduceEqDiff, k1, k2, l12, wb1, hmr']
    exact ⟨_, WkE.keep (by simp only [go_sem, ↓reduceIte, Nat.reduceEqDiff, k1, k2]), rfl⟩
   refine CwpE.seqJ (fun s => s = ⟨fillE 2 fr to (fr + k) v 1, l2O h0 h1 (fillC v b0) (fillC v b1) (lastP nb0 x0) (lastP nb1 x1)⟩) ?_ ?_
   ·exact line_fill21 F0 w0 h0 h1 fr to (fr + k) v (fillC v b0) b1 (lastP nb0 x0) (lastP nb1 x1) (by omega) (by omega) ⟨_, .refl _ _, rfl⟩
   ·rintro _ rfl
    refine CwpE.vc ?_
    simp only [go_sem, ↓reduceIte, Nat.reduceLT, Nat.reduceEqDiff, k1, k2, w12]
    exact ⟨0, ⟨fillE 2 fr to (fr + k) v 2, l2O h0 h1 (fillC v b0) (fillC v b1) (lastP nb0 x0) (lastP nb1 x1)⟩, by omega, WkE.keep (by simp only [go_sem, ↓reduceIte, Nat.reduceEqDiff, k1, k2]), .inr (.inr (⟨rfl, rfl⟩))⟩
  ·refine CwpE.vc ?_
   simp only [go_sem, ↓reduceIte, Nat.reduceLT, Nat.reduceEqDiff, Int.lt_irrefl, k2]
   exact ⟨_, WkE.keep (by simp only [go_sem, ↓reduceIte, Nat.reduceEqDiff]), rfl⟩
theorem Line_s (m : List (List (List Nt))) (fr to : Nat) (hm : Vm m) (h1 : fr <= to) (h2 : to <= manyP m) : Ctr Tryd.prog 27 [vmel m, vi fr, vi to] (vpage (lineP m fr (to - fr)).ls) := by
 rcases hm.hands with h | h
 ·obtain ⟨h0, rfl⟩ := one_of h
  exact Line_1 h0 fr to hm h1 h2
 ·obtain ⟨h0, h1', rfl⟩ := two_of h
  exact Line_2 h0 h1' fr to hm h1 h2
end Go.Proofs.YtnncijjkbonokaaDoor
