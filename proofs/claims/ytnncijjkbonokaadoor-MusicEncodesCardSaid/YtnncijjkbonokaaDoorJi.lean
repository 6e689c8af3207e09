/- Lemmas used by Encodes. -/
import Derived.Test.YtnncijjkbonokaaDoorJa
import Derived.Test.YtnncijjkbonokaaDoorJb
import Derived.Test.YtnncijjkbonokaaDoorJc
import Derived.Test.YtnncijjkbonokaaDoorJd
import Derived.Test.YtnncijjkbonokaaDoorJe
import Derived.Test.YtnncijjkbonokaaDoorJf
import Derived.Test.YtnncijjkbonokaaDoorJg
import Derived.WalkKit
import Derived.WalkSpells
import Derived.WalkLawsBesides
import Derived.Orders
import Derived.Laws.MakeOwn
import Derived.Deep.AppendSrc
import Derived.Lib.AppendZerosOnto
import Derived.Defers
import Derived.Laws.StructEq
import Derived.Scope
import Derived.Deep.LoopGhost
import Derived.OrdersIn
import Derived.ControlIn
import Derived.Sort.LoopGhostIn
import Derived.RangeFuncLeaves
import Derived.RangeFuncRecord
import Derived.Test.YtnncijjkbonokaaDoorProg
import Derived.RangeFuncFrom
import Derived.RangeFuncBox
import Derived.OwnWalkIn
import Derived.TacticsInMore
import Derived.LoopNIn
import Derived.LoopIn
import Derived.Sort.QuietTacIn
set_option linter.unusedSimpArgs false
set_option linter.unusedVariables false
set_option linter.unusedSectionVars false
set_option maxRecDepth 100000
namespace Dak
open Go Go.RowKit
variable [Globs]
variable {P : Program} {F0 : FD} {w0 : World} {n : Nat} {Q : Exit -> Est -> Prop} {s : Est}
variable {K : Est -> Prop} {rest : List COper} {d : Option Nat} {g : Option (Nat × Bool)}
theorem RL_guard {op : COp} {t : Nat} {w : Bool} {ls : List COper} {rest : List (COper × List COper)} : RopsLE P n ((⟨d, some (t, w), op⟩, ls) :: rest) K s = guardE (gdB (lk s.env t)) w (RstepE P n ⟨d, some (t, w), op⟩ (lateK P n ls rest K) s) (okD n d /\ LatesE ⟨putE s.env d nov, s.objs⟩ ls /\ RopsLE P n rest K ⟨putE s.env d nov, s.objs⟩) := nrfl rfl
variable {objs0 : List AObj} {KQ : List (Nat × AV) -> List AObj -> Prop} {env : List (Nat × AV)} {cr : List AObj}
attribute [go_sem] RL_guard
end Dak
namespace Go.Proofs.YtnncijjkbonokaaDoor
open Dak
def c18 : CCode :=
 (.seq (.region [oo 2 (.box 25 (T 0)), oo 4 (.mov (.const (.slice none 0 0))), oo 5 (.mov (kk 0))])
 (.seq (.region [oo 12 (.load true 1 (T 2)), oo 13 (.call (.func 29) [(T 12)]), vv 6 13])
 (.seq (.seq (.region [vv 14 6, oo 15 (.ibin .neq (T 14) (kk 0))])
 (.cond (T 15)
 (.seq (.region [vv 16 6, oo 4 (.mov (.const (.slice none 0 0))), vv 5 16])
 .ret)
 .skip))
 (.seq (.seq (.region [vv 17 1, oo 18 (.ibin .lss (T 17) (kk 1)), vv 19 18, vf 20 19 1, gf 21 19 (.ibin .gtr (T 20) (kk 40)), oo 22 (.pick (T 19) (.const (.bool true)) (T 21))])
 (.cond (T 22)
 (.seq (.region [oo 4 (.mov (.const (.slice none 0 0))), oo 5 (.mov (kk 1))])
 .ret)
 .skip))
 (.seq (.region [oo 23 (.fieldAddr 0 (T 2)), oo 24 (.load false 1 (T 23)), oo 25 (.idxS 1 (T 24) (kk 0)), oo 26 (.load false 1 (T 25)), oo 27 (.len (T 26)), vv 7 27])
 (.seq (.seq (.region [oo 8 (.mov (kk 0))])
 (.block 0 (.loop
 (.seq (.seq (.region [vv 28 8, vv 29 7, oo 30 (.ibin .lss (T 28) (T 29))])
 (.cond (T 30)
 .skip
 (.exit 0)))
 (.seq (.block 1 (.seq (.region [oo 33 (.load true 1 (T 2)), vv 34 8, vv 35 8, oo 36 (.ibin .add (T 35) (kk 1)), oo 37 (.call (.func 27) [(T 33), (T 34), (T 36)]), oo 38 (.call (.func 42) [(T 37)]), vv 39 1, oo 40 (.ibin .gtr (T 38) (T 39))])
 (.cond (T 40)
 (.seq (.region [oo 4 (.mov (.const (.slice none 0 0))), oo 5 (.mov (kk 14))])
 .ret)
 .skip)))
 (.region [vv 31 8, oo 32 (.ibin .add (T 31) (kk 1)), vv 8 32]))))))
 (.seq (.region [oo 9 (.mov (.const (.slice none 0 0)))])
 (.seq (.seq (.region [oo 10 (.mov (kk 0))])
 (.block 2 (.loop
 (.seq (.seq (.region [vv 41 10, vv 42 7, oo 43 (.ibin .lss (T 41) (T 42))])
 (.cond (T 43)
 .skip
 (.exit 2)))
 (.block 3 (.seq (.region [vv 44 10, oo 45 (.ibin .add (T 44) (kk 1)), vv 11 45])
 (.seq (.block 4 (.loop
 (.seq (.seq (.region [vv 46 11, vv 47 7, oo 48 (.ibin .lss (T 46) (T 47)), vv 49 48, gt 50 49 (.load true 1 (T 2)), vt 51 49 10, vt 52 49 11, gt 53 49 (.ibin .add (T 52) (kk 1)), gt 54 49 (.call (.func 27) [(T 50), (T 51), (T 53)]), gt 55 49 (.call (.func 42) [(T 54)]), vt 56 49 1, gt 57 49 (.ibin .leq (T 55) (T 56)), oo 58 (.pick (T 49) (T 57) (.const (.bool false)))])
 (.cond (T 58)
 .skip
 (.exit 4)))
 (.block 5 (.region [vv 59 11, oo 60 (.ibin .add (T 59) (kk 1)), vv 11 60])))))
 (.seq (.region [vv 61 9, oo 62 (.load true 1 (T 2)), vv 63 10, vv 64 11, oo 65 (.call (.func 27) [(T 62), (T 63), (T 64)]), oo 66 (.append 30 1 24 (T 61) (T 65)), vv 9 66])
 (.region [vv 67 11, vv 10 67])))))))))
 (.seq (.region [vv 68 9, vv 4 68, oo 5 (.mov (kk 0))])
 .ret)))))))))
theorem f18 : fnC Tryd.prog 18 = some (c18, 69, [(.tmp 4), (.tmp 5)]) := by kernel_rfl
def c19 : CCode :=
 (.seq (.region [oo 4 (.mov (.const (.bool false)))])
 (.seq (.seq (.region [vv 6 0, oo 7 (.len (T 6)), vv 8 1, oo 9 (.len (T 8)), oo 10 (.ibin .neq (T 7) (T 9))])
 (.cond (T 10)
 (.seq (.region [oo 4 (.mov (.const (.bool false)))])
 .ret)
 .skip))
 (.seq (.seq (.region [oo 5 (.mov (kk 0))])
 (.block 0 (.loop
 (.seq (.seq (.region [vv 11 5, vv 12 0, oo 13 (.len (T 12)), oo 14 (.ibin .lss (T 11) (T 13))])
 (.cond (T 14)
 .skip
 (.exit 0)))
 (.seq (.block 1 (.seq (.drawn [vv 17 0, vv 18 5, oo 19 (.idxS 1 (T 17) (T 18)), oo 20 (.load false 1 (T 19)), vv 21 1, vv 22 5, oo 23 (.idxS 1 (T 21) (T 22)), oo 24 (.load false 1 (T 23))] [(oo 25 (.call (.func 15) [(T 20), (T 24)]), []), (oo 26 (.lnot (T 25)), [])])
 (.cond (T 26)
 (.seq (.region [oo 4 (.mov (.const (.bool false)))])
 .ret)
 .skip)))
 (.region [vv 15 5, oo 16 (.ibin .add (T 15) (kk 1)), vv 5 16]))))))
 (.seq (.region [oo 4 (.mov (.const (.bool true)))])
 .ret))))
theorem f19 : fnC Tryd.prog 19 = some (c19, 27, [(.tmp 4)]) := by kernel_rfl
def c27 : CCode :=
 (.seq (.region [oo 3 (.box 25 (T 0)), oo 6 (.mov (.const (.slice none 0 0)))])
 (.seq (.region [oo 17 (.fieldAddr 0 (T 3)), oo 18 (.load false 1 (T 17)), oo 19 (.len (T 18)), vv 7 19])
 (.seq (.region [vv 20 7, oo 21 (.mkslice 30 1 24 (.val (.slice none 0 0)) (T 20) (T 20)), vv 8 21])
 (.seq (.region [vv 22 7, oo 23 (.mkslice 3 1 8 (.val (.int .i64 0)) (T 22) (T 22)), vv 9 23])
 (.seq (.seq (.region [oo 10 (.mov (kk 0))])
 (.block 0 (.loop
 (.seq (.seq (.region [vv 24 10, vv 25 7, oo 26 (.ibin .lss (T 24) (T 25))])
 (.cond (T 26)
 .skip
 (.exit 0)))
 (.seq (.block 1 (.seq (.region [vv 29 9, vv 30 10, oo 31 (.idxS 1 (T 29) (T 30)), nn (.store 1 (T 31) (kk (-1)))])
 (.seq (.region [vv 32 7, oo 33 (.ibin .eql (T 32) (kk 2))])
 (.cond (T 33)
 (.drawn [vv 34 8, vv 35 10, vv 36 8, vv 37 10, oo 38 (.idxS 1 (T 36) (T 37)), oo 39 (.load false 1 (T 38)), oo 40 (.bslice 5 1 [(.const (.int .u8 60)), (.const (.int .u8 28))]), vv 41 10, oo 42 (.idxS 1 (T 40) (T 41)), oo 43 (.load false 1 (T 42)), oo 44 (.bslice 5 1 [(T 43)])] [(oo 45 (.append 5 1 1 (T 39) (T 44)), [vv 34 8, vv 35 10]), (oo 46 (.idxS 1 (T 34) (T 35)), []), (nn (.store 1 (T 46) (T 45)), [])])
 .skip))))
 (.region [vv 27 10, oo 28 (.ibin .add (T 27) (kk 1)), vv 10 28]))))))
 (.seq (.seq (.region [vv 47 1, vv 11 47])
 (.block 2 (.loop
 (.seq (.seq (.region [vv 48 11, vv 49 2, oo 50 (.ibin .lss (T 48) (T 49))])
 (.cond (T 50)
 .skip
 (.exit 2)))
 (.seq (.block 3 (.seq (.region [oo 12 (.mov (kk 0))])
 (.seq (.seq (.region [oo 13 (.mov (kk 0))])
 (.block 4 (.loop
 (.seq (.seq (.region [vv 53 13, vv 54 7, oo 55 (.ibin .lss (T 53) (T 54))])
 (.cond (T 55)
 .skip
 (.exit 4)))
 (.seq (.block 5 (.seq (.seq (.region [vv 58 11, vv 59 1, oo 60 (.ibin .gtr (T 58) (T 59))])
 (.cond (T 60)
 (.region [vv 61 8, vv 62 13, vv 63 8, vv 64 13, oo 65 (.idxS 1 (T 63) (T 64)), oo 66 (.load false 1 (T 65)), oo 67 (.bslice 5 1 [(.const (.int .u8 0))]), oo 68 (.append 5 1 1 (T 66) (T 67)), oo 69 (.idxS 1 (T 61) (T 62)), nn (.store 1 (T 69) (T 68))])
 .skip))
 (.seq (.drawn [oo 71 (.fieldAddr 0 (T 3)), oo 72 (.load false 1 (T 71)), vv 73 13, oo 74 (.idxS 1 (T 72) (T 73)), oo 75 (.load false 1 (T 74)), vv 76 11, oo 77 (.idxS 1 (T 75) (T 76)), oo 78 (.load false 1 (T 77)), vv 79 9, vv 80 13, oo 81 (.idxS 1 (T 79) (T 80)), oo 82 (.load false 1 (T 81))] [(oo 83 (.call (.func 38) [(T 78), (T 82)]), []), (vv 70 83, []), (oo 84 (.extract (T 70) 0), []), (oo 85 (.extract (T 70) 1), []), (vv 14 84, []), (vv 15 85, [])])
 (.seq (.region [vv 86 9, vv 87 13, vv 88 15, oo 89 (.idxS 1 (T 86) (T 87)), nn (.store 1 (T 89) (T 88))])
 (.seq (.region [vv 90 8, vv 91 13, vv 92 8, vv 93 13, oo 94 (.idxS 1 (T 92) (T 93)), oo 95 (.load false 1 (T 94)), vv 96 14, oo 97 (.append 5 1 1 (T 95) (T 96)), oo 98 (.idxS 1 (T 90) (T 91)), nn (.store 1 (T 98) (T 97))])
 (.region [vv 99 12, vv 100 8, vv 101 13, oo 102 (.idxS 1 (T 100) (T 101)), oo 103 (.load false 1 (T 102)), oo 104 (.len (T 103)), oo 105 (.imax (T 99) (T 104)), vv 12 105]))))))
 (.region [vv 56 13, oo 57 (.ibin .add (T 56) (kk 1)), vv 13 57]))))))
 (.seq (.region [oo 16 (.mov (kk 0))])
 (.block 6 (.loop
 (.seq (.seq (.region [vv 106 16, vv 107 7, oo 108 (.ibin .lss (T 106) (T 107)), vv 109 108, vt 110 109 11, gt 111 109 (.ibin .add (T 110) (kk 1)), vt 112 109 2, gt 113 109 (.ibin .lss (T 111) (T 112)), oo 114 (.pick (T 109) (T 113) (.const (.bool false)))])
 (.cond (T 114)
 .skip
 (.exit 6)))
 (.seq (.block 7 (.block 8 (.loop
 (.seq (.seq (.region [vv 117 8, vv 118 16, oo 119 (.idxS 1 (T 117) (T 118)), oo 120 (.load false 1 (T 119)), oo 121 (.len (T 120)), vv 122 12, oo 123 (.ibin .lss (T 121) (T 122))])
 (.cond (T 123)
 .skip
 (.exit 8)))
 (.block 9 (.region [vv 124 8, vv 125 16, vv 126 8, vv 127 16, oo 128 (.idxS 1 (T 126) (T 127)), oo 129 (.load false 1 (T 128)), oo 130 (.bslice 5 1 [(.const (.int .u8 0))]), oo 131 (.append 5 1 1 (T 129) (T 130)), oo 132 (.idxS 1 (T 124) (T 125)), nn (.store 1 (T 132) (T 131))]))))))
 (.region [vv 115 16, oo 116 (.ibin .add (T 115) (kk 1)), vv 16 116])))))))))
 (.region [vv 51 11, oo 52 (.ibin .add (T 51) (kk 1)), vv 11 52]))))))
 (.seq (.region [vv 133 8, vv 6 133])
 .ret)))))))
theorem f27 : fnC Tryd.prog 27 = some (c27, 134, [(.tmp 6)]) := by kernel_rfl
end Go.Proofs.YtnncijjkbonokaaDoor
namespace Go.Proofs.YtnncijjkbonokaaDoor
open Dak
def c42 : CCode :=
 (.seq (.region [oo 2 (.mov (kk 0))])
 (.seq (.region [oo 3 (.mov (kk 0))])
 (.seq (.seq (.region [oo 4 (.mov (kk 0))])
 (.block 0 (.loop
 (.seq (.seq (.region [vv 5 4, vv 6 0, oo 7 (.len (T 6)), oo 8 (.ibin .lss (T 5) (T 7))])
 (.cond (T 8)
 .skip
 (.exit 0)))
 (.seq (.block 1 (.region [vv 11 3, vv 12 0, vv 13 4, oo 14 (.idxS 1 (T 12) (T 13)), oo 15 (.load false 1 (T 14)), oo 16 (.len (T 15)), oo 17 (.imax (T 11) (T 16)), vv 3 17]))
 (.region [vv 9 4, oo 10 (.ibin .add (T 9) (kk 1)), vv 4 10]))))))
 (.seq (.region [vv 18 3, vv 2 18])
 .ret))))
theorem f42 : fnC Tryd.prog 42 = some (c42, 19, [(.tmp 2)]) := by kernel_rfl
end Go.Proofs.YtnncijjkbonokaaDoor
namespace Go.Proofs.YtnncijjkbonokaaDoor
open Go.RowKit Dak
theorem refWide_s (l : List (List Int)) (hl : l.length <= 9223372036854775806) : Ctr Tryd.prog 42 [vpage l] (vi (wideP l 0)) := by
 refine specE f42 (by simp) fun F0 w0 => ?_
 simp only [c42, go_sem, ↓reduceIte, Nat.reduceLT]
 refine loopX 0 (fun m s => ∃ k n : Nat, m = l.length - k /\ k <= l.length /\ wideP (l.drop k) n = wideP l 0 /\ s = ⟨[(0, vpage l), (3, vi n), (4, vi k)], []⟩) (fun s => s = ⟨[(3, vi (wideP l 0))], []⟩) l.length
  ⟨[(0, vpage l), (3, vi (0 : Nat)), (4, vi (0 : Nat))], []⟩ (WkE.keep (by simp only [go_sem, ↓reduceIte, reduceCtorEq, Nat.reduceEqDiff]; rfl)) ⟨0, 0, by omega, by omega, rfl, rfl⟩ ?_ ?_
 rotate_left
 ·rintro s rfl
  simp only [go_sem, ↓reduceIte, Nat.reduceLT]
  exact .tree _ rfl
 rintro m s ⟨k, n, rfl, hk, hw, rfl⟩
 by_cases hlt : k < l.length
 ·have g1 : (k : Int) < (l.length : Int) := by omega
  have g0 : (0 : Int) <= (k : Int) := by omega
  have w1 : IntKind.i64.wrap ((k : Int) + 1) = ((k + 1 : Nat) : Int) := by rw [wrap_id (by omega) (by omega)]; omega
  rw [List.drop_eq_getElem_cons hlt, wideP] at hw
  simp only [go_sem, ↓reduceIte, reduceCtorEq, Nat.reduceLT, Nat.reduceEqDiff, g1, g0, List.getElem?_map, List.getElem?_eq_getElem hlt, w1, List.length_map, max_if]
  exact ⟨l.length - (k + 1), ⟨[(0, vpage l), (3, vi (max n l[k].length : Nat)), (4, vi (k + 1 : Nat))], []⟩, by omega, WkE.keep (by simp only [go_sem, ↓reduceIte, reduceCtorEq, Nat.reduceEqDiff]), k + 1, _, rfl, by omega, hw, rfl⟩
 ·have g1 : ¬ (k : Int) < (l.length : Int) := by omega
  rw [List.drop_eq_nil_of_le (by omega), wideP] at hw
  subst hw
  simp only [go_sem, ↓reduceIte, reduceCtorEq, Nat.reduceLT, Nat.reduceEqDiff, g1]
  exact ⟨_, WkE.keep (by simp only [go_sem, ↓reduceIte, reduceCtorEq, Nat.reduceEqDiff]), rfl⟩
theorem SamePages_s (A B : List (List Int)) (hA : A.length <= 9223372036854775806) (hA2 : ∀ x ∈ A, x.length <= 9223372036854775806) : Ctr Tryd.prog 19 [vpage A, vpage B] (vb (decide (A = B))) := by
 refine specE f19 (by simp) fun F0 w0 => ?_
 by_cases hl : A.length = B.length
 ·have hl' : (A.length : Int) = (B.length : Int) := by omega
  simp only [c19, go_sem, ↓reduceIte, reduceCtorEq, Nat.reduceLT, Nat.reduceEqDiff, hl']
  refine loopX 0 (fun m s => ∃ k : Nat, m = B.length - k /\ k <= B.length /\ A.take k = B.take k /\ s = ⟨[(0, vpage A), (1, vpage B), (5, vi k)], []⟩) (fun _ => A = B) B.length ⟨[(0, vpage A), (1, vpage B), (5, vi (0 : Nat))], []⟩ (WkE.keep (by simp only [go_sem, ↓reduceIte, reduceCtorEq, Nat.reduceEqDiff]; rfl)) ⟨0, by omega, by omega, rfl, rfl⟩ ?_ ?_
  rotate_left
  ·rintro s e
   simp only [go_sem, ↓reduceIte, Nat.reduceLT, e]
   exact .tree _ rfl
  rintro m s ⟨k, rfl, hk, ht, rfl⟩
  by_cases hlt : k < B.length
  ·have hltA : k < A.length := by omega
   have h1 : (k : Int) < (B.length : Int) := by omega
   have h0 : (0 : Int) <= (k : Int) := by omega
   have hw : IntKind.i64.wrap ((k : Int) + 1) = ((k + 1 : Nat) : Int) := by rw [wrap_id (by omega) (by omega)]; omega
   simp only [go_sem, ↓reduceIte, reduceCtorEq, Nat.reduceLT, Nat.reduceEqDiff, hl', h1, h0, List.getElem?_map, List.getElem?_eq_getElem hlt, List.getElem?_eq_getElem hltA]
   refine callT (Equal15_s A[k] B[k] (hA2 _ (List.getElem_mem hltA))) rfl ?_
   by_cases he : A[k] = B[k]
   ·simp only [go_sem, ↓reduceIte, reduceCtorEq, Nat.reduceLT, Nat.reduceEqDiff, he, hw]
    exact ⟨B.length - (k + 1), ⟨[(0, vpage A), (1, vpage B), (5, vi (k + 1 : Nat))], []⟩, by omega, WkE.keep (by simp only [go_sem, ↓reduceIte, reduceCtorEq, Nat.reduceEqDiff]), k + 1, rfl, by omega, takeS_eq ht hltA hlt he, rfl⟩
   ·simp only [go_sem, ↓reduceIte, Nat.reduceLT, he]
    have : decide (A = B) = false := by rw [decide_eq_false_iff_not]; rintro rfl; exact he rfl
    rw [this]; exact .tree _ rfl
  ·have hkB : k = B.length := by omega
   have h1 : ¬ (k : Int) < (B.length : Int) := by omega
   simp only [go_sem, ↓reduceIte, reduceCtorEq, Nat.reduceLT, Nat.reduceEqDiff, hl', h1]
   refine ⟨⟨[], []⟩, WkE.keep trivial, ?_⟩
   rw [hkB, List.take_length, <- hl, List.take_length] at ht
   exact ht
 ·have hl' : ¬ (A.length : Int) = (B.length : Int) := by omega
  simp only [c19, go_sem, ↓reduceIte, reduceCtorEq, Nat.reduceLT, Nat.reduceEqDiff, hl']
  have : decide (A = B) = false := by rw [decide_eq_false_iff_not]; rintro rfl; exact hl rfl
  rw [this]; exact .tree _ rfl
end Go.Proofs.YtnncijjkbonokaaDoor
namespace Go.Proofs.YtnncijjkbonokaaDoor
open Go.RowKit Dak
def lineP (m : List (List (List Nt))) (fr : Nat) : Nat -> Sys
 | 0 => firstP m.length
 | k + 1 => (lineP m fr k).add m (fr + k)
end Go.Proofs.YtnncijjkbonokaaDoor
namespace Go.Proofs.YtnncijjkbonokaaDoor
open Go.RowKit Dak
def sepC (b : Bool) (a : List Int) : List Int := bif b then a ++ [0] else a
abbrev lineB : CCode := match c27 with | .seq _ (.seq _ (.seq _ (.seq _ (.seq _ (.seq (.seq _ (.block _ (.loop (.seq _ (.seq (.block _ (.seq _ (.seq (.seq _ (.block _ (.loop (.seq _ (.seq (.block _ b) _))))) _))) _))))) _))))) => b | _ => .skip
abbrev rowO (a : List Int) : AObj := .arr a.length 1 5 (a.map vu)
abbrev l1O (h0 : List (List Nt)) (a0 : List Int) (x0 : Int) : List AObj := [.arr 1 1 25 [vmel [h0]], .arr 1 1 30 [.own 3 a0.length 0 a0.length], .arr 1 1 3 [vi x0], rowO a0]
abbrev l2O (h0 h1 : List (List Nt)) (a0 a1 : List Int) (x0 x1 : Int) : List AObj := [.arr 1 1 25 [vmel [h0, h1]], .arr 2 1 30 [.own 3 a0.length 0 a0.length, .own 4 a1.length 0 a1.length], .arr 2 1 3 [vi x0, vi x1], rowO a0, rowO a1]
abbrev lineE (n : Nat) (fr to b most h : Nat) : List (Nat × AV) := [(1, vi fr), (2, vi to), (3, .ref 0 1 0 0), (7, vi n), (8, .own 1 n 0 n), (9, .own 2 n 0 n), (11, vi b), (12, vi most), (13, vi h)]
theorem map_sep (a : List Int) : a.map vu ++ [AV.val (.int .u8 0)] = (a ++ [0]).map vu := by simp
theorem len_sep (a : List Int) : a.length + 1 = (a ++ [0]).length := by simp
theorem map_app (a b : List Int) : a.map vu ++ b.map vu = (a ++ b).map vu := by simp
theorem len_app (a b : List Int) : a.length + b.length = (a ++ b).length := by simp
theorem take_all (a : List Int) : List.take a.length (a.map vu) = a.map vu := List.take_of_length_le (by simp)
theorem line_round10 (F0 : FD) (w0 : World) (h0 : List (List Nt)) (fr to b most : Nat) (a0 : List Int) (x0 : Int) (nb : List Nt) (hnb : h0[b]? = some nb) (hlen : nb.length <= 10000) (hr : ∀ n ∈ nb, rightP n = true) (hl : small x0) (hal : a0.length <= 10000) (hb : b <= 10000)
 {Q : Exit -> Est -> Prop} (hQ : ∀ s, WkE 134 s ⟨lineE 1 fr to b (max most (sepC (decide (fr < b)) a0 ++ cellsP nb x0).length) 0, l1O h0 (sepC (decide (fr < b)) a0 ++ cellsP nb x0) (lastP nb x0)⟩ -> Q .normal s) : CwpE Tryd.prog F0 w0 134 lineB Q ⟨lineE 1 fr to b most 0, l1O h0 a0 x0⟩ := by
 have gb : (0 : Int) <= (b : Int) := by omega
 have k0 : ((0 : Nat) : Int) = 0 := rfl
 have k1 : ((1 : Nat) : Int) = 1 := rfl
 have k2 : ((2 : Nat) : Int) = 2 := rfl
 have l01 : (0 : Int) < 1 := by decide
 have l02 : (0 : Int) < 2 := by decide
 have l12 : (1 : Int) < 2 := by decide
 have le01 : (0 : Int) <= 1 := by decide
 have hcl := cells_len nb x0
 unfold lineB c27
 refine CwpE.seqJ (fun s => s = ⟨lineE 1 fr to b most 0, l1O h0 (sepC (decide (fr < b)) a0) x0⟩) ?_ ?_
 ·refine CwpE.vc ?_
  by_cases hbf : fr < b
  ·have hbf' : (fr : Int) < (b : Int) := by omega
   have q1 : a0.length + 1 <= 140737488355328 := by omega
   simp only [go_sem, Nat.reducePow, Nat.reduceLeDiff, ↓reduceIte, Nat.reduceLT, Nat.reduceEqDiff, Nat.reduceAdd, Int.reduceToNat, Int.reduceToNat, Int.le_refl, hbf', k0, k1, l01, q1, take_all, Nat.mul_one]
   rw [show sepC (decide (fr < b)) a0 = a0 ++ [0] by simp only [sepC, hbf, decide_true, cond_true], len_sep, map_sep]
   exact ⟨_, WkE.keep (by simp only [go_sem, ↓reduceIte, Nat.reduceEqDiff, k0, k1]), rfl⟩
  ·have hbf' : ¬ (fr : Int) < (b : Int) := by omega
   simp only [go_sem, ↓reduceIte, Nat.reduceLT, Nat.reduceEqDiff, hbf']
   rw [show sepC (decide (fr < b)) a0 = a0 by simp only [sepC, hbf, decide_false, cond_false]]
   exact ⟨_, WkE.keep (by simp only [go_sem, ↓reduceIte, Nat.reduceEqDiff, k0, k1]), rfl⟩
 rintro _ rfl
 have hrl : (sepC (decide (fr < b)) a0).length <= 10001 := by
  cases decide (fr < b)
  ·simp only [sepC, cond_false]; omega
  ·simp only [sepC, cond_true, List.length_append, List.length_cons, List.length_nil]; omega
 generalize sepC (decide (fr < b)) a0 = r at hQ hrl ⊢
 have q2 : r.length + (cellsP nb x0).length <= 140737488355328 := by omega
 refine CwpE.vc ?_
 simp only [go_sem, ↓reduceIte, Nat.reduceLT, Nat.reduceEqDiff, Int.reduceToNat, Int.reduceToNat, Int.le_refl, k0, k1, l01, gb, hnb, List.getElem?_map, Option.map_some]
 refine callT (Cells_s nb x0 hlen hr hl) rfl ?_
 simp only [go_sem, ↓reduceIte, Nat.reduceLT, Nat.reduceEqDiff, Nat.reduceAdd, Int.reduceToNat, Int.reduceToNat, Int.le_refl, k0, k1, l01, Option.map_some, q2, take_all, Nat.mul_one, List.length_map]
 rw [len_app, map_app]
 simp only [max_if]
 exact hQ _ (WkE.keep (by simp only [go_sem, ↓reduceIte, Nat.reduceEqDiff, k0, k1]))
theorem line_round20 (F0 : FD) (w0 : World) (h0 h1 : List (List Nt)) (fr to b most : Nat) (a0 a1 : List Int) (x0 x1 : Int) (nb : List Nt) (hnb : h0[b]? = some nb) (hlen : nb.length <= 10000) (hr : ∀ n ∈ nb, rightP n = true) (hl : small x0) (hal : a0.length <= 10000) (hb : b <= 10000)
 {Q : Exit -> Est -> Prop} (hQ : ∀ s, WkE 134 s ⟨lineE 2 fr to b (max most (sepC (decide (fr < b)) a0 ++ cellsP nb x0).length) 0, l2O h0 h1 (sepC (decide (fr < b)) a0 ++ cellsP nb x0) a1 (lastP nb x0) x1⟩ -> Q .normal s) : CwpE Tryd.prog F0 w0 134 lineB Q ⟨lineE 2 fr to b most 0, l2O h0 h1 a0 a1 x0 x1⟩ := by
 have gb : (0 : Int) <= (b : Int) := by omega
 have k0 : ((0 : Nat) : Int) = 0 := rfl
 have k1 : ((1 : Nat) : Int) = 1 := rfl
 have k2 : ((2 : Nat) : Int) = 2 := rfl
 have l01 : (0 : Int) < 1 := by decide
 have l02 : (0 : Int) < 2 := by decide
 have l12 : (1 : Int) < 2 := by decide
 have le01 : (0 : Int) <= 1 := by decide
 have hcl := cells_len nb x0
 unfold lineB c27
 refine CwpE.seqJ (fun s => s = ⟨lineE 2 fr to b most 0, l2O h0 h1 (sepC (decide (fr < b)) a0) a1 x0 x1⟩) ?_ ?_
 ·refine CwpE.vc ?_
  by_cases hbf : fr < b
  ·have hbf' : (fr : Int) < (b : Int) := by omega
   have q1 : a0.length + 1 <= 140737488355328 := by omega
   simp only [go_sem, Nat.reducePow, Nat.reduceLeDiff, ↓reduceIte, Nat.reduceLT, Nat.reduceEqDiff, Nat.reduceAdd, Int.reduceToNat, Int.reduceToNat, Int.le_refl, hbf', k0, k2, l02, q1, take_all, Nat.mul_one]
   rw [show sepC (decide (fr < b)) a0 = a0 ++ [0] by simp only [sepC, hbf, decide_true, cond_true], len_sep, map_sep]
   exact ⟨_, WkE.keep (by simp only [go_sem, ↓reduceIte, Nat.reduceEqDiff, k0, k2]), rfl⟩
  ·have hbf' : ¬ (fr : Int) < (b : Int) := by omega
   simp only [go_sem, ↓reduceIte, Nat.reduceLT, Nat.reduceEqDiff, hbf']
   rw [show sepC (decide (fr < b)) a0 = a0 by simp only [sepC, hbf, decide_false, cond_false]]
   exact ⟨_, WkE.keep (by simp only [go_sem, ↓reduceIte, Nat.reduceEqDiff, k0, k2]), rfl⟩
 rintro _ rfl
 have hrl : (sepC (decide (fr < b)) a0).length <= 10001 := by
  cases decide (fr < b)
  ·simp only [sepC, cond_false]; omega
  ·simp only [sepC, cond_true, List.length_append, List.length_cons, List.length_nil]; omega
 generalize sepC (decide (fr < b)) a0 = r at hQ hrl ⊢
 have q2 : r.length + (cellsP nb x0).length <= 140737488355328 := by omega
 refine CwpE.vc ?_
 simp only [go_sem, ↓reduceIte, Nat.reduceLT, Nat.reduceEqDiff, Int.reduceToNat, Int.reduceToNat, Int.le_refl, k0, k2, l02, gb, hnb, List.getElem?_map, Option.map_some]
 refine callT (Cells_s nb x0 hlen hr hl) rfl ?_
 simp only [go_sem, ↓reduceIte, Nat.reduceLT, Nat.reduceEqDiff, Nat.reduceAdd, Int.reduceToNat, Int.reduceToNat, Int.le_refl, k0, k2, l02, Option.map_some, q2, take_all, Nat.mul_one, List.length_map]
 rw [len_app, map_app]
 simp only [max_if]
 exact hQ _ (WkE.keep (by simp only [go_sem, ↓reduceIte, Nat.reduceEqDiff, k0, k2]))
theorem line_round21 (F0 : FD) (w0 : World) (h0 h1 : List (List Nt)) (fr to b most : Nat) (a0 a1 : List Int) (x0 x1 : Int) (nb : List Nt) (hnb : h1[b]? = some nb) (hlen : nb.length <= 10000) (hr : ∀ n ∈ nb, rightP n = true) (hl : small x1) (hal : a1.length <= 10000) (hb : b <= 10000)
 {Q : Exit -> Est -> Prop} (hQ : ∀ s, WkE 134 s ⟨lineE 2 fr to b (max most (sepC (decide (fr < b)) a1 ++ cellsP nb x1).length) 1, l2O h0 h1 a0 (sepC (decide (fr < b)) a1 ++ cellsP nb x1) x0 (lastP nb x1)⟩ -> Q .normal s) : CwpE Tryd.prog F0 w0 134 lineB Q ⟨lineE 2 fr to b most 1, l2O h0 h1 a0 a1 x0 x1⟩ := by
 have gb : (0 : Int) <= (b : Int) := by omega
 have k0 : ((0 : Nat) : Int) = 0 := rfl
 have k1 : ((1 : Nat) : Int) = 1 := rfl
 have k2 : ((2 : Nat) : Int) = 2 := rfl
 have l01 : (0 : Int) < 1 := by decide
 have l02 : (0 : Int) < 2 := by decide
 have l12 : (1 : Int) < 2 := by decide
 have le01 : (0 : Int) <= 1 := by decide
 have hcl := cells_len nb x1
 unfold lineB c27
 refine CwpE.seqJ (fun s => s = ⟨lineE 2 fr to b most 1, l2O h0 h1 a0 (sepC (decide (fr < b)) a1) x0 x1⟩) ?_ ?_
 ·refine CwpE.vc ?_
  by_cases hbf : fr < b
  ·have hbf' : (fr : Int) < (b : Int) := by omega
   have q1 : a1.length + 1 <= 140737488355328 := by omega
   simp only [go_sem, Nat.reducePow, Nat.reduceLeDiff, ↓reduceIte, Nat.reduceLT, Nat.reduceEqDiff, Nat.reduceAdd, Int.reduceToNat, Int.reduceToNat, hbf', k1, k2, l12, le01, q1, take_all, Nat.mul_one]
   rw [show sepC (decide (fr < b)) a1 = a1 ++ [0] by simp only [sepC, hbf, decide_true, cond_true], len_sep, map_sep]
   exact ⟨_, WkE.keep (by simp only [go_sem, ↓reduceIte, Nat.reduceEqDiff, k1, k2]), rfl⟩
  ·have hbf' : ¬ (fr : Int) < (b : Int) := by omega
   simp only [go_sem, ↓reduceIte, Nat.reduceLT, Nat.reduceEqDiff, hbf']
   rw [show sepC (decide (fr < b)) a1 = a1 by simp only [sepC, hbf, decide_false, cond_false]]
   exact ⟨_, WkE.keep (by simp only [go_sem, ↓reduceIte, Nat.reduceEqDiff, k1, k2]), rfl⟩
 rintro _ rfl
 have hrl : (sepC (decide (fr < b)) a1).length <= 10001 := by
  cases decide (fr < b)
  ·simp only [sepC, cond_false]; omega
  ·simp only [sepC, cond_true, List.length_append, List.length_cons, List.length_nil]; omega
 generalize sepC (decide (fr < b)) a1 = r at hQ hrl ⊢
 have q2 : r.length + (cellsP nb x1).length <= 140737488355328 := by omega
 refine CwpE.vc ?_
 simp only [go_sem, ↓reduceIte, Nat.reduceLT, Nat.reduceEqDiff, Int.reduceToNat, Int.reduceToNat, k1, k2, l12, le01, gb, hnb, List.getElem?_map, Option.map_some]
 refine callT (Cells_s nb x1 hlen hr hl) rfl ?_
 simp only [go_sem, ↓reduceIte, Nat.reduceLT, Nat.reduceEqDiff, Nat.reduceAdd, Int.reduceToNat, Int.reduceToNat, k1, k2, l12, le01, Option.map_some, q2, take_all, Nat.mul_one, List.length_map]
 rw [len_app, map_app]
 simp only [max_if]
 exact hQ _ (WkE.keep (by simp only [go_sem, ↓reduceIte, Nat.reduceEqDiff, k1, k2]))
end Go.Proofs.YtnncijjkbonokaaDoor
namespace Go.Proofs.YtnncijjkbonokaaDoor
open Go.RowKit Dak
abbrev lineR : CCode := match c27 with | .seq _ (.seq _ (.seq _ (.seq _ (.seq _ (.seq (.seq _ (.block _ (.loop b))) _))))) => b | _ => .skip
abbrev fillB : CCode := match c27 with | .seq _ (.seq _ (.seq _ (.seq _ (.seq _ (.seq (.seq _ (.block _ (.loop (.seq _ (.seq (.block _ (.seq _ (.seq _ (.seq _ (.block _ (.loop (.seq _ (.seq b _)))))))  ) _))))) _))))) => b | _ => .skip
abbrev fillE (n : Nat) (fr to b most h : Nat) : List (Nat × AV) := [(1, vi fr), (2, vi to), (3, .ref 0 1 0 0), (7, vi n), (8, .own 1 n 0 n), (9, .own 2 n 0 n), (11, vi b), (12, vi most), (16, vi h)]
def fillC (most : Nat) (a : List Int) : List Int := a ++ List.replicate (most - a.length) 0
theorem fill_snoc (a : List Int) (j : Nat) : a ++ List.replicate j 0 ++ [0] = a ++ List.replicate (j + 1) 0 := by rw [List.append_assoc, List.replicate_succ']
theorem line_fill10 (F0 : FD) (w0 : World) (h0 : List (List Nt)) (fr to b most : Nat) (a0 : List Int) (x0 : Int) (hal : most <= 10000) (hal2 : a0.length <= 10000)
 {Q : Exit -> Est -> Prop} (hQ : Q .normal ⟨fillE 1 fr to b most 0, l1O h0 (fillC most a0) x0⟩) : CwpE Tryd.prog F0 w0 134 fillB Q ⟨fillE 1 fr to b most 0, l1O h0 a0 x0⟩ := by
 have k0 : ((0 : Nat) : Int) = 0 := rfl
 have k1 : ((1 : Nat) : Int) = 1 := rfl
 have k2 : ((2 : Nat) : Int) = 2 := rfl
 have l01 : (0 : Int) < 1 := by decide
 have l02 : (0 : Int) < 2 := by decide
 have l12 : (1 : Int) < 2 := by decide
 have le01 : (0 : Int) <= 1 := by decide
 unfold fillB c27
 refine CwpE.block (CwpE.block ?_)
 refine loopXC 8 (fun m s => ∃ j : Nat, m = most - a0.length - j /\ j <= most - a0.length /\ s = ⟨fillE 1 fr to b most 0, l1O h0 (a0 ++ List.replicate j 0) x0⟩) (fun s => s = ⟨fillE 1 fr to b most 0, l1O h0 (fillC most a0) x0⟩) (most - a0.length) ⟨fillE 1 fr to b most 0, l1O h0 a0 x0⟩ (.refl _ _) ⟨0, by omega, by omega, by simp⟩ ?_ ?_
 rotate_left
 ·rintro s rfl
  simp only [inBlockE, if_true]
  exact hQ
 rintro m s ⟨j, rfl, hj, rfl⟩
 refine CwpE.vc ?_
 by_cases hlt : a0.length + j < most
 ·have q1 : a0.length + j + 1 <= 140737488355328 := by omega
  have q2 : ((a0 ++ List.replicate j 0).length : Int) < (most : Int) := by simp only [List.length_append, List.length_replicate]; omega
  have q3 : (a0 ++ List.replicate j 0).length + 1 <= 140737488355328 := by simp only [List.length_append, List.length_replicate]; omega
  rw [show fillC most a0 = a0 ++ List.replicate (most - a0.length) 0 from rfl]
  have hs : ∃ r, r = a0 ++ List.replicate j 0 := ⟨_, rfl⟩
  obtain ⟨r, hr⟩ := hs
  rw [<- hr] at q2 q3 ⊢
  simp only [go_sem, Nat.reducePow, Nat.reduceLeDiff, ↓reduceIte, Nat.reduceLT, Nat.reduceEqDiff, Nat.reduceAdd, Int.reduceToNat, Int.reduceToNat, Int.le_refl, k0, k1, l01, q2, q3, take_all, Nat.mul_one]
  rw [len_sep, map_sep, hr, fill_snoc]
  exact ⟨most - a0.length - (j + 1), _, by omega, WkE.keep (by simp only [go_sem, List.replicate_succ, ↓reduceIte, Nat.reduceEqDiff, k0, k1]), j + 1, rfl, by omega, rfl⟩
 ·have q2 : ¬ ((a0 ++ List.replicate j 0).length : Int) < (most : Int) := by simp only [List.length_append, List.length_replicate]; omega
  have e : a0 ++ List.replicate j 0 = fillC most a0 := by rw [fillC]; congr 2; omega
  rw [e] at q2 ⊢
  simp only [go_sem, ↓reduceIte, Nat.reduceLT, Nat.reduceEqDiff, Int.reduceToNat, Int.reduceToNat, Int.le_refl, k0, k1, l01, q2]
  exact ⟨_, WkE.keep (by simp only [go_sem, ↓reduceIte, Nat.reduceEqDiff, k0, k1]), rfl⟩
theorem line_fill20 (F0 : FD) (w0 : World) (h0 h1 : List (List Nt)) (fr to b most : Nat) (a0 a1 : List Int) (x0 x1 : Int) (hal : most <= 10000) (hal2 : a0.length <= 10000)
 {Q : Exit -> Est -> Prop} (hQ : Q .normal ⟨fillE 2 fr to b most 0, l2O h0 h1 (fillC most a0) a1 x0 x1⟩) : CwpE Tryd.prog F0 w0 134 fillB Q ⟨fillE 2 fr to b most 0, l2O h0 h1 a0 a1 x0 x1⟩ := by
 have k0 : ((0 : Nat) : Int) = 0 := rfl
 have k1 : ((1 : Nat) : Int) = 1 := rfl
 have k2 : ((2 : Nat) : Int) = 2 := rfl
 have l01 : (0 : Int) < 1 := by decide
 have l02 : (0 : Int) < 2 := by decide
 have l12 : (1 : Int) < 2 := by decide
 have le01 : (0 : Int) <= 1 := by decide
 unfold fillB c27
 refine CwpE.block (CwpE.block ?_)
 refine loopXC 8 (fun m s => ∃ j : Nat, m = most - a0.length - j /\ j <= most - a0.length /\ s = ⟨fillE 2 fr to b most 0, l2O h0 h1 (a0 ++ List.replicate j 0) a1 x0 x1⟩) (fun s => s = ⟨fillE 2 fr to b most 0, l2O h0 h1 (fillC most a0) a1 x0 x1⟩) (most - a0.length) ⟨fillE 2 fr to b most 0, l2O h0 h1 a0 a1 x0 x1⟩ (.refl _ _) ⟨0, by omega, by omega, by simp⟩ ?_ ?_
 rotate_left
 ·rintro s rfl
  simp only [inBlockE, if_true]
  exact hQ
 rintro m s ⟨j, rfl, hj, rfl⟩
 refine CwpE.vc ?_
 by_cases hlt : a0.length + j < most
 ·have q1 : a0.length + j + 1 <= 140737488355328 := by omega
  have q2 : ((a0 ++ List.replicate j 0).length : Int) < (most : Int) := by simp only [List.length_append, List.length_replicate]; omega
  have q3 : (a0 ++ List.replicate j 0).length + 1 <= 140737488355328 := by simp only [List.length_append, List.length_replicate]; omega
  rw [show fillC most a0 = a0 ++ List.replicate (most - a0.length) 0 from rfl]
  have hs : ∃ r, r = a0 ++ List.replicate j 0 := ⟨_, rfl⟩
  obtain ⟨r, hr⟩ := hs
  rw [<- hr] at q2 q3 ⊢
  simp only [go_sem, Nat.reducePow, Nat.reduceLeDiff, ↓reduceIte, Nat.reduceLT, Nat.reduceEqDiff, Nat.reduceAdd, Int.reduceToNat, Int.reduceToNat, Int.le_refl, k0, k2, l02, q2, q3, take_all, Nat.mul_one]
  rw [len_sep, map_sep, hr, fill_snoc]
  exact ⟨most - a0.length - (j + 1), _, by omega, WkE.keep (by simp only [go_sem, List.replicate_succ, ↓reduceIte, Nat.reduceEqDiff, k0, k2]), j + 1, rfl, by omega, rfl⟩
 ·have q2 : ¬ ((a0 ++ List.replicate j 0).length : Int) < (most : Int) := by simp only [List.length_append, List.length_replicate]; omega
  have e : a0 ++ List.replicate j 0 = fillC most a0 := by rw [fillC]; congr 2; omega
  rw [e] at q2 ⊢
  simp only [go_sem, ↓reduceIte, Nat.reduceLT, Nat.reduceEqDiff, Int.reduceToNat, Int.reduceToNat, Int.le_refl, k0, k2, l02, q2]
  exact ⟨_, WkE.keep (by simp only [go_sem, ↓reduceIte, Nat.reduceEqDiff, k0, k2]), rfl⟩
theorem line_fill21 (F0 : FD) (w0 : World) (h0 h1 : List (List Nt)) (fr to b most : Nat) (a0 a1 : List Int) (x0 x1 : Int) (hal : most <= 10000) (hal2 : a1.length <= 10000)
 {Q : Exit -> Est -> Prop} (hQ : Q .normal ⟨fillE 2 fr to b most 1, l2O h0 h1 a0 (fillC most a1) x0 x1⟩) : CwpE Tryd.prog F0 w0 134 fillB Q ⟨fillE 2 fr to b most 1, l2O h0 h1 a0 a1 x0 x1⟩ := by
 have k0 : ((0 : Nat) : Int) = 0 := rfl
 have k1 : ((1 : Nat) : Int) = 1 := rfl
 have k2 : ((2 : Nat) : Int) = 2 := rfl
 have l01 : (0 : Int) < 1 := by decide
 have l02 : (0 : Int) < 2 := by decide
 have l12 : (1 : Int) < 2 := by decide
 have le01 : (0 : Int) <= 1 := by decide
 unfold fillB c27
 refine CwpE.block (CwpE.block ?_)
 refine loopXC 8 (fun m s => ∃ j : Nat, m = most - a1.length - j /\ j <= most - a1.length /\ s = ⟨fillE 2 fr to b most 1, l2O h0 h1 a0 (a1 ++ List.replicate j 0) x0 x1⟩) (fun s => s = ⟨fillE 2 fr to b most 1, l2O h0 h1 a0 (fillC most a1) x0 x1⟩) (most - a1.length) ⟨fillE 2 fr to b most 1, l2O h0 h1 a0 a1 x0 x1⟩ (.refl _ _) ⟨0, by omega, by omega, by simp⟩ ?_ ?_
 rotate_left
 ·rintro s rfl
  simp only [inBlockE, if_true]
  exact hQ
 rintro m s ⟨j, rfl, hj, rfl⟩
 refine CwpE.vc ?_
 by_cases hlt : a1.length + j < most
 ·have q1 : a1.length + j + 1 <= 140737488355328 := by omega
  have q2 : ((a1 ++ List.replicate j 0).length : Int) < (most : Int) := by simp only [List.length_append, List.length_replicate]; omega
  have q3 : (a1 ++ List.replicate j 0).length + 1 <= 140737488355328 := by simp only [List.length_append, List.length_replicate]; omega
  rw [show fillC most a1 = a1 ++ List.replicate (most - a1.length) 0 from rfl]
  have hs : ∃ r, r = a1 ++ List.replicate j 0 := ⟨_, rfl⟩
  obtain ⟨r, hr⟩ := hs
  rw [<- hr] at q2 q3 ⊢
  simp only [go_sem, Nat.reducePow, Nat.reduceLeDiff, ↓reduceIte, Nat.reduceLT, Nat.reduceEqDiff, Nat.reduceAdd, Int.reduceToNat, Int.reduceToNat, k1, k2, l12, le01, q2, q3, take_all, Nat.mul_one]
  rw [len_sep, map_sep, hr, fill_snoc]
  exact ⟨most - a1.length - (j + 1), _, by omega, WkE.keep (by simp only [go_sem, List.replicate_succ, ↓reduceIte, Nat.reduceEqDiff, k1, k2]), j + 1, rfl, by omega, rfl⟩
 ·have q2 : ¬ ((a1 ++ List.replicate j 0).length : Int) < (most : Int) := by simp only [List.length_append, List.length_replicate]; omega
  have e : a1 ++ List.replicate j 0 = fillC most a1 := by rw [fillC]; congr 2; omega
  rw [e] at q2 ⊢
  simp only [go_sem, ↓reduceIte, Nat.reduceLT, Nat.reduceEqDiff, Int.reduceToNat, Int.reduceToNat, k1, k2, l12, le01, q2]
  exact ⟨_, WkE.keep (by simp only [go_sem, ↓reduceIte, Nat.reduceEqDiff, k1, k2]), rfl⟩
abbrev initB : CCode := match c27 with | .seq _ (.seq _ (.seq _ (.seq _ (.seq (.seq _ (.block _ (.loop b))) _)))) => b | _ => .skip
abbrev initE (n : Nat) (fr to h : Nat) : List (Nat × AV) := [(1, vi fr), (2, vi to), (3, .ref 0 1 0 0), (7, vi n), (8, .own 1 n 0 n), (9, .own 2 n 0 n), (10, vi h)]
abbrev startE (n : Nat) (fr to : Nat) : List (Nat × AV) := [(1, vi fr), (2, vi to), (3, .ref 0 1 0 0), (7, vi n), (8, .own 1 n 0 n), (9, .own 2 n 0 n)]
theorem line_init1 (F0 : FD) (w0 : World) (h0 : List (List Nt)) (fr to : Nat)
 {Q : Exit -> Est -> Prop} (hQ : Q .normal ⟨startE 1 fr to, l1O h0 [] (-1)⟩) : CwpE Tryd.prog F0 w0 134 (.block 0 (.loop initB)) Q ⟨initE 1 fr to 0, [.arr 1 1 25 [vmel [h0]], .arr 1 1 30 [.val (.slice none 0 0)], .arr 1 1 3 [vi 0]]⟩ := by
 have k0 : ((0 : Nat) : Int) = 0 := rfl
 have k1 : ((1 : Nat) : Int) = 1 := rfl
 have k2 : ((2 : Nat) : Int) = 2 := rfl
 have l01 : (0 : Int) < 1 := by decide
 have l02 : (0 : Int) < 2 := by decide
 have l12 : (1 : Int) < 2 := by decide
 have le01 : (0 : Int) <= 1 := by decide
 have n12 : ¬ (1 : Int) = 2 := by decide
 have w1 : IntKind.i64.wrap (0 + 1) = 1 := by decide
 have w2 : IntKind.i64.wrap (1 + 1) = 2 := by decide
 unfold initB c27
 refine CwpE.block ?_
 refine loopX 0 (fun m s => (m = 1 /\ s = ⟨initE 1 fr to 0, l1O h0 [] 0⟩) \/ (m = 0 /\ s = ⟨initE 1 fr to 1, l1O h0 [] (-1)⟩)) (fun s => s = ⟨startE 1 fr to, l1O h0 [] (-1)⟩) 1 ⟨initE 1 fr to 0, l1O h0 [] 0⟩ ((WkE.nilCell 1 1 1 0 0 1 5 30 [.val (.slice none 0 0)] _ rfl rfl rfl)) (.inl ⟨rfl, rfl⟩) ?_ ?_
 rotate_left
 ·rintro s rfl
  simp only [inBlockE, if_true]
  exact hQ
 rintro m s (⟨rfl, rfl⟩ | ⟨rfl, rfl⟩)
 ·simp only [go_sem, ↓reduceIte, Nat.reduceLT, Nat.reduceEqDiff, Int.reduceToNat, Int.reduceNeg, Int.reduceToNat, Int.le_refl, k0, k1, l01, n12, w1]
  exact ⟨0, ⟨initE 1 fr to 1, l1O h0 [] (-1)⟩, by omega, WkE.keep (by simp only [go_sem, ↓reduceIte, Nat.reduceEqDiff, k0, k1]), .inr (⟨rfl, rfl⟩)⟩
 ·simp only [go_sem, ↓reduceIte, Nat.reduceLT, Nat.reduceEqDiff, Int.reduceNeg, Int.lt_irrefl, k1]
  exact ⟨_, WkE.keep (by simp only [go_sem, ↓reduceIte, Nat.reduceEqDiff, k1]), rfl⟩
theorem line_init2 (F0 : FD) (w0 : World) (h0 h1 : List (List Nt)) (fr to : Nat)
 {Q : Exit -> Est -> Prop} (hQ : Q .normal ⟨startE 2 fr to, l2O h0 h1 [60] [28] (-1) (-1)⟩) : CwpE Tryd.prog F0 w0 134 (.block 0 (.loop initB)) Q ⟨initE 2 fr to 0, [.arr 1 1 25 [vmel [h0, h1]], .arr 2 1 30 [.val (.slice none 0 0), .val (.slice none 0 0)], .arr 2 1 3 [vi 0, vi 0]]⟩ := by
 have k0 : ((0 : Nat) : Int) = 0 := rfl
 have k1 : ((1 : Nat) : Int) = 1 := rfl
 have k2 : ((2 : Nat) : Int) = 2 := rfl
 have l01 : (0 : Int) < 1 := by decide
 have l02 : (0 : Int) < 2 := by decide
 have l12 : (1 : Int) < 2 := by decide
 have le01 : (0 : Int) <= 1 := by decide
 have n12 : ¬ (1 : Int) = 2 := by decide
 have w1 : IntKind.i64.wrap (0 + 1) = 1 := by decide
 have w2 : IntKind.i64.wrap (1 + 1) = 2 := by decide
 unfold initB c27
 refine CwpE.block ?_
 refine loopX 0 (fun m s => (m = 2 /\ s = ⟨initE 2 fr to 0, l2O h0 h1 [] [] 0 0⟩) \/ (m = 1 /\ s = ⟨initE 2 fr to 1, l2O h0 h1 [60] [] (-1) 0⟩) \/ (m = 0 /\ s = ⟨initE 2 fr to 2, l2O h0 h1 [60] [28] (-1) (-1)⟩)) (fun s => s = ⟨startE 2 fr to, l2O h0 h1 [60] [28] (-1) (-1)⟩) 2 ⟨initE 2 fr to 0, l2O h0 h1 [] [] 0 0⟩ ((WkE.nilCell 1 2 1 0 0 1 5 30 [.val (.slice none 0 0), .val (.slice none 0 0)] _ rfl rfl rfl).trans (WkE.nilCell 1 2 1 1 0 1 5 30 [.own 3 0 0 0, .val (.slice none 0 0)] _ rfl rfl rfl)) (.inl ⟨rfl, rfl⟩) ?_ ?_
 rotate_left
 ·rintro s rfl
  simp only [inBlockE, if_true]
  exact hQ
 rintro m s (⟨rfl, rfl⟩ | ⟨rfl, rfl⟩ | ⟨rfl, rfl⟩)
 ·simp only [go_sem, Nat.reducePow, Nat.reduceLeDiff, ↓reduceIte, reduceCtorEq, Nat.reduceLT, Nat.reduceEqDiff, Nat.reduceAdd, Nat.reduceMul, Int.reduceToNat, Int.reduceNeg, Int.reduceToNat, Int.le_refl, k0, k2, l02, w1]
  exact ⟨1, ⟨initE 2 fr to 1, l2O h0 h1 [60] [] (-1) 0⟩, by omega, WkE.keep (by simp only [go_sem, ↓reduceIte, Nat.reduceEqDiff, k0, k1, k2]), .inr (.inl ⟨rfl, rfl⟩)⟩
 ·simp only [go_sem, Nat.reducePow, Nat.reduceLeDiff, ↓reduceIte, reduceCtorEq, Nat.reduceLT, Nat.reduceEqDiff, Nat.reduceAdd, Nat.reduceMul, Int.reduceToNat, Int.reduceNeg, Int.reduceToNat, k1, k2, l12, le01, w2]
  exact ⟨0, ⟨initE 2 fr to 2, l2O h0 h1 [60] [28] (-1) (-1)⟩, by omega, WkE.keep (by simp only [go_sem, ↓reduceIte, Nat.reduceEqDiff, k1, k2]), .inr (.inr ⟨rfl, rfl⟩)⟩
 ·simp only [go_sem, ↓reduceIte, Nat.reduceLT, Nat.reduceEqDiff, Int.reduceNeg, Int.lt_irrefl, k2]
  exact ⟨_, WkE.keep (by simp only [go_sem, ↓reduceIte, Nat.reduceEqDiff, k2]), rfl⟩
end Go.Proofs.YtnncijjkbonokaaDoor
namespace Go.Proofs.YtnncijjkbonokaaDoor
open Go.RowKit Dak
def rowR (k w : Nat) (more : Bool) (a : List Int) : List Int := if k = 0 then a else bif more then fillC w a else a
theorem sep_row (k w : Nat) (a : List Int) : sepC (decide (0 < k)) (rowR k w true a) = padC k w a := by
 unfold sepC rowR padC fillC
 by_cases h : k = 0
 ·subst h; rfl
 ·simp [h, show 0 < k from by omega]
theorem line_n (m : List (List (List Nt))) (fr : Nat) : ∀ k, (lineP m fr k).n = k
 | 0 => rfl
 | k + 1 => by show (lineP m fr k).n + 1 = k + 1; rw [line_n m fr k]
theorem sok_line {m : List (List (List Nt))} (hm : Vm m) {fr : Nat} : ∀ k, fr + k <= manyP m -> Sok m (lineP m fr k)
 | 0, _ => sok_first hm
 | k + 1, h => sok_add hm (sok_line hm k (by omega)) (by omega)
theorem wide_line {m : List (List (List Nt))} (hm : Vm m) {fr : Nat} : ∀ k, fr + k <= manyP m -> wideP (lineP m fr k).ls 0 <= 1 + 65 * k
 | 0, _ => first_wide _
 | k + 1, h => by
  have := wide_line hm (fr := fr) k (by omega)
  have h2 := add_wide hm (sok_line hm (fr := fr) k (by omega)) (bar := fr + k) (by omega)
  show wideP ((lineP m fr k).add m (fr + k)).ls 0 <= _
  omega
theorem Line_1 (h0 : List (List Nt)) (fr to : Nat) (hm : Vm [h0]) (hft : fr <= to) (htm : to <= manyP [h0]) : Ctr Tryd.prog 27 [vmel [h0], vi fr, vi to] (vpage (lineP [h0] fr (to - fr)).ls) := by
 have k0 : ((0 : Nat) : Int) = 0 := rfl
 have k1 : ((1 : Nat) : Int) = 1 := rfl
 have k2 : ((2 : Nat) : Int) = 2 := rfl
 have k24 : ((24 : Nat) : Int) = 24 := rfl
 have k8 : ((8 : Nat) : Int) = 8 := rfl
 have n2 : (24 : Int) * 1 <= 281474976710656 := by decide
 have n3 : (8 : Int) * 1 <= 281474976710656 := by decide
 have l01 : (0 : Int) < 1 := by decide
 have l02 : (0 : Int) < 2 := by decide
 have l12 : (1 : Int) < 2 := by decide
 have w01 : IntKind.i64.wrap (0 + 1) = 1 := by decide
 have w12 : IntKind.i64.wrap (1 + 1) = 2 := by decide
 have hmp := hm.pos
 refine specC f27 (by simp) fun F0 w0 => ?_
 unfold c27
 refine CwpE.cut (st := ⟨[(1, vi fr), (2, vi to), (3, .ref 0 1 0 0)], [.arr 1 1 25 [vmel [h0]]]⟩) ?_ ?_
 ·simp only [go_sem, ↓reduceIte, Nat.reduceLT, Nat.reduceAdd]
  exact ⟨_, WkE.keep (by simp only [go_sem, ↓reduceIte, reduceCtorEq, Nat.reduceEqDiff]), rfl⟩
 refine CwpE.cut (st := ⟨[(1, vi fr), (2, vi to), (3, .ref 0 1 0 0), (7, vi 1)], [.arr 1 1 25 [vmel [h0]]]⟩) ?_ ?_
 ·simp only [go_sem, ↓reduceIte, Nat.reduceLT, Nat.reduceEqDiff, k1]
  exact ⟨_, WkE.keep (by simp only [go_sem, ↓reduceIte, Nat.reduceEqDiff]), rfl⟩
 refine CwpE.cut (st := ⟨[(1, vi fr), (2, vi to), (3, .ref 0 1 0 0), (7, vi 1), (8, .own 1 1 0 1)], [.arr 1 1 25 [vmel [h0]], .arr 1 1 30 [.val (.slice none 0 0)]]⟩) ?_ ?_
 ·simp only [go_sem, List.replicate_succ, ↓reduceIte, Nat.reduceLT, Nat.reduceEqDiff, Int.reduceToNat, Int.reduceLE, Int.reduceToNat, Int.le_refl, k24, n2]
  exact ⟨_, WkE.keep (by simp only [go_sem, ↓reduceIte, Nat.reduceEqDiff]), rfl⟩
 refine CwpE.cut (st := ⟨[(1, vi fr), (2, vi to), (3, .ref 0 1 0 0), (7, vi 1), (8, .own 1 1 0 1), (9, .own 2 1 0 1)], [.arr 1 1 25 [vmel [h0]], .arr 1 1 30 [.val (.slice none 0 0)], .arr 1 1 3 [vi 0]]⟩) ?_ ?_
 ·simp only [go_sem, List.replicate_succ, ↓reduceIte, Nat.reduceLT, Nat.reduceEqDiff, Nat.reduceAdd, Int.reduceToNat, Int.reduceLE, Int.reduceToNat, Int.le_refl, k8, n3]
  exact ⟨_, WkE.keep (by simp only [go_sem, ↓reduceIte, Nat.reduceEqDiff]), rfl⟩
 refine CwpE.seqJ (fun s => s = ⟨startE 1 fr to, l1O h0 [] (-1)⟩) ?_ ?_
 ·refine CwpE.cut (st := ⟨initE 1 fr to 0, [.arr 1 1 25 [vmel [h0]], .arr 1 1 30 [.val (.slice none 0 0)], .arr 1 1 3 [vi 0]]⟩) ?_ ?_
  ·simp only [go_sem, ↓reduceIte, Nat.reduceLT, Int.reduceNeg]
   exact ⟨_, WkE.keep (by simp only [go_sem, ↓reduceIte, Nat.reduceEqDiff, k0, k1]), rfl⟩
  ·exact line_init1 F0 w0 h0 fr to ⟨_, .refl _ _, rfl⟩
 rintro _ rfl
 refine CwpE.seqJ (fun s => ∃ (a0 : List Int) (x0 : Int), (lineP [h0] fr (to - fr)).ls = [a0] /\ s = ⟨startE 1 fr to, l1O h0 a0 x0⟩) ?_ ?_
 rotate_left
 ·rintro _ ⟨a0, x0, e, rfl⟩
  rw [e]
  refine CwpE.vc ?_
  simp only [go_sem, ↓reduceIte, Nat.reduceLT, Nat.reduceEqDiff, k1]
  refine .own 1 1 0 1 1 30 _ _ rfl (by simp) (by simp) fun i hi => ?_
  match i, hi with
  | 0, _ => exact snap_bytes rfl
 refine CwpE.cut (st := ⟨((11, vi (fr + 0 : Nat)) :: startE 1 fr to), l1O h0 [] (-1)⟩) ?_ ?_
 ·simp only [go_sem, ↓reduceIte, Nat.reduceLT, Int.reduceNeg]
  exact ⟨_, WkE.keep (by simp only [go_sem, ↓reduceIte, Nat.reduceEqDiff]), rfl⟩
 refine CwpE.block ?_
 refine loopXC 2 (fun z s => ∃ (k : Nat) (a0 : List Int) (x0 : Int), k + z = to - fr /\ (lineP [h0] fr k).ls = [a0] /\ (lineP [h0] fr k).la = [x0] /\ s = ⟨((11, vi (fr + k : Nat)) :: startE 1 fr to), l1O h0 (rowR k (wideP [a0] 0) (decide (fr + k < to)) a0) x0⟩)
  (fun s => ∃ (a0 : List Int) (x0 : Int), (lineP [h0] fr (to - fr)).ls = [a0] /\ s = ⟨startE 1 fr to, l1O h0 a0 x0⟩) (to - fr) _ (.refl _ _) ⟨0, [], -1, by omega, rfl, rfl, rfl⟩ ?_ ?_
 rotate_left
 ·rintro s h
  simp only [inBlockE, if_true]
  exact ⟨s, .refl _ _, h⟩
 rintro z s ⟨k, a0, x0, hk, e1, e2, rfl⟩
 cases z with
 | zero =>
  obtain rfl : k = to - fr := by omega
  have hlt : ¬ ((fr + (to - fr) : Nat) : Int) < (to : Int) := by omega
  refine CwpE.vc ?_
  simp only [go_sem, ↓reduceIte, Nat.reduceLT, Nat.reduceEqDiff, hlt]
  refine ⟨⟨startE 1 fr to, l1O h0 a0 x0⟩, ?_, a0, x0, e1, rfl⟩
  have hr : ∀ y w, rowR (to - fr) w (decide (fr + (to - fr) < to)) y = y := fun y w => by
   rw [show decide (fr + (to - fr) < to) = false by rw [decide_eq_false_iff_not]; omega]
   unfold rowR; split <;> rfl
  simp only [hr]
  exact WkE.keep (by simp only [go_sem, ↓reduceIte, Nat.reduceEqDiff])
 | succ z =>
  have hb : fr + k < to := by omega
  have hlt : ((fr + k : Nat) : Int) < (to : Int) := by omega
  have hsk := sok_line hm (fr := fr) k (by omega)
  have hwk := wide_line hm (fr := fr) k (by omega)
  have hnk := line_n [h0] fr k
  have e1' : (lineP [h0] fr (k + 1)).ls = addL (lineP [h0] fr k).n (wideP (lineP [h0] fr k).ls 0) (fr + k) (lineP [h0] fr k).ls (lineP [h0] fr k).la [h0] := rfl
  have e2' : (lineP [h0] fr (k + 1)).la = addT (fr + k) (lineP [h0] fr k).la [h0] := rfl
  have hwk1 := wide_line hm (fr := fr) (k + 1) (by omega)
  rw [e1, e2, hnk] at e1'
  rw [e2] at e2'
  rw [e1] at hwk
  have sms := hsk.sm
  rw [e2] at sms
  simp only [addL] at e1'
  simp only [addT] at e2'
  obtain ⟨nb0, hnb0⟩ : ∃ nb, h0[fr + k]? = some nb := ⟨_, List.getElem?_eq_getElem (by have := hm.bars h0 (by simp); omega)⟩
  have hn0 := hm.notes h0 (by simp) nb0 (List.mem_of_getElem? hnb0)
  rw [show h0.getD (fr + k) [] = nb0 by rw [List.getD_eq_getElem?_getD, hnb0]; rfl] at e1' e2'
  have wl0 := (wide_mono [a0] 0).2 a0 (by simp)
  rw [e1'] at hwk1
  have hmore : decide (fr + k < to) = true := by rw [decide_eq_true_eq]; exact hb
  rw [hmore]
  obtain ⟨w, hw⟩ : ∃ w, wideP [a0] 0 = w := ⟨_, rfl⟩
  rw [hw] at e1' hwk1 hwk wl0 ⊢
  have hrow : ∀ y : List Int, y.length <= w -> (rowR k w true y).length <= 10000 := fun y hy => by
   unfold rowR; split
   ·omega
   ·simp only [cond_true, fillC, List.length_append, List.length_replicate]; omega
  have hsep : ∀ y, sepC (decide (fr < fr + k)) (rowR k w true y) = padC k w y := fun y => by rw [show decide (fr < fr + k) = decide (0 < k) by by_cases hz : 0 < k <;> simp [hz]]; exact sep_row k w y
  refine CwpE.cut (st := ⟨((11, vi (fr + k : Nat)) :: startE 1 fr to), l1O h0 (rowR k w true a0) x0⟩) ?_ ?_
  ·simp only [go_sem, ↓reduceIte, Nat.reduceLT, Nat.reduceEqDiff, hlt]
   exact ⟨_, WkE.keep (by simp only [go_sem, ↓reduceIte, Nat.reduceEqDiff]), rfl⟩
  have wb : IntKind.i64.wrap ((fr + k : Nat) : Int) = ((fr + k : Nat) : Int) := wrap_id (by omega) (by omega)
  have wb1 : IntKind.i64.wrap (((fr + k : Nat) : Int) + 1) = ((fr + (k + 1) : Nat) : Int) := by rw [wrap_id (by omega) (by omega)]; omega
  obtain ⟨b0, hb0⟩ : ∃ b, b = addC k w a0 nb0 x0 := ⟨_, rfl⟩
  have hb0' : padC k w a0 ++ cellsP nb0 x0 = b0 := hb0.symm
  rw [<- hb0] at e1' hwk1
  have vl0 := (wide_mono [b0] 0).2 b0 (by simp)
  refine CwpE.seqJ (fun s => s = ⟨((11, vi (fr + k : Nat)) :: startE 1 fr to), l1O h0 (rowR (k + 1) (wideP [b0] 0) (decide (fr + (k + 1) < to)) b0) (lastP nb0 x0)⟩) (CwpE.block ?_) ?_
  rotate_left
  ·rintro _ rfl
   refine CwpE.vc ?_
   simp only [go_sem, ↓reduceIte, Nat.reduceLT, wb1]
   exact ⟨z, _, by omega, WkE.keep (by simp only [go_sem, ↓reduceIte, Nat.reduceEqDiff]), k + 1, b0, (lastP nb0 x0), by omega, e1', e2', rfl⟩
  refine CwpE.cut (st := ⟨(12, vi 0) :: ((11, vi (fr + k : Nat)) :: startE 1 fr to), l1O h0 (rowR k w true a0) x0⟩) ?_ ?_
  ·simp only [go_sem, ↓reduceIte, Nat.reduceLT]
   exact ⟨_, WkE.keep (by simp only [go_sem, ↓reduceIte, Nat.reduceEqDiff]), rfl⟩
  refine CwpE.seqJ (fun s => s = ⟨(12, vi (wideP [b0] 0 : Nat)) :: ((11, vi (fr + k : Nat)) :: startE 1 fr to), l1O h0 b0 (lastP nb0 x0)⟩) ?_ ?_
  ·refine CwpE.cut (st := ⟨lineE 1 fr to (fr + k) 0 0, l1O h0 (rowR k w true a0) x0⟩) ?_ ?_
   ·simp only [go_sem, ↓reduceIte, Nat.reduceLT]
    exact ⟨_, WkE.keep (by simp only [go_sem, ↓reduceIte, Nat.reduceEqDiff, k0, k1]), rfl⟩
   refine CwpE.block ?_
   refine loopXC 4 (fun u s => (u = 1 /\ s = ⟨lineE 1 fr to (fr + k) 0 0, l1O h0 (rowR k w true a0) x0⟩) \/ (u = 0 /\ s = ⟨lineE 1 fr to (fr + k) (max 0 b0.length) 1, l1O h0 b0 (lastP nb0 x0)⟩)) (fun s => s = ⟨(12, vi (wideP [b0] 0 : Nat)) :: ((11, vi (fr + k : Nat)) :: startE 1 fr to), l1O h0 b0 (lastP nb0 x0)⟩) 1 ⟨lineE 1 fr to (fr + k) 0 0, l1O h0 (rowR k w true a0) x0⟩ (.refl _ _) (.inl ⟨rfl, rfl⟩) ?_ ?_
   rotate_left
   ·rintro s rfl
    simp only [inBlockE, if_true]
    exact ⟨_, .refl _ _, rfl⟩
   rintro u s (⟨rfl, rfl⟩ | ⟨rfl, rfl⟩)
   ·refine CwpE.cut (st := ⟨lineE 1 fr to (fr + k) 0 0, l1O h0 (rowR k w true a0) x0⟩) ?_ ?_
    ·simp only [go_sem, ↓reduceIte, Nat.reduceLT, Nat.reduceEqDiff, k0, k1, l01]
     exact ⟨_, WkE.keep (by simp only [go_sem, ↓reduceIte, Nat.reduceEqDiff, k0, k1]), rfl⟩
    refine CwpE.seqJ (fun s => s = ⟨lineE 1 fr to (fr + k) (max 0 b0.length) 0, l1O h0 b0 (lastP nb0 x0)⟩) (CwpE.block ?_) ?_
    ·refine line_round10 F0 w0 h0 fr to (fr + k) 0 (rowR k w true a0) x0 nb0 hnb0 (by omega) hn0.2.2 (sms _ (by simp)) (hrow _ wl0) (by omega) fun s hs => ?_
     rw [hsep, hb0'] at hs
     exact ⟨_, hs, rfl⟩
    ·rintro _ rfl
     refine CwpE.vc ?_
     simp only [go_sem, ↓reduceIte, Nat.reduceLT, Nat.reduceEqDiff, k0, k1, w01]
     exact ⟨0, ⟨lineE 1 fr to (fr + k) (max 0 b0.length) 1, l1O h0 b0 (lastP nb0 x0)⟩, by omega, WkE.keep (by simp only [go_sem, ↓reduceIte, Nat.reduceEqDiff, k0, k1]), .inr (⟨rfl, rfl⟩)⟩
   ·refine CwpE.vc ?_
    simp only [go_sem, ↓reduceIte, Nat.reduceLT, Nat.reduceEqDiff, Int.lt_irrefl, k1]
    exact ⟨_, WkE.keep (by simp only [go_sem, ↓reduceIte, Nat.reduceEqDiff, wideP]), rfl⟩
  rintro _ rfl
  obtain ⟨v, hv⟩ : ∃ v, wideP [b0] 0 = v := ⟨_, rfl⟩
  rw [hv] at hwk1 vl0 ⊢
  have hrows : ∀ y, rowR (k + 1) v (decide (fr + (k + 1) < to)) y = bif decide (fr + (k + 1) < to) then fillC v y else y := fun y => by unfold rowR; rw [if_neg (by omega)]
  simp only [hrows]
  refine CwpE.cut (st := ⟨fillE 1 fr to (fr + k) v 0, l1O h0 b0 (lastP nb0 x0)⟩) ?_ ?_
  ·simp only [go_sem, ↓reduceIte, Nat.reduceLT]
   exact ⟨_, WkE.keep (by simp only [go_sem, ↓reduceIte, Nat.reduceEqDiff, k0, k1]), rfl⟩
  refine CwpE.block ?_
  have hbx : ∀ s, s = ⟨((11, vi (fr + k : Nat)) :: startE 1 fr to), l1O h0 (bif decide (fr + (k + 1) < to) then fillC v b0 else b0) (lastP nb0 x0)⟩ -> inBlockE 6 (inBlockE 3 (thenE (fun s => ∃ s', WkE 134 s s' /\ s' = ⟨((11, vi (fr + k : Nat)) :: startE 1 fr to), l1O h0 (bif decide (fr + (k + 1) < to) then fillC v b0 else b0) (lastP nb0 x0)⟩) (RoundX 134 (fun z s => False) 0 2 (fun s => False) (fun _ _ => False)))) (.exit 6) s := by
   rintro s rfl
   simp only [inBlockE, if_true, thenE]
   exact ⟨_, .refl _ _, rfl⟩
  clear hbx
  by_cases hmr : fr + (k + 1) < to
  rotate_left
  ·have hmr' : ¬ ((fr + (k + 1) : Nat) : Int) < (to : Int) := by omega
   simp only [hmr, decide_false, cond_false]
   refine loopXC 6 (fun u s => s = ⟨fillE 1 fr to (fr + k) v 0, l1O h0 b0 (lastP nb0 x0)⟩) (fun s => s = ⟨((11, vi (fr + k : Nat)) :: startE 1 fr to), l1O h0 b0 (lastP nb0 x0)⟩) 0 ⟨fillE 1 fr to (fr + k) v 0, l1O h0 b0 (lastP nb0 x0)⟩ (.refl _ _) rfl ?_ ?_
   rotate_left
   ·rintro s rfl
    simp only [inBlockE, if_true, thenE]
    exact ⟨_, .refl _ _, rfl⟩
   rintro u s rfl
   refine CwpE.vc ?_
   simp only [go_sem, ↓reduceIte, Nat.reduceLT, Nat.reduceEqDiff, k0, k1, l01, wb1, hmr']
   exact ⟨_, WkE.keep (by simp only [go_sem, ↓reduceIte, Nat.reduceEqDiff]), rfl⟩
  have hmr' : ((fr + (k + 1) : Nat) : Int) < (to : Int) := by omega
  simp only [hmr, decide_true, cond_true]
  refine loopXC 6 (fun u s => (u = 1 /\ s = ⟨fillE 1 fr to (fr + k) v 0, l1O h0 b0 (lastP nb0 x0)⟩) \/ (u = 0 /\ s = ⟨fillE 1 fr to (fr + k) v 1, l1O h0 (fillC v b0) (lastP nb0 x0)⟩)) (fun s => s = ⟨((11, vi (fr + k : Nat)) :: startE 1 fr to), l1O h0 (fillC v b0) (lastP nb0 x0)⟩) 1 ⟨fillE 1 fr to (fr + k) v 0, l1O h0 b0 (lastP nb0 x0)⟩ (.refl _ _) (.inl ⟨rfl, rfl⟩) ?_ ?_
  rotate_left
  ·rintro s rfl
   simp only [inBlockE, if_true, thenE]
   exact ⟨_, .refl _ _, rfl⟩
  rintro u s (⟨rfl, rfl⟩ | ⟨rfl, rfl⟩)
  ·refine CwpE.cut (st := ⟨fillE 1 fr to (fr + k) v 0, l1O h0 b0 (lastP nb0 x0)⟩) ?_ ?_
   ·simp only [go_sem, ↓reduceIte, Nat.reduceLT, Nat.reduceEqDiff, k0, k1, l01, wb1, hmr']
    exact ⟨_, WkE.keep (by simp only [go_sem, ↓reduceIte, Nat.reduceEqDiff, k0, k1]), rfl⟩
   refine CwpE.seqJ (fun s => s = ⟨fillE 1 fr to (fr + k) v 0, l1O h0 (fillC v b0) (lastP nb0 x0)⟩) ?_ ?_
   ·exact line_fill10 F0 w0 h0 fr to (fr + k) v b0 (lastP nb0 x0) (by omega) (by omega) ⟨_, .refl _ _, rfl⟩
   ·rintro _ rfl
    refine CwpE.vc ?_
    simp only [go_sem, ↓reduceIte, Nat.reduceLT, Nat.reduceEqDiff, k0, k1, w01]
    exact ⟨0, ⟨fillE 1 fr to (fr + k) v 1, l1O h0 (fillC v b0) (lastP nb0 x0)⟩, by omega, WkE.keep (by simp only [go_sem, ↓reduceIte, Nat.reduceEqDiff, k0, k1]), .inr (⟨rfl, rfl⟩)⟩
  ·refine CwpE.vc ?_
   simp only [go_sem, ↓reduceIte, Nat.reduceLT, Nat.reduceEqDiff, Int.lt_irrefl, k1]
   exact ⟨_, WkE.keep (by simp only [go_sem, ↓reduceIte, Nat.reduceEqDiff]), rfl⟩
theorem Line_2 (h0 h1 : List (List Nt)) (fr to : Nat) (hm : Vm [h0, h1]) (hft : fr <= to) (htm : to <= manyP [h0, h1]) : Ctr Tryd.prog 27 [vmel [h0, h1], vi fr, vi to] (vpage (lineP [h0, h1] fr (to - fr)).ls) := by
 have k0 : ((0 : Nat) : Int) = 0 := rfl
 have k1 : ((1 : Nat) : Int) = 1 := rfl
 have k2 : ((2 : Nat) : Int) = 2 := rfl
 have k24 : ((24 : Nat) : Int) = 24 := rfl
 have k8 : ((8 : Nat) : Int) = 8 := rfl
 have n2 : (24 : Int) * 2 <= 281474976710656 := by decide
 have n3 : (8 : Int) * 2 <= 281474976710656 := by decide
 have l01 : (0 : Int) < 1 := by decide
 have l02 : (0 : Int) < 2 := by decide
 have l12 : (1 : Int) < 2 := by decide
 have w01 : IntKind.i64.wrap (0 + 1) = 1 := by decide
 have w12 : IntKind.i64.wrap (1 + 1) = 2 := by decide
 have hmp := hm.pos
 refine specC f27 (by simp) fun F0 w0 => ?_
 unfold c27
 refine CwpE.cut (st := ⟨[(1, vi fr), (2, vi to), (3, .ref 0 1 0 0)], [.arr 1 1 25 [vmel [h0, h1]]]⟩) ?_ ?_
 ·simp only [go_sem, ↓reduceIte, Nat.reduceLT, Nat.reduceAdd]
  exact ⟨_, WkE.keep (by simp only [go_sem, ↓reduceIte, reduceCtorEq, Nat.reduceEqDiff]), rfl⟩
 refine CwpE.cut (st := ⟨[(1, vi fr), (2, vi to), (3, .ref 0 1 0 0), (7, vi 2)], [.arr 1 1 25 [vmel [h0, h1]]]⟩) ?_ ?_
 ·simp only [go_sem, ↓reduceIte, Nat.reduceLT, Nat.reduceEqDiff, Nat.reduceAdd, k2]
  exact ⟨_, WkE.keep (by simp only [go_sem, ↓reduceIte, Nat.reduceEqDiff]), rfl⟩
 refine CwpE.cut (st := ⟨[(1, vi fr), (2, vi to), (3, .ref 0 1 0 0), (7, vi 2), (8, .own 1 2 0 2)], [.arr 1 1 25 [vmel [h0, h1]], .arr 2 1 30 [.val (.slice none 0 0), .val (.slice none 0 0)]]⟩) ?_ ?_
 ·simp only [go_sem, List.replicate_succ, ↓reduceIte, Nat.reduceLT, Nat.reduceEqDiff, Int.reduceToNat, Int.reduceLE, Int.reduceToNat, Int.le_refl, k24, n2]
  exact ⟨_, WkE.keep (by simp only [go_sem, ↓reduceIte, Nat.reduceEqDiff]), rfl⟩
 refine CwpE.cut (st := ⟨[(1, vi fr), (2, vi to), (3, .ref 0 1 0 0), (7, vi 2), (8, .own 1 2 0 2), (9, .own 2 2 0 2)], [.arr 1 1 25 [vmel [h0, h1]], .arr 2 1 30 [.val (.slice none 0 0), .val (.slice none 0 0)], .arr 2 1 3 [vi 0, vi 0]]⟩) ?_ ?_
 ·simp only [go_sem, List.replicate_succ, ↓reduceIte, Nat.reduceLT, Nat.reduceEqDiff, Nat.reduceAdd, Int.reduceToNat, Int.reduceLE, Int.reduceToNat, Int.le_refl, k8, n3]
  exact ⟨_, WkE.keep (by simp only [go_sem, ↓reduceIte, Nat.reduceEqDiff]), rfl⟩
 refine CwpE.seqJ (fun s => s = ⟨startE 2 fr to, l2O h0 h1 [60] [28] (-1) (-1)⟩) ?_ ?_
 ·refine CwpE.cut (st := ⟨initE 2 fr to 0, [.arr 1 1 25 [vmel [h0, h1]], .arr 2 1 30 [.val (.slice none 0 0), .val (.slice none 0 0)], .arr 2 1 3 [vi 0, vi 0]]⟩) ?_ ?_
  ·simp only [go_sem, ↓reduceIte, Nat.reduceLT, Int.reduceNeg]
   exact ⟨_, WkE.keep (by simp only [go_sem, ↓reduceIte, Nat.reduceEqDiff, k0, k2]), rfl⟩
  ·exact line_init2 F0 w0 h0 h1 fr to ⟨_, .refl _ _, rfl⟩
 rintro _ rfl
 refine CwpE.seqJ (fun s => ∃ (a0 a1 : List Int) (x0 x1 : Int), (lineP [h0, h1] fr (to - fr)).ls = [a0, a1] /\ s = ⟨startE 2 fr to, l2O h0 h1 a0 a1 x0 x1⟩) ?_ ?_
 rotate_left
 ·rintro _ ⟨a0, a1, x0, x1, e, rfl⟩
  rw [e]
  refine CwpE.vc ?_
  simp only [go_sem, ↓reduceIte, Nat.reduceLT, Nat.reduceEqDiff, k2]
  refine .own 1 2 0 2 1 30 _ _ rfl (by simp) (by simp) fun i hi => ?_
  match i, hi with
  | 0, _ => exact snap_bytes rfl
  | 1, _ => exact snap_bytes rfl
 refine CwpE.cut (st := ⟨((11, vi (fr + 0 : Nat)) :: startE 2 fr to), l2O h0 h1 [60] [28] (-1) (-1)⟩) ?_ ?_
 ·simp only [go_sem, ↓reduceIte, Nat.reduceLT, Int.reduceNeg]
  exact ⟨_, WkE.keep (by simp only [go_sem, ↓reduceIte, Nat.reduceEqDiff]), rfl⟩
 refine CwpE.block ?_
 refine loopXC 2 (fun z s => ∃ (k : Nat) (a0 a1 : List Int) (x0 x1 : Int), k + z = to - fr /\ (lineP [h0, h1] fr k).ls = [a0, a1] /\ (lineP [h0, h1] fr k).la = [x0, x1] /\ s = ⟨((11, vi (fr + k : Nat)) :: startE 2 fr to), l2O h0 h1 (rowR k (wideP [a0, a1] 0) (decide (fr + k < to)) a0) (rowR k (wideP [a0, a1] 0) (decide (fr + k < to)) a1) x0 x1⟩)
  (fun s => ∃ (a0 a1 : List Int) (x0 x1 : Int), (lineP [h0, h1] fr (to - fr)).ls = [a0, a1] /\ s = ⟨startE 2 fr to, l2O h0 h1 a0 a1 x0 x1⟩) (to - fr) _ (.refl _ _) ⟨0, [60], [28], -1, -1, by omega, rfl, rfl, rfl⟩ ?_ ?_
 rotate_left
 ·rintro s h
  simp only [inBlockE, if_true]
  exact ⟨s, .refl _ _, h⟩
 rintro z s ⟨k, a0, a1, x0, x1, hk, e1, e2, rfl⟩
 cases z with
 | zero =>
  obtain rfl : k = to - fr := by omega
  have hlt : ¬ ((fr + (to - fr) : Nat) : Int) < (to : Int) := by omega
  refine CwpE.vc ?_
  simp only [go_sem, ↓reduceIte, Nat.reduceLT, Nat.reduceEqDiff, hlt]
  refine ⟨⟨startE 2 fr to, l2O h0 h1 a0 a1 x0 x1⟩, ?_, a0, a1, x0, x1, e1, rfl⟩
  have hr : ∀ y w, rowR (to - fr) w (decide (fr + (to - fr) < to)) y = y := fun y w => by
   rw [show decide (fr + (to - fr) < to) = false by rw [decide_eq_false_iff_not]; omega]
   unfold rowR; split <;> rfl
  simp only [hr]
  exact WkE.keep (by simp only [go_sem, ↓reduceIte, Nat.reduceEqDiff])
 | succ z =>
  have hb : fr + k < to := by omega
  have hlt : ((fr + k : Nat) : Int) < (to : Int) := by omega
  have hsk := sok_line hm (fr := fr) k (by omega)
  have hwk := wide_line hm (fr := fr) k (by omega)
  have hnk := line_n [h0, h1] fr k
  have e1' : (lineP [h0, h1] fr (k + 1)).ls = addL (lineP [h0, h1] fr k).n (wideP (lineP [h0, h1] fr k).ls 0) (fr + k) (lineP [h0, h1] fr k).ls (lineP [h0, h1] fr k).la [h0, h1] := rfl
  have e2' : (lineP [h0, h1] fr (k + 1)).la = addT (fr + k) (lineP [h0, h1] fr k).la [h0, h1] := rfl
  have hwk1 := wide_line hm (fr := fr) (k + 1) (by omega)
  rw [e1, e2, hnk] at e1'
  rw [e2] at e2'
  rw [e1] at hwk
  have sms := hsk.sm
  rw [e2] at sms
  simp only [addL] at e1'
  simp only [addT] at e2'
  obtain ⟨nb0, hnb0⟩ : ∃ nb, h0[fr + k]? = some nb := ⟨_, List.getElem?_eq_getElem (by have := hm.bars h0 (by simp); omega)⟩
  have hn0 := hm.notes h0 (by simp) nb0 (List.mem_of_getElem? hnb0)
  rw [show h0.getD (fr + k) [] = nb0 by rw [List.getD_eq_getElem?_getD, hnb0]; rfl] at e1' e2'
  have wl0 := (wide_mono [a0, a1] 0).2 a0 (by simp)
  obtain ⟨nb1, hnb1⟩ : ∃ nb, h1[fr + k]? = some nb := ⟨_, List.getElem?_eq_getElem (by have := hm.bars h1 (by simp); omega)⟩
  have hn1 := hm.notes h1 (by simp) nb1 (List.mem_of_getElem? hnb1)
  rw [show h1.getD (fr + k) [] = nb1 by rw [List.getD_eq_getElem?_getD, hnb1]; rfl] at e1' e2'
  have wl1 := (wide_mono [a0, a1] 0).2 a1 (by simp)
  rw [e1'] at hwk1
  have hmore : decide (fr + k < to) = true := by rw [decide_eq_true_eq]; exact hb
  rw [hmore]
  obtain ⟨w, hw⟩ : ∃ w, wideP [a0, a1] 0 = w := ⟨_, rfl⟩
  rw [hw] at e1' hwk1 hwk wl0 wl1 ⊢
  have hrow : ∀ y : List Int, y.length <= w -> (rowR k w true y).length <= 10000 := fun y hy => by
   unfold rowR; split
   ·omega
   ·simp only [cond_true, fillC, List.length_append, List.length_replicate]; omega
  have hsep : ∀ y, sepC (decide (fr < fr + k)) (rowR k w true y) = padC k w y := fun y => by rw [show decide (fr < fr + k) = decide (0 < k) by by_cases hz : 0 < k <;> simp [hz]]; exact sep_row k w y
  refine CwpE.cut (st := ⟨((11, vi (fr + k : Nat)) :: startE 2 fr to), l2O h0 h1 (rowR k w true a0) (rowR k w true a1) x0 x1⟩) ?_ ?_
  ·simp only [go_sem, ↓reduceIte, Nat.reduceLT, Nat.reduceEqDiff, hlt]
   exact ⟨_, WkE.keep (by simp only [go_sem, ↓reduceIte, Nat.reduceEqDiff]), rfl⟩
  have wb : IntKind.i64.wrap ((fr + k : Nat) : Int) = ((fr + k : Nat) : Int) := wrap_id (by omega) (by omega)
  have wb1 : IntKind.i64.wrap (((fr + k : Nat) : Int) + 1) = ((fr + (k + 1) : Nat) : Int) := by rw [wrap_id (by omega) (by omega)]; omega
  obtain ⟨b0, hb0⟩ : ∃ b, b = addC k w a0 nb0 x0 := ⟨_, rfl⟩
  have hb0' : padC k w a0 ++ cellsP nb0 x0 = b0 := hb0.symm
  rw [<- hb0] at e1' hwk1
  obtain ⟨b1, hb1⟩ : ∃ b, b = addC k w a1 nb1 x1 := ⟨_, rfl⟩
  have hb1' : padC k w a1 ++ cellsP nb1 x1 = b1 := hb1.symm
  rw [<- hb1] at e1' hwk1
  have vl0 := (wide_mono [b0, b1] 0).2 b0 (by simp)
  have vl1 := (wide_mono [b0, b1] 0).2 b1 (by simp)
  refine CwpE.seqJ (fun s => s = ⟨((11, vi (fr + k : Nat)) :: startE 2 fr to), l2O h0 h1 (rowR (k + 1) (wideP [b0, b1] 0) (decide (fr + (k + 1) < to)) b0) (rowR (k + 1) (wideP [b0, b1] 0) (decide (fr + (k + 1) < to)) b1) (lastP nb0 x0) (lastP nb1 x1)⟩) (CwpE.block ?_) ?_
  rotate_left
  ·rintro _ rfl
   refine CwpE.vc ?_
   simp only [go_sem, ↓reduceIte, Nat.reduceLT, wb1]
   exact ⟨z, _, by omega, WkE.keep (by simp only [go_sem, ↓reduceIte, Nat.reduceEqDiff]), k + 1, b0, b1, (lastP nb0 x0), (lastP nb1 x1), by omega, e1', e2', rfl⟩
  refine CwpE.cut (st := ⟨(12, vi 0) :: ((11, vi (fr + k : Nat)) :: startE 2 fr to), l2O h0 h1 (rowR k w true a0) (rowR k w true a1) x0 x1⟩) ?_ ?_
  ·simp only [go_sem, ↓reduceIte, Nat.reduceLT]
   exact ⟨_, WkE.keep (by simp only [go_sem, ↓reduceIte, Nat.reduceEqDiff]), rfl⟩
  refine CwpE.seqJ (fun s => s = ⟨(12, vi (wideP [b0, b1] 0 : Nat)) :: ((11, vi (fr + k : Nat)) :: startE 2 fr to), l2O h0 h1 b0 b1 (lastP nb0 x0) (lastP nb1 x1)⟩) ?_ ?_
  ·refine CwpE.cut (st := ⟨lineE 2 fr to (fr + k) 0 0, l2O h0 h1 (rowR k w true a0) (rowR k w true a1) x0 x1⟩) ?_ ?_
   ·simp only [go_sem, ↓reduceIte, Nat.reduceLT]
    exact ⟨_, WkE.keep (by simp only [go_sem, ↓reduceIte, Nat.reduceEqDiff, k0, k2]), rfl⟩
   refine CwpE.block ?_
   refine loopXC 4 (fun u s => (u = 2 /\ s = ⟨lineE 2 fr to (fr + k) 0 0, l2O h0 h1 (rowR k w true a0) (rowR k w true a1) x0 x1⟩) \/ (u = 1 /\ s = ⟨lineE 2 fr to (fr + k) (max 0 b0.length) 1, l2O h0 h1 b0 (rowR k w true a1) (lastP nb0 x0) x1⟩) \/ (u = 0 /\ s = ⟨lineE 2 fr to (fr + k) (max (max 0 b0.length) b1.length) 2, l2O h0 h1 b0 b1 (lastP nb0 x0) (lastP nb1 x1)⟩)) (fun s => s = ⟨(12, vi (wideP [b0, b1] 0 : Nat)) :: ((11, vi (fr + k : Nat)) :: startE 2 fr to), l2O h0 h1 b0 b1 (lastP nb0 x0) (lastP nb1 x1)⟩) 2 ⟨lineE 2 fr to (fr + k) 0 0, l2O h0 h1 (rowR k w true a0) (rowR k w true a1) x0 x1⟩ (.refl _ _) (.inl ⟨rfl, rfl⟩) ?_ ?_
   rotate_left
   ·rintro s rfl
    simp only [inBlockE, if_true]
    exact ⟨_, .refl _ _, rfl⟩
   rintro u s (⟨rfl, rfl⟩ | ⟨rfl, rfl⟩ | ⟨rfl, rfl⟩)
   ·refine CwpE.cut (st := ⟨lineE 2 fr to (fr + k) 0 0, l2O h0 h1 (rowR k w true a0) (rowR k w true a1) x0 x1⟩) ?_ ?_
    ·simp only [go_sem, ↓reduceIte, Nat.reduceLT, Nat.reduceEqDiff, k0, k2, l02]
     exact ⟨_, WkE.keep (by simp only [go_sem, ↓reduceIte, Nat.reduceEqDiff, k0, k2]), rfl⟩
    refine CwpE.seqJ (fun s => s = ⟨lineE 2 fr to (fr + k) (max 0 b0.length) 0, l2O h0 h1 b0 (rowR k w true a1) (lastP nb0 x0) x1⟩) (CwpE.block ?_) ?_
    ·refine line_round20 F0 w0 h0 h1 fr to (fr + k) 0 (rowR k w true a0) (rowR k w true a1) x0 x1 nb0 hnb0 (by omega) hn0.2.2 (sms _ (by simp)) (hrow _ wl0) (by omega) fun s hs => ?_
     rw [hsep, hb0'] at hs
     exact ⟨_, hs, rfl⟩
    ·rintro _ rfl
     refine CwpE.vc ?_
     simp only [go_sem, ↓reduceIte, Nat.reduceLT, Nat.reduceEqDiff, k0, k2, w01]
     exact ⟨1, ⟨lineE 2 fr to (fr + k) (max 0 b0.length) 1, l2O h0 h1 b0 (rowR k w true a1) (lastP nb0 x0) x1⟩, by omega, WkE.keep (by simp only [go_sem, ↓reduceIte, Nat.reduceEqDiff, k0, k1, k2]), .inr (.inl ⟨rfl, rfl⟩)⟩
   ·refine CwpE.cut (st := ⟨lineE 2 fr to (fr + k) (max 0 b0.length) 1, l2O h0 h1 b0 (rowR k w true a1) (lastP nb0 x0) x1⟩) ?_ ?_
    ·simp only [go_sem, ↓reduceIte, Nat.reduceLT, Nat.reduceEqDiff, k1, k2, l12]
     exact ⟨_, WkE.keep (by simp only [go_sem, ↓reduceIte, Nat.reduceEqDiff, k1, k2]), rfl⟩
    refine CwpE.seqJ (fun s => s = ⟨lineE 2 fr to (fr + k) (max (max 0 b0.length) b1.length) 1, l2O h0 h1 b0 b1 (lastP nb0 x0) (lastP nb1 x1)⟩) (CwpE.block ?_) ?_
    ·refine line_round21 F0 w0 h0 h1 fr to (fr + k) (max 0 b0.length) b0 (rowR k w true a1) (lastP nb0 x0) x1 nb1 hnb1 (by omega) hn1.2.2 (sms _ (by simp)) (hrow _ wl1) (by omega) fun s hs => ?_
     rw [hsep, hb1'] at hs
     exact ⟨_, hs, rfl⟩
    ·rintro _ rfl
     refine CwpE.vc ?_
     simp only [go_sem, ↓reduceIte, Nat.reduceLT, Nat.reduceEqDiff, k1, k2, w12]
     exact ⟨0, ⟨lineE 2 fr to (fr + k) (max (max 0 b0.length) b1.length) 2, l2O h0 h1 b0 b1 (lastP nb0 x0) (lastP nb1 x1)⟩, by omega, WkE.keep (by simp only [go_sem, ↓reduceIte, Nat.reduceEqDiff, k1, k2]), .inr (.inr (⟨rfl, rfl⟩))⟩
   ·refine CwpE.vc ?_
    simp only [go_sem, ↓reduceIte, Nat.reduceLT, Nat.reduceEqDiff, Int.lt_irrefl, k2]
    exact ⟨_, WkE.keep (by simp only [go_sem, ↓reduceIte, Nat.reduceEqDiff, wideP]), rfl⟩
  rintro _ rfl
  obtain ⟨v, hv⟩ : ∃ v, wideP [b0, b1] 0 = v := ⟨_, rfl⟩
  rw [hv] at hwk1 vl0 vl1 ⊢
  have hrows : ∀ y, rowR (k + 1) v (decide (fr + (k + 1) < to)) y = bif decide (fr + (k + 1) < to) then fillC v y else y := fun y => by unfold rowR; rw [if_neg (by omega)]
  simp only [hrows]
  refine CwpE.cut (st := ⟨fillE 2 fr to (fr + k) v 0, l2O h0 h1 b0 b1 (lastP nb0 x0) (lastP nb1 x1)⟩) ?_ ?_
  ·simp only [go_sem, ↓reduceIte, Nat.reduceLT]
   exact ⟨_, WkE.keep (by simp only [go_sem, ↓reduceIte, Nat.reduceEqDiff, k0, k2]), rfl⟩
  refine CwpE.block ?_
  have hbx : ∀ s, s = ⟨((11, vi (fr + k : Nat)) :: startE 2 fr to), l2O h0 h1 (bif decide (fr + (k + 1) < to) then fillC v b0 else b0) (bif decide (fr + (k + 1) < to) then fillC v b1 else b1) (lastP nb0 x0) (lastP nb1 x1)⟩ -> inBlockE 6 (inBlockE 3 (thenE (fun s => ∃ s', WkE 134 s s' /\ s' = ⟨((11, vi (fr + k : Nat)) :: startE 2 fr to), l2O h0 h1 (bif decide (fr + (k + 1) < to) then fillC v b0 else b0) (bif decide (fr + (k + 1) < to) then fillC v b1 else b1) (lastP nb0 x0) (lastP nb1 x1)⟩) (RoundX 134 (fun z s => False) 0 2 (fun s => False) (fun _ _ => False)))) (.exit 6) s := by
   rintro s rfl
   simp only [inBlockE, if_true, thenE]
   exact ⟨_, .refl _ _, rfl⟩
  clear hbx
  by_cases hmr : fr + (k + 1) < to
  rotate_left
  ·have hmr' : ¬ ((fr + (k + 1) : Nat) : Int) < (to : Int) := by omega
   simp only [hmr, decide_false, cond_false]
   refine loopXC 6 (fun u s => s = ⟨fillE 2 fr to (fr + k) v 0, l2O h0 h1 b0 b1 (lastP nb0 x0) (lastP nb1 x1)⟩) (fun s => s = ⟨((11, vi (fr + k : Nat)) :: startE 2 fr to), l2O h0 h1 b0 b1 (lastP nb0 x0) (lastP nb1 x1)⟩) 0 ⟨fillE 2 fr to (fr + k) v 0, l2O h0 h1 b0 b1 (lastP nb0 x0) (lastP nb1 x1)⟩ (.refl _ _) rfl ?_ ?_
   rotate_left
   ·rintro s rfl
    simp only [inBlockE, if_true, thenE]
    exact ⟨_, .refl _ _, rfl⟩
   rintro u s rfl
   refine CwpE.vc ?_
   simp only [go_sem, ↓reduceIte, Nat.reduceLT, Nat.reduceEqDiff, k0, k2, l02, wb1, hmr']
   exact ⟨_, WkE.keep (by simp only [go_sem, ↓reduceIte, Nat.reduceEqDiff]), rfl⟩
  have hmr' : ((fr + (k + 1) : Nat) : Int) < (to : Int) := by omega
  simp only [hmr, decide_true, cond_true]
  refine loopXC 6 (fun u s => (u = 2 /\ s = ⟨fillE 2 fr to (fr + k) v 0, l2O h0 h1 b0 b1 (lastP nb0 x0) (lastP nb1 x1)⟩) \/ (u = 1 /\ s = ⟨fillE 2 fr to (fr + k) v 1, l2O h0 h1 (fillC v b0) b1 (lastP nb0 x0) (lastP nb1 x1)⟩) \/ (u = 0 /\ s = ⟨fillE 2 fr to (fr + k) v 2, l2O h0 h1 (fillC v b0) (fillC v b1) (lastP nb0 x0) (lastP nb1 x1)⟩)) (fun s => s = ⟨((11, vi (fr + k : Nat)) :: startE 2 fr to), l2O h0 h1 (fillC v b0) (fillC v b1) (lastP nb0 x0) (lastP nb1 x1)⟩) 2 ⟨fillE 2 fr to (fr + k) v 0, l2O h0 h1 b0 b1 (lastP nb0 x0) (lastP nb1 x1)⟩ (.refl _ _) (.inl ⟨rfl, rfl⟩) ?_ ?_
  rotate_left
  ·rintro s rfl
   simp only [inBlockE, if_true, thenE]
   exact ⟨_, .refl _ _, rfl⟩
  rintro u s (⟨rfl, rfl⟩ | ⟨rfl, rfl⟩ | ⟨rfl, rfl⟩)
  ·refine CwpE.cut (st := ⟨fillE 2 fr to (fr + k) v 0, l2O h0 h1 b0 b1 (lastP nb0 x0) (lastP nb1 x1)⟩) ?_ ?_
   ·simp only [go_sem, ↓reduceIte, Nat.reduceLT, Nat.reduceEqDiff, k0, k2, l02, wb1, hmr']
    exact ⟨_, WkE.keep (by simp only [go_sem, ↓reduceIte, Nat.reduceEqDiff, k0, k2]), rfl⟩
   refine CwpE.seqJ (fun s => s = ⟨fillE 2 fr to (fr + k) v 0, l2O h0 h1 (fillC v b0) b1 (lastP nb0 x0) (lastP nb1 x1)⟩) ?_ ?_
   ·exact line_fill20 F0 w0 h0 h1 fr to (fr + k) v b0 b1 (lastP nb0 x0) (lastP nb1 x1) (by omega) (by omega) ⟨_, .refl _ _, rfl⟩
   ·rintro _ rfl
    refine CwpE.vc ?_
    simp only [go_sem, ↓reduceIte, Nat.reduceLT, Nat.reduceEqDiff, k0, k2, w01]
    exact ⟨1, ⟨fillE 2 fr to (fr + k) v 1, l2O h0 h1 (fillC v b0) b1 (lastP nb0 x0) (lastP nb1 x1)⟩, by omega, WkE.keep (by simp only [go_sem, ↓reduceIte, Nat.reduceEqDiff, k0, k1, k2]), .inr (.inl ⟨rfl, rfl⟩)⟩
  ·refine CwpE.cut (st := ⟨fillE 2 fr to (fr + k) v 1, l2O h0 h1 (fillC v b0) b1 (lastP nb0 x0) (lastP nb1 x1)⟩) ?_ ?_
   ·simp only [go_sem, ↓reduceIte, Nat.reduceLT, Nat.reduceEqDiff, k1, k2, l12, wb1, hmr']
    exact ⟨_, WkE.keep (by simp only [go_sem, ↓reduceIte, Nat.reduceEqDiff, k1, k2]), rfl⟩
   refine CwpE.seqJ (fun s => s = ⟨fillE 2 fr to (fr + k) v 1, l2O h0 h1 (fillC v b0) (fillC v b1) (lastP nb0 x0) (lastP nb1 x1)⟩) ?_ ?_
   ·exact line_fill21 F0 w0 h0 h1 fr to (fr + k) v (fillC v b0) b1 (lastP nb0 x0) (lastP nb1 x1) (by omega) (by omega) ⟨_, .refl _ _, rfl⟩
   ·rintro _ rfl
    refine CwpE.vc ?_
    simp only [go_sem, ↓reduceIte, Nat.reduceLT, Nat.reduceEqDiff, k1, k2, w12]
    exact ⟨0, ⟨fillE 2 fr to (fr + k) v 2, l2O h0 h1 (fillC v b0) (fillC v b1) (lastP nb0 x0) (lastP nb1 x1)⟩, by omega, WkE.keep (by simp only [go_sem, ↓reduceIte, Nat.reduceEqDiff, k1, k2]), .inr (.inr (⟨rfl, rfl⟩))⟩
  ·refine CwpE.vc ?_
   simp only [go_sem, ↓reduceIte, Nat.reduceLT, Nat.reduceEqDiff, Int.lt_irrefl, k2]
   exact ⟨_, WkE.keep (by simp only [go_sem, ↓reduceIte, Nat.reduceEqDiff]), rfl⟩
theorem Line_s (m : List (List (List Nt))) (fr to : Nat) (hm : Vm m) (h1 : fr <= to) (h2 : to <= manyP m) : Ctr Tryd.prog 27 [vmel m, vi fr, vi to] (vpage (lineP m fr (to - fr)).ls) := by
 rcases hm.hands with h | h
 ·obtain ⟨h0, rfl⟩ := one_of h
  exact Line_1 h0 fr to hm h1 h2
 ·obtain ⟨h0, h1', rfl⟩ := two_of h
  exact Line_2 h0 h1' fr to hm h1 h2
end Go.Proofs.YtnncijjkbonokaaDoor
namespace Go.Proofs.YtnncijjkbonokaaDoor
open Go.RowKit Dak
def RestP (m : List (List (List Nt))) (width : Int) (b : Nat) (p : List (List Int)) : List (List Int) := if b < manyP m then encGo m width (manyP m - b - 1) (b + 1) (lineP m b 1) p else p
abbrev rencS (m : List (List (List Nt))) (width : Int) (b : Nat) (p : List (List Int)) : Est :=
 ⟨[(1, vi width), (2, .ref 0 1 0 0), (7, vi (manyP m)), (9, .own 1 p.length 0 p.length), (10, vi b)], [.arr 1 1 25 [vmel m], .arr p.length 1 30 (p.map vbytes)]⟩
theorem refEncode_s (m : List (List (List Nt))) (width : Int) (hl : lenM m) : Ctr Tryd.prog 18 [vmel m, vi width] (vpe (encP m width)) := by
 refine specE f18 (by simp) fun F0 w0 => ?_
 simp only [c18, go_sem, ↓reduceIte, Nat.reduceLT, Nat.reduceEqDiff]
 refine callT (refValid_s m hl) rfl ?_
 by_cases hv : validE m = 0
 rotate_left
 ·simp only [go_sem, ↓reduceIte, Nat.reduceLT, Nat.reduceEqDiff, hv]
  rw [show encP m width = ([], validE m) by simp only [encP, ne_eq, hv, not_false_eq_true, if_true]]
  exact snap_pe0
 have hm := vm_of hv
 have hcnt : m.length <= 2 := by have := hm.hands; omega
 have hmp := hm.pos
 simp only [go_sem, ↓reduceIte, reduceCtorEq, Nat.reduceLT, Nat.reduceEqDiff, Int.reduceToNat, Int.reduceToNat, Int.le_refl, hv]
 by_cases a1 : width < 1
 ·simp only [go_sem, ↓reduceIte, a1]
  rw [show encP m width = ([], 1) by simp only [encP, ne_eq, hv, not_true_eq_false, if_false, a1, true_or, if_true]]
  exact snap_pe0
 by_cases a2 : 40 < width
 ·simp only [go_sem, ↓reduceIte, a1, a2]
  rw [show encP m width = ([], 1) by simp only [encP, ne_eq, hv, not_true_eq_false, if_false, a2, or_true, if_true]]
  exact snap_pe0
 obtain ⟨h0, hh0⟩ : ∃ h0, m[0]? = some h0 := ⟨_, List.getElem?_eq_getElem (by have := hm.hands; omega)⟩
 have hd : h0.length = manyP m := by
  show _ = (m.headD []).length
  cases m with | nil => cases hh0 | cons x l => simp at hh0; subst hh0; rfl
 have zlt : (0 : Int) < (m.length : Int) := by have := hm.hands; omega
 simp only [go_sem, ↓reduceIte, Nat.reduceLT, a1, a2, List.getElem?_map, hh0, Option.map_some, List.length_map, hd]
 refine loopX 0 (fun x s => ∃ k : Nat, x = manyP m - k /\ k <= manyP m /\ (List.range k).any (overP m width) = false /\ s = ⟨[(1, vi width), (2, .ref 0 1 0 0), (7, vi (manyP m)), (8, vi k)], [.arr 1 1 25 [vmel m]]⟩)
  (fun s => (List.range (manyP m)).any (overP m width) = false /\ s = ⟨[(1, vi width), (2, .ref 0 1 0 0), (7, vi (manyP m))], [.arr 1 1 25 [vmel m]]⟩) (manyP m)
  ⟨[(1, vi width), (2, .ref 0 1 0 0), (7, vi (manyP m)), (8, vi (0 : Nat))], [.arr 1 1 25 [vmel m]]⟩ (WkE.keep (by simp only [go_sem, ↓reduceIte, reduceCtorEq, Nat.reduceEqDiff]; rfl)) ⟨0, by omega, by omega, rfl, rfl⟩ ?_ ?_
 ·rintro x s ⟨k, rfl, hk, ht, rfl⟩
  by_cases hlt : k < manyP m
  ·have h1 : (k : Int) < (manyP m : Int) := by omega
   have hw : IntKind.i64.wrap ((k : Int) + 1) = ((k + 1 : Nat) : Int) := by rw [wrap_id (by omega) (by omega)]; omega
   simp only [go_sem, ↓reduceIte, Nat.reduceLT, Nat.reduceEqDiff, h1, hw]
   have hline := Line_s m k (k + 1) hm (by omega) (by omega)
   rw [Nat.add_sub_cancel_left] at hline
   refine callT hline rfl ?_
   simp only [go_sem, ↓reduceIte, Nat.reduceLT]
   refine callT (refWide_s _ (by have := (sok_line hm (fr := k) 1 (by omega)).l1; omega)) rfl ?_
   by_cases hov : width < ((wideP (lineP m k 1).ls 0 : Nat) : Int)
   ·simp only [go_sem, ↓reduceIte, Nat.reduceLT, Nat.reduceEqDiff, hov]
    have : (List.range (manyP m)).any (overP m width) = true := List.any_eq_true.2 ⟨k, List.mem_range.2 hlt, by
     show decide (width < ((wideP (lineP m k 1).ls 0 : Nat) : Int)) = true
     simp only [hov, decide_true]⟩
    rw [show encP m width = ([], 14) by simp only [encP, ne_eq, hv, not_true_eq_false, if_false, a1, a2, or_self, this, if_true]]
    exact snap_pe0
   ·simp only [go_sem, ↓reduceIte, Nat.reduceLT, Nat.reduceEqDiff, hov, hw]
    exact ⟨manyP m - (k + 1), _, by omega, WkE.keep (by simp only [go_sem, ↓reduceIte, Nat.reduceEqDiff]), k + 1, rfl, by omega, any_range ht (by
     show decide (width < ((wideP (lineP m k 1).ls 0 : Nat) : Int)) = false
     simp only [hov, decide_false]), rfl⟩
  ·obtain rfl : k = manyP m := by omega
   have h1 : ¬ (manyP m : Int) < (manyP m : Int) := by omega
   simp only [go_sem, ↓reduceIte, Nat.reduceLT, Nat.reduceEqDiff, h1]
   exact ⟨_, WkE.keep (by simp only [go_sem, ↓reduceIte, Nat.reduceEqDiff]), ht, rfl⟩
 rintro s ⟨hno, rfl⟩
 have hfit : ∀ k, k < manyP m -> ¬ width < ((wideP (lineP m k 1).ls 0 : Nat) : Int) := fun k hk => by
  have := List.any_eq_false.1 hno k (List.mem_range.2 hk)
  simp only [overP, decide_eq_true_eq] at this
  exact this
 have henc : encP m width = (RestP m width 0 [], 0) := by
  have e : encGo m width (manyP m) 0 (firstP m.length) [] = RestP m width 0 [] := by
   obtain ⟨z, hz⟩ : ∃ z, manyP m = z + 1 := ⟨manyP m - 1, by omega⟩
   rw [RestP, if_pos (by omega), hz, encGo]
   exact if_neg (hfit 0 (by omega))
  simp [encP, hv, a1, a2, hno, e]
 simp only [go_sem, ↓reduceIte, Nat.reduceLT]
 refine loopX 2 (fun x s => ∃ (b : Nat) (p : List (List Int)), x = manyP m - b /\ b <= manyP m /\ p.length <= 2 * b /\ RestP m width b p = RestP m width 0 [] /\ s = rencS m width b p)
  (fun s => ∃ (p : List (List Int)), p = RestP m width 0 [] /\ s = rencS m width (manyP m) p) (manyP m)
  (rencS m width 0 []) ?_ ⟨0, [], by omega, by omega, by simp, rfl, rfl⟩ ?_ ?_
 ·exact (WkE.nil 9 1 30 (by omega) rfl).trans (WkE.keep (by simp only [go_sem, ↓reduceIte, Nat.reduceEqDiff]; rfl))
 rotate_left
 ·rintro s ⟨p, hp, rfl⟩
  simp only [go_sem, ↓reduceIte, Nat.reduceLT, Nat.reduceEqDiff]
  rw [henc, <- hp]
  exact snap_pe _ 0 rfl rfl
 rintro x s ⟨b, p, rfl, hb, hp, hg, rfl⟩
 by_cases hlt : b < manyP m
 rotate_left
 ·obtain rfl : b = manyP m := by omega
  have h1 : ¬ (manyP m : Int) < (manyP m : Int) := by omega
  simp only [go_sem, ↓reduceIte, Nat.reduceLT, Nat.reduceEqDiff, h1]
  rw [RestP, if_neg (by omega)] at hg
  exact ⟨_, WkE.keep (by simp only [go_sem, ↓reduceIte, Nat.reduceEqDiff]), p, hg, rfl⟩
 have h1 : (b : Int) < (manyP m : Int) := by omega
 have hw : IntKind.i64.wrap ((b : Int) + 1) = ((b + 1 : Nat) : Int) := by rw [wrap_id (by omega) (by omega)]; omega
 rw [RestP, if_pos hlt] at hg
 simp only [go_sem, ↓reduceIte, Nat.reduceLT, Nat.reduceEqDiff, h1, hw]
 refine loopX 4 (fun y s => ∃ k : Nat, y = manyP m - (b + 1 + k) /\ b + 1 + k <= manyP m /\ encGo m width (manyP m - (b + 1 + k)) (b + 1 + k) (lineP m b (k + 1)) p = RestP m width 0 [] /\ s = ⟨(11, vi (b + 1 + k : Nat)) :: (rencS m width b p).env, (rencS m width b p).objs⟩)
  (fun s => ∃ k : Nat, b + 1 + k <= manyP m /\ RestP m width (b + 1 + k) (p ++ (lineP m b (k + 1)).ls) = RestP m width 0 [] /\ s = ⟨(11, vi (b + 1 + k : Nat)) :: (rencS m width b p).env, (rencS m width b p).objs⟩) (manyP m - (b + 1))
  ⟨(11, vi (b + 1 : Nat)) :: (rencS m width b p).env, (rencS m width b p).objs⟩ (WkE.keep (by simp only [go_sem, ↓reduceIte, Nat.reduceEqDiff])) ⟨0, by omega, by omega, by rw [<- hg]; rfl, rfl⟩ ?_ ?_
 ·rintro y s ⟨k, rfl, hk, he, rfl⟩
  have hw1 : IntKind.i64.wrap (((b + 1 + k : Nat) : Int) + 1) = ((b + 1 + (k + 1) : Nat) : Int) := by rw [wrap_id (by omega) (by omega)]; omega
  by_cases hkl : b + 1 + k < manyP m
  ·have h2 : ((b + 1 + k : Nat) : Int) < (manyP m : Int) := by omega
   simp only [go_sem, ↓reduceIte, Nat.reduceLT, Nat.reduceEqDiff, h2, hw1]
   have hline := Line_s m b (b + 1 + (k + 1)) hm (by omega) (by omega)
   rw [show b + 1 + (k + 1) - b = k + 2 by omega] at hline
   refine callT hline rfl ?_
   simp only [go_sem, ↓reduceIte, Nat.reduceLT, Nat.reduceEqDiff]
   refine callT (refWide_s _ (by have := (sok_line hm (fr := b) (k + 2) (by omega)).l1; omega)) rfl ?_
   obtain ⟨z, hz⟩ : ∃ z, manyP m - (b + 1 + k) = z + 1 := ⟨manyP m - (b + 1 + k) - 1, by omega⟩
   rw [hz, encGo] at he
   have hadd : (lineP m b (k + 1)).add m (b + 1 + k) = lineP m b (k + 2) := by
    show _ = (lineP m b (k + 1)).add m (b + (k + 1))
    rw [show b + 1 + k = b + (k + 1) by omega]
   rw [hadd] at he
   by_cases hov : ((wideP (lineP m b (k + 2)).ls 0 : Nat) : Int) <= width
   ·rw [if_neg (by omega)] at he
    simp only [go_sem, ↓reduceIte, Nat.reduceLT, Nat.reduceEqDiff, hov, hw1]
    exact ⟨manyP m - (b + 1 + (k + 1)), _, by omega, WkE.keep (by simp only [go_sem, ↓reduceIte, Nat.reduceEqDiff]), k + 1, rfl, by omega, by rw [<- he, show manyP m - (b + 1 + (k + 1)) = z by omega]; rfl, rfl⟩
   ·rw [if_pos (by omega)] at he
    simp only [go_sem, ↓reduceIte, Nat.reduceLT, Nat.reduceEqDiff, hov]
    refine ⟨_, WkE.keep (by simp only [go_sem, ↓reduceIte, Nat.reduceEqDiff]), k, by omega, ?_, rfl⟩
    rw [RestP, if_pos hkl, <- he, show manyP m - (b + 1 + k) - 1 = z by omega]
    rfl
  ·obtain hkl' : b + 1 + k = manyP m := by omega
   have h2 : ¬ ((b + 1 + k : Nat) : Int) < (manyP m : Int) := by omega
   simp only [go_sem, ↓reduceIte, Nat.reduceLT, Nat.reduceEqDiff, h2]
   refine ⟨_, WkE.keep (by simp only [go_sem, ↓reduceIte, Nat.reduceEqDiff]), k, by omega, ?_, rfl⟩
   rw [RestP, if_neg (by omega), <- he, show manyP m - (b + 1 + k) = 0 by omega]
   rfl
 rintro s ⟨k, hk, he, rfl⟩
 have tls : (lineP m b (k + 1)).ls.length = m.length := (sok_line hm (fr := b) (k + 1) (by omega)).l1
 have b1 : (p.length + (lineP m b (k + 1)).ls.length) * 24 <= 140737488355328 := by omega
 have htk : List.take p.length (p.map vbytes) = p.map vbytes := List.take_of_length_le (by simp)
 simp only [go_sem, ↓reduceIte, Nat.reduceLT, Nat.reduceEqDiff]
 have hline := Line_s m b (b + 1 + k) hm (by omega) (by omega)
 rw [show b + 1 + k - b = k + 1 by omega] at hline
 refine callT hline rfl ?_
 simp only [go_sem, ↓reduceIte, Nat.reduceLT, Nat.reduceEqDiff, Nat.reduceAdd, b1, htk, List.length_map]
 have e1 : p.length + (lineP m b (k + 1)).ls.length = (p ++ (lineP m b (k + 1)).ls).length := by simp
 rw [e1, <- List.map_append]
 exact ⟨manyP m - (b + 1 + k), rencS m width (b + 1 + k) (p ++ (lineP m b (k + 1)).ls), by omega, WkE.keep (by simp only [go_sem, ↓reduceIte, Nat.reduceEqDiff]), b + 1 + k, _, rfl, hk, by simp only [List.length_append]; omega, he, rfl⟩
end Go.Proofs.YtnncijjkbonokaaDoor
namespace Go.Proofs.YtnncijjkbonokaaDoor
open Go.RowKit Dak
theorem trimN_le (b : List Int) : ∀ n, trimN b n <= n
 | 0 => Nat.le_refl _
 | n + 1 => by
  rw [trimN]; split
  ·have := trimN_le b n; omega
  ·omega
end Go.Proofs.YtnncijjkbonokaaDoor
namespace Go.Proofs.YtnncijjkbonokaaDoor
open Go.RowKit Dak
theorem tookB_at (p : Int -> Bool) (pre r : List Int) (x : Int) : tookB p (pre ++ x :: r) pre.length = p x := by
 simp [tookB]
theorem tookN_at (p : Int -> Bool) (pre r : List Int) (x : Int) : tookN p (pre ++ x :: r) pre.length = if p x = true then pre.length + 1 else pre.length := by
 rw [tookN, tookB_at]
theorem octT_at (pre r : List Int) (x o : Int) : octT (pre ++ x :: r) pre.length o = octI x := by simp [octT]
theorem alt_at (pre y : List Int) (h a : Int) (ha : a = 1 \/ a = -1 \/ a = 0) (h1 : h ≠ 33) (h2 : h ≠ 34) :
 altA (pre ++ (alterC a ++ h :: y)) pre.length = a /\ altI (pre ++ (alterC a ++ h :: y)) pre.length = (pre ++ alterC a).length := by
 unfold altA altI
 rcases ha with rfl | rfl | rfl
 ·rw [show alterC 1 = [33] from rfl, List.singleton_append, tookB_at]; simp
 ·rw [show alterC (-1) = [34] from rfl, List.singleton_append, tookB_at, tookB_at, tookN_at]; simp
 ·rw [show alterC 0 = [] from rfl, List.nil_append, tookB_at, tookB_at, tookN_at]; simp [h1, h2]
theorem octC_at (pre y : List Int) (h s : Int) (mark : Bool) (hs : 0 <= s /\ s <= 48 \/ mark = false) (hh : octI h = -1) :
 octT (pre ++ (octC s mark ++ h :: y)) pre.length (-1) = (if mark = true then s.tdiv 7 else -1) /\ tookN isOct (pre ++ (octC s mark ++ h :: y)) pre.length = (pre ++ octC s mark).length := by
 cases mark with
 | false => rw [show octC s false = [] from rfl, List.nil_append, octT_at, tookN_at]; simp [isOct, hh]
 | true =>
  rcases hs with hs | hs
  ·have hq : ∀ q : Nat, q < 7 -> octI (octs.getD q 0) = q := by decide
   have e : s.tdiv 7 = ((s.tdiv 7).toNat : Int) := by rw [Int.tdiv_eq_ediv_of_nonneg hs.1]; omega
   have hlt : (s.tdiv 7).toNat < 7 := by rw [Int.tdiv_eq_ediv_of_nonneg hs.1]; omega
   have := hq _ hlt
   rw [show octC s true = [octs.getD (s.tdiv 7).toNat 0] from rfl, List.singleton_append, octT_at, tookN_at, isOct, this]
   refine ⟨by rw [if_pos rfl, <- e], ?_⟩
   rw [if_pos (by simp; omega)]; simp
  ·cases hs
theorem small_at (pre y : List Int) (h l : Int) (hh : h ≠ 3) :
 tookB (fun x => decide (x = 3)) (pre ++ (smallC l ++ h :: y)) pre.length = decide (l = 4) /\ tookN (fun x => decide (x = 3)) (pre ++ (smallC l ++ h :: y)) pre.length = (pre ++ smallC l).length := by
 unfold smallC
 by_cases h4 : l = 4
 ·rw [if_pos h4, List.singleton_append, tookB_at, tookN_at]; simp [h4]
 ·rw [if_neg h4, List.nil_append, tookB_at, tookN_at]; simp [h4, hh]
def nameK (s : Int) : Nat := if 0 <= s then (s.tmod 7).toNat else 7
def lenK (l : Int) : Nat := if l = 4 then 0 else l.toNat
theorem name_facts : ∀ k : Nat, k < 8 -> ∀ l : Nat, l < 4 -> let x := names.getD k 0 + lens.getD l 0; plainP x = some (k, l) /\ x ≠ 33 /\ x ≠ 34 /\ x ≠ 3 /\ octI x = -1 /\ 0 < x /\ x < 64 /\ x ≠ 60 /\ x ≠ 28 := by decide
theorem nameK_lt (s : Int) (h : s <= 48) : nameK s < 8 := by
 unfold nameK; split
 ·have := Int.tmod_lt_of_pos s (b := 7) (by omega); omega
 ·omega
theorem nameC_eq (s l : Int) (hl : 0 <= l /\ l <= 4) : nameC s l = names.getD (nameK s) 0 + lens.getD (lenK l) 0 := by
 unfold nameC nameK lenK
 congr 1
 ·split <;> rfl
 ·by_cases h : l = 4
  ·subst h; rfl
  ·rw [if_neg h]
theorem nameC_at (s l : Int) (hs : s <= 48) (hl : 0 <= l /\ l <= 4) : let x := nameC s l; plainP x = some (nameK s, lenK l) /\ x ≠ 33 /\ x ≠ 34 /\ x ≠ 3 /\ octI x = -1 /\ 0 < x /\ x < 64 /\ x ≠ 60 /\ x ≠ 28 := by
 rw [nameC_eq s l hl]
 exact name_facts _ (nameK_lt s hs) _ (by unfold lenK; split <;> omega)
theorem dist_facts (a b : Int) : (distP a b = a - b \/ distP a b = b - a) /\ a - b <= distP a b /\ b - a <= distP a b := by
 unfold distP; split <;> omega
theorem findGo_hit {last s : Int} (hl : 0 <= last /\ last <= 48) (hn : needP s last = false) (h48 : s <= 48) : ∀ (d f : Nat) (s0 : Int), 0 <= s0 -> s = s0 + 7 * d -> d < f -> findGo last f s0 = some s
 | 0, f + 1, s0, h0, h, hf => by
  have : s = s0 := by omega
  subst this
  simp [findGo, h48, hn]
 | d + 1, f + 1, s0, h0, h, hf => by
  have hlt : s0 <= 48 := by omega
  have hn0 : needP s0 last = true := by
   have d1 := dist_facts s last
   have d2 := dist_facts s0 last
   simp only [needP, decide_eq_false_iff_not] at hn
   simp only [needP, decide_eq_true_eq]
   rw [Int.tdiv_eq_ediv_of_nonneg (by omega : 0 <= s), Int.tdiv_eq_ediv_of_nonneg hl.1] at hn
   rw [Int.tdiv_eq_ediv_of_nonneg h0, Int.tdiv_eq_ediv_of_nonneg hl.1]
   have hq : s / 7 = s0 / 7 + (d + 1 : Nat) := by omega
   omega
  rw [findGo, if_pos hlt, if_pos hn0]
  exact findGo_hit hl hn h48 d f (s0 + 7) (by omega) (by omega) (by omega)
theorem find_at {n : Nt} {last : Int} (hn : rightP n = true) (hl : -1 <= last /\ last <= 48) : findP (nameK n.s) (if markP n.s last = true then n.s.tdiv 7 else -1) last = some n.s := by
 have hr := rightP_iff hn
 by_cases h0 : 0 <= n.s
 ·have hk : (nameK n.s : Int) = n.s % 7 := by
   have := Int.tmod_eq_emod_of_nonneg (b := 7) h0
   unfold nameK; rw [if_pos h0, this]; omega
  have hk7 : ¬ (nameK n.s : Int) = 7 := by omega
  unfold findP
  rw [if_neg hk7]
  cases hm : markP n.s last with
  | true =>
   rw [if_pos rfl, if_pos (by rw [Int.tdiv_eq_ediv_of_nonneg h0]; omega), hk, Int.tdiv_eq_ediv_of_nonneg h0]
   congr 1; omega
  | false =>
   rw [if_neg (by simp : ¬ false = true), if_neg (by omega)]
   have hnd : needP n.s last = false := by simpa [markP, h0] using hm
   have hl0 : 0 <= last := by
    simp only [needP, decide_eq_false_iff_not] at hnd; omega
   exact findGo_hit ⟨hl0, hl.2⟩ hnd (by omega) (n.s / 7).toNat 8 _ (by omega) (by rw [hk]; omega) (by omega)
 ·have hs : n.s = -1 := by omega
  have hm : markP n.s last = false := by simp [markP, h0]
  rw [hm, hs]; rfl
theorem noteAt_put {n : Nt} {last : Int} (hn : rightP n = true) (hl : -1 <= last /\ last <= 48) (pre rest : List Int) :
 noteAt (pre ++ (noteC n (markP n.s last) ++ rest)) pre.length last = some (n, pre.length + (noteC n (markP n.s last)).length) := by
 have hr := rightP_iff hn
 obtain ⟨m, hm⟩ : ∃ m, markP n.s last = m := ⟨_, rfl⟩
 have hfind := find_at hn hl
 rw [hm] at hfind ⊢
 have hms : 0 <= n.s /\ n.s <= 48 \/ m = false := by
  by_cases h0 : 0 <= n.s
  ·exact .inl ⟨h0, hr.2.1⟩
  ·right; rw [<- hm]; simp [markP, h0]
 obtain ⟨f1, f2, f3, f4, f5, _, _, _, _⟩ := nameC_at n.s n.l hr.2.1 ⟨hr.2.2.1, hr.2.2.2.1⟩
 obtain ⟨c, hc⟩ : ∃ c, pre ++ (noteC n m ++ rest) = c := ⟨_, rfl⟩
 obtain ⟨h1, y1, e1, g1⟩ : ∃ h y, smallC n.l ++ nameC n.s n.l :: rest = h :: y /\ octI h = -1 /\ h ≠ 33 /\ h ≠ 34 := by
  unfold smallC; split
  ·exact ⟨3, _, rfl, by decide, by decide, by decide⟩
  ·exact ⟨_, _, rfl, f5, f2, f3⟩
 obtain ⟨h2, y2, e2, g2⟩ : ∃ h y, octC n.s m ++ (smallC n.l ++ nameC n.s n.l :: rest) = h :: y /\ h ≠ 33 /\ h ≠ 34 := by
  cases m with
  | false => exact ⟨h1, y1, e1, g1.2⟩
  | true =>
   refine ⟨_, _, rfl, ?_⟩
   have : ∀ q : Nat, q < 7 -> octs.getD q 0 ≠ 33 /\ octs.getD q 0 ≠ 34 := by decide
   rcases hms with hs | hs
   ·exact this _ (by rw [Int.tdiv_eq_ediv_of_nonneg hs.1]; omega)
   ·cases hs
 have hc0 : c = pre ++ (alterC n.a ++ h2 :: y2) := by rw [<- hc, <- e2]; simp [noteC]
 have hc1 : c = (pre ++ alterC n.a) ++ (octC n.s m ++ h1 :: y1) := by rw [<- hc, <- e1]; simp [noteC]
 have hc2 : c = (pre ++ alterC n.a ++ octC n.s m) ++ (smallC n.l ++ nameC n.s n.l :: rest) := by rw [<- hc]; simp [noteC]
 have hc3 : c = (pre ++ alterC n.a ++ octC n.s m ++ smallC n.l) ++ nameC n.s n.l :: rest := by rw [<- hc]; simp [noteC]
 have a1 := alt_at pre y2 h2 n.a (by omega) g2.1 g2.2
 rw [<- hc0] at a1
 have a2 := octC_at (pre ++ alterC n.a) y1 h1 n.s m hms g1.1
 rw [<- hc1] at a2
 have a3 := small_at (pre ++ alterC n.a ++ octC n.s m) rest (nameC n.s n.l) n.l f4
 rw [<- hc2] at a3
 have a4 : plainAt c (pre ++ alterC n.a ++ octC n.s m ++ smallC n.l).length = some (nameK n.s, lenK n.l) := by
  rw [plainAt, hc3]; simp only [List.getElem?_append_right (Nat.le_refl _), Nat.sub_self, List.getElem?_cons_zero, Option.bind_some]; exact f1
 have a5 : ¬ (decide (n.l = 4) = true /\ lenK n.l ≠ 0) := by
  rintro ⟨h, h'⟩; have := of_decide_eq_true h; unfold lenK at h'; rw [if_pos this] at h'; exact h' rfl
 rw [hc, noteAt, a1.2, a2.2, a3.2, a3.1, a4, a2.1, a1.1]
 simp only
 rw [if_neg a5, hfind]
 have hl4 : (if decide (n.l = 4) = true then (4 : Int) else (lenK n.l : Nat)) = n.l := by
  by_cases h : n.l = 4
  ·rw [if_pos (decide_eq_true h), h]
  ·rw [if_neg (by simpa using h), lenK, if_neg h]; omega
 simp only [hl4]
 simp [noteC]
 omega
theorem step_rng {n : Nt} {last : Int} (hn : rightP n = true) (hl : -1 <= last /\ last <= 48) : -1 <= stepP n last /\ stepP n last <= 48 := by
 have hr := rightP_iff hn
 unfold stepP; split <;> omega
theorem last_rng : ∀ {l : List Nt} {last : Int}, (∀ n ∈ l, rightP n = true) -> (-1 <= last /\ last <= 48) -> -1 <= lastP l last /\ lastP l last <= 48
 | [], _, _, hl => hl
 | n :: r, last, h, hl => last_rng (l := r) (fun x hx => h x (List.mem_cons_of_mem _ hx)) (step_rng (h n (List.mem_cons_self ..)) hl)
theorem note_pos (n : Nt) (m : Bool) : 1 <= (noteC n m).length := by simp [noteC]; omega
theorem cells_ge : ∀ (l : List Nt) (last : Int), l.length <= (cellsP l last).length
 | [], _ => Nat.zero_le _
 | n :: r, last => by
  have := cells_ge r (stepP n last); have := note_pos n (markP n.s last)
  simp only [cellsP, List.length_append, List.length_cons]; omega
theorem parseGo_put : ∀ (l : List Nt) (pre : List Int) (f : Nat) (last : Int) (acc : List Nt), (∀ n ∈ l, rightP n = true) -> (-1 <= last /\ last <= 48) -> l.length <= f ->
 parseGo (pre ++ cellsP l last) f pre.length last acc = some (acc ++ l, lastP l last)
 | [], pre, f, last, acc, h, hl, hf => by
  cases f with
  | zero => simp [parseGo, lastP]
  | succ f => simp [parseGo, lastP, cellsP]
 | n :: r, pre, f + 1, last, acc, h, hl, hf => by
  have hn := h n (List.mem_cons_self ..)
  have hp := note_pos n (markP n.s last)
  rw [cellsP, parseGo, if_neg (by simp only [List.length_append]; omega), noteAt_put hn hl]
  simp only
  have := parseGo_put r (pre ++ noteC n (markP n.s last)) f (stepP n last) (acc ++ [n]) (fun x hx => h x (List.mem_cons_of_mem _ hx)) (step_rng hn hl) (by simp only [List.length_cons] at hf; omega)
  rw [List.append_assoc, List.length_append, List.append_assoc] at this
  exact this
theorem parse_put {l : List Nt} {last : Int} (h : ∀ n ∈ l, rightP n = true) (hl : -1 <= last /\ last <= 48) : parseP (cellsP l last) last = some (l, lastP l last) := by
 have := parseGo_put l [] (cellsP l last).length last [] h hl (cells_ge l last)
 simpa [parseP] using this
theorem note_cells {n : Nt} {last : Int} (hn : rightP n = true) : ∀ x ∈ noteC n (markP n.s last), 0 < x /\ x < 64 /\ x ≠ 60 /\ x ≠ 28 := by
 have hr := rightP_iff hn
 intro x hx
 obtain ⟨m, hm⟩ : ∃ m, markP n.s last = m := ⟨_, rfl⟩
 rw [hm] at hx
 simp only [noteC, List.mem_append, List.mem_singleton] at hx
 rcases hx with h | h | h | h
 ·unfold alterC at h
  split at h
  ·simp at h; omega
  ·split at h
   ·simp at h; omega
   ·cases h
 ·cases m with
  | false => cases h
  | true =>
   simp only [octC, if_true, List.mem_singleton] at h
   have h0 : 0 <= n.s := by
    by_cases h0 : 0 <= n.s
    ·exact h0
    ·simp [markP, h0] at hm
   have : ∀ q : Nat, q < 7 -> 0 < octs.getD q 0 /\ octs.getD q 0 < 64 /\ octs.getD q 0 ≠ 60 /\ octs.getD q 0 ≠ 28 := by decide
   rw [h]; exact this _ (by rw [Int.tdiv_eq_ediv_of_nonneg h0]; omega)
 ·unfold smallC at h
  split at h
  ·simp at h; omega
  ·cases h
 ·obtain ⟨_, _, _, _, _, f⟩ := nameC_at n.s n.l hr.2.1 ⟨hr.2.2.1, hr.2.2.2.1⟩
  rw [h]; exact f
theorem cells_cells : ∀ {l : List Nt} {last : Int}, (∀ n ∈ l, rightP n = true) -> ∀ x ∈ cellsP l last, 0 < x /\ x < 64 /\ x ≠ 60 /\ x ≠ 28
 | [], _, _, x, hx => by cases hx
 | n :: r, last, h, x, hx => by
  simp only [cellsP, List.mem_append] at hx
  rcases hx with hx | hx
  ·exact note_cells (h n (List.mem_cons_self ..)) x hx
  ·exact cells_cells (l := r) (fun y hy => h y (List.mem_cons_of_mem _ hy)) x hx
theorem trimN_app (y z : List Int) : ∀ n, n <= y.length -> trimN (y ++ z) n = trimN y n
 | 0, _ => rfl
 | n + 1, h => by
  rw [trimN, trimN, List.getElem?_append_left (by omega), trimN_app y z n (by omega)]
theorem trimN_zeros (y : List Int) (k : Nat) : ∀ j, j <= k -> trimN (y ++ List.replicate k 0) (y.length + j) = trimN y y.length
 | 0, _ => by rw [Nat.add_zero, trimN_app y _ _ (Nat.le_refl _)]
 | j + 1, h => by
  rw [show y.length + (j + 1) = (y.length + j) + 1 from rfl, trimN, if_pos, trimN_zeros y k j (by omega)]
  rw [List.getElem?_append_right (by omega), List.getElem?_replicate, if_pos (by omega)]
theorem trim_zeros (y : List Int) (k : Nat) : trimP (y ++ List.replicate k 0) = trimP y := by
 unfold trimP
 rw [List.length_append, List.length_replicate, trimN_zeros y k k (Nat.le_refl _), List.take_append_of_le_length (trimN_le y _)]
theorem trim_nil : trimP [] = [] := rfl
theorem trim_self {y : List Int} (h : ∀ x ∈ y, x ≠ 0) : trimP y = y := by
 unfold trimP
 cases hn : y.length with
 | zero => rw [List.length_eq_zero_iff.1 hn]; rfl
 | succ n =>
  rw [trimN, if_neg, List.take_of_length_le (by omega)]
  intro h0
  exact h 0 (List.mem_of_getElem? h0) rfl
def extR (W : Nat) (c x : List Int) : List Int := c ++ List.replicate (W - c.length) 0 ++ [0] ++ x
theorem ext_eq (W : Nat) (c x : List Int) : extR W c x = c ++ (List.replicate (W - c.length + 1) 0 ++ x) := by
 simp [extR, List.replicate_succ']
theorem ext_len (W : Nat) (c x : List Int) (h : c.length <= W) : (extR W c x).length = W + 1 + x.length := by
 simp [extR]; omega
theorem filled_ext {W x : Nat} {c y : List Int} (hx : x <= W) (hc : c.length <= W) : filledAt x (extR W c y) = filledAt x c := by
 unfold filledAt
 rw [ext_eq]
 by_cases h : x < c.length
 ·rw [List.getElem?_append_left h]
 ·rw [List.getElem?_append_right (by omega), List.getElem?_append_left (by simp; omega), List.getElem?_replicate, if_pos (by omega), List.getElem?_eq_none (by omega)]; rfl
theorem take_ext {W x : Nat} {c y : List Int} (hx : x <= W + 1) (hc : c.length <= W) : (extR W c y).take x = c.take x ++ List.replicate (x - c.length) 0 := by
 rw [ext_eq, List.take_append, List.take_append, List.take_replicate, List.length_replicate, show x - c.length - (W - c.length + 1) = 0 by omega, List.take_zero, List.append_nil]
 congr 2; omega
theorem cut_ext {W fr x : Nat} {c y : List Int} (hx : x <= W) (hc : c.length <= W) : trimP (cutP (extR W c y) fr x) = trimP (cutP c fr x) := by
 unfold cutP
 have hl : (extR W c y).length = W + 1 + y.length := ext_len W c y hc
 rw [show min x (extR W c y).length = x by omega, take_ext (by omega) hc]
 by_cases hf : fr <= c.length
 ·by_cases hxc : x <= c.length
  ·rw [show x - c.length = 0 by omega, show min x c.length = x by omega, List.replicate_zero, List.append_nil, show min fr (extR W c y).length = fr by omega, show min fr c.length = fr by omega]
  ·rw [show min x c.length = c.length by omega, List.take_of_length_le (by omega), List.take_of_length_le (Nat.le_refl _), show min fr (extR W c y).length = fr by omega, show min fr c.length = fr by omega, List.drop_append, show fr - c.length = 0 by omega, List.drop_zero, trim_zeros]
 ·have e2 : List.drop (min fr c.length) (List.take (min x c.length) c) = [] := List.drop_of_length_le (by simp; omega)
  rw [e2, trim_nil, List.drop_append, List.drop_of_length_le (by simp; omega), List.nil_append, List.drop_replicate]
  have := trim_zeros [] (x - c.length - (min fr (extR W c y).length - (List.take x c).length))
  rw [List.nil_append] at this
  rw [this, trim_nil]
theorem wide_max : ∀ (l : List (List Int)) (n : Nat), wideP l n = max n (wideP l 0)
 | [], n => by simp [wideP]
 | c :: r, n => by rw [wideP, wideP, wide_max r (max n c.length), wide_max r (max 0 c.length)]; omega
theorem wide_cons (c : List Int) (r : List (List Int)) : wideP (c :: r) 0 = max c.length (wideP r 0) := by
 rw [wideP, wide_max]; omega
theorem wide_get {l : List (List Int)} (h : l ≠ []) : ∃ c ∈ l, c.length = wideP l 0 := by
 induction l with
 | nil => exact absurd rfl h
 | cons a r ih =>
  rw [wide_cons]
  by_cases hr : r = []
  ·subst hr; exact ⟨a, List.mem_cons_self .., by simp [wideP]⟩
  ·obtain ⟨c, hc, e⟩ := ih hr
   by_cases hle : a.length <= wideP r 0
   ·exact ⟨c, List.mem_cons_of_mem _ hc, by omega⟩
   ·exact ⟨a, List.mem_cons_self .., by omega⟩
def extL (l cs : List (List Int)) : List (List Int) := List.zipWith (extR (wideP l 0)) l cs
theorem zipWith_any {α β γ : Type} (f : α -> β -> γ) (p : γ -> Bool) (q : α -> Bool) : ∀ (l : List α) (cs : List β), l.length = cs.length -> (∀ a ∈ l, ∀ b ∈ cs, p (f a b) = q a) -> (List.zipWith f l cs).any p = l.any q
 | [], [], _, _ => rfl
 | a :: l, b :: cs, h, hp => by
  simp only [List.zipWith_cons_cons, List.any_cons]
  rw [hp a (List.mem_cons_self ..) b (List.mem_cons_self ..), zipWith_any f p q l cs (by simpa using h) fun a ha b hb => hp a (List.mem_cons_of_mem _ ha) b (List.mem_cons_of_mem _ hb)]
theorem ext_wide (l cs : List (List Int)) (h : l.length = cs.length) (h0 : l ≠ []) : wideP (extL l cs) 0 = wideP l 0 + 1 + wideP cs 0 := by
 unfold extL
 have key : ∀ (W : Nat) (l cs : List (List Int)), l.length = cs.length -> (∀ c ∈ l, c.length <= W) -> l ≠ [] -> wideP (List.zipWith (extR W) l cs) 0 = W + 1 + wideP cs 0 := by
  intro W l
  induction l with
  | nil => intro cs _ _ h; exact absurd rfl h
  | cons a r ih =>
   intro cs h hW _
   match cs, h with
   | x :: cs, h =>
    rw [List.zipWith_cons_cons, wide_cons, wide_cons, ext_len _ _ _ (hW a (List.mem_cons_self ..))]
    by_cases hr : r = []
    ·subst hr
     have : cs = [] := by simpa using h
     subst this; simp [wideP]
    ·rw [ih cs (by simpa using h) (fun c hc => hW c (List.mem_cons_of_mem _ hc)) hr]; omega
 exact key _ l cs h (wide_mono l 0).2 h0
theorem zipWith_congr3 {α β γ δ : Type} (f : δ -> γ -> δ) (g : α -> β -> γ) (g' : α -> γ) : ∀ (o : List δ) (l : List α) (cs : List β), l.length = cs.length -> (∀ d, ∀ a ∈ l, ∀ b ∈ cs, f d (g a b) = f d (g' a)) -> List.zipWith f o (List.zipWith g l cs) = List.zipWith f o (l.map g')
 | [], _, _, _, _ => by simp
 | o :: os, [], [], _, _ => by simp
 | o :: os, a :: l, b :: cs, h, hp => by
  simp only [List.zipWith_cons_cons, List.map_cons]
  rw [hp o a (List.mem_cons_self ..) b (List.mem_cons_self ..), zipWith_congr3 f g g' os l cs (by simpa using h) fun d a ha b hb => hp d a (List.mem_cons_of_mem _ ha) b (List.mem_cons_of_mem _ hb)]
theorem barsAdd_ext {l cs : List (List Int)} (h : l.length = cs.length) {fr x : Nat} (hx : x <= wideP l 0) (outs : List (List (List Int))) : barsAdd (extL l cs) fr x outs = barsAdd l fr x outs := by
 unfold barsAdd extL
 rw [zipWith_congr3 _ _ id outs l cs h]
 ·rw [List.map_id]
 ·intro o a ha b hb
  rw [cut_ext hx ((wide_mono l 0).2 a ha)]; rfl
theorem any_ext {l cs : List (List Int)} (h : l.length = cs.length) {x : Nat} (hx : x <= wideP l 0) : (extL l cs).any (filledAt x) = l.any (filledAt x) := by
 unfold extL
 exact zipWith_any _ _ _ l cs h fun a ha b _ => filled_ext hx ((wide_mono l 0).2 a ha)
theorem none_at {l : List (List Int)} {x : Nat} (hx : wideP l 0 <= x) : l.any (filledAt x) = false := by
 rw [List.any_eq_false]
 intro c hc
 have := (wide_mono l 0).2 c hc
 unfold filledAt
 rw [List.getElem?_eq_none (by omega)]; simp
theorem bars_prefix {l cs : List (List Int)} (h : l.length = cs.length) (g : Nat) : ∀ (f x fr : Nat) (outs : List (List (List Int))), x + f = wideP l 0 ->
 barsGo (extL l cs) (f + 1 + g) x fr outs = barsGo (extL l cs) g (wideP l 0 + 1) (wideP l 0 + 1) (barsGo l (f + 1) x fr outs)
 | 0, x, fr, outs, hx => by
  have hx' : x = wideP l 0 := by omega
  subst hx'
  rw [show 0 + 1 + g = g + 1 by omega, barsGo, any_ext h (Nat.le_refl _), none_at (Nat.le_refl _), if_neg (by simp), barsAdd_ext h (Nat.le_refl _)]
  rw [barsGo, none_at (Nat.le_refl _), if_neg (by simp), barsGo]
 | f + 1, x, fr, outs, hx => by
  rw [show f + 1 + 1 + g = (f + 1 + g) + 1 by omega, barsGo, any_ext h (by omega), barsAdd_ext h (by omega), barsGo]
  split
  ·exact bars_prefix h g f (x + 1) fr outs (by omega)
  ·exact bars_prefix h g f (x + 1) (x + 1) _ (by omega)
theorem cut_last (c x : List Int) (t : Nat) (h : c.length + x.length <= t) : cutP (c ++ x) c.length t = x := by
 unfold cutP
 rw [show min t (c ++ x).length = (c ++ x).length by simp; omega, List.take_of_length_le (Nat.le_refl _), show min c.length (c ++ x).length = c.length by simp, List.drop_left]
theorem bars_last (l cs : List (List Int)) (x0 : Nat) (h : l.length = cs.length) (hl : l ≠ []) (hr : ∀ (i : Nat) (c x : List Int), l[i]? = some c -> cs[i]? = some x -> ∃ p, p.length = x0 /\ c = p ++ x) (hz : ∀ x ∈ cs, x ≠ [] /\ ∀ v ∈ x, v ≠ 0) (outs : List (List (List Int))) :
 ∀ (f k : Nat), k + f = wideP cs 0 -> barsGo l (f + 1) (x0 + k) x0 outs = List.zipWith (fun o x => o ++ [x]) outs cs
 | 0, k, hk => by
  have hw : wideP l 0 <= x0 + k := by
   refine wide_le l 0 _ (Nat.zero_le _) fun c hc => ?_
   obtain ⟨i, hi, rfl⟩ := List.getElem_of_mem hc
   obtain ⟨p, hp, e⟩ := hr i _ (cs[i]'(by omega)) (List.getElem?_eq_getElem hi) (List.getElem?_eq_getElem (by omega))
   have := (wide_mono cs 0).2 _ (List.getElem_mem (l := cs) (n := i) (by omega))
   rw [e, List.length_append]; omega
  rw [barsGo, none_at hw, if_neg (by simp), barsGo, barsAdd]
  apply List.ext_getElem?
  intro i
  simp only [List.getElem?_zipWith]
  cases ho : outs[i]? with
  | none => simp
  | some o =>
   cases hc : cs[i]? with
   | none =>
    have : l[i]? = none := by rw [List.getElem?_eq_none_iff] at hc ⊢; omega
    simp [this]
   | some x =>
    have hi : i < l.length := by have := (List.getElem?_eq_some_iff.1 hc).1; omega
    obtain ⟨p, hp, e⟩ := hr i _ x (List.getElem?_eq_getElem hi) hc
    have hx := (wide_mono cs 0).2 x (List.mem_of_getElem? hc)
    simp only [List.getElem?_eq_getElem hi, Option.some.injEq]
    rw [e]
    have hcut : cutP (p ++ x) x0 (x0 + k) = x := by
     have := cut_last p x (x0 + k) (by omega)
     rw [hp] at this
     exact this
    rw [hcut, trim_self (hz x (List.mem_of_getElem? hc)).2]
 | f + 1, k, hk => by
  have hcs : cs ≠ [] := by intro e; subst e; exact hl (List.length_eq_zero_iff.1 h)
  obtain ⟨x, hx, e⟩ := wide_get hcs
  obtain ⟨i, hi, rfl⟩ := List.getElem_of_mem hx
  obtain ⟨p, hp, ec⟩ := hr i _ _ (List.getElem?_eq_getElem (by omega)) (List.getElem?_eq_getElem hi)
  have hany : l.any (filledAt (x0 + k)) = true := by
   rw [List.any_eq_true]
   refine ⟨_, List.getElem_mem (n := i) (by omega), ?_⟩
   rw [ec]
   unfold filledAt
   rw [List.getElem?_append_right (by omega), List.getElem?_eq_getElem (by omega)]
   simp only [decide_eq_true_eq]
   exact (hz _ hx).2 _ (List.getElem_mem _)
  rw [barsGo, if_pos hany]
  exact bars_last l cs x0 h hl hr hz outs f (k + 1) (by omega)
theorem bars_one {cs : List (List Int)} (hl : cs ≠ []) (hz : ∀ x ∈ cs, x ≠ [] /\ ∀ v ∈ x, v ≠ 0) : barsP cs = cs.map fun x => [x] := by
 unfold barsP
 have := bars_last cs cs 0 rfl hl (fun i c x h1 h2 => ⟨[], rfl, by rw [h1] at h2; simpa using h2⟩) hz (List.replicate cs.length []) (wideP cs 0) 0 (by omega)
 rw [Nat.zero_add] at this
 rw [this]
 apply List.ext_getElem?
 intro i
 simp only [List.getElem?_zipWith, List.getElem?_map, List.getElem?_replicate]
 cases hc : cs[i]? with
 | none => simp
 | some x => rw [if_pos (List.getElem?_eq_some_iff.1 hc).1]; simp
theorem bars_ext {l cs : List (List Int)} (h : l.length = cs.length) (hl : l ≠ []) (hz : ∀ x ∈ cs, x ≠ [] /\ ∀ v ∈ x, v ≠ 0) : barsP (extL l cs) = List.zipWith (fun o x => o ++ [x]) (barsP l) cs := by
 have hel : (extL l cs).length = l.length := by simp [extL]; omega
 rw [barsP, ext_wide l cs h hl, hel, show wideP l 0 + 1 + wideP cs 0 + 1 = wideP l 0 + 1 + (wideP cs 0 + 1) by omega, bars_prefix h _ (wideP l 0) 0 0 _ (by omega)]
 have := bars_last (extL l cs) cs (wideP l 0 + 1) (by omega) (by intro e; rw [e] at hel; exact hl (List.length_eq_zero_iff.1 hel.symm)) (fun i c x h1 h2 => ?_) hz (barsP l) (wideP cs 0) 0 (by omega)
 ·exact this
 ·simp only [extL, List.getElem?_zipWith] at h1
  cases hc : l[i]? with
  | none => rw [hc] at h1; simp at h1
  | some a =>
   rw [hc, h2] at h1
   simp only [Option.some.injEq] at h1
   refine ⟨a ++ List.replicate (wideP l 0 - a.length) 0 ++ [0], ?_, h1.symm⟩
   have := (wide_mono l 0).2 a (List.mem_of_getElem? hc)
   simp; omega
def segC : List (List Nt) -> Int -> List (List Int)
 | [], _ => []
 | b :: r, l => cellsP b l :: segC r (lastP b l)
def segL : List (List Nt) -> Int -> Int
 | [], l => l
 | b :: r, l => segL r (lastP b l)
theorem segC_snoc : ∀ (r : List (List Nt)) (b : List Nt) (l : Int), segC (r ++ [b]) l = segC r l ++ [cellsP b (segL r l)] /\ segL (r ++ [b]) l = lastP b (segL r l)
 | [], b, l => ⟨rfl, rfl⟩
 | a :: r, b, l => by
  have := segC_snoc r b (lastP a l)
  exact ⟨by simp only [List.cons_append, segC, segL, this.1], by simp only [List.cons_append, segL, this.2]⟩
def cutH (fr k : Nat) (h : List (List Nt)) : List (List Nt) := (h.drop fr).take k
theorem cutH_succ {fr k : Nat} {h : List (List Nt)} (hk : fr + k < h.length) : cutH fr (k + 1) h = cutH fr k h ++ [h.getD (fr + k) []] := by
 unfold cutH
 rw [List.take_add_one, List.getElem?_drop, List.getElem?_eq_getElem hk, List.getD_eq_getElem?_getD, List.getElem?_eq_getElem hk]; rfl
theorem addT_map (bar : Nat) : ∀ (h : List (List (List Nt))) (f : List (List Nt) -> Int), addT bar (h.map f) h = h.map fun x => lastP (x.getD bar []) (f x)
 | [], _ => rfl
 | a :: h, f => by simp only [List.map_cons, addT, addT_map bar h f]
theorem line_la {m : List (List (List Nt))} {fr : Nat} : ∀ k, (∀ h ∈ m, fr + k <= h.length) -> (lineP m fr k).la = m.map fun h => segL (cutH fr k h) (-1)
 | 0, _ => by
  simp only [lineP, firstP]
  apply List.ext_getElem (by simp)
  intro i h1 h2
  simp [cutH, segL]
 | k + 1, hk => by
  rw [lineP, Sys.add, line_la k fun h hh => by have := hk h hh; omega]
  show addT (fr + k) _ m = _
  rw [addT_map]
  refine List.map_congr_left fun h hh => ?_
  rw [cutH_succ (by have := hk h hh; omega), (segC_snoc _ _ _).2]
def rowsP (m : List (List (List Nt))) (fr k : Nat) : List (List Int) := (lineP m fr k).ls.map (List.drop (m.length - 1))
theorem addL_zip (bars w bar : Nat) : ∀ (cs : List (List Int)) (ls : List Int) (hs : List (List (List Nt))), addL bars w bar cs ls hs = List.zipWith (fun c (p : List (List Nt) × Int) => padC bars w c ++ cellsP (p.1.getD bar []) p.2) cs (hs.zip ls)
 | [], _, _ => by cases ‹List Int› <;> rfl
 | c :: cs, [], hs => by simp [addL]
 | c :: cs, l :: ls, [] => by simp [addL]
 | c :: cs, l :: ls, h :: hs => by simp only [addL, List.zip_cons_cons, List.zipWith_cons_cons, addL_zip bars w bar cs ls hs, addC]
theorem zip_map_self {α β : Type} (f : α -> β) : ∀ l : List α, l.zip (l.map f) = l.map fun x => (x, f x)
 | [] => rfl
 | a :: l => by simp [zip_map_self f l]
theorem line_add {m : List (List (List Nt))} {fr k : Nat} (hk : ∀ h ∈ m, fr + k < h.length) :
 (lineP m fr (k + 1)).ls = List.zipWith (fun c x => padC k (wideP (lineP m fr k).ls 0) c ++ x) (lineP m fr k).ls (m.map fun h => cellsP (h.getD (fr + k) []) (segL (cutH fr k h) (-1))) := by
 rw [lineP, Sys.add]
 show addL _ _ _ _ _ _ = _
 rw [addL_zip, line_n, line_la k fun h hh => by have := hk h hh; omega, zip_map_self, List.zipWith_map_right, List.zipWith_map_right]
theorem rows_ge {m : List (List (List Nt))} (hm : Vm m) {fr : Nat} : ∀ k, fr + k <= manyP m -> ∀ c ∈ (lineP m fr k).ls, m.length - 1 <= c.length
 | 0, _, c, hc => by
  simp only [lineP, firstP] at hc
  rcases hm.hands with h | h
  ·omega
  ·rw [if_pos h] at hc
   rw [h]
   simp only [List.mem_cons, List.not_mem_nil, or_false] at hc
   rcases hc with rfl | rfl <;> simp
 | k + 1, hk, c, hc => by
  rw [line_add fun h hh => by have := hm.bars h hh; omega] at hc
  obtain ⟨i, hi, rfl⟩ := List.getElem_of_mem hc
  simp only [List.getElem_zipWith, List.length_append]
  have := rows_ge hm k (by omega) _ (List.getElem_mem (l := (lineP m fr k).ls) (n := i) (by simp at hi; omega))
  have : ∀ (w : Nat) (c : List Int), c.length <= (padC k w c).length := by intro w c; unfold padC; split <;> simp <;> omega
  have := this (wideP (lineP m fr k).ls 0) ((lineP m fr k).ls[i]'(by simp at hi; omega))
  omega
theorem wide_drop (n : Nat) : ∀ (l : List (List Int)), (∀ c ∈ l, n <= c.length) -> l ≠ [] -> wideP (l.map (List.drop n)) 0 + n = wideP l 0
 | [], _, h => absurd rfl h
 | a :: r, h, _ => by
  rw [List.map_cons, wide_cons, wide_cons, List.length_drop]
  have ha := h a (List.mem_cons_self ..)
  by_cases hr : r = []
  ·subst hr; simp [wideP]; omega
  ·have := wide_drop n r (fun c hc => h c (List.mem_cons_of_mem _ hc)) hr; omega
theorem line_len {m : List (List (List Nt))} (hm : Vm m) {fr k : Nat} (hk : fr + k <= manyP m) : (lineP m fr k).ls.length = m.length := (sok_line hm k hk).l1
theorem m_ne {m : List (List (List Nt))} (hm : Vm m) : m ≠ [] := by
 intro e; subst e; rcases hm.hands with h | h <;> cases h
theorem rows_zero {m : List (List (List Nt))} (hm : Vm m) (fr : Nat) : rowsP m fr 0 = List.replicate m.length [] := by
 simp only [rowsP, lineP, firstP]
 rcases hm.hands with h | h
 ·rw [h]; rfl
 ·rw [h]; rfl
theorem rows_one {m : List (List (List Nt))} (hm : Vm m) {fr : Nat} (hk : fr < manyP m) : rowsP m fr 1 = m.map fun h => cellsP (h.getD fr []) (-1) := by
 have h0 := rows_zero hm fr
 rw [rowsP, line_add fun h hh => by have := hm.bars h hh; omega]
 apply List.ext_getElem
 ·have := line_len hm (fr := fr) (k := 0) (by omega); simp [this]
 ·intro i h1 h2
  have hi : i < (lineP m fr 0).ls.length := by simp at h1; omega
  have hge := rows_ge hm (fr := fr) 0 (by omega) _ (List.getElem_mem hi)
  have e : (lineP m fr 0).ls[i].drop (m.length - 1) = [] := by
   have : (rowsP m fr 0)[i]'(by simpa [rowsP] using hi) = [] := by simp [h0]
   simpa [rowsP] using this
  simp only [List.getElem_map, List.getElem_zipWith, padC, Nat.lt_irrefl, if_false, Nat.add_zero]
  rw [List.drop_append_of_le_length hge, e, List.nil_append]
  rfl
theorem rows_succ {m : List (List (List Nt))} (hm : Vm m) {fr k : Nat} (h1 : 1 <= k) (hk : fr + k < manyP m) : rowsP m fr (k + 1) = extL (rowsP m fr k) (m.map fun h => cellsP (h.getD (fr + k) []) (segL (cutH fr k h) (-1))) := by
 have hl := line_len hm (fr := fr) (k := k) (by omega)
 have hw : wideP (rowsP m fr k) 0 + (m.length - 1) = wideP (lineP m fr k).ls 0 := wide_drop _ _ (rows_ge hm k (by omega)) (by intro e; rw [e] at hl; exact m_ne hm (List.length_eq_zero_iff.1 hl.symm))
 rw [rowsP, line_add fun h hh => by have := hm.bars h hh; omega]
 apply List.ext_getElem
 ·simp [extL, rowsP]
 ·intro i h1' h2'
  have hi : i < (lineP m fr k).ls.length := by simp at h1'; omega
  have hge := rows_ge hm (fr := fr) k (by omega) _ (List.getElem_mem hi)
  simp only [extL, List.getElem_map, List.getElem_zipWith, padC, if_pos (show 0 < k by omega), extR, rowsP]
  have e : wideP (List.map (List.drop (m.length - 1)) (lineP m fr k).ls) 0 - ((lineP m fr k).ls[i].drop (m.length - 1)).length = wideP (lineP m fr k).ls 0 - (lineP m fr k).ls[i].length := by
   rw [List.length_drop, <- hw]; unfold rowsP; omega
  rw [e, List.append_assoc, List.append_assoc, List.drop_append_of_le_length hge]
  simp only [List.append_assoc]
theorem cells_ne {l : List Nt} {last : Int} (h : ∀ n ∈ l, rightP n = true) (h0 : 0 < l.length) : cellsP l last ≠ [] /\ ∀ v ∈ cellsP l last, v ≠ 0 := by
 refine ⟨fun e => ?_, fun v hv => ?_⟩
 ·have := cells_ge l last; rw [e, List.length_nil] at this; omega
 ·have := cells_cells h v hv; omega
theorem getD_right {m : List (List (List Nt))} (hm : Vm m) {h : List (List Nt)} (hh : h ∈ m) {i : Nat} (hi : i < manyP m) : 0 < (h.getD i []).length /\ ∀ n ∈ h.getD i [], rightP n = true := by
 have hb := hm.bars h hh
 have := hm.notes h hh _ (getD_mem (l := h) (i := i) (by omega))
 exact ⟨this.2.1, this.2.2⟩
theorem bars_rows {m : List (List (List Nt))} (hm : Vm m) {fr : Nat} : ∀ k, 1 <= k -> fr + k <= manyP m -> barsP (rowsP m fr k) = m.map fun h => segC (cutH fr k h) (-1)
 | 0, h, _ => by omega
 | 1, _, hk => by
  rw [rows_one hm (by omega), bars_one (by simpa using m_ne hm)]
  ·rw [List.map_map]
   refine List.map_congr_left fun h hh => ?_
   rw [cutH_succ (by have := hm.bars h hh; omega)]
   rfl
  ·intro x hx
   obtain ⟨h, hh, rfl⟩ := List.mem_map.1 hx
   have := getD_right hm hh (i := fr) (by omega)
   exact cells_ne this.2 this.1
 | k + 2, _, hk => by
  have hl := line_len hm (fr := fr) (k := k + 1) (by omega)
  have hl' : (rowsP m fr (k + 1)).length = m.length := by simpa [rowsP] using hl
  rw [rows_succ hm (by omega) (by omega), bars_ext (by simpa using hl') (by intro e; rw [e] at hl'; exact m_ne hm (List.length_eq_zero_iff.1 hl'.symm)), bars_rows hm (k + 1) (by omega) (by omega)]
  ·rw [List.zipWith_map]
   have : ∀ l : List (List (List Nt)), (∀ h ∈ l, h ∈ m) -> List.zipWith (fun x y => segC (cutH fr (k + 1) x) (-1) ++ [cellsP (y.getD (fr + (k + 1)) []) (segL (cutH fr (k + 1) y) (-1))]) l l = l.map fun h => segC (cutH fr (k + 2) h) (-1) := by
    intro l
    induction l with
    | nil => intro _; rfl
    | cons a l ih =>
     intro h
     rw [List.zipWith_cons_cons, List.map_cons, ih fun x hx => h x (List.mem_cons_of_mem _ hx)]
     rw [cutH_succ (k := k + 1) (by have := hm.bars a (h a (List.mem_cons_self ..)); omega), (segC_snoc _ _ _).1]
   exact this m fun _ h => h
  ·intro x hx
   obtain ⟨h, hh, rfl⟩ := List.mem_map.1 hx
   have := getD_right hm hh (i := fr + (k + 1)) (by omega)
   exact cells_ne this.2 this.1
theorem handGo_seg : ∀ (bs : List (List Nt)) (last : Int) (acc : List (List Nt)), (∀ b ∈ bs, ∀ n ∈ b, rightP n = true) -> (-1 <= last /\ last <= 48) -> handGo (segC bs last) last acc = (acc ++ bs, true)
 | [], _, acc, _, _ => by simp [segC, handGo]
 | b :: r, last, acc, h, hl => by
  have hb := h b (List.mem_cons_self ..)
  rw [segC, handGo, parse_put hb hl]
  simp only
  rw [handGo_seg r (lastP b last) (acc ++ [b]) (fun x hx => h x (List.mem_cons_of_mem _ hx)) (last_rng hb hl)]
  simp
theorem handsGo_seg : ∀ (hs : List (List (List Nt))) (ms : List (List (List Nt))), ms.length = hs.length -> (∀ h ∈ hs, ∀ b ∈ h, ∀ n ∈ b, rightP n = true) -> handsGo (hs.map fun h => segC h (-1)) ms = (List.zipWith (fun x h => x ++ h) ms hs, true)
 | [], [], _, _ => rfl
 | h :: hs, x :: ms, hl, hr => by
  rw [List.map_cons, handsGo, handGo_seg h (-1) x (hr h (List.mem_cons_self ..)) (by omega)]
  rw [if_pos rfl, handsGo_seg hs ms (by simpa using hl) fun a ha => hr a (List.mem_cons_of_mem _ ha)]
  rfl
theorem mem_cutH {fr k : Nat} {h : List (List Nt)} {b : List Nt} (hb : b ∈ cutH fr k h) : b ∈ h := List.mem_of_mem_drop (List.mem_of_mem_take hb)
theorem guess_line {m : List (List (List Nt))} (hm : Vm m) {fr k : Nat} (h1 : 1 <= k) (hk : fr + k <= manyP m) (hw : wideP (lineP m fr k).ls 0 <= 40) (r : List (List (List Int))) (x : List (List (List Nt))) (hx : x.length = m.length) :
 guessGo m.length ((lineP m fr k).ls :: r) x = guessGo m.length r (List.zipWith (fun x h => x ++ h) x (m.map (cutH fr k))) := by
 have hbad : (lineP m fr k).ls.any (badC m.length) = false := by
  rw [List.any_eq_false]
  intro c hc
  have h1 := (wide_mono (lineP m fr k).ls 0).2 c hc
  have h2 := rows_ge hm k hk c hc
  simp [badC]; omega
 have hb := bars_rows hm k h1 hk
 unfold rowsP at hb
 rw [guessGo, hbad, if_neg (by simp), hb]
 have := handsGo_seg (m.map (cutH fr k)) x (by simpa using hx) fun h hh b hbh => by
  obtain ⟨a, ha, rfl⟩ := List.mem_map.1 hh
  exact (hm.notes a ha b (mem_cutH hbh)).2.2
 rw [List.map_map] at this
 rw [show (m.map fun h => segC (cutH fr k h) (-1)) = List.map ((fun h => segC h (-1)) ∘ cutH fr k) m from rfl, this, if_pos rfl]
end Go.Proofs.YtnncijjkbonokaaDoor
namespace Go.Proofs.YtnncijjkbonokaaDoor
open Go.RowKit Dak
def cutsP (m : List (List (List Nt))) (width : Int) : Nat -> Nat -> Nat -> List (Nat × Nat)
 | 0, fr, c => [(fr, c)]
 | k + 1, fr, c => if width < (wideP (lineP m fr (c + 1)).ls 0 : Nat) then (fr, c) :: cutsP m width k (fr + c) 1 else cutsP m width k fr (c + 1)
def pageOf (m : List (List (List Nt))) (l : List (Nat × Nat)) : List (List Int) := (l.map fun q => (lineP m q.1 q.2).ls).flatten
theorem line_one (m : List (List (List Nt))) (i : Nat) : lineP m i 1 = (firstP m.length).add m i := rfl
theorem enc_cuts (m : List (List (List Nt))) (width : Int) : ∀ (k fr c : Nat) (p : List (List Int)), encGo m width k (fr + c) (lineP m fr c) p = p ++ pageOf m (cutsP m width k fr c)
 | 0, fr, c, p => by simp [encGo, cutsP, pageOf]
 | k + 1, fr, c, p => by
  rw [encGo, cutsP]
  show (if width < ((wideP (lineP m fr (c + 1)).ls 0 : Nat) : Int) then _ else _) = _
  split
  ·rw [<- line_one, enc_cuts m width k (fr + c) 1]
   simp [pageOf]
  ·exact enc_cuts m width k fr (c + 1) p
def Chain (a b : Nat) : List (Nat × Nat) -> Prop
 | [] => a = b
 | q :: r => q.1 = a /\ 1 <= q.2 /\ a + q.2 <= b /\ Chain (a + q.2) b r
theorem cuts_chain (m : List (List (List Nt))) (width : Int) : ∀ (k fr c : Nat), 1 <= c \/ (c = 0 /\ 1 <= k /\ ¬ width < (wideP (lineP m fr 1).ls 0 : Nat)) -> Chain fr (fr + c + k) (cutsP m width k fr c)
 | 0, fr, c, h => by
  have : 1 <= c := by omega
  exact ⟨rfl, this, by omega, by simp [Chain]⟩
 | k + 1, fr, c, h => by
  rw [cutsP]
  split
  ·rename_i hw
   have hc : 1 <= c := by
    rcases h with h | ⟨rfl, _, h⟩
    ·exact h
    ·exact absurd hw h
   refine ⟨rfl, hc, by show fr + c <= _; omega, ?_⟩
   have := cuts_chain m width k (fr + c) 1 (.inl (Nat.le_refl _))
   rw [show fr + c + (k + 1) = fr + c + 1 + k by omega]
   exact this
  ·have := cuts_chain m width k fr (c + 1) (.inl (by omega))
   rw [show fr + c + (k + 1) = fr + (c + 1) + k by omega]
   exact this
theorem cuts_fit (m : List (List (List Nt))) (width : Int) (n : Nat) (h1 : ∀ i, i < n -> (wideP (lineP m i 1).ls 0 : Int) <= width) : ∀ (k fr c : Nat), fr + c + k <= n -> (wideP (lineP m fr c).ls 0 : Int) <= width -> ∀ q ∈ cutsP m width k fr c, (wideP (lineP m q.1 q.2).ls 0 : Int) <= width
 | 0, fr, c, _, hw, q, hq => by
  simp only [cutsP, List.mem_cons, List.not_mem_nil, or_false] at hq
  subst hq; exact hw
 | k + 1, fr, c, hn, hw, q, hq => by
  rw [cutsP] at hq
  split at hq
  ·rcases List.mem_cons.1 hq with rfl | hq
   ·exact hw
   ·exact cuts_fit m width n h1 k (fr + c) 1 (by omega) (h1 _ (by omega)) q hq
  ·rename_i hh
   exact cuts_fit m width n h1 k fr (c + 1) (by omega) (by omega) q hq
theorem enc_page {m : List (List (List Nt))} {width : Int} {p : List (List Int)} (h : encP m width = (p, 0)) :
 Vm m /\ 1 <= width /\ width <= 40 /\ ∃ l, l = cutsP m width (manyP m) 0 0 /\ p = pageOf m l /\ Chain 0 (manyP m) l /\ (∀ i, i < manyP m -> (wideP (lineP m i 1).ls 0 : Int) <= width) /\ ∀ q ∈ l, (wideP (lineP m q.1 q.2).ls 0 : Int) <= width := by
 unfold encP at h
 split at h
 ·rename_i hv; simp at h; exact absurd h.2 hv
 ·rename_i hv
  have hm := vm_of (Decidable.not_not.1 hv)
  split at h
  ·cases h
  ·rename_i hw
   split at h
   ·cases h
   ·rename_i ho
    have ho' : ∀ i, i < manyP m -> (wideP (lineP m i 1).ls 0 : Int) <= width := by
     intro i hi
     have := List.any_eq_false.1 (by simpa using ho) i (List.mem_range.2 hi)
     rw [line_one]
     simpa [overP] using this
    have hp := hm.pos
    simp only [Prod.mk.injEq, and_true] at h
    refine ⟨hm, by omega, by omega, _, rfl, ?_, ?_, ho', ?_⟩
    ·have := enc_cuts m width (manyP m) 0 0 []
     rw [List.nil_append] at this
     rw [<- h, <- this]; rfl
    ·have := cuts_chain m width (manyP m) 0 0 (.inr ⟨rfl, hp.1, by have := ho' 0 (by omega); omega⟩)
     rwa [show 0 + 0 + manyP m = manyP m by omega] at this
    ·refine cuts_fit m width (manyP m) ho' (manyP m) 0 0 (by omega) ?_
     have := first_wide m.length
     have : (lineP m 0 0) = firstP m.length := rfl
     rw [this]; omega
theorem page_cons (m : List (List (List Nt))) (q : Nat × Nat) (l : List (Nat × Nat)) : pageOf m (q :: l) = (lineP m q.1 q.2).ls ++ pageOf m l := rfl
theorem chain_le : ∀ {a b : Nat} {l : List (Nat × Nat)}, Chain a b l -> a + l.length <= b
 | a, b, [], h => by simp [Chain] at h; simp; omega
 | a, b, q :: r, h => by
  have := chain_le h.2.2.2
  have := h.2.1
  simp only [List.length_cons]; omega
theorem page_len {m : List (List (List Nt))} (hm : Vm m) : ∀ {a b : Nat} {l : List (Nat × Nat)}, Chain a b l -> b <= manyP m -> (pageOf m l).length = m.length * l.length
 | a, b, [], _, _ => by simp [pageOf]
 | a, b, q :: r, h, hb => by
  have h1 := h.1; have h2 := h.2.2.1
  rw [page_cons, List.length_append, page_len hm h.2.2.2 hb, line_len hm (by omega), List.length_cons, Nat.mul_add]; omega
theorem pieces_cons {n : Nat} (hn : 1 <= n) (s p : List (List Int)) (hs : s.length = n) (hd : p.length % n = 0) : pieces n (s ++ p) = s :: pieces n p := by
 unfold pieces
 have hl : (s ++ p).length / n = p.length / n + 1 := by
  rw [List.length_append, hs, Nat.add_comm, Nat.add_div_right _ hn]
 rw [hl, List.range_succ_eq_map, List.map_cons, List.map_map]
 congr 1
 ·rw [Nat.zero_mul, List.drop_zero, <- hs, List.take_left]
 ·refine List.map_congr_left fun k _ => ?_
  show List.take n (List.drop ((k + 1) * n) (s ++ p)) = _
  rw [Nat.add_mul, Nat.one_mul, Nat.add_comm, <- List.drop_drop, <- hs, List.drop_left]
theorem pieces_page {m : List (List (List Nt))} (hm : Vm m) : ∀ {a b : Nat} {l : List (Nat × Nat)}, Chain a b l -> b <= manyP m -> pieces m.length (pageOf m l) = l.map fun q => (lineP m q.1 q.2).ls
 | a, b, [], _, _ => by simp [pageOf, pieces]
 | a, b, q :: r, h, hb => by
  have h1 := h.1; have h2 := h.2.2.1
  have hn : 1 <= m.length := by rcases hm.hands with h | h <;> omega
  rw [page_cons, pieces_cons hn _ _ (line_len hm (by omega)), pieces_page hm h.2.2.2 hb]; rfl
  rw [page_len hm h.2.2.2 hb]; exact Nat.mul_mod_right _ _
theorem cutH_app {fr a b : Nat} {h : List (List Nt)} : cutH fr a h ++ cutH (fr + a) b h = cutH fr (a + b) h := by
 unfold cutH
 rw [List.take_add, List.drop_drop]
theorem zip_cut (m : List (List (List Nt))) (a b : Nat) : List.zipWith (fun x h => x ++ h) (m.map (cutH 0 a)) (m.map (cutH a b)) = m.map (cutH 0 (a + b)) := by
 induction m with
 | nil => rfl
 | cons h m ih =>
  simp only [List.map_cons, List.zipWith_cons_cons, ih]
  have := cutH_app (fr := 0) (a := a) (b := b) (h := h)
  rw [Nat.zero_add] at this
  rw [this]
theorem guess_lines {m : List (List (List Nt))} (hm : Vm m) {b : Nat} (hb : b <= manyP m) : ∀ {a : Nat} {l : List (Nat × Nat)}, Chain a b l -> (∀ q ∈ l, wideP (lineP m q.1 q.2).ls 0 <= 40) ->
 guessGo m.length (l.map fun q => (lineP m q.1 q.2).ls) (m.map (cutH 0 a)) = (m.map (cutH 0 b), true)
 | a, [], h, _ => by simp only [Chain] at h; subst h; rfl
 | a, q :: r, h, hw => by
  obtain ⟨fr, c⟩ := q
  obtain ⟨h1, h2, h3, h4⟩ := h
  simp only at h1 h2 h3 h4
  subst h1
  rw [List.map_cons, guess_line hm h2 (by show fr + c <= _; omega) (hw (fr, c) (List.mem_cons_self ..)) _ _ (by simp), zip_cut]
  exact guess_lines hm hb h4 fun x hx => hw x (List.mem_cons_of_mem _ hx)
theorem cut_all {m : List (List (List Nt))} (hm : Vm m) : m.map (cutH 0 (manyP m)) = m := by
 conv => rhs; rw [<- List.map_id m]
 refine List.map_congr_left fun h hh => ?_
 unfold cutH
 rw [List.drop_zero, List.take_of_length_le (by have := hm.bars h hh; omega)]; rfl
theorem guess_enc {m : List (List (List Nt))} {width : Int} {p : List (List Int)} (h : encP m width = (p, 0)) : guessP p m.length = (m, true) := by
 have hv : validE m = 0 := by
  unfold encP at h
  split at h
  ·rename_i hv; simp at h; exact absurd h.2 hv
  ·rename_i hv; exact Decidable.not_not.1 hv
 obtain ⟨hm, _, hw40, l, _, hp, hc, _, hfit⟩ := enc_page h
 have hl := page_len hm hc (Nat.le_refl _)
 have hle := chain_le hc
 have hpos := hm.pos
 have hn := hm.hands
 have hl1 : 1 <= l.length := by
  cases l with
  | nil => simp [Chain] at hc; omega
  | cons => simp
 rw [<- hp] at hl
 have hg : guessGo m.length (pieces m.length p) (List.replicate m.length []) = (m, true) := by
  rw [hp, pieces_page hm hc (Nat.le_refl _)]
  have := guess_lines hm (Nat.le_refl _) hc fun q hq => by have := hfit q hq; omega
  rw [cut_all hm] at this
  rw [<- this]
  congr 1
  apply List.ext_getElem (by simp)
  intro i h1 h2
  simp [cutH]
 unfold guessP
 rw [if_neg, hg, if_pos rfl, hv]
 ·rfl
 ·rintro (h0 | h0 | h0)
  ·rcases hn with e | e <;> rw [e] at hl <;> omega
  ·rw [hl, Nat.mul_mod_right] at h0; exact h0 rfl
  ·rcases hn with e | e <;> rw [e] at hl <;> omega
theorem plain60 : plainP 60 = none := by decide
theorem parse60 (x : List Int) (last : Int) : parseP (60 :: x) last = none := by
 have hn : noteAt (60 :: x) 0 last = none := by
  have h1 : tookB (fun y => decide (y = 33)) (60 :: x) 0 = false := rfl
  have h2 : tookN (fun y => decide (y = 34)) (60 :: x) 0 = 0 := rfl
  have h3 : altI (60 :: x) 0 = 0 := by rw [altI, h1, if_neg (by simp), h2]
  have h4 : tookN isOct (60 :: x) 0 = 0 := by
   have : isOct 60 = false := by decide
   rw [tookN, tookB]; simp [this]
  have h5 : tookN (fun y => decide (y = 3)) (60 :: x) 0 = 0 := rfl
  have h6 : plainAt (60 :: x) 0 = none := by rw [plainAt]; simp [plain60]
  rw [noteAt, h3, h4, h5, h6]
 rw [parseP, List.length_cons, parseGo, if_neg (by simp), hn]
theorem handGo_60 (x : List Int) (r : List (List Int)) (last : Int) (acc : List (List Nt)) : (handGo ((60 :: x) :: r) last acc).2 = false := by
 rw [handGo, parse60]
theorem barsGo_keep (l : List (List Int)) (h1 : l.length = 1) : ∀ (f x fr : Nat) (o : List (List Int)), ∃ t, barsGo l f x fr [o] = [o ++ t]
 | 0, _, _, o => ⟨[], by simp [barsGo]⟩
 | f + 1, x, fr, o => by
  rw [barsGo]
  split
  ·exact barsGo_keep l h1 f _ _ o
  ·obtain ⟨c, rfl⟩ := one_of h1
   obtain ⟨t, ht⟩ := barsGo_keep [c] h1 f (x + 1) (x + 1) (o ++ [trimP (cutP c fr x)])
   refine ⟨[trimP (cutP c fr x)] ++ t, ?_⟩
   rw [<- List.append_assoc, <- ht]; rfl
theorem trim_head (v : Int) (hv : v ≠ 0) (y : List Int) : ∃ z, trimP (v :: y) = v :: z := by
 unfold trimP
 have : ∀ n, 1 <= trimN (v :: y) (n + 1) := by
  intro n
  induction n with
  | zero => rw [trimN]; simp [hv]
  | succ n ih => rw [trimN]; split
                 ·exact ih
                 ·omega
 obtain ⟨k, hk⟩ : ∃ k, trimN (v :: y) (v :: y).length = k + 1 := ⟨trimN (v :: y) (v :: y).length - 1, by have := this y.length; rw [List.length_cons]; omega⟩
 rw [hk, List.take_succ_cons]
 exact ⟨_, rfl⟩
theorem bars60 (x : List Int) : ∀ (f k : Nat), k + 1 + f = x.length + 1 -> ∃ z t, barsGo [60 :: x] (f + 1) (k + 1) 0 [[]] = [(60 :: z) :: t]
 | 0, k, h => by
  have hw : [60 :: x].any (filledAt (k + 1)) = false := none_at (by simp [wideP]; omega)
  rw [barsGo, hw, if_neg (by simp)]
  have hc : cutP (60 :: x) 0 (k + 1) = 60 :: x := by
   unfold cutP
   rw [List.take_of_length_le (by simp; omega)]; simp
  obtain ⟨z, hz⟩ := trim_head 60 (by decide) x
  have : barsAdd [60 :: x] 0 (k + 1) [[]] = [[60 :: z]] := by simp [barsAdd, hc, hz]
  rw [this]
  obtain ⟨t, ht⟩ := barsGo_keep [60 :: x] rfl 0 (k + 1 + 1) (k + 1 + 1) [60 :: z]
  exact ⟨z, t, by rw [ht]; rfl⟩
 | f + 1, k, h => by
  rw [barsGo]
  split
  ·exact bars60 x f (k + 1) (by omega)
  ·have hc : ∃ y, cutP (60 :: x) 0 (k + 1) = 60 :: y := by
    unfold cutP
    refine ⟨x.take (min (k + 1) (60 :: x).length - 1), ?_⟩
    have : min (k + 1) (60 :: x).length = (min (k + 1) (60 :: x).length - 1) + 1 := by simp
    rw [this, List.take_succ_cons]; simp
   obtain ⟨y, hy⟩ := hc
   obtain ⟨z, hz⟩ := trim_head 60 (by decide) y
   have : barsAdd [60 :: x] 0 (k + 1) [[]] = [[60 :: z]] := by simp [barsAdd, hy, hz]
   rw [this]
   obtain ⟨t, ht⟩ := barsGo_keep [60 :: x] rfl (f + 1) (k + 1 + 1) (k + 1 + 1) [60 :: z]
   exact ⟨z, t, by rw [ht]; rfl⟩
theorem barsP60 (x : List Int) : ∃ z t, barsP [60 :: x] = [(60 :: z) :: t] := by
 unfold barsP
 have hw : wideP [60 :: x] 0 = x.length + 1 := by simp [wideP]
 have hf : [60 :: x].any (filledAt 0) = true := by simp [filledAt]
 rw [hw, barsGo, if_pos hf]
 exact bars60 x x.length 0 (by omega)
theorem guess_not1 (c : List Int) (r : List (List Int)) (x : List Int) (hc : c = 60 :: x) : (guessP (c :: r) 1).2 = false := by
 unfold guessP
 split
 ·rfl
 ·have hp : ∃ rest, pieces 1 (c :: r) = [c] :: rest := by
   refine ⟨pieces 1 r, ?_⟩
   have := pieces_cons (n := 1) (Nat.le_refl _) [c] r rfl (Nat.mod_one _)
   exact this
  obtain ⟨rest, hp⟩ := hp
  have : (guessGo 1 (pieces 1 (c :: r)) (List.replicate 1 [])).2 = false := by
   rw [hp, guessGo]
   split
   ·rfl
   ·obtain ⟨z, t, hb⟩ := barsP60 x
    have e : barsP (List.map (List.drop (1 - 1)) [c]) = [(60 :: z) :: t] := by
     rw [hc]; simpa using hb
    have h2 : (handsGo [(60 :: z) :: t] (List.replicate 1 [])).2 = false := by
     show (handsGo [(60 :: z) :: t] [[]]).2 = false
     rw [handsGo, handGo_60, if_neg (by simp)]
    rw [e, h2, if_neg (by simp)]
  rw [this, if_neg (by simp)]
theorem line_head2 {m : List (List (List Nt))} (hm : Vm m) (h2 : m.length = 2) {fr : Nat} : ∀ k, fr + k <= manyP m -> ∃ x y, (lineP m fr k).ls = [60 :: x, 28 :: y]
 | 0, _ => ⟨[], [], by simp [lineP, firstP, h2]⟩
 | k + 1, hk => by
  obtain ⟨x, y, e⟩ := line_head2 (fr := fr) hm h2 k (by omega)
  obtain ⟨a, b, rfl⟩ := two_of h2
  rw [line_add (m := [a, b]) (fr := fr) (k := k) (fun h hh => by have := hm.bars h hh; omega), e]
  simp only [List.map_cons, List.map_nil, List.zipWith_cons_cons, List.zipWith_nil_left, padC]
  split <;> exact ⟨_, _, rfl⟩
theorem fits_self {m : List (List (List Nt))} {width : Int} {p : List (List Int)} (h : encP m width = (p, 0)) : fitsW p (m, true) = true := by
 obtain ⟨_, h1, h40, _⟩ := enc_page h
 simp only [fitsW, Bool.true_and, List.any_eq_true]
 refine ⟨(width - 1).toNat, List.mem_range.2 (by omega), ?_⟩
 have : (((width - 1).toNat + 1 : Nat) : Int) = width := by omega
 rw [this]
 simp [fitsP, h]
theorem read_enc {m : List (List (List Nt))} {width : Int} {p : List (List Int)} (h : encP m width = (p, 0)) : readP p = (m, 0) := by
 have hg := guess_enc h
 have hf := fits_self h
 obtain ⟨hm, _, _, l, _, hp, hc, _⟩ := enc_page h
 unfold readP
 rcases hm.hands with e | e
 ·rw [e] at hg
  rw [hg, if_pos hf]
 ·rw [e] at hg
  have hno : fitsW p (guessP p 1) = false := by
   have : (guessP p 1).2 = false := by
    cases l with
    | nil => have := hm.pos; simp [Chain] at hc; omega
    | cons q r =>
     obtain ⟨x, y, ex⟩ := line_head2 hm e q.2 (fr := q.1) (by have := hc.1; have := hc.2.2.1; omega)
     rw [page_cons, ex] at hp
     rw [hp]
     exact guess_not1 _ _ x rfl
   simp [fitsW, this]
  rw [hno, if_neg (by simp), hg, if_pos hf]
end Go.Proofs.YtnncijjkbonokaaDoor
namespace Go.Proofs.YtnncijjkbonokaaDoor
open Dak
def c4 : CCode :=
 (.seq (.region [oo 10 (.mov (.const (.bool false)))])
 (.seq (.region [vv 22 0, oo 23 (.call (.func 10) [(T 22)]), oo 11 (.alloc 25 (.agg [(.val (.slice none 0 0))])), nn (.store 1 (T 11) (T 23))])
 (.seq (.drawn [oo 24 (.load true 1 (T 11)), oo 25 (.load true 1 (T 11)), vv 26 1, vv 27 2, vv 28 3] [(oo 29 (.call (.func 11) [(T 25), (T 26), (T 27), (T 28)]), [oo 24 (.load true 1 (T 11))]), (oo 30 (.bslice 25 1 [(T 24), (T 29)]), []), (vv 12 30, [])])
 (.seq (.region [vv 31 4, oo 32 (.call (.func 12) [(T 31), (kk 40)]), oo 33 (.ibin .add (kk 1) (T 32)), vv 34 4, oo 35 (.bslice 3 1 [(T 33), (kk 40), (T 34)]), vv 13 35])
 (.seq (.seq (.region [oo 14 (.mov (kk 0))])
 (.block 0 (.loop
 (.seq (.seq (.region [vv 36 14, oo 37 (.ibin .lss (T 36) (kk 2))])
 (.cond (T 37)
 .skip
 (.exit 0)))
 (.seq (.block 1 (.seq (.region [oo 15 (.mov (kk 0))])
 (.block 2 (.loop
 (.seq (.seq (.region [vv 40 15, oo 41 (.ibin .lss (T 40) (kk 3))])
 (.cond (T 41)
 .skip
 (.exit 2)))
 (.seq (.block 3 (.seq (.drawn [vv 45 12, vv 46 14, oo 47 (.idxS 1 (T 45) (T 46)), oo 48 (.load true 1 (T 47)), vv 49 13, vv 50 15, oo 51 (.idxS 1 (T 49) (T 50)), oo 52 (.load false 1 (T 51))] [(oo 53 (.call (.func 17) [(T 48), (T 52)]), []), (vv 44 53, []), (oo 54 (.extract (T 44) 0), []), (oo 55 (.extract (T 44) 1), []), (vv 16 54, []), (vv 17 55, [])])
 (.seq (.drawn [vv 57 12, vv 58 14, oo 59 (.idxS 1 (T 57) (T 58)), oo 60 (.load true 1 (T 59)), vv 61 13, vv 62 15, oo 63 (.idxS 1 (T 61) (T 62)), oo 64 (.load false 1 (T 63))] [(oo 65 (.call (.func 18) [(T 60), (T 64)]), []), (vv 56 65, []), (oo 66 (.extract (T 56) 0), []), (oo 67 (.extract (T 56) 1), []), (vv 18 66, []), (vv 19 67, [])])
 (.seq (.seq (.region [vv 68 17, vv 69 19, oo 70 (.ibin .neq (T 68) (T 69)), vv 71 70, vf 72 71 16, vf 73 71 18, gf 74 71 (.call (.func 19) [(T 72), (T 73)]), gf 75 71 (.lnot (T 74)), oo 76 (.pick (T 71) (.const (.bool true)) (T 75))])
 (.cond (T 76)
 (.seq (.region [oo 10 (.mov (.const (.bool false)))])
 .ret)
 .skip))
 (.seq (.seq (.region [vv 77 17, oo 78 (.ibin .neq (T 77) (kk 0))])
 (.cond (T 78)
 (.exit 3)
 .skip))
 (.seq (.region [vv 80 16, oo 81 (.call (.func 20) [(T 80)]), vv 79 81, oo 82 (.extract (T 79) 0), oo 83 (.extract (T 79) 1), oo 20 (.alloc 25 (.agg [(.val (.slice none 0 0))])), nn (.store 1 (T 20) (T 82)), vv 21 83])
 (.seq (.drawn [vv 84 21, oo 85 (.ibin .neq (T 84) (kk 0)), vv 86 85, gf 87 86 (.load true 1 (T 20)), vf 88 86 12, vf 89 86 14, gf 90 86 (.idxS 1 (T 88) (T 89)), gf 91 86 (.load true 1 (T 90))] [(gf 92 86 (.call (.func 21) [(T 87), (T 91)]), []), (gf 93 86 (.lnot (T 92)), []), (oo 94 (.pick (T 86) (.const (.bool true)) (T 93)), [])])
 (.cond (T 94)
 (.seq (.region [oo 10 (.mov (.const (.bool false)))])
 .ret)
 .skip))))))))
 (.region [vv 42 15, oo 43 (.ibin .add (T 42) (kk 1)), vv 15 43])))))))
 (.region [vv 38 14, oo 39 (.ibin .add (T 38) (kk 1)), vv 14 39]))))))
 (.seq (.region [oo 95 (.call (.func 16) []), vv 10 95])
 .ret))))))
theorem f4 : fnC Tryd.prog 4 = some (c4, 96, [(.tmp 10)]) := by kernel_rfl
def c5 : CCode :=
 (.seq (.region [oo 12 (.mov (.const (.bool false)))])
 (.seq (.region [vv 25 0, oo 26 (.call (.func 10) [(T 25)]), vv 27 1, oo 28 (.call (.func 12) [(T 27), (kk 31)]), oo 29 (.ibin .add (kk 10) (T 28)), oo 30 (.call (.func 18) [(T 26), (T 29)]), vv 24 30, oo 31 (.extract (T 24) 0), oo 32 (.extract (T 24) 1), vv 13 31, vv 14 32])
 (.seq (.region [vv 33 13, vv 34 2, vv 35 3, vv 36 4, oo 37 (.call (.func 22) [(T 33), (T 34), (T 35), (T 36)]), vv 15 37])
 (.seq (.region [oo 16 (.mov (.const (.slice none 0 0)))])
 (.seq (.seq (.region [oo 17 (.mov (kk 0))])
 (.block 0 (.loop
 (.seq (.seq (.region [vv 38 17, vv 39 5, oo 40 (.len (T 39)), oo 41 (.ibin .lss (T 38) (T 40)), vv 42 41, vt 43 42 17, gt 44 42 (.ibin .lss (T 43) (kk 4)), oo 45 (.pick (T 42) (T 44) (.const (.bool false)))])
 (.cond (T 45)
 .skip
 (.exit 0)))
 (.seq (.block 1 (.region [vv 48 16, vv 49 5, vv 50 17, oo 51 (.idxS 1 (T 49) (T 50)), oo 52 (.load false 1 (T 51)), oo 53 (.call (.func 23) [(T 52), (kk 12)]), oo 54 (.bslice 30 1 [(T 53)]), oo 55 (.append 30 1 24 (T 48) (T 54)), vv 16 55]))
 (.region [vv 46 17, oo 47 (.ibin .add (T 46) (kk 1)), vv 17 47]))))))
 (.seq (.region [vv 56 13, vv 57 15, vv 58 15, vv 59 4, vv 60 3, oo 61 (.ibin .quo (T 60) (kk 5)), vv 62 2, oo 63 (.call (.func 22) [(T 58), (T 59), (T 61), (T 62)]), vv 64 16, oo 65 (.bslice 40 1 [(T 56), (T 57), (T 63), (T 64), (.const (.slice none 0 0))]), vv 18 65])
 (.seq (.seq (.region [oo 19 (.mov (kk 0))])
 (.block 2 (.loop
 (.seq (.seq (.region [vv 66 19, vv 67 18, oo 68 (.len (T 67)), oo 69 (.ibin .lss (T 66) (T 68))])
 (.cond (T 69)
 .skip
 (.exit 2)))
 (.seq (.block 3 (.seq (.region [vv 73 18, vv 74 19, oo 75 (.idxS 1 (T 73) (T 74)), oo 76 (.load false 1 (T 75)), oo 77 (.call (.func 20) [(T 76)]), vv 72 77, oo 78 (.extract (T 72) 0), oo 79 (.extract (T 72) 1), oo 20 (.alloc 25 (.agg [(.val (.slice none 0 0))])), nn (.store 1 (T 20) (T 78)), vv 21 79])
 (.seq (.region [vv 81 18, vv 82 19, oo 83 (.idxS 1 (T 81) (T 82)), oo 84 (.load false 1 (T 83)), oo 85 (.call (.func 24) [(T 84)]), vv 80 85, oo 86 (.extract (T 80) 0), oo 87 (.extract (T 80) 1), oo 22 (.alloc 25 (.agg [(.val (.slice none 0 0))])), nn (.store 1 (T 22) (T 86)), vv 23 87])
 (.seq (.region [vv 88 21, vv 89 23, oo 90 (.ibin .neq (T 88) (T 89)), vv 91 90, gf 92 91 (.load true 1 (T 20)), gf 93 91 (.load true 1 (T 22)), gf 94 91 (.call (.func 21) [(T 92), (T 93)]), gf 95 91 (.lnot (T 94)), oo 96 (.pick (T 91) (.const (.bool true)) (T 95))])
 (.cond (T 96)
 (.seq (.region [oo 12 (.mov (.const (.bool false)))])
 .ret)
 .skip)))))
 (.region [vv 70 19, oo 71 (.ibin .add (T 70) (kk 1)), vv 19 71]))))))
 (.seq (.region [oo 97 (.call (.func 16) []), vv 12 97])
 .ret))))))))
theorem f5 : fnC Tryd.prog 5 = some (c5, 98, [(.tmp 12)]) := by kernel_rfl
end Go.Proofs.YtnncijjkbonokaaDoor
namespace Go.Proofs.YtnncijjkbonokaaDoor
open Go.RowKit Dak
def pageB (p : List (List Int)) (n k : Nat) : Prop := p.length <= n /\ ∀ r ∈ p, r.length <= k
theorem encGo_small {m : List (List (List Nt))} (hm : Vm m) (width : Int) : ∀ (k i : Nat) (s : Sys) (p : List (List Int)), i + k = manyP m -> Sok m s -> wideP s.ls 0 <= 1 + 65 * i -> p.length <= 2 * i -> (∀ r ∈ p, r.length <= 3000) -> pageB (encGo m width k i s p) 70 3000
 | 0, i, s, p, hk, hs, hw, hp, hr => by
  have hp1 := hm.pos
  have hh := hm.hands
  have hl := hs.l1
  refine ⟨by simp only [encGo, List.length_append]; omega, fun r hr' => ?_⟩
  rcases List.mem_append.1 hr' with h | h
  ·exact hr r h
  ·have := (wide_mono s.ls 0).2 r h; omega
 | k + 1, i, s, p, hk, hs, hw, hp, hr => by
  have hp1 := hm.pos
  have hh := hm.hands
  have hl := hs.l1
  have f1 := first_wide m.length
  have sf := sok_first hm
  unfold encGo
  split
  ·have h2 := add_wide hm sf (bar := i) (by omega)
   refine encGo_small hm width k (i + 1) _ _ (by omega) (sok_add hm sf (by omega)) (by omega) (by simp only [List.length_append]; omega) fun r hr' => ?_
   rcases List.mem_append.1 hr' with h | h
   ·exact hr r h
   ·have := (wide_mono s.ls 0).2 r h; omega
  ·have h2 := add_wide hm hs (bar := i) (by omega)
   exact encGo_small hm width k (i + 1) _ _ (by omega) (sok_add hm hs (by omega)) (by omega) (by omega) hr
theorem encP_small (m : List (List (List Nt))) (width : Int) : pageB (encP m width).1 70 3000 := by
 unfold encP
 split
 ·exact ⟨by simp, fun r h => by cases h⟩
 ·rename_i hv
  have hm := vm_of (Decidable.not_not.1 hv)
  split
  ·exact ⟨by simp, fun r h => by cases h⟩
  ·split
   ·exact ⟨by simp, fun r h => by cases h⟩
   ·exact encGo_small hm width _ _ _ _ (by omega) (sok_first hm) (by have := first_wide m.length; omega) (by simp) fun r h => by cases h
end Go.Proofs.YtnncijjkbonokaaDoor
namespace Go.Proofs.YtnncijjkbonokaaDoor
open Go.RowKit Dak
theorem MusicEncodes_s (l : List Int) (a h b w : Int) (hl : ∀ x ∈ l, I64 x) (ha : I64 a) (hh : I64 h) (hb : I64 b) (hw : I64 w) : Ctr Tryd.prog 4 [vints l, vi a, vi h, vi b, vi w] (vb true) := by
 refine specC f4 (by simp) fun F0 w0 => ?_
 have b40 : I64 40 := ⟨by decide, by decide⟩
 have g40 := around_bd (n := w) (most := 40) (by omega)
 have w40 : IntKind.i64.wrap (1 + aroundL w 40) = 1 + aroundL w 40 := wrap_id (by omega) (by omega)
 have hm := melP_vm l
 obtain ⟨m, em⟩ : ∃ m, melP l = m := ⟨_, rfl⟩
 rw [em] at hm
 have sm := vm_shp hm
 have sr := bent_shp sm a h b
 have lm := sm.len (by omega) (by omega) (by omega)
 obtain ⟨r, er⟩ : ∃ r, bentP m a h b = r := ⟨_, rfl⟩
 rw [er] at sr
 have lr := sr.len (by omega) (by omega) (by omega)
 obtain ⟨ML, hML⟩ : ∃ ML : List (List (List (List Nt))), [m, r] = ML := ⟨_, rfl⟩
 have lML : ML.length = 2 := by rw [<- hML]; rfl
 have okML : ∀ x ∈ ML, lenM x /\ okM x := fun x hx => by
  rw [<- hML] at hx
  simp only [List.mem_cons, List.not_mem_nil, or_false] at hx
  rcases hx with rfl | rfl
  ·exact ⟨lm.1, lm.2.1⟩
  ·exact ⟨lr.1, lr.2.1⟩
 obtain ⟨st, hst⟩ : ∃ st : List Int, [1 + aroundL w 40, 40, w] = st := ⟨_, rfl⟩
 have lst : st.length = 3 := by rw [<- hst]; rfl
 unfold c4
 refine CwpE.cut (st := ⟨[(0, vints l), (1, vi a), (2, vi h), (3, vi b), (4, vi w)], []⟩) ?_ ?_
 ·simp only [go_sem, ↓reduceIte, Nat.reduceLT, Nat.reduceAdd]
  exact ⟨_, WkE.keep (by simp only [go_sem, ↓reduceIte, reduceCtorEq, Nat.reduceEqDiff]), rfl⟩
 refine CwpE.cut (st := ⟨[(11, .ref 0 1 0 0), (1, vi a), (2, vi h), (3, vi b), (4, vi w)], [.arr 1 1 25 [vmel m]]⟩) ?_ ?_
 ·simp only [go_sem, ↓reduceIte, Nat.reduceLT]
  refine callT (Melody_s l hl) rfl ?_
  rw [em]
  simp only [go_sem, ↓reduceIte, Nat.reduceLT, Nat.reduceEqDiff]
  exact ⟨_, WkE.keep (by simp only [go_sem, ↓reduceIte, reduceCtorEq, Nat.reduceEqDiff]), rfl⟩
 refine CwpE.cut (st := ⟨[(4, vi w), (12, .list 1 (ML.map vmel))], []⟩) ?_ ?_
 ·simp only [go_sem, ↓reduceIte, Nat.reduceLT, Nat.reduceEqDiff]
  refine callT (Bent2_s m a h b ha hh hb lm.2.2 (by have := sm.a; omega)) rfl ?_
  rw [er]
  simp only [go_sem, Nat.reducePow, Nat.reduceLeDiff, ↓reduceIte, reduceCtorEq, Nat.reduceLT, Nat.reduceEqDiff, Nat.reduceAdd, Nat.reduceMul]
  rw [<- hML]
  exact ⟨_, WkE.round (by simp only [go_sem, ↓reduceIte, Nat.reduceEqDiff]) rfl rfl rfl, rfl⟩
 refine CwpE.cut (st := ⟨[(12, .list 1 (ML.map vmel)), (13, vints st)], []⟩) ?_ ?_
 ·simp only [go_sem, ↓reduceIte, Nat.reduceLT]
  refine callT (Around_s w 40 hw b40) rfl ?_
  simp only [go_sem, Nat.reducePow, Nat.reduceLeDiff, ↓reduceIte, reduceCtorEq, Nat.reduceLT, Nat.reduceEqDiff, Nat.reduceAdd, Nat.reduceMul, w40]
  rw [<- hst]
  exact ⟨_, WkE.keep (by simp only [go_sem, ↓reduceIte, Nat.reduceEqDiff]; rfl), rfl⟩
 refine CwpE.seqJ (fun s => s = ⟨[], []⟩) ?_ ?_
 rotate_left
 ·rintro _ rfl
  refine CwpE.vc ?_
  simp only [go_sem]
  refine callT lives_s rfl ?_
  simp only [go_sem, ↓reduceIte, Nat.reduceLT]
  exact .tree _ rfl
 refine CwpE.cut (st := ⟨[(12, .list 1 (ML.map vmel)), (13, vints st), (14, vi (0 : Nat))], []⟩) ?_ ?_
 ·simp only [go_sem, ↓reduceIte, Nat.reduceLT]
  exact ⟨_, WkE.keep (by simp only [go_sem, ↓reduceIte, Nat.reduceEqDiff]; rfl), rfl⟩
 refine CwpE.block ?_
 refine loopX 0 (fun z s => ∃ k : Nat, k + z = 2 /\ s = ⟨[(12, .list 1 (ML.map vmel)), (13, vints st), (14, vi k)], []⟩) (fun s => s = ⟨[], []⟩) 2 _ (.refl _ _) ⟨0, by omega, rfl⟩ ?_ ?_
 rotate_left
 ·rintro s rfl
  simp only [inBlockE, if_true]
  exact ⟨_, .refl _ _, rfl⟩
 rintro z s ⟨k, hk, rfl⟩
 cases z with
 | zero =>
  have k1 : ¬ (k : Int) < 2 := by omega
  simp only [go_sem, ↓reduceIte, Nat.reduceLT, Nat.reduceEqDiff, k1]
  exact ⟨_, WkE.keep (by simp only [go_sem]), rfl⟩
 | succ z =>
  have k1 : (k : Int) < 2 := by omega
  have k2 : (k : Int) < ((2 : Nat) : Int) := by omega
  have k0 : (0 : Int) <= (k : Int) := by omega
  have kw : IntKind.i64.wrap ((k : Int) + 1) = ((k + 1 : Nat) : Int) := by rw [wrap_id (by omega) (by omega)]; omega
  obtain ⟨x, gx⟩ : ∃ x, ML[k]? = some x := ⟨_, List.getElem?_eq_getElem (by omega)⟩
  have ox := okML x (List.mem_of_getElem? gx)
  simp only [go_sem, ↓reduceIte, Nat.reduceLT, Nat.reduceEqDiff, k1]
  refine loopX 2 (fun z s => ∃ j : Nat, j + z = 3 /\ s = ⟨[(12, .list 1 (ML.map vmel)), (13, vints st), (14, vi k), (15, vi j)], []⟩) (fun s => s = ⟨[(12, .list 1 (ML.map vmel)), (13, vints st), (14, vi k)], []⟩) 3 ⟨[(12, .list 1 (ML.map vmel)), (13, vints st), (14, vi k), (15, vi (0 : Nat))], []⟩ (WkE.keep (by simp only [go_sem, ↓reduceIte, Nat.reduceEqDiff]; rfl)) ⟨0, by omega, rfl⟩ ?_ ?_
  rotate_left
  ·rintro s rfl
   simp only [go_sem, ↓reduceIte, Nat.reduceLT, Nat.reduceEqDiff, kw]
   exact ⟨z, ⟨[(12, .list 1 (ML.map vmel)), (13, vints st), (14, vi (k + 1 : Nat))], []⟩, by omega, WkE.keep (by simp only [go_sem, ↓reduceIte, Nat.reduceEqDiff]), k + 1, by omega, rfl⟩
  rintro y s ⟨j, hj, rfl⟩
  cases y with
  | zero =>
   have j1 : ¬ (j : Int) < 3 := by omega
   simp only [go_sem, ↓reduceIte, Nat.reduceLT, Nat.reduceEqDiff, j1]
   exact ⟨_, WkE.keep (by simp only [go_sem, ↓reduceIte, Nat.reduceEqDiff]), rfl⟩
  | succ y =>
   have j1 : (j : Int) < 3 := by omega
   have j2 : (j : Int) < ((3 : Nat) : Int) := by omega
   have j0 : (0 : Int) <= (j : Int) := by omega
   have jw : IntKind.i64.wrap ((j : Int) + 1) = ((j + 1 : Nat) : Int) := by rw [wrap_id (by omega) (by omega)]; omega
   obtain ⟨t, gt⟩ : ∃ t, st[j]? = some t := ⟨_, List.getElem?_eq_getElem (by omega)⟩
   obtain ⟨E, hE⟩ : ∃ E, encP x t = E := ⟨_, rfl⟩
   have sE : pageB E.1 70 3000 := by rw [<- hE]; exact encP_small _ _
   simp only [go_sem, ↓reduceIte, Nat.reduceLT, Nat.reduceEqDiff, k0, j0, j1, List.getElem?_map, gx, gt, Option.map_some]
   refine callT (Encode_s x t ox.1 ox.2) rfl ?_
   rw [hE]
   simp only [go_sem, ↓reduceIte, Nat.reduceLT, Nat.reduceEqDiff, k0, j0, List.getElem?_map, gx, gt, Option.map_some]
   refine callT (refEncode_s x t ox.1) rfl ?_
   rw [hE]
   simp only [go_sem, ↓reduceIte, Nat.reduceLT, Nat.reduceEqDiff]
   refine callT (SamePages_s E.1 E.1 (by have := sE.1; omega) fun q hq => by have := sE.2 q hq; omega) rfl ?_
   rw [show decide (E.1 = E.1) = true from decide_eq_true rfl]
   by_cases e0 : E.2 = 0
   ·have hread : readP E.1 = (x, 0) := by
     refine read_enc (width := t) ?_
     rw [hE]; exact Prod.ext rfl e0
    simp only [go_sem, ↓reduceIte, Nat.reduceLT, Nat.reduceEqDiff, e0]
    refine callT (Read_s E.1 (by have := sE.1; omega) fun q hq => by have := sE.2 q hq; omega) rfl ?_
    rw [hread]
    simp only [go_sem, ↓reduceIte, Nat.reduceLT, Nat.reduceEqDiff, k0, List.getElem?_map, gx, Option.map_some]
    refine callT (refSame_s x x ox.1) rfl ?_
    rw [show decide (x = x) = true from decide_eq_true rfl]
    simp only [go_sem, ↓reduceIte, Nat.reduceLT, Nat.reduceEqDiff, jw]
    exact ⟨y, ⟨[(12, .list 1 (ML.map vmel)), (13, vints st), (14, vi k), (15, vi (j + 1 : Nat))], []⟩, by omega, WkE.round (by simp only [go_sem, ↓reduceIte, Nat.reduceEqDiff]) rfl rfl rfl, j + 1, by omega, rfl⟩
   ·simp only [go_sem, ↓reduceIte, Nat.reduceLT, Nat.reduceEqDiff, e0, jw]
    exact ⟨y, ⟨[(12, .list 1 (ML.map vmel)), (13, vints st), (14, vi k), (15, vi (j + 1 : Nat))], []⟩, by omega, WkE.keep (by simp only [go_sem, ↓reduceIte, Nat.reduceEqDiff]), j + 1, by omega, rfl⟩
end Go.Proofs.YtnncijjkbonokaaDoor
