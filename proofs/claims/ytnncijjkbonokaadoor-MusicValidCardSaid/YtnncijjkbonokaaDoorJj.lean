/- Lemmas used by Valid. -/
import Derived.Test.YtnncijjkbonokaaDoorJa
import Derived.Test.YtnncijjkbonokaaDoorJb
import Derived.Test.YtnncijjkbonokaaDoorJc
import Derived.Test.YtnncijjkbonokaaDoorJd
import Derived.Test.YtnncijjkbonokaaDoorJe
import Derived.Test.YtnncijjkbonokaaDoorJg
import Derived.WalkKit
import Derived.WalkSpells
import Derived.WalkLawsBesides
import Derived.Orders
import Derived.Laws.MakeOwn
import Derived.Deep.AppendSrc
import Derived.Lib.AppendZerosOnto
import Derived.Defers
import Derived.Laws.StructEq
import Derived.Scope
import Derived.Deep.LoopGhost
import Derived.OrdersIn
import Derived.ControlIn
import Derived.Sort.LoopGhostIn
import Derived.RangeFuncLeaves
import Derived.RangeFuncRecord
import Derived.Test.YtnncijjkbonokaaDoorProg
import Derived.RangeFuncFrom
import Derived.RangeFuncBox
import Derived.OwnWalkIn
import Derived.TacticsInMore
import Derived.LoopNIn
import Derived.LoopIn
import Derived.Sort.QuietTacIn
set_option linter.unusedSimpArgs false
set_option linter.unusedVariables false
set_option linter.unusedSectionVars false
set_option maxRecDepth 100000
namespace Dak
open Go Go.RowKit
variable [Globs]
variable {P : Program} {F0 : FD} {w0 : World} {n : Nat} {Q : Exit -> Est -> Prop} {s : Est}
variable {K : Est -> Prop} {rest : List COper} {d : Option Nat} {g : Option (Nat × Bool)}
variable {objs0 : List AObj} {KQ : List (Nat × AV) -> List AObj -> Prop} {env : List (Nat × AV)} {cr : List AObj}
theorem R_bbin {op : BinOp} {x y : Operand} : RstepE P n ⟨d, g, .bbin op x y⟩ K s = optK (step1 s.objs (evE s.env) (.bbin op x y)) n d s.env K := nrfl rfl
attribute [go_sem] R_bbin
end Dak
namespace Go.Proofs.YtnncijjkbonokaaDoor
open Dak
def c30 : CCode :=
 (.seq (.region [oo 1 (.box 25 (T 0)), oo 2 (.mov (.const (.slice none 0 0)))])
 (.seq (.seq (.region [oo 11 (.load true 1 (T 1)), oo 12 (.call (.func 28) [(T 11)]), oo 13 (.ibin .neq (T 12) (kk 0))])
 (.cond (T 13)
 (.seq (.region [oo 2 (.mov (.const (.slice none 0 0)))])
 .ret)
 .skip))
 (.seq (.region [oo 3 (.mov (.const (.slice none 0 0)))])
 (.seq (.seq (.region [oo 14 (.fieldAddr 0 (T 1)), oo 15 (.load false 1 (T 14)), oo 16 (.len (T 15)), oo 17 (.mov (kk 0))])
 (.block 0 (.loop
 (.seq (.region [oo 18 (.ibin .lss (T 17) (T 16))])
 (.seq (.cond (T 18)
 .skip
 (.exit 0))
 (.seq (.block 1 (.seq (.region [vv 19 17, oo 20 (.idxS 1 (T 15) (T 17)), oo 21 (.load false 1 (T 20)), vv 4 19, vv 5 21])
 (.seq (.region [oo 6 (.mov (kk (-1)))])
 (.seq (.region [vv 22 5, oo 23 (.len (T 22)), oo 24 (.mov (kk 0))])
 (.block 2 (.loop
 (.seq (.region [oo 25 (.ibin .lss (T 24) (T 23))])
 (.seq (.cond (T 25)
 .skip
 (.exit 2))
 (.seq (.block 3 (.seq (.region [vv 26 24, oo 27 (.idxS 1 (T 22) (T 24)), oo 28 (.load false 1 (T 27)), vv 7 26, vv 8 28])
 (.seq (.region [vv 29 8, oo 30 (.len (T 29)), oo 31 (.mov (kk 0))])
 (.block 4 (.loop
 (.seq (.region [oo 32 (.ibin .lss (T 31) (T 30))])
 (.seq (.cond (T 32)
 .skip
 (.exit 4))
 (.seq (.block 5 (.seq (.region [vv 33 31, oo 34 (.idxS 3 (T 29) (T 31)), oo 35 (.load true 3 (T 34)), oo 10 (.alloc 64 (.agg [(.val (.int .i64 0)), (.val (.int .i64 0)), (.val (.int .i64 0))])), vv 9 33, nn (.store 3 (T 10) (T 35))])
 (.seq (.seq (.region [oo 36 (.fieldAddr 0 (T 10)), oo 37 (.load false 1 (T 36)), oo 38 (.ibin .lss (T 37) (kk 0))])
 (.cond (T 38)
 (.exit 5)
 .skip))
 (.seq (.seq (.region [oo 39 (.fieldAddr 0 (T 10)), oo 40 (.load false 1 (T 39)), vv 41 6, oo 42 (.call (.func 59) [(T 40), (T 41)])])
 (.cond (T 42)
 (.region [vv 43 3, vv 44 4, vv 45 7, vv 46 9, oo 47 (.build [(.val (.int .i64 0)), (.val (.int .i64 0)), (.val (.int .i64 0))] [(0, (1, (T 44))), (1, (1, (T 45))), (2, (1, (T 46)))]), oo 48 (.bslice 59 3 [(T 47)]), oo 49 (.append 59 3 24 (T 43) (T 48)), vv 3 49])
 .skip))
 (.region [oo 50 (.fieldAddr 0 (T 10)), oo 51 (.load false 1 (T 50)), vv 6 51])))))
 (.region [oo 52 (.ibin .add (T 31) (kk 1)), vv 31 52])))))))))
 (.region [oo 53 (.ibin .add (T 24) (kk 1)), vv 24 53]))))))))))
 (.region [oo 54 (.ibin .add (T 17) (kk 1)), vv 17 54])))))))
 (.seq (.region [vv 55 3, vv 2 55])
 .ret)))))
theorem f30 : fnC Tryd.prog 30 = some (c30, 56, [(.tmp 2)]) := by kernel_rfl
def c31 : CCode :=
 (.seq (.region [oo 1 (.box 25 (T 0)), oo 2 (.mov (.const (.slice none 0 0)))])
 (.seq (.seq (.region [oo 9 (.load true 1 (T 1)), oo 10 (.call (.func 29) [(T 9)]), oo 11 (.ibin .neq (T 10) (kk 0))])
 (.cond (T 11)
 (.seq (.region [oo 2 (.mov (.const (.slice none 0 0)))])
 .ret)
 .skip))
 (.seq (.region [oo 3 (.mov (.const (.slice none 0 0)))])
 (.seq (.seq (.region [oo 4 (.mov (kk 0))])
 (.block 0 (.loop
 (.seq (.seq (.region [vv 12 4, oo 13 (.fieldAddr 0 (T 1)), oo 14 (.load false 1 (T 13)), oo 15 (.len (T 14)), oo 16 (.ibin .lss (T 12) (T 15))])
 (.cond (T 16)
 .skip
 (.exit 0)))
 (.seq (.block 1 (.seq (.region [oo 5 (.mov (kk (-1)))])
 (.seq (.region [oo 6 (.mov (kk 0))])
 (.block 2 (.loop
 (.seq (.seq (.region [vv 19 6, oo 20 (.fieldAddr 0 (T 1)), oo 21 (.load false 1 (T 20)), vv 22 4, oo 23 (.idxS 1 (T 21) (T 22)), oo 24 (.load false 1 (T 23)), oo 25 (.len (T 24)), oo 26 (.ibin .lss (T 19) (T 25))])
 (.cond (T 26)
 .skip
 (.exit 2)))
 (.seq (.block 3 (.seq (.region [oo 29 (.fieldAddr 0 (T 1)), oo 30 (.load false 1 (T 29)), vv 31 4, oo 32 (.idxS 1 (T 30) (T 31)), oo 33 (.load false 1 (T 32)), vv 34 6, oo 35 (.idxS 1 (T 33) (T 34)), oo 36 (.load false 1 (T 35)), vv 7 36])
 (.seq (.region [oo 8 (.mov (kk 0))])
 (.block 4 (.loop
 (.seq (.seq (.region [vv 37 8, vv 38 7, oo 39 (.len (T 38)), oo 40 (.ibin .lss (T 37) (T 39))])
 (.cond (T 40)
 .skip
 (.exit 4)))
 (.seq (.block 5 (.seq (.seq (.region [vv 43 7, vv 44 8, oo 45 (.idxS 3 (T 43) (T 44)), oo 46 (.fieldAddr 0 (T 45)), oo 47 (.load false 1 (T 46)), vv 48 5, oo 49 (.call (.func 60) [(T 47), (T 48)])])
 (.cond (T 49)
 (.region [vv 50 3, vv 51 4, vv 52 6, vv 53 8, oo 54 (.build [(.val (.int .i64 0)), (.val (.int .i64 0)), (.val (.int .i64 0))] [(0, (1, (T 51))), (1, (1, (T 52))), (2, (1, (T 53)))]), oo 55 (.bslice 59 3 [(T 54)]), oo 56 (.append 59 3 24 (T 50) (T 55)), vv 3 56])
 .skip))
 (.seq (.region [vv 57 7, vv 58 8, oo 59 (.idxS 3 (T 57) (T 58)), oo 60 (.fieldAddr 0 (T 59)), oo 61 (.load false 1 (T 60)), oo 62 (.ibin .geq (T 61) (kk 0))])
 (.cond (T 62)
 (.region [vv 63 7, vv 64 8, oo 65 (.idxS 3 (T 63) (T 64)), oo 66 (.fieldAddr 0 (T 65)), oo 67 (.load false 1 (T 66)), vv 5 67])
 .skip))))
 (.region [vv 41 8, oo 42 (.ibin .add (T 41) (kk 1)), vv 8 42]))))))))
 (.region [vv 27 6, oo 28 (.ibin .add (T 27) (kk 1)), vv 6 28]))))))))
 (.region [vv 17 4, oo 18 (.ibin .add (T 17) (kk 1)), vv 4 18]))))))
 (.seq (.region [vv 68 3, vv 2 68])
 .ret)))))
theorem f31 : fnC Tryd.prog 31 = some (c31, 69, [(.tmp 2)]) := by kernel_rfl
def c32 : CCode :=
 (.seq (.region [oo 2 (.box 25 (T 0)), oo 3 (.box 25 (T 1)), oo 4 (.mov (.const (.bool false)))])
 (.seq (.region [oo 5 (.fieldAddr 0 (T 2)), oo 6 (.load false 1 (T 5)), oo 7 (.fieldAddr 0 (T 3)), oo 8 (.load false 1 (T 7)), oo 9 (.call (.func 61) [(T 6), (T 8), (.func 62)]), vv 4 9])
 .ret))
theorem f32 : fnC Tryd.prog 32 = some (c32, 10, [(.tmp 4)]) := by kernel_rfl
end Go.Proofs.YtnncijjkbonokaaDoor
namespace Go.Proofs.YtnncijjkbonokaaDoor
open Dak
def c61 : CCode :=
 (.seq (.region [oo 6 (.mov (.const (.bool false)))])
 (.seq (.seq (.region [vv 10 0, oo 11 (.len (T 10)), vv 12 1, oo 13 (.len (T 12)), oo 14 (.ibin .neq (T 11) (T 13))])
 (.cond (T 14)
 (.seq (.region [oo 6 (.mov (.const (.bool false)))])
 .ret)
 .skip))
 (.seq (.seq (.region [vv 15 0, oo 16 (.len (T 15)), oo 17 (.mov (kk 0))])
 (.block 0 (.loop
 (.seq (.region [oo 18 (.ibin .lss (T 17) (T 16))])
 (.seq (.cond (T 18)
 .skip
 (.exit 0))
 (.seq (.block 1 (.seq (.region [vv 19 17, oo 20 (.idxS 1 (T 15) (T 17)), oo 21 (.load false 1 (T 20)), vv 7 19, vv 8 21])
 (.seq (.region [vv 22 1, vv 23 7, oo 24 (.idxS 1 (T 22) (T 23)), oo 25 (.load false 1 (T 24)), vv 9 25])
 (.seq (.region [vv 26 2, vv 27 8, vv 28 9, oo 29 (.call (T 26) [(T 27), (T 28)]), oo 30 (.lnot (T 29))])
 (.cond (T 30)
 (.seq (.region [oo 6 (.mov (.const (.bool false)))])
 .ret)
 .skip)))))
 (.region [oo 31 (.ibin .add (T 17) (kk 1)), vv 17 31])))))))
 (.seq (.region [oo 6 (.mov (.const (.bool true)))])
 .ret))))
theorem f61 : fnC Tryd.prog 61 = some (c61, 32, [(.tmp 6)]) := by kernel_rfl
def c62 : CCode :=
 (.seq (.region [oo 4 (.mov (.const (.bool false)))])
 (.seq (.region [vv 5 0, vv 6 1, oo 7 (.call (.func 63) [(T 5), (T 6), (.func 64)]), vv 4 7])
 .ret))
theorem f62 : fnC Tryd.prog 62 = some (c62, 8, [(.tmp 4)]) := by kernel_rfl
def c63 : CCode :=
 (.seq (.region [oo 6 (.mov (.const (.bool false)))])
 (.seq (.seq (.region [vv 10 0, oo 11 (.len (T 10)), vv 12 1, oo 13 (.len (T 12)), oo 14 (.ibin .neq (T 11) (T 13))])
 (.cond (T 14)
 (.seq (.region [oo 6 (.mov (.const (.bool false)))])
 .ret)
 .skip))
 (.seq (.seq (.region [vv 15 0, oo 16 (.len (T 15)), oo 17 (.mov (kk 0))])
 (.block 0 (.loop
 (.seq (.region [oo 18 (.ibin .lss (T 17) (T 16))])
 (.seq (.cond (T 18)
 .skip
 (.exit 0))
 (.seq (.block 1 (.seq (.region [vv 19 17, oo 20 (.idxS 1 (T 15) (T 17)), oo 21 (.load false 1 (T 20)), vv 7 19, vv 8 21])
 (.seq (.region [vv 22 1, vv 23 7, oo 24 (.idxS 1 (T 22) (T 23)), oo 25 (.load false 1 (T 24)), vv 9 25])
 (.seq (.region [vv 26 2, vv 27 8, vv 28 9, oo 29 (.call (T 26) [(T 27), (T 28)]), oo 30 (.lnot (T 29))])
 (.cond (T 30)
 (.seq (.region [oo 6 (.mov (.const (.bool false)))])
 .ret)
 .skip)))))
 (.region [oo 31 (.ibin .add (T 17) (kk 1)), vv 17 31])))))))
 (.seq (.region [oo 6 (.mov (.const (.bool true)))])
 .ret))))
theorem f63 : fnC Tryd.prog 63 = some (c63, 32, [(.tmp 6)]) := by kernel_rfl
def c64 : CCode :=
 (.seq (.region [oo 4 (.mov (.const (.bool false)))])
 (.seq (.region [vv 5 0, vv 6 1, oo 7 (.call (.func 65) [(T 5), (T 6)]), vv 4 7])
 .ret))
theorem f64 : fnC Tryd.prog 64 = some (c64, 8, [(.tmp 4)]) := by kernel_rfl
end Go.Proofs.YtnncijjkbonokaaDoor
namespace Go.Proofs.YtnncijjkbonokaaDoor
open Go.RowKit Dak
theorem EqualFunc63_s (g : FuncId) (A B : List (List Nt)) (hA : A.length <= 9223372036854775806) (hg : ∀ x ∈ A, ∀ y ∈ B, Ctr Tryd.prog g [vbar x, vbar y] (vb (decide (x = y)))) : Ctr Tryd.prog 63 [.list 1 (A.map vbar), .list 1 (B.map vbar), .clo (.func g) []] (vb (decide (A = B))) := by
 refine specE f63 (by simp) fun F0 w0 => ?_
 by_cases hl : A.length = B.length
 ·have hl' : (A.length : Int) = (B.length : Int) := by omega
  simp only [c63, go_sem, ↓reduceIte, reduceCtorEq, Nat.reduceLT, Nat.reduceEqDiff, Nat.reduceAdd, hl']
  refine loopX 0 (fun m s => ∃ k : Nat, m = B.length - k /\ k <= B.length /\ A.take k = B.take k /\ s = ⟨[(1, .list 1 (B.map vbar)), (2, .clo (.func g) []), (15, .list 1 (A.map vbar)), (16, vi B.length), (17, vi (k))], []⟩) (fun _ => A = B) B.length ⟨[(1, .list 1 (B.map vbar)), (2, .clo (.func g) []), (15, .list 1 (A.map vbar)), (16, vi B.length), (17, vi (0 : Nat))], []⟩ (WkE.keep (by simp only [go_sem, ↓reduceIte, reduceCtorEq, Nat.reduceEqDiff]; rfl)) ⟨0, by omega, by omega, rfl, rfl⟩ ?_ ?_
  rotate_left
  ·rintro s e
   simp only [go_sem, ↓reduceIte, Nat.reduceLT, e]
   exact .tree _ rfl
  rintro m s ⟨k, rfl, hk, ht, rfl⟩
  by_cases hlt : k < B.length
  ·have hltA : k < A.length := by omega
   have h1 : (k : Int) < (B.length : Int) := by omega
   have h0 : (0 : Int) <= (k : Int) := by omega
   have hw : IntKind.i64.wrap ((k : Int) + 1) = ((k + 1 : Nat) : Int) := by rw [wrap_id (by omega) (by omega)]; omega
   simp only [go_sem, ↓reduceIte, Nat.reduceLT, Nat.reduceEqDiff, h1, h0, List.getElem?_map, List.getElem?_eq_getElem hlt, List.getElem?_eq_getElem hltA]
   refine callT (hg A[k] (List.getElem_mem hltA) B[k] (List.getElem_mem hlt)) rfl ?_
   by_cases he : A[k] = B[k]
   ·simp only [go_sem, ↓reduceIte, Nat.reduceLT, Nat.reduceEqDiff, he, hw]
    exact ⟨B.length - (k + 1), ⟨[(1, .list 1 (B.map vbar)), (2, .clo (.func g) []), (15, .list 1 (A.map vbar)), (16, vi B.length), (17, vi (k + 1 : Nat))], []⟩, by omega, WkE.keep (by simp only [go_sem, ↓reduceIte, Nat.reduceEqDiff]), k + 1, rfl, by omega, takeS_eq ht hltA hlt he, rfl⟩
   ·simp only [go_sem, ↓reduceIte, Nat.reduceLT, he]
    have : decide (A = B) = false := by rw [decide_eq_false_iff_not]; rintro rfl; exact he rfl
    rw [this]; exact .tree _ rfl
  ·have hkB : k = B.length := by omega
   have h1 : ¬ (k : Int) < (B.length : Int) := by omega
   simp only [go_sem, ↓reduceIte, Nat.reduceLT, Nat.reduceEqDiff, h1]
   refine ⟨⟨[], []⟩, WkE.keep trivial, ?_⟩
   rw [hkB, List.take_length, <- hl, List.take_length] at ht
   exact ht
 ·have hl' : ¬ (A.length : Int) = (B.length : Int) := by omega
  simp only [c63, go_sem, ↓reduceIte, reduceCtorEq, Nat.reduceLT, Nat.reduceEqDiff, Nat.reduceAdd, hl']
  have : decide (A = B) = false := by rw [decide_eq_false_iff_not]; rintro rfl; exact hl rfl
  rw [this]; exact .tree _ rfl
theorem EqualFunc61_s (g : FuncId) (A B : List (List (List Nt))) (hA : A.length <= 9223372036854775806) (hg : ∀ x ∈ A, ∀ y ∈ B, Ctr Tryd.prog g [vhand x, vhand y] (vb (decide (x = y)))) : Ctr Tryd.prog 61 [.list 1 (A.map vhand), .list 1 (B.map vhand), .clo (.func g) []] (vb (decide (A = B))) := by
 refine specE f61 (by simp) fun F0 w0 => ?_
 by_cases hl : A.length = B.length
 ·have hl' : (A.length : Int) = (B.length : Int) := by omega
  simp only [c61, go_sem, ↓reduceIte, reduceCtorEq, Nat.reduceLT, Nat.reduceEqDiff, Nat.reduceAdd, hl']
  refine loopX 0 (fun m s => ∃ k : Nat, m = B.length - k /\ k <= B.length /\ A.take k = B.take k /\ s = ⟨[(1, .list 1 (B.map vhand)), (2, .clo (.func g) []), (15, .list 1 (A.map vhand)), (16, vi B.length), (17, vi (k))], []⟩) (fun _ => A = B) B.length ⟨[(1, .list 1 (B.map vhand)), (2, .clo (.func g) []), (15, .list 1 (A.map vhand)), (16, vi B.length), (17, vi (0 : Nat))], []⟩ (WkE.keep (by simp only [go_sem, ↓reduceIte, reduceCtorEq, Nat.reduceEqDiff]; rfl)) ⟨0, by omega, by omega, rfl, rfl⟩ ?_ ?_
  rotate_left
  ·rintro s e
   simp only [go_sem, ↓reduceIte, Nat.reduceLT, e]
   exact .tree _ rfl
  rintro m s ⟨k, rfl, hk, ht, rfl⟩
  by_cases hlt : k < B.length
  ·have hltA : k < A.length := by omega
   have h1 : (k : Int) < (B.length : Int) := by omega
   have h0 : (0 : Int) <= (k : Int) := by omega
   have hw : IntKind.i64.wrap ((k : Int) + 1) = ((k + 1 : Nat) : Int) := by rw [wrap_id (by omega) (by omega)]; omega
   simp only [go_sem, ↓reduceIte, Nat.reduceLT, Nat.reduceEqDiff, h1, h0, List.getElem?_map, List.getElem?_eq_getElem hlt, List.getElem?_eq_getElem hltA]
   refine callT (hg A[k] (List.getElem_mem hltA) B[k] (List.getElem_mem hlt)) rfl ?_
   by_cases he : A[k] = B[k]
   ·simp only [go_sem, ↓reduceIte, Nat.reduceLT, Nat.reduceEqDiff, he, hw]
    exact ⟨B.length - (k + 1), ⟨[(1, .list 1 (B.map vhand)), (2, .clo (.func g) []), (15, .list 1 (A.map vhand)), (16, vi B.length), (17, vi (k + 1 : Nat))], []⟩, by omega, WkE.keep (by simp only [go_sem, ↓reduceIte, Nat.reduceEqDiff]), k + 1, rfl, by omega, takeS_eq ht hltA hlt he, rfl⟩
   ·simp only [go_sem, ↓reduceIte, Nat.reduceLT, he]
    have : decide (A = B) = false := by rw [decide_eq_false_iff_not]; rintro rfl; exact he rfl
    rw [this]; exact .tree _ rfl
  ·have hkB : k = B.length := by omega
   have h1 : ¬ (k : Int) < (B.length : Int) := by omega
   simp only [go_sem, ↓reduceIte, Nat.reduceLT, Nat.reduceEqDiff, h1]
   refine ⟨⟨[], []⟩, WkE.keep trivial, ?_⟩
   rw [hkB, List.take_length, <- hl, List.take_length] at ht
   exact ht
 ·have hl' : ¬ (A.length : Int) = (B.length : Int) := by omega
  simp only [c61, go_sem, ↓reduceIte, reduceCtorEq, Nat.reduceLT, Nat.reduceEqDiff, Nat.reduceAdd, hl']
  have : decide (A = B) = false := by rw [decide_eq_false_iff_not]; rintro rfl; exact hl rfl
  rw [this]; exact .tree _ rfl
theorem Same11_s (A B : List Nt) (hA : A.length <= 9223372036854775806) : Ctr Tryd.prog 64 [vbar A, vbar B] (vb (decide (A = B))) := by
 refine specE f64 (by simp) fun F0 w0 => ?_
 simp only [c64, go_sem, ↓reduceIte, reduceCtorEq, Nat.reduceLT, Nat.reduceEqDiff]
 refine callT (Equal65_s A B hA) rfl ?_
 simp only [go_sem, ↓reduceIte, Nat.reduceLT]
 exact .tree _ rfl
theorem Same1_s (A B : List (List Nt)) (hA : A.length <= 9223372036854775806) (hA2 : ∀ x ∈ A, x.length <= 9223372036854775806) : Ctr Tryd.prog 62 [vhand A, vhand B] (vb (decide (A = B))) := by
 refine specE f62 (by simp) fun F0 w0 => ?_
 simp only [c62, go_sem, ↓reduceIte, reduceCtorEq, Nat.reduceLT, Nat.reduceEqDiff]
 refine callT (EqualFunc63_s 64 A B hA fun x hx y _ => Same11_s x y (hA2 x hx)) rfl ?_
 simp only [go_sem, ↓reduceIte, Nat.reduceLT]
 exact .tree _ rfl
theorem Same_s (A B : List (List (List Nt))) (hA : lenM A) : Ctr Tryd.prog 32 [vmel A, vmel B] (vb (decide (A = B))) := by
 refine specE f32 (by simp) fun F0 w0 => ?_
 simp only [c32, go_sem, ↓reduceIte, reduceCtorEq, Nat.reduceLT, Nat.reduceEqDiff]
 refine callT (EqualFunc61_s 62 A B hA.1 fun x hx y _ => Same1_s x y (hA.2 x hx).1 (hA.2 x hx).2) rfl ?_
 simp only [go_sem, ↓reduceIte, Nat.reduceLT]
 exact .tree _ rfl
end Go.Proofs.YtnncijjkbonokaaDoor
namespace Go.Proofs.YtnncijjkbonokaaDoor
open Go.RowKit Dak
theorem bn_own6 (F0 : FD) (w0 : World) (m : List (List (List Nt))) (a h b : Int) (X : List AV) (E0 : AObj) (E1 : AObj) (hX : ∀ k, 6 <= k -> (X.all (AV.inn k)) = true) (hE0 : ∀ k, 6 <= k -> E0.innO k = true) (hE1 : ∀ k, 6 <= k -> E1.innO k = true) (i : Nat) (hXl : X.length = i) (hd : List (List Nt)) (hi : m[i]? = some hd) (hml : m.length <= 100000) (hhl : hd.length <= 100000) (hbl : ∀ r ∈ hd, r.length <= 100000)
 {Q : Exit -> Est -> Prop} (hQ : ∀ s, WkE 263 s ⟨(10, vi (i + 1 : Nat)) :: bnE a h b, bnO m (i + 1) (X ++ [.own 6 hd.length 0 hd.length]) ++ [E0, E1, .arr hd.length 1 34 (hd.map vbar)]⟩ -> Q .normal s) : CwpE Tryd.prog F0 w0 263 bnH Q ⟨(10, vi i) :: bnE a h b, bnO m i X ++ [E0, E1]⟩ := by
 have hil : i < m.length := (List.getElem?_eq_some_iff.1 hi).1
 have i1 : (i : Int) < (m.length : Int) := by omega
 have i0 : (0 : Int) <= (i : Int) := by omega
 have hw : IntKind.i64.wrap ((i : Int) + 1) = ((i + 1 : Nat) : Int) := by rw [wrap_id (by omega) (by omega)]; omega
 have q2 : (i + 1) * 24 <= 140737488355328 := by omega
 have htk : List.take i X = X := List.take_of_length_le (by omega)
 unfold bnH c11
 refine CwpE.cut (st := ⟨(10, vi i) :: bnE a h b, bnO m i X ++ [E0, E1]⟩) ?_ ?_
 ·simp only [go_sem, ↓reduceIte, Nat.reduceLT, Nat.reduceEqDiff, List.cons_append, List.nil_append, List.length_map, i1]
  exact ⟨_, WkE.keep (by simp only [go_sem, ↓reduceIte, Nat.reduceEqDiff]), rfl⟩
 refine CwpE.seqJ (fun s => s = ⟨(10, vi i) :: bnE a h b, bnO m (i + 1) (X ++ [.own 6 hd.length 0 hd.length]) ++ [E0, E1, .arr hd.length 1 34 (hd.map vbar)]⟩) ?_ ?_
 rotate_left
 ·rintro _ rfl
  refine CwpE.vc ?_
  simp only [go_sem, ↓reduceIte, Nat.reduceLT, List.cons_append, List.nil_append, hw]
  exact hQ _ (WkE.keep (by simp only [go_sem, ↓reduceIte, Nat.reduceEqDiff]))
 refine CwpE.block ?_
 refine CwpE.cut (st := ⟨(11, .own 6 0 0 0) :: (10, vi i) :: bnE a h b, bnO m i X ++ [E0, E1, .arr 0 1 34 []]⟩) ?_ ?_
 ·simp only [go_sem, ↓reduceIte, Nat.reduceLT]
  exact ⟨_, (WkE.nil 11 1 34 (by omega) rfl).trans (WkE.keep (by simp only [go_sem, ↓reduceIte, Nat.reduceEqDiff, Nat.reduceAdd])), rfl⟩
 refine CwpE.seqJ (fun s => s = ⟨(11, .own 6 hd.length 0 hd.length) :: (10, vi i) :: bnE a h b, bnO m i X ++ [E0, E1, .arr hd.length 1 34 (hd.map vbar)]⟩) ?_ ?_
 ·refine CwpE.cut (st := ⟨bnL a h b i 6 0 0, bnO m i X ++ [E0, E1, .arr 0 1 34 []]⟩) ?_ ?_
  ·simp only [go_sem, ↓reduceIte, Nat.reduceLT]
   exact ⟨_, WkE.keep (by simp only [go_sem, ↓reduceIte, Nat.reduceEqDiff]; rfl), rfl⟩
  exact (bn_bars6 F0 w0 m a h b i X (hX 7 (by omega)) E0 E1 (hE0 7 (by omega)) (hE1 7 (by omega)) i hd hi hml hhl hbl (Q := fun e s => e = .normal /\ s = ⟨(11, .own 6 hd.length 0 hd.length) :: (10, vi i) :: bnE a h b, bnO m i X ++ [E0, E1, .arr hd.length 1 34 (hd.map vbar)]⟩) ⟨rfl, rfl⟩).mono fun e s ⟨s', hw, he, hs⟩ => by
   subst he; exact ⟨s', hw, hs⟩
 rintro _ rfl
 have hin : (X.all (AV.inn 7)) = true := hX 7 (by omega)
 have hin2 : ((hd.map vbar).all (AV.inn 7)) = true := inn_map fun _ => rfl
 refine CwpE.vc ?_
 simp only [go_sem, Nat.reducePow, Nat.reduceLeDiff, ↓reduceIte, Nat.reduceLT, Nat.reduceEqDiff, Nat.reduceAdd, Nat.reduceMul, List.cons_append, List.nil_append, q2, htk, hXl]
 refine ⟨_, WkE.round (by simp only [go_sem, ↓reduceIte, Nat.reduceEqDiff]) rfl ?_ rfl, rfl⟩
 have e : (X ++ [AV.own 6 hd.length 0 hd.length]).all (AV.inn 7) = true := by rw [List.all_append, hin]; rfl
 simp only [List.all_cons, List.all_nil, innO_arr, e, hin2, hE0 7 (by omega), hE1 7 (by omega), List.length_cons, List.length_nil, Nat.zero_add, Nat.reduceAdd, Bool.and_self, Bool.and_true]
 rfl
end Go.Proofs.YtnncijjkbonokaaDoor
namespace Go.Proofs.YtnncijjkbonokaaDoor
open Go.RowKit Dak
theorem bn_v30_r (F0 : FD) (w0 : World) (m : List (List (List Nt))) (b : Int) (hb : I64 b) (h0 : List (List Nt)) (h1 : List (List Nt)) (h2 : List (List Nt)) (hbl : h0.length <= 1000000) (hlt : (h0.length : Int) < 30 + aroundL b 5)
 {Q : Exit -> Est -> Prop} (hQ : ∀ s, WkE 263 s ⟨bnU b 0, bnO m 3 [hnV 4 (h0 ++ [[nt20]]), hnV 5 h1, hnV 6 h2] ++ [hnO (h0 ++ [[nt20]]), hnO h1, hnO h2]⟩ -> Q .normal s) : CwpE Tryd.prog F0 w0 263 bnV9 Q ⟨bnU b 0, bnO m 3 [hnV 4 h0, hnV 5 h1, hnV 6 h2] ++ [hnO h0, hnO h1, hnO h2]⟩ := by
 have z0 : ((0 : Nat) : Int) = 0 := rfl
 have z1 : ((1 : Nat) : Int) = 1 := rfl
 have z2 : ((2 : Nat) : Int) = 2 := rfl
 have z3 : ((3 : Nat) : Int) = 3 := rfl
 have g := around_bd (n := b) (most := 5) (by omega)
 have bn : I64 5 := ⟨by decide, by decide⟩
 have wv : IntKind.i64.wrap (30 + aroundL b 5) = 30 + aroundL b 5 := wrap_id (by omega) (by omega)
 have q : (h0.length + 1) * 24 <= 140737488355328 := by omega
 have htk : List.take h0.length (h0.map vbar) = h0.map vbar := List.take_of_length_le (by simp)
 have e1 : hnV 4 (h0 ++ [[nt20]]) = .own 4 (h0.length + 1) 0 (h0.length + 1) := by unfold hnV; rw [List.length_append]; rfl
 have e2 : hnO (h0 ++ [[nt20]]) = .arr (h0.length + 1) 1 34 (h0.map vbar ++ [vbar [nt20]]) := by unfold hnO; rw [List.length_append, List.map_append]; rfl
 rw [e1, e2] at hQ
 unfold bnV9 bnV7 bnS c11
 refine CwpE.vc ?_
 simp only [go_sem, ↓reduceIte, Nat.reduceLT, Nat.reduceEqDiff, Int.reduceToNat, Int.reduceLT, Int.reduceToNat, Int.le_refl, List.cons_append, List.nil_append, z0, z3]
 refine callT (Around_s b 5 hb bn) rfl ?_
 simp only [go_sem, Nat.reducePow, Nat.reduceLeDiff, ↓reduceIte, Nat.reduceLT, Nat.reduceEqDiff, Nat.reduceAdd, Nat.reduceMul, Int.reduceToNat, Int.reduceLT, Int.reduceToNat, Int.le_refl, List.cons_append, List.nil_append, z0, z3, wv, hlt, q, htk]
 exact hQ _ (WkE.keep (by simp only [go_sem, ↓reduceIte, Nat.reduceEqDiff]))
theorem bn_v30_e (F0 : FD) (w0 : World) (m : List (List (List Nt))) (b : Int) (hb : I64 b) (h0 : List (List Nt)) (h1 : List (List Nt)) (h2 : List (List Nt)) (hlt : ¬ (h0.length : Int) < 30 + aroundL b 5)
 {Q : Exit -> Est -> Prop} (hQ : ∀ s, WkE 263 s ⟨bnU b 0, bnO m 3 [hnV 4 h0, hnV 5 h1, hnV 6 h2] ++ [hnO h0, hnO h1, hnO h2]⟩ -> Q (.exit 9) s) : CwpE Tryd.prog F0 w0 263 bnV9 Q ⟨bnU b 0, bnO m 3 [hnV 4 h0, hnV 5 h1, hnV 6 h2] ++ [hnO h0, hnO h1, hnO h2]⟩ := by
 have z0 : ((0 : Nat) : Int) = 0 := rfl
 have z1 : ((1 : Nat) : Int) = 1 := rfl
 have z2 : ((2 : Nat) : Int) = 2 := rfl
 have z3 : ((3 : Nat) : Int) = 3 := rfl
 have g := around_bd (n := b) (most := 5) (by omega)
 have bn : I64 5 := ⟨by decide, by decide⟩
 have wv : IntKind.i64.wrap (30 + aroundL b 5) = 30 + aroundL b 5 := wrap_id (by omega) (by omega)
 unfold bnV9 bnV7 bnS c11
 refine CwpE.vc ?_
 simp only [go_sem, ↓reduceIte, Nat.reduceLT, Nat.reduceEqDiff, Int.reduceToNat, Int.reduceLT, Int.reduceToNat, Int.le_refl, List.cons_append, List.nil_append, z0, z3]
 refine callT (Around_s b 5 hb bn) rfl ?_
 simp only [go_sem, ↓reduceIte, Nat.reduceLT, Nat.reduceEqDiff, Int.reduceToNat, Int.reduceLT, Int.reduceToNat, Int.le_refl, z0, z3, wv, hlt]
 exact hQ _ (WkE.keep (by simp only [go_sem, ↓reduceIte, Nat.reduceEqDiff]))
theorem bn_v30 (F0 : FD) (w0 : World) (m : List (List (List Nt))) (b : Int) (hb : I64 b) (h0 : List (List Nt)) (h1 : List (List Nt)) (h2 : List (List Nt)) (hbl : h0.length <= 100000)
 {Q : Exit -> Est -> Prop} (hQ : ∀ s, WkE 263 s ⟨bnU b 1, bnO m 3 [hnV 4 (growH b h0), hnV 5 h1, hnV 6 h2] ++ [hnO (growH b h0), hnO h1, hnO h2]⟩ -> Q .normal s) : CwpE Tryd.prog F0 w0 263 bnV7 Q ⟨bnU b 0, bnO m 3 [hnV 4 h0, hnV 5 h1, hnV 6 h2] ++ [hnO h0, hnO h1, hnO h2]⟩ := by
 have z0 : ((0 : Nat) : Int) = 0 := rfl
 have z1 : ((1 : Nat) : Int) = 1 := rfl
 have z2 : ((2 : Nat) : Int) = 2 := rfl
 have z3 : ((3 : Nat) : Int) = 3 := rfl
 have g := around_bd (n := b) (most := 5) (by omega)
 have bn : I64 5 := ⟨by decide, by decide⟩
 have wv : IntKind.i64.wrap (30 + aroundL b 5) = 30 + aroundL b 5 := wrap_id (by omega) (by omega)
 have key : CwpE Tryd.prog F0 w0 263 (.block 9 (.loop bnV9)) (fun e s => ∃ s', WkE 263 s s' /\ e = .normal /\ s' = ⟨bnU b 0, bnO m 3 [hnV 4 (growH b h0), hnV 5 h1, hnV 6 h2] ++ [hnO (growH b h0), hnO h1, hnO h2]⟩) ⟨bnU b 0, bnO m 3 [hnV 4 h0, hnV 5 h1, hnV 6 h2] ++ [hnO h0, hnO h1, hnO h2]⟩ := by
  refine CwpE.block ?_
  refine loopXC 9 (fun z s => ∃ t : Nat, t + z = (30 + aroundL b 5).toNat - h0.length /\ s = ⟨bnU b 0, bnO m 3 [hnV 4 (h0 ++ List.replicate t [nt20]), hnV 5 h1, hnV 6 h2] ++ [hnO (h0 ++ List.replicate t [nt20]), hnO h1, hnO h2]⟩)
   (fun s => s = ⟨bnU b 0, bnO m 3 [hnV 4 (growH b h0), hnV 5 h1, hnV 6 h2] ++ [hnO (growH b h0), hnO h1, hnO h2]⟩) ((30 + aroundL b 5).toNat - h0.length) _ (.refl _ _) ⟨0, by omega, by simp⟩ ?_ ?_
  rotate_left
  ·rintro s rfl
   simp only [inBlockE, if_true]
   exact ⟨_, .refl _ _, trivial, rfl⟩
  rintro z s ⟨t, ht, rfl⟩
  cases z with
  | zero =>
   obtain rfl : t = (30 + aroundL b 5).toNat - h0.length := by omega
   refine bn_v30_e F0 w0 m b hb _ h1 h2 (by simp; omega) fun s hs => ?_
   simp only [RoundX, if_true]
   exact ⟨_, hs, rfl⟩
  | succ z =>
   refine bn_v30_r F0 w0 m b hb _ h1 h2 (by simp; omega) (by simp; omega) fun s hs => ⟨z, _, by omega, hs, t + 1, by omega, ?_⟩
   rw [List.append_assoc, <- List.replicate_succ']
 obtain ⟨O, hO⟩ : ∃ O, bnO m 3 [hnV 4 h0, hnV 5 h1, hnV 6 h2] ++ [hnO h0, hnO h1, hnO h2] = O := ⟨_, rfl⟩
 have wi : IntKind.i64.wrap (0 + 1) = 1 := rfl
 unfold bnV7 bnS c11
 refine CwpE.cut (st := ⟨bnU b 0, bnO m 3 [hnV 4 h0, hnV 5 h1, hnV 6 h2] ++ [hnO h0, hnO h1, hnO h2]⟩) ?_ ?_
 ·simp only [go_sem, ↓reduceIte, Nat.reduceLT, Nat.reduceEqDiff, Int.reduceLT, List.cons_append, List.nil_append, z0, z3]
  exact ⟨_, WkE.keep (by simp only [go_sem, ↓reduceIte, Nat.reduceEqDiff]), rfl⟩
 refine CwpE.seqJ (fun s => s = ⟨bnU b 0, bnO m 3 [hnV 4 (growH b h0), hnV 5 h1, hnV 6 h2] ++ [hnO (growH b h0), hnO h1, hnO h2]⟩) ?_ ?_
 ·refine CwpE.block ?_
  refine key.mono ?_
  rintro e s ⟨s', hw, rfl, rfl⟩
  exact ⟨_, hw, rfl⟩
 rintro _ rfl
 refine CwpE.vc ?_
 simp only [go_sem, ↓reduceIte, Nat.reduceLT, Nat.reduceEqDiff, List.cons_append, List.nil_append, z0, wi]
 exact hQ _ (WkE.keep (by simp only [go_sem, ↓reduceIte, Nat.reduceEqDiff]; rfl))
theorem bn_v31_r (F0 : FD) (w0 : World) (m : List (List (List Nt))) (b : Int) (hb : I64 b) (h0 : List (List Nt)) (h1 : List (List Nt)) (h2 : List (List Nt)) (hbl : h1.length <= 1000000) (hlt : (h1.length : Int) < 30 + aroundL b 5)
 {Q : Exit -> Est -> Prop} (hQ : ∀ s, WkE 263 s ⟨bnU b 1, bnO m 3 [hnV 4 h0, hnV 5 (h1 ++ [[nt20]]), hnV 6 h2] ++ [hnO h0, hnO (h1 ++ [[nt20]]), hnO h2]⟩ -> Q .normal s) : CwpE Tryd.prog F0 w0 263 bnV9 Q ⟨bnU b 1, bnO m 3 [hnV 4 h0, hnV 5 h1, hnV 6 h2] ++ [hnO h0, hnO h1, hnO h2]⟩ := by
 have z0 : ((0 : Nat) : Int) = 0 := rfl
 have z1 : ((1 : Nat) : Int) = 1 := rfl
 have z2 : ((2 : Nat) : Int) = 2 := rfl
 have z3 : ((3 : Nat) : Int) = 3 := rfl
 have g := around_bd (n := b) (most := 5) (by omega)
 have bn : I64 5 := ⟨by decide, by decide⟩
 have wv : IntKind.i64.wrap (30 + aroundL b 5) = 30 + aroundL b 5 := wrap_id (by omega) (by omega)
 have q : (h1.length + 1) * 24 <= 140737488355328 := by omega
 have htk : List.take h1.length (h1.map vbar) = h1.map vbar := List.take_of_length_le (by simp)
 have e1 : hnV 5 (h1 ++ [[nt20]]) = .own 5 (h1.length + 1) 0 (h1.length + 1) := by unfold hnV; rw [List.length_append]; rfl
 have e2 : hnO (h1 ++ [[nt20]]) = .arr (h1.length + 1) 1 34 (h1.map vbar ++ [vbar [nt20]]) := by unfold hnO; rw [List.length_append, List.map_append]; rfl
 rw [e1, e2] at hQ
 unfold bnV9 bnV7 bnS c11
 refine CwpE.vc ?_
 simp only [go_sem, ↓reduceIte, Nat.reduceLT, Nat.reduceEqDiff, Int.reduceToNat, Int.reduceLT, Int.reduceLE, Int.reduceToNat, List.cons_append, List.nil_append, z1, z3]
 refine callT (Around_s b 5 hb bn) rfl ?_
 simp only [go_sem, Nat.reducePow, Nat.reduceLeDiff, ↓reduceIte, Nat.reduceLT, Nat.reduceEqDiff, Nat.reduceAdd, Nat.reduceMul, Int.reduceToNat, Int.reduceLT, Int.reduceLE, Int.reduceToNat, List.cons_append, List.nil_append, z1, z3, wv, hlt, q, htk]
 exact hQ _ (WkE.keep (by simp only [go_sem, ↓reduceIte, Nat.reduceEqDiff]))
theorem bn_v31_e (F0 : FD) (w0 : World) (m : List (List (List Nt))) (b : Int) (hb : I64 b) (h0 : List (List Nt)) (h1 : List (List Nt)) (h2 : List (List Nt)) (hlt : ¬ (h1.length : Int) < 30 + aroundL b 5)
 {Q : Exit -> Est -> Prop} (hQ : ∀ s, WkE 263 s ⟨bnU b 1, bnO m 3 [hnV 4 h0, hnV 5 h1, hnV 6 h2] ++ [hnO h0, hnO h1, hnO h2]⟩ -> Q (.exit 9) s) : CwpE Tryd.prog F0 w0 263 bnV9 Q ⟨bnU b 1, bnO m 3 [hnV 4 h0, hnV 5 h1, hnV 6 h2] ++ [hnO h0, hnO h1, hnO h2]⟩ := by
 have z0 : ((0 : Nat) : Int) = 0 := rfl
 have z1 : ((1 : Nat) : Int) = 1 := rfl
 have z2 : ((2 : Nat) : Int) = 2 := rfl
 have z3 : ((3 : Nat) : Int) = 3 := rfl
 have g := around_bd (n := b) (most := 5) (by omega)
 have bn : I64 5 := ⟨by decide, by decide⟩
 have wv : IntKind.i64.wrap (30 + aroundL b 5) = 30 + aroundL b 5 := wrap_id (by omega) (by omega)
 unfold bnV9 bnV7 bnS c11
 refine CwpE.vc ?_
 simp only [go_sem, ↓reduceIte, Nat.reduceLT, Nat.reduceEqDiff, Int.reduceToNat, Int.reduceLT, Int.reduceLE, Int.reduceToNat, List.cons_append, List.nil_append, z1, z3]
 refine callT (Around_s b 5 hb bn) rfl ?_
 simp only [go_sem, ↓reduceIte, Nat.reduceLT, Nat.reduceEqDiff, Int.reduceToNat, Int.reduceLT, Int.reduceLE, Int.reduceToNat, z1, z3, wv, hlt]
 exact hQ _ (WkE.keep (by simp only [go_sem, ↓reduceIte, Nat.reduceEqDiff]))
theorem bn_v31 (F0 : FD) (w0 : World) (m : List (List (List Nt))) (b : Int) (hb : I64 b) (h0 : List (List Nt)) (h1 : List (List Nt)) (h2 : List (List Nt)) (hbl : h1.length <= 100000)
 {Q : Exit -> Est -> Prop} (hQ : ∀ s, WkE 263 s ⟨bnU b 2, bnO m 3 [hnV 4 h0, hnV 5 (growH b h1), hnV 6 h2] ++ [hnO h0, hnO (growH b h1), hnO h2]⟩ -> Q .normal s) : CwpE Tryd.prog F0 w0 263 bnV7 Q ⟨bnU b 1, bnO m 3 [hnV 4 h0, hnV 5 h1, hnV 6 h2] ++ [hnO h0, hnO h1, hnO h2]⟩ := by
 have z0 : ((0 : Nat) : Int) = 0 := rfl
 have z1 : ((1 : Nat) : Int) = 1 := rfl
 have z2 : ((2 : Nat) : Int) = 2 := rfl
 have z3 : ((3 : Nat) : Int) = 3 := rfl
 have g := around_bd (n := b) (most := 5) (by omega)
 have bn : I64 5 := ⟨by decide, by decide⟩
 have wv : IntKind.i64.wrap (30 + aroundL b 5) = 30 + aroundL b 5 := wrap_id (by omega) (by omega)
 have key : CwpE Tryd.prog F0 w0 263 (.block 9 (.loop bnV9)) (fun e s => ∃ s', WkE 263 s s' /\ e = .normal /\ s' = ⟨bnU b 1, bnO m 3 [hnV 4 h0, hnV 5 (growH b h1), hnV 6 h2] ++ [hnO h0, hnO (growH b h1), hnO h2]⟩) ⟨bnU b 1, bnO m 3 [hnV 4 h0, hnV 5 h1, hnV 6 h2] ++ [hnO h0, hnO h1, hnO h2]⟩ := by
  refine CwpE.block ?_
  refine loopXC 9 (fun z s => ∃ t : Nat, t + z = (30 + aroundL b 5).toNat - h1.length /\ s = ⟨bnU b 1, bnO m 3 [hnV 4 h0, hnV 5 (h1 ++ List.replicate t [nt20]), hnV 6 h2] ++ [hnO h0, hnO (h1 ++ List.replicate t [nt20]), hnO h2]⟩)
   (fun s => s = ⟨bnU b 1, bnO m 3 [hnV 4 h0, hnV 5 (growH b h1), hnV 6 h2] ++ [hnO h0, hnO (growH b h1), hnO h2]⟩) ((30 + aroundL b 5).toNat - h1.length) _ (.refl _ _) ⟨0, by omega, by simp⟩ ?_ ?_
  rotate_left
  ·rintro s rfl
   simp only [inBlockE, if_true]
   exact ⟨_, .refl _ _, trivial, rfl⟩
  rintro z s ⟨t, ht, rfl⟩
  cases z with
  | zero =>
   obtain rfl : t = (30 + aroundL b 5).toNat - h1.length := by omega
   refine bn_v31_e F0 w0 m b hb h0 _ h2 (by simp; omega) fun s hs => ?_
   simp only [RoundX, if_true]
   exact ⟨_, hs, rfl⟩
  | succ z =>
   refine bn_v31_r F0 w0 m b hb h0 _ h2 (by simp; omega) (by simp; omega) fun s hs => ⟨z, _, by omega, hs, t + 1, by omega, ?_⟩
   rw [List.append_assoc, <- List.replicate_succ']
 obtain ⟨O, hO⟩ : ∃ O, bnO m 3 [hnV 4 h0, hnV 5 h1, hnV 6 h2] ++ [hnO h0, hnO h1, hnO h2] = O := ⟨_, rfl⟩
 have wi : IntKind.i64.wrap (1 + 1) = 2 := rfl
 unfold bnV7 bnS c11
 refine CwpE.cut (st := ⟨bnU b 1, bnO m 3 [hnV 4 h0, hnV 5 h1, hnV 6 h2] ++ [hnO h0, hnO h1, hnO h2]⟩) ?_ ?_
 ·simp only [go_sem, ↓reduceIte, Nat.reduceLT, Nat.reduceEqDiff, Int.reduceLT, List.cons_append, List.nil_append, z1, z3]
  exact ⟨_, WkE.keep (by simp only [go_sem, ↓reduceIte, Nat.reduceEqDiff]), rfl⟩
 refine CwpE.seqJ (fun s => s = ⟨bnU b 1, bnO m 3 [hnV 4 h0, hnV 5 (growH b h1), hnV 6 h2] ++ [hnO h0, hnO (growH b h1), hnO h2]⟩) ?_ ?_
 ·refine CwpE.block ?_
  refine key.mono ?_
  rintro e s ⟨s', hw, rfl, rfl⟩
  exact ⟨_, hw, rfl⟩
 rintro _ rfl
 refine CwpE.vc ?_
 simp only [go_sem, ↓reduceIte, Nat.reduceLT, Nat.reduceEqDiff, List.cons_append, List.nil_append, z1, wi]
 exact hQ _ (WkE.keep (by simp only [go_sem, ↓reduceIte, Nat.reduceEqDiff]; rfl))
theorem bn_v32_r (F0 : FD) (w0 : World) (m : List (List (List Nt))) (b : Int) (hb : I64 b) (h0 : List (List Nt)) (h1 : List (List Nt)) (h2 : List (List Nt)) (hbl : h2.length <= 1000000) (hlt : (h2.length : Int) < 30 + aroundL b 5)
 {Q : Exit -> Est -> Prop} (hQ : ∀ s, WkE 263 s ⟨bnU b 2, bnO m 3 [hnV 4 h0, hnV 5 h1, hnV 6 (h2 ++ [[nt20]])] ++ [hnO h0, hnO h1, hnO (h2 ++ [[nt20]])]⟩ -> Q .normal s) : CwpE Tryd.prog F0 w0 263 bnV9 Q ⟨bnU b 2, bnO m 3 [hnV 4 h0, hnV 5 h1, hnV 6 h2] ++ [hnO h0, hnO h1, hnO h2]⟩ := by
 have z0 : ((0 : Nat) : Int) = 0 := rfl
 have z1 : ((1 : Nat) : Int) = 1 := rfl
 have z2 : ((2 : Nat) : Int) = 2 := rfl
 have z3 : ((3 : Nat) : Int) = 3 := rfl
 have g := around_bd (n := b) (most := 5) (by omega)
 have bn : I64 5 := ⟨by decide, by decide⟩
 have wv : IntKind.i64.wrap (30 + aroundL b 5) = 30 + aroundL b 5 := wrap_id (by omega) (by omega)
 have q : (h2.length + 1) * 24 <= 140737488355328 := by omega
 have htk : List.take h2.length (h2.map vbar) = h2.map vbar := List.take_of_length_le (by simp)
 have e1 : hnV 6 (h2 ++ [[nt20]]) = .own 6 (h2.length + 1) 0 (h2.length + 1) := by unfold hnV; rw [List.length_append]; rfl
 have e2 : hnO (h2 ++ [[nt20]]) = .arr (h2.length + 1) 1 34 (h2.map vbar ++ [vbar [nt20]]) := by unfold hnO; rw [List.length_append, List.map_append]; rfl
 rw [e1, e2] at hQ
 unfold bnV9 bnV7 bnS c11
 refine CwpE.vc ?_
 simp only [go_sem, ↓reduceIte, Nat.reduceLT, Nat.reduceEqDiff, Int.reduceToNat, Int.reduceLT, Int.reduceLE, Int.reduceToNat, List.cons_append, List.nil_append, z2, z3]
 refine callT (Around_s b 5 hb bn) rfl ?_
 simp only [go_sem, Nat.reducePow, Nat.reduceLeDiff, ↓reduceIte, Nat.reduceLT, Nat.reduceEqDiff, Nat.reduceAdd, Nat.reduceMul, Int.reduceToNat, Int.reduceLT, Int.reduceLE, Int.reduceToNat, List.cons_append, List.nil_append, z2, z3, wv, hlt, q, htk]
 exact hQ _ (WkE.keep (by simp only [go_sem, ↓reduceIte, Nat.reduceEqDiff]))
theorem bn_v32_e (F0 : FD) (w0 : World) (m : List (List (List Nt))) (b : Int) (hb : I64 b) (h0 : List (List Nt)) (h1 : List (List Nt)) (h2 : List (List Nt)) (hlt : ¬ (h2.length : Int) < 30 + aroundL b 5)
 {Q : Exit -> Est -> Prop} (hQ : ∀ s, WkE 263 s ⟨bnU b 2, bnO m 3 [hnV 4 h0, hnV 5 h1, hnV 6 h2] ++ [hnO h0, hnO h1, hnO h2]⟩ -> Q (.exit 9) s) : CwpE Tryd.prog F0 w0 263 bnV9 Q ⟨bnU b 2, bnO m 3 [hnV 4 h0, hnV 5 h1, hnV 6 h2] ++ [hnO h0, hnO h1, hnO h2]⟩ := by
 have z0 : ((0 : Nat) : Int) = 0 := rfl
 have z1 : ((1 : Nat) : Int) = 1 := rfl
 have z2 : ((2 : Nat) : Int) = 2 := rfl
 have z3 : ((3 : Nat) : Int) = 3 := rfl
 have g := around_bd (n := b) (most := 5) (by omega)
 have bn : I64 5 := ⟨by decide, by decide⟩
 have wv : IntKind.i64.wrap (30 + aroundL b 5) = 30 + aroundL b 5 := wrap_id (by omega) (by omega)
 unfold bnV9 bnV7 bnS c11
 refine CwpE.vc ?_
 simp only [go_sem, ↓reduceIte, Nat.reduceLT, Nat.reduceEqDiff, Int.reduceToNat, Int.reduceLT, Int.reduceLE, Int.reduceToNat, List.cons_append, List.nil_append, z2, z3]
 refine callT (Around_s b 5 hb bn) rfl ?_
 simp only [go_sem, ↓reduceIte, Nat.reduceLT, Nat.reduceEqDiff, Int.reduceToNat, Int.reduceLT, Int.reduceLE, Int.reduceToNat, z2, z3, wv, hlt]
 exact hQ _ (WkE.keep (by simp only [go_sem, ↓reduceIte, Nat.reduceEqDiff]))
theorem bn_v32 (F0 : FD) (w0 : World) (m : List (List (List Nt))) (b : Int) (hb : I64 b) (h0 : List (List Nt)) (h1 : List (List Nt)) (h2 : List (List Nt)) (hbl : h2.length <= 100000)
 {Q : Exit -> Est -> Prop} (hQ : ∀ s, WkE 263 s ⟨bnU b 3, bnO m 3 [hnV 4 h0, hnV 5 h1, hnV 6 (growH b h2)] ++ [hnO h0, hnO h1, hnO (growH b h2)]⟩ -> Q .normal s) : CwpE Tryd.prog F0 w0 263 bnV7 Q ⟨bnU b 2, bnO m 3 [hnV 4 h0, hnV 5 h1, hnV 6 h2] ++ [hnO h0, hnO h1, hnO h2]⟩ := by
 have z0 : ((0 : Nat) : Int) = 0 := rfl
 have z1 : ((1 : Nat) : Int) = 1 := rfl
 have z2 : ((2 : Nat) : Int) = 2 := rfl
 have z3 : ((3 : Nat) : Int) = 3 := rfl
 have g := around_bd (n := b) (most := 5) (by omega)
 have bn : I64 5 := ⟨by decide, by decide⟩
 have wv : IntKind.i64.wrap (30 + aroundL b 5) = 30 + aroundL b 5 := wrap_id (by omega) (by omega)
 have key : CwpE Tryd.prog F0 w0 263 (.block 9 (.loop bnV9)) (fun e s => ∃ s', WkE 263 s s' /\ e = .normal /\ s' = ⟨bnU b 2, bnO m 3 [hnV 4 h0, hnV 5 h1, hnV 6 (growH b h2)] ++ [hnO h0, hnO h1, hnO (growH b h2)]⟩) ⟨bnU b 2, bnO m 3 [hnV 4 h0, hnV 5 h1, hnV 6 h2] ++ [hnO h0, hnO h1, hnO h2]⟩ := by
  refine CwpE.block ?_
  refine loopXC 9 (fun z s => ∃ t : Nat, t + z = (30 + aroundL b 5).toNat - h2.length /\ s = ⟨bnU b 2, bnO m 3 [hnV 4 h0, hnV 5 h1, hnV 6 (h2 ++ List.replicate t [nt20])] ++ [hnO h0, hnO h1, hnO (h2 ++ List.replicate t [nt20])]⟩)
   (fun s => s = ⟨bnU b 2, bnO m 3 [hnV 4 h0, hnV 5 h1, hnV 6 (growH b h2)] ++ [hnO h0, hnO h1, hnO (growH b h2)]⟩) ((30 + aroundL b 5).toNat - h2.length) _ (.refl _ _) ⟨0, by omega, by simp⟩ ?_ ?_
  rotate_left
  ·rintro s rfl
   simp only [inBlockE, if_true]
   exact ⟨_, .refl _ _, trivial, rfl⟩
  rintro z s ⟨t, ht, rfl⟩
  cases z with
  | zero =>
   obtain rfl : t = (30 + aroundL b 5).toNat - h2.length := by omega
   refine bn_v32_e F0 w0 m b hb h0 h1 _ (by simp; omega) fun s hs => ?_
   simp only [RoundX, if_true]
   exact ⟨_, hs, rfl⟩
  | succ z =>
   refine bn_v32_r F0 w0 m b hb h0 h1 _ (by simp; omega) (by simp; omega) fun s hs => ⟨z, _, by omega, hs, t + 1, by omega, ?_⟩
   rw [List.append_assoc, <- List.replicate_succ']
 obtain ⟨O, hO⟩ : ∃ O, bnO m 3 [hnV 4 h0, hnV 5 h1, hnV 6 h2] ++ [hnO h0, hnO h1, hnO h2] = O := ⟨_, rfl⟩
 have wi : IntKind.i64.wrap (2 + 1) = 3 := rfl
 unfold bnV7 bnS c11
 refine CwpE.cut (st := ⟨bnU b 2, bnO m 3 [hnV 4 h0, hnV 5 h1, hnV 6 h2] ++ [hnO h0, hnO h1, hnO h2]⟩) ?_ ?_
 ·simp only [go_sem, ↓reduceIte, Nat.reduceLT, Nat.reduceEqDiff, Int.reduceLT, List.cons_append, List.nil_append, z2, z3]
  exact ⟨_, WkE.keep (by simp only [go_sem, ↓reduceIte, Nat.reduceEqDiff]), rfl⟩
 refine CwpE.seqJ (fun s => s = ⟨bnU b 2, bnO m 3 [hnV 4 h0, hnV 5 h1, hnV 6 (growH b h2)] ++ [hnO h0, hnO h1, hnO (growH b h2)]⟩) ?_ ?_
 ·refine CwpE.block ?_
  refine key.mono ?_
  rintro e s ⟨s', hw, rfl, rfl⟩
  exact ⟨_, hw, rfl⟩
 rintro _ rfl
 refine CwpE.vc ?_
 simp only [go_sem, ↓reduceIte, Nat.reduceLT, Nat.reduceEqDiff, List.cons_append, List.nil_append, z2, wi]
 exact hQ _ (WkE.keep (by simp only [go_sem, ↓reduceIte, Nat.reduceEqDiff]; rfl))
end Go.Proofs.YtnncijjkbonokaaDoor
namespace Go.Proofs.YtnncijjkbonokaaDoor
open Go.RowKit Dak
theorem bn_mid30 (F0 : FD) (w0 : World) (m r : List (List (List Nt))) (a h b : Int) (ha : I64 a) (hh : I64 h) (h0 : List (List Nt)) (h1 : List (List Nt)) (h2 : List (List Nt)) (bi : Nat) (b0 : List Nt) (hb0 : h0[bi]? = some b0) (hnl : h0.length <= 100000) (hbl : b0.length <= 100000) (k : Nat)
 (ehi : aroundL a (3 : Nat) = ((0 : Nat) : Int)) (ebi : aroundL (a.tdiv (2 : Nat)) (h0.length : Nat) = (bi : Nat)) (ek : aroundL (a.tdiv (8 : Nat)) ((max b0.length 1 : Nat) : Int) = (k : Nat))
 (hS : CwpE Tryd.prog F0 w0 263 bnS (fun e s => e = .normal /\ ∃ s', WkE 263 s s' /\ s' = ⟨bnZ, bnR m r⟩) ⟨bnW a h b 0 bi k (decide (0 < b0.length)) (aroundL h 9), bnO m 3 [hnV 4 h0, hnV 5 h1, hnV 6 h2] ++ [hnO h0, hnO h1, hnO h2]⟩) :
 CwpE Tryd.prog F0 w0 263 bnM (retE [.cell 8 true 1] (vmel r)) ⟨bnE a h b, bnO m 3 [hnV 4 h0, hnV 5 h1, hnV 6 h2] ++ [hnO h0, hnO h1, hnO h2]⟩ := by
 have hbi : bi < h0.length := (List.getElem?_eq_some_iff.1 hb0).1
 have gB : (h0.map vbar)[bi]? = some (vbar b0) := by rw [List.getElem?_map, hb0]; rfl
 have z0 : ((0 : Nat) : Int) = 0 := rfl
 have z1 : ((1 : Nat) : Int) = 1 := rfl
 have z2 : ((2 : Nat) : Int) = 2 := rfl
 have z3 : ((3 : Nat) : Int) = 3 := rfl
 obtain ⟨q2, w2⟩ := quoI ha 2 (by omega)
 obtain ⟨q8, w8⟩ := quoI ha 8 (by omega)
 have t2 : ((2 : Nat) : Int) = 2 := rfl
 have t8 : ((8 : Nat) : Int) = 8 := rfl
 rw [t2] at ebi q2 w2
 rw [t8] at ek q8 w8
 have n0 : ¬ ((3 : Nat) : Int) = 0 := by omega
 have N0 : ¬ ((h0.length : Nat) : Int) = 0 := by omega
 have i0 : (0 : Int) <= ((0 : Nat) : Int) := by omega
 have i1 : ((0 : Nat) : Int) < ((3 : Nat) : Int) := by omega
 have j0 : (0 : Int) <= (bi : Int) := by omega
 have j1 : (bi : Int) < ((h0.length : Nat) : Int) := by omega
 have L0 : decide ((0 : Int) < ((b0.length : Nat) : Int)) = decide (0 < b0.length) := by congr 1; apply propext; omega
 have bnI : I64 ((3 : Nat) : Int) := ⟨by omega, by omega⟩
 have bNI : I64 ((h0.length : Nat) : Int) := ⟨by omega, by omega⟩
 have bLI : I64 ((max b0.length 1 : Nat) : Int) := ⟨by omega, by omega⟩
 rw [z3] at ehi n0 i1 bnI
 rw [z0] at ehi i0 i1
 unfold bnM c11
 refine CwpE.cut (st := ⟨bnE a h b, bnO m 3 [hnV 4 h0, hnV 5 h1, hnV 6 h2] ++ [hnO h0, hnO h1, hnO h2]⟩) ?_ ?_
 ·simp only [go_sem, ↓reduceIte, Nat.reduceLT, Nat.reduceEqDiff, List.cons_append, List.nil_append, n0, z3]
  exact ⟨_, WkE.keep (by simp only [go_sem, ↓reduceIte, Nat.reduceEqDiff]), rfl⟩
 refine CwpE.cut (st := ⟨(13, vi 0) :: bnE a h b, bnO m 3 [hnV 4 h0, hnV 5 h1, hnV 6 h2] ++ [hnO h0, hnO h1, hnO h2]⟩) ?_ ?_
 ·simp only [go_sem, ↓reduceIte, Nat.reduceLT, Nat.reduceEqDiff, List.cons_append, List.nil_append, z3]
  refine callT (Around_s a 3 ha bnI) rfl ?_
  simp only [go_sem, ↓reduceIte, Nat.reduceLT, ehi]
  exact ⟨_, WkE.keep (by simp only [go_sem, ↓reduceIte, Nat.reduceEqDiff]), rfl⟩
 refine CwpE.cut (st := ⟨(13, vi 0) :: bnE a h b, bnO m 3 [hnV 4 h0, hnV 5 h1, hnV 6 h2] ++ [hnO h0, hnO h1, hnO h2]⟩) ?_ ?_
 ·simp only [go_sem, ↓reduceIte, Nat.reduceLT, Nat.reduceEqDiff, Int.reduceToNat, Int.reduceToNat, List.cons_append, List.nil_append, i0, i1, N0, z3]
  exact ⟨_, WkE.keep (by simp only [go_sem, ↓reduceIte, Nat.reduceEqDiff]), rfl⟩
 refine CwpE.cut (st := ⟨(13, vi 0) :: (14, vi bi) :: bnE a h b, bnO m 3 [hnV 4 h0, hnV 5 h1, hnV 6 h2] ++ [hnO h0, hnO h1, hnO h2]⟩) ?_ ?_
 ·simp only [go_sem, ↓reduceIte, Nat.reduceLT, Nat.reduceEqDiff, Int.reduceToNat, Int.reduceEq, Int.reduceToNat, List.cons_append, List.nil_append, i0, i1, z3, w2]
  refine callT (Around_s (a.tdiv 2) h0.length q2 bNI) rfl ?_
  simp only [go_sem, ↓reduceIte, Nat.reduceLT, ebi]
  exact ⟨_, WkE.keep (by simp only [go_sem, ↓reduceIte, Nat.reduceEqDiff]), rfl⟩
 refine CwpE.cut (st := ⟨(13, vi 0) :: (14, vi bi) :: (15, vi k) :: bnE a h b, bnO m 3 [hnV 4 h0, hnV 5 h1, hnV 6 h2] ++ [hnO h0, hnO h1, hnO h2]⟩) ?_ ?_
 ·simp only [go_sem, ↓reduceIte, Nat.reduceLT, Nat.reduceEqDiff, Int.reduceToNat, Int.reduceEq, Int.reduceToNat, List.cons_append, List.nil_append, i0, i1, j0, j1, List.length_map, gB, z3, w8, maxOne]
  refine callT (Around_s (a.tdiv 8) (max b0.length 1 : Nat) q8 bLI) rfl ?_
  simp only [go_sem, ↓reduceIte, Nat.reduceLT, ek]
  exact ⟨_, WkE.keep (by simp only [go_sem, ↓reduceIte, Nat.reduceEqDiff]), rfl⟩
 refine CwpE.cut (st := ⟨(13, vi 0) :: (14, vi bi) :: (15, vi k) :: (16, vb (decide (0 < b0.length))) :: bnE a h b, bnO m 3 [hnV 4 h0, hnV 5 h1, hnV 6 h2] ++ [hnO h0, hnO h1, hnO h2]⟩) ?_ ?_
 ·simp only [go_sem, ↓reduceIte, Nat.reduceLT, Nat.reduceEqDiff, Int.reduceToNat, Int.reduceToNat, List.cons_append, List.nil_append, i0, i1, j0, j1, List.length_map, gB, z3, L0]
  exact ⟨_, WkE.keep (by simp only [go_sem, ↓reduceIte, Nat.reduceEqDiff]), rfl⟩
 exact bn_m9 F0 w0 m r a h b hh 0 bi k _ _ hS
theorem bn_mid31 (F0 : FD) (w0 : World) (m r : List (List (List Nt))) (a h b : Int) (ha : I64 a) (hh : I64 h) (h0 : List (List Nt)) (h1 : List (List Nt)) (h2 : List (List Nt)) (bi : Nat) (b0 : List Nt) (hb0 : h1[bi]? = some b0) (hnl : h1.length <= 100000) (hbl : b0.length <= 100000) (k : Nat)
 (ehi : aroundL a (3 : Nat) = ((1 : Nat) : Int)) (ebi : aroundL (a.tdiv (2 : Nat)) (h1.length : Nat) = (bi : Nat)) (ek : aroundL (a.tdiv (8 : Nat)) ((max b0.length 1 : Nat) : Int) = (k : Nat))
 (hS : CwpE Tryd.prog F0 w0 263 bnS (fun e s => e = .normal /\ ∃ s', WkE 263 s s' /\ s' = ⟨bnZ, bnR m r⟩) ⟨bnW a h b 1 bi k (decide (0 < b0.length)) (aroundL h 9), bnO m 3 [hnV 4 h0, hnV 5 h1, hnV 6 h2] ++ [hnO h0, hnO h1, hnO h2]⟩) :
 CwpE Tryd.prog F0 w0 263 bnM (retE [.cell 8 true 1] (vmel r)) ⟨bnE a h b, bnO m 3 [hnV 4 h0, hnV 5 h1, hnV 6 h2] ++ [hnO h0, hnO h1, hnO h2]⟩ := by
 have hbi : bi < h1.length := (List.getElem?_eq_some_iff.1 hb0).1
 have gB : (h1.map vbar)[bi]? = some (vbar b0) := by rw [List.getElem?_map, hb0]; rfl
 have z0 : ((0 : Nat) : Int) = 0 := rfl
 have z1 : ((1 : Nat) : Int) = 1 := rfl
 have z2 : ((2 : Nat) : Int) = 2 := rfl
 have z3 : ((3 : Nat) : Int) = 3 := rfl
 obtain ⟨q2, w2⟩ := quoI ha 2 (by omega)
 obtain ⟨q8, w8⟩ := quoI ha 8 (by omega)
 have t2 : ((2 : Nat) : Int) = 2 := rfl
 have t8 : ((8 : Nat) : Int) = 8 := rfl
 rw [t2] at ebi q2 w2
 rw [t8] at ek q8 w8
 have n0 : ¬ ((3 : Nat) : Int) = 0 := by omega
 have N0 : ¬ ((h1.length : Nat) : Int) = 0 := by omega
 have i0 : (0 : Int) <= ((1 : Nat) : Int) := by omega
 have i1 : ((1 : Nat) : Int) < ((3 : Nat) : Int) := by omega
 have j0 : (0 : Int) <= (bi : Int) := by omega
 have j1 : (bi : Int) < ((h1.length : Nat) : Int) := by omega
 have L0 : decide ((0 : Int) < ((b0.length : Nat) : Int)) = decide (0 < b0.length) := by congr 1; apply propext; omega
 have bnI : I64 ((3 : Nat) : Int) := ⟨by omega, by omega⟩
 have bNI : I64 ((h1.length : Nat) : Int) := ⟨by omega, by omega⟩
 have bLI : I64 ((max b0.length 1 : Nat) : Int) := ⟨by omega, by omega⟩
 rw [z3] at ehi n0 i1 bnI
 rw [z1] at ehi i0 i1
 unfold bnM c11
 refine CwpE.cut (st := ⟨bnE a h b, bnO m 3 [hnV 4 h0, hnV 5 h1, hnV 6 h2] ++ [hnO h0, hnO h1, hnO h2]⟩) ?_ ?_
 ·simp only [go_sem, ↓reduceIte, Nat.reduceLT, Nat.reduceEqDiff, List.cons_append, List.nil_append, n0, z3]
  exact ⟨_, WkE.keep (by simp only [go_sem, ↓reduceIte, Nat.reduceEqDiff]), rfl⟩
 refine CwpE.cut (st := ⟨(13, vi 1) :: bnE a h b, bnO m 3 [hnV 4 h0, hnV 5 h1, hnV 6 h2] ++ [hnO h0, hnO h1, hnO h2]⟩) ?_ ?_
 ·simp only [go_sem, ↓reduceIte, Nat.reduceLT, Nat.reduceEqDiff, List.cons_append, List.nil_append, z3]
  refine callT (Around_s a 3 ha bnI) rfl ?_
  simp only [go_sem, ↓reduceIte, Nat.reduceLT, ehi]
  exact ⟨_, WkE.keep (by simp only [go_sem, ↓reduceIte, Nat.reduceEqDiff]), rfl⟩
 refine CwpE.cut (st := ⟨(13, vi 1) :: bnE a h b, bnO m 3 [hnV 4 h0, hnV 5 h1, hnV 6 h2] ++ [hnO h0, hnO h1, hnO h2]⟩) ?_ ?_
 ·simp only [go_sem, ↓reduceIte, Nat.reduceLT, Nat.reduceEqDiff, Int.reduceToNat, Int.reduceToNat, List.cons_append, List.nil_append, i0, i1, N0, z3]
  exact ⟨_, WkE.keep (by simp only [go_sem, ↓reduceIte, Nat.reduceEqDiff]), rfl⟩
 refine CwpE.cut (st := ⟨(13, vi 1) :: (14, vi bi) :: bnE a h b, bnO m 3 [hnV 4 h0, hnV 5 h1, hnV 6 h2] ++ [hnO h0, hnO h1, hnO h2]⟩) ?_ ?_
 ·simp only [go_sem, ↓reduceIte, Nat.reduceLT, Nat.reduceEqDiff, Int.reduceToNat, Int.reduceEq, Int.reduceToNat, List.cons_append, List.nil_append, i0, i1, z3, w2]
  refine callT (Around_s (a.tdiv 2) h1.length q2 bNI) rfl ?_
  simp only [go_sem, ↓reduceIte, Nat.reduceLT, ebi]
  exact ⟨_, WkE.keep (by simp only [go_sem, ↓reduceIte, Nat.reduceEqDiff]), rfl⟩
 refine CwpE.cut (st := ⟨(13, vi 1) :: (14, vi bi) :: (15, vi k) :: bnE a h b, bnO m 3 [hnV 4 h0, hnV 5 h1, hnV 6 h2] ++ [hnO h0, hnO h1, hnO h2]⟩) ?_ ?_
 ·simp only [go_sem, ↓reduceIte, Nat.reduceLT, Nat.reduceEqDiff, Int.reduceToNat, Int.reduceEq, Int.reduceToNat, List.cons_append, List.nil_append, i0, i1, j0, j1, List.length_map, gB, z3, w8, maxOne]
  refine callT (Around_s (a.tdiv 8) (max b0.length 1 : Nat) q8 bLI) rfl ?_
  simp only [go_sem, ↓reduceIte, Nat.reduceLT, ek]
  exact ⟨_, WkE.keep (by simp only [go_sem, ↓reduceIte, Nat.reduceEqDiff]), rfl⟩
 refine CwpE.cut (st := ⟨(13, vi 1) :: (14, vi bi) :: (15, vi k) :: (16, vb (decide (0 < b0.length))) :: bnE a h b, bnO m 3 [hnV 4 h0, hnV 5 h1, hnV 6 h2] ++ [hnO h0, hnO h1, hnO h2]⟩) ?_ ?_
 ·simp only [go_sem, ↓reduceIte, Nat.reduceLT, Nat.reduceEqDiff, Int.reduceToNat, Int.reduceToNat, List.cons_append, List.nil_append, i0, i1, j0, j1, List.length_map, gB, z3, L0]
  exact ⟨_, WkE.keep (by simp only [go_sem, ↓reduceIte, Nat.reduceEqDiff]), rfl⟩
 exact bn_m9 F0 w0 m r a h b hh 1 bi k _ _ hS
theorem bn_mid32 (F0 : FD) (w0 : World) (m r : List (List (List Nt))) (a h b : Int) (ha : I64 a) (hh : I64 h) (h0 : List (List Nt)) (h1 : List (List Nt)) (h2 : List (List Nt)) (bi : Nat) (b0 : List Nt) (hb0 : h2[bi]? = some b0) (hnl : h2.length <= 100000) (hbl : b0.length <= 100000) (k : Nat)
 (ehi : aroundL a (3 : Nat) = ((2 : Nat) : Int)) (ebi : aroundL (a.tdiv (2 : Nat)) (h2.length : Nat) = (bi : Nat)) (ek : aroundL (a.tdiv (8 : Nat)) ((max b0.length 1 : Nat) : Int) = (k : Nat))
 (hS : CwpE Tryd.prog F0 w0 263 bnS (fun e s => e = .normal /\ ∃ s', WkE 263 s s' /\ s' = ⟨bnZ, bnR m r⟩) ⟨bnW a h b 2 bi k (decide (0 < b0.length)) (aroundL h 9), bnO m 3 [hnV 4 h0, hnV 5 h1, hnV 6 h2] ++ [hnO h0, hnO h1, hnO h2]⟩) :
 CwpE Tryd.prog F0 w0 263 bnM (retE [.cell 8 true 1] (vmel r)) ⟨bnE a h b, bnO m 3 [hnV 4 h0, hnV 5 h1, hnV 6 h2] ++ [hnO h0, hnO h1, hnO h2]⟩ := by
 have hbi : bi < h2.length := (List.getElem?_eq_some_iff.1 hb0).1
 have gB : (h2.map vbar)[bi]? = some (vbar b0) := by rw [List.getElem?_map, hb0]; rfl
 have z0 : ((0 : Nat) : Int) = 0 := rfl
 have z1 : ((1 : Nat) : Int) = 1 := rfl
 have z2 : ((2 : Nat) : Int) = 2 := rfl
 have z3 : ((3 : Nat) : Int) = 3 := rfl
 obtain ⟨q2, w2⟩ := quoI ha 2 (by omega)
 obtain ⟨q8, w8⟩ := quoI ha 8 (by omega)
 have t2 : ((2 : Nat) : Int) = 2 := rfl
 have t8 : ((8 : Nat) : Int) = 8 := rfl
 rw [t2] at ebi q2 w2
 rw [t8] at ek q8 w8
 have n0 : ¬ ((3 : Nat) : Int) = 0 := by omega
 have N0 : ¬ ((h2.length : Nat) : Int) = 0 := by omega
 have i0 : (0 : Int) <= ((2 : Nat) : Int) := by omega
 have i1 : ((2 : Nat) : Int) < ((3 : Nat) : Int) := by omega
 have j0 : (0 : Int) <= (bi : Int) := by omega
 have j1 : (bi : Int) < ((h2.length : Nat) : Int) := by omega
 have L0 : decide ((0 : Int) < ((b0.length : Nat) : Int)) = decide (0 < b0.length) := by congr 1; apply propext; omega
 have bnI : I64 ((3 : Nat) : Int) := ⟨by omega, by omega⟩
 have bNI : I64 ((h2.length : Nat) : Int) := ⟨by omega, by omega⟩
 have bLI : I64 ((max b0.length 1 : Nat) : Int) := ⟨by omega, by omega⟩
 rw [z3] at ehi n0 i1 bnI
 rw [z2] at ehi i0 i1
 unfold bnM c11
 refine CwpE.cut (st := ⟨bnE a h b, bnO m 3 [hnV 4 h0, hnV 5 h1, hnV 6 h2] ++ [hnO h0, hnO h1, hnO h2]⟩) ?_ ?_
 ·simp only [go_sem, ↓reduceIte, Nat.reduceLT, Nat.reduceEqDiff, List.cons_append, List.nil_append, n0, z3]
  exact ⟨_, WkE.keep (by simp only [go_sem, ↓reduceIte, Nat.reduceEqDiff]), rfl⟩
 refine CwpE.cut (st := ⟨(13, vi 2) :: bnE a h b, bnO m 3 [hnV 4 h0, hnV 5 h1, hnV 6 h2] ++ [hnO h0, hnO h1, hnO h2]⟩) ?_ ?_
 ·simp only [go_sem, ↓reduceIte, Nat.reduceLT, Nat.reduceEqDiff, List.cons_append, List.nil_append, z3]
  refine callT (Around_s a 3 ha bnI) rfl ?_
  simp only [go_sem, ↓reduceIte, Nat.reduceLT, ehi]
  exact ⟨_, WkE.keep (by simp only [go_sem, ↓reduceIte, Nat.reduceEqDiff]), rfl⟩
 refine CwpE.cut (st := ⟨(13, vi 2) :: bnE a h b, bnO m 3 [hnV 4 h0, hnV 5 h1, hnV 6 h2] ++ [hnO h0, hnO h1, hnO h2]⟩) ?_ ?_
 ·simp only [go_sem, ↓reduceIte, Nat.reduceLT, Nat.reduceEqDiff, Int.reduceToNat, Int.reduceToNat, List.cons_append, List.nil_append, i0, i1, N0, z3]
  exact ⟨_, WkE.keep (by simp only [go_sem, ↓reduceIte, Nat.reduceEqDiff]), rfl⟩
 refine CwpE.cut (st := ⟨(13, vi 2) :: (14, vi bi) :: bnE a h b, bnO m 3 [hnV 4 h0, hnV 5 h1, hnV 6 h2] ++ [hnO h0, hnO h1, hnO h2]⟩) ?_ ?_
 ·simp only [go_sem, ↓reduceIte, Nat.reduceLT, Nat.reduceEqDiff, Int.reduceToNat, Int.reduceEq, Int.reduceToNat, List.cons_append, List.nil_append, i0, i1, z3, w2]
  refine callT (Around_s (a.tdiv 2) h2.length q2 bNI) rfl ?_
  simp only [go_sem, ↓reduceIte, Nat.reduceLT, ebi]
  exact ⟨_, WkE.keep (by simp only [go_sem, ↓reduceIte, Nat.reduceEqDiff]), rfl⟩
 refine CwpE.cut (st := ⟨(13, vi 2) :: (14, vi bi) :: (15, vi k) :: bnE a h b, bnO m 3 [hnV 4 h0, hnV 5 h1, hnV 6 h2] ++ [hnO h0, hnO h1, hnO h2]⟩) ?_ ?_
 ·simp only [go_sem, ↓reduceIte, Nat.reduceLT, Nat.reduceEqDiff, Int.reduceToNat, Int.reduceEq, Int.reduceToNat, List.cons_append, List.nil_append, i0, i1, j0, j1, List.length_map, gB, z3, w8, maxOne]
  refine callT (Around_s (a.tdiv 8) (max b0.length 1 : Nat) q8 bLI) rfl ?_
  simp only [go_sem, ↓reduceIte, Nat.reduceLT, ek]
  exact ⟨_, WkE.keep (by simp only [go_sem, ↓reduceIte, Nat.reduceEqDiff]), rfl⟩
 refine CwpE.cut (st := ⟨(13, vi 2) :: (14, vi bi) :: (15, vi k) :: (16, vb (decide (0 < b0.length))) :: bnE a h b, bnO m 3 [hnV 4 h0, hnV 5 h1, hnV 6 h2] ++ [hnO h0, hnO h1, hnO h2]⟩) ?_ ?_
 ·simp only [go_sem, ↓reduceIte, Nat.reduceLT, Nat.reduceEqDiff, Int.reduceToNat, Int.reduceToNat, List.cons_append, List.nil_append, i0, i1, j0, j1, List.length_map, gB, z3, L0]
  exact ⟨_, WkE.keep (by simp only [go_sem, ↓reduceIte, Nat.reduceEqDiff]), rfl⟩
 exact bn_m9 F0 w0 m r a h b hh 2 bi k _ _ hS
end Go.Proofs.YtnncijjkbonokaaDoor
namespace Go.Proofs.YtnncijjkbonokaaDoor
open Go.RowKit Dak
theorem bn_loopA3 (F0 : FD) (w0 : World) (m : List (List (List Nt))) (a h b : Int) (h0 : List (List Nt)) (h1 : List (List Nt)) (h2 : List (List Nt)) (hmm : m = [h0, h1, h2]) (hm : melB m) {Q : Exit -> Est -> Prop} (hQ : Q .normal ⟨bnE a h b, bnO m 3 [hnV 4 h0, hnV 5 h1, hnV 6 h2] ++ [hnO h0, hnO h1, hnO h2]⟩) :
 CwpE Tryd.prog F0 w0 263 (.block 0 (.loop bnH)) (fun e s => ∃ s', WkE 263 s s' /\ Q e s') ⟨(10, vi (0 : Nat)) :: bnE a h b, bnO m 0 [] ++ []⟩ := by
 have hlen : m.length = 3 := by subst hmm; rfl
 refine CwpE.block ?_
 refine loopXC 0 (fun z s => (z = 3 /\ s = ⟨(10, vi (0 : Nat)) :: bnE a h b, bnO m 0 [] ++ []⟩) \/ (z = 2 /\ s = ⟨(10, vi (1 : Nat)) :: bnE a h b, bnO m 1 [hnV 4 h0] ++ [hnO h0]⟩) \/ (z = 1 /\ s = ⟨(10, vi (2 : Nat)) :: bnE a h b, bnO m 2 [hnV 4 h0, hnV 5 h1] ++ [hnO h0, hnO h1]⟩) \/ (z = 0 /\ s = ⟨(10, vi (3 : Nat)) :: bnE a h b, bnO m 3 [hnV 4 h0, hnV 5 h1, hnV 6 h2] ++ [hnO h0, hnO h1, hnO h2]⟩))
  (fun s => s = ⟨bnE a h b, bnO m 3 [hnV 4 h0, hnV 5 h1, hnV 6 h2] ++ [hnO h0, hnO h1, hnO h2]⟩) 3 _ (.refl _ _) (.inl ⟨rfl, rfl⟩) ?_ ?_
 rotate_left
 ·rintro s rfl
  simp only [inBlockE, if_true]
  exact ⟨_, .refl _ _, hQ⟩
 rintro z s (⟨rfl, rfl⟩ | ⟨rfl, rfl⟩ | ⟨rfl, rfl⟩ | ⟨rfl, rfl⟩)
 ·refine bn_own4 F0 w0 m a h b []  (fun j hj => rfl)  0 rfl h0 (by subst hmm; rfl) hm.1 (hm.2 h0 (by subst hmm; simp)).1 (hm.2 h0 (by subst hmm; simp)).2 fun s hs => ⟨2, _, by omega, hs, .inr <| .inl ⟨rfl, rfl⟩⟩
 ·refine bn_own5 F0 w0 m a h b [hnV 4 h0] (hnO h0) (fun j hj => List.all_eq_true.2 fun v hv => by
   simp only [List.mem_cons, List.not_mem_nil, or_false] at hv
   rcases hv with rfl
   all_goals exact own_inn2 (by omega)) (fun j hj => by rw [innO_arr]; exact inn_map fun _ => rfl) 1 rfl h1 (by subst hmm; rfl) hm.1 (hm.2 h1 (by subst hmm; simp)).1 (hm.2 h1 (by subst hmm; simp)).2 fun s hs => ⟨1, _, by omega, hs, .inr <| .inr <| .inl ⟨rfl, rfl⟩⟩
 ·refine bn_own6 F0 w0 m a h b [hnV 4 h0, hnV 5 h1] (hnO h0) (hnO h1) (fun j hj => List.all_eq_true.2 fun v hv => by
   simp only [List.mem_cons, List.not_mem_nil, or_false] at hv
   rcases hv with rfl | rfl
   all_goals exact own_inn2 (by omega)) (fun j hj => by rw [innO_arr]; exact inn_map fun _ => rfl) (fun j hj => by rw [innO_arr]; exact inn_map fun _ => rfl) 2 rfl h2 (by subst hmm; rfl) hm.1 (hm.2 h2 (by subst hmm; simp)).1 (hm.2 h2 (by subst hmm; simp)).2 fun s hs => ⟨0, _, by omega, hs, .inr <| .inr <| .inr ⟨rfl, rfl⟩⟩
 ·have := bn_end F0 w0 m a h b [hnV 4 h0, hnV 5 h1, hnV 6 h2] [hnO h0, hnO h1, hnO h2] (Q := RoundX 263 (fun z s => (z = 3 /\ s = ⟨(10, vi (0 : Nat)) :: bnE a h b, bnO m 0 [] ++ []⟩) \/ (z = 2 /\ s = ⟨(10, vi (1 : Nat)) :: bnE a h b, bnO m 1 [hnV 4 h0] ++ [hnO h0]⟩) \/ (z = 1 /\ s = ⟨(10, vi (2 : Nat)) :: bnE a h b, bnO m 2 [hnV 4 h0, hnV 5 h1] ++ [hnO h0, hnO h1]⟩) \/ (z = 0 /\ s = ⟨(10, vi (3 : Nat)) :: bnE a h b, bnO m 3 [hnV 4 h0, hnV 5 h1, hnV 6 h2] ++ [hnO h0, hnO h1, hnO h2]⟩)) 0 0 (fun s => s = ⟨bnE a h b, bnO m 3 [hnV 4 h0, hnV 5 h1, hnV 6 h2] ++ [hnO h0, hnO h1, hnO h2]⟩) (inBlockE 0 fun e s => ∃ s', WkE 263 s s' /\ Q e s')) fun s hs => by
   simp only [RoundX, if_true]
   rw [hlen] at hs
   exact ⟨_, hs, rfl⟩
  rw [hlen] at this
  exact this
theorem bn_frz3 {E : List (Nat × AV)} (hE : (E.all fun p => p.2.inn 3) = true) (m : List (List (List Nt))) (h0 : List (List Nt)) (h1 : List (List Nt)) (h2 : List (List Nt)) : WkE 263 ⟨E, bnO m 3 [hnV 4 h0, hnV 5 h1, hnV 6 h2] ++ [hnO h0, hnO h1, hnO h2]⟩ ⟨E, bnR m [h0, h1, h2]⟩ := by
 have hz : ∀ hd : List (List Nt), List.take hd.length (List.drop 0 (hd.map vbar)) = hd.map vbar := fun hd => List.take_of_length_le (by simp)
 have e0 := WkE.freezeCell (n := 263) (env := E) (objs := bnO m 3 [hnV 4 h0, hnV 5 h1, hnV 6 h2] ++ [hnO h0, hnO h1, hnO h2]) 3 3 1 0 0 4 h0.length 0 h0.length 1 28 34 _ (h0.map vbar) _ rfl rfl rfl rfl (by omega) (by simp) (allT_map fun _ => rfl)
 rw [hz h0] at e0
 have e1 := WkE.freezeCell (n := 263) (env := E) (objs := bnO m 3 [vhand h0, hnV 5 h1, hnV 6 h2] ++ [.dead, hnO h1, hnO h2]) 3 3 1 1 0 5 h1.length 0 h1.length 1 28 34 _ (h1.map vbar) _ rfl rfl rfl rfl (by omega) (by simp) (allT_map fun _ => rfl)
 rw [hz h1] at e1
 have e2 := WkE.freezeCell (n := 263) (env := E) (objs := bnO m 3 [vhand h0, vhand h1, hnV 6 h2] ++ [.dead, .dead, hnO h2]) 3 3 1 2 0 6 h2.length 0 h2.length 1 28 34 _ (h2.map vbar) _ rfl rfl rfl rfl (by omega) (by simp) (allT_map fun _ => rfl)
 rw [hz h2] at e2
 refine e0.trans (e1.trans (e2.trans ((WkE.drop (env := E) (objs := bnO m 3 [vhand h0, vhand h1, vhand h2] ++ [.dead, .dead, .dead]) 4 (all_mono hE (inn_up (by omega))) fun o ho => ?_).trans (frz_all hE rfl))))
 simp only [List.cons_append, List.nil_append, List.take_succ_cons, List.take_zero, List.mem_cons, List.not_mem_nil, or_false] at ho
 rcases ho with rfl | rfl | rfl | rfl <;> rfl
theorem bn_ve3 (F0 : FD) (w0 : World) (m : List (List (List Nt))) (b : Int) (h0 : List (List Nt)) (h1 : List (List Nt)) (h2 : List (List Nt)) {Q : Exit -> Est -> Prop} (hQ : ∀ s, WkE 263 s ⟨bnU b 3, bnO m 3 [hnV 4 h0, hnV 5 h1, hnV 6 h2] ++ [hnO h0, hnO h1, hnO h2]⟩ -> Q (.exit 7) s) : CwpE Tryd.prog F0 w0 263 bnV7 Q ⟨bnU b 3, bnO m 3 [hnV 4 h0, hnV 5 h1, hnV 6 h2] ++ [hnO h0, hnO h1, hnO h2]⟩ := by
 have z0 : ((0 : Nat) : Int) = 0 := rfl
 have z1 : ((1 : Nat) : Int) = 1 := rfl
 have z2 : ((2 : Nat) : Int) = 2 := rfl
 have z3 : ((3 : Nat) : Int) = 3 := rfl
 unfold bnV7 bnS c11
 refine CwpE.vc ?_
 simp only [go_sem, ↓reduceIte, Nat.reduceLT, Nat.reduceEqDiff, Int.lt_irrefl, List.cons_append, List.nil_append, z3]
 exact hQ _ (WkE.keep (by simp only [go_sem, ↓reduceIte, Nat.reduceEqDiff]))
theorem bn_c7_3 (F0 : FD) (w0 : World) (m : List (List (List Nt))) (a h b : Int) (hb : I64 b) (h0 : List (List Nt)) (h1 : List (List Nt)) (h2 : List (List Nt)) (hl0 : h0.length <= 100000) (hl1 : h1.length <= 100000) (hl2 : h2.length <= 100000) (hi bi k : Nat) (sm : Bool)
 {Q : Exit -> Est -> Prop} (hQ : ∀ s, WkE 263 s ⟨bnZ, bnR m [(growH b h0), (growH b h1), (growH b h2)]⟩ -> Q .normal s) : CwpE Tryd.prog F0 w0 263 bnS (fun e s => ∃ s', WkE 263 s s' /\ Q e s') ⟨bnW a h b hi bi k sm 7, bnO m 3 [hnV 4 h0, hnV 5 h1, hnV 6 h2] ++ [hnO h0, hnO h1, hnO h2]⟩ := by
 have hW := bn_frz3 (E := bnZ) rfl m (growH b h0) (growH b h1) (growH b h2)
 have key : CwpE Tryd.prog F0 w0 263 (.block 7 (.loop bnV7)) (fun e s => ∃ s', WkE 263 s s' /\ e = .normal /\ s' = ⟨bnU b 3, bnO m 3 [hnV 4 (growH b h0), hnV 5 (growH b h1), hnV 6 (growH b h2)] ++ [hnO (growH b h0), hnO (growH b h1), hnO (growH b h2)]⟩) ⟨bnU b 0, bnO m 3 [hnV 4 h0, hnV 5 h1, hnV 6 h2] ++ [hnO h0, hnO h1, hnO h2]⟩ := by
  refine CwpE.block ?_
  refine loopXC 7 (fun z s => (z = 3 /\ s = ⟨bnU b 0, bnO m 3 [hnV 4 h0, hnV 5 h1, hnV 6 h2] ++ [hnO h0, hnO h1, hnO h2]⟩) \/ (z = 2 /\ s = ⟨bnU b 1, bnO m 3 [hnV 4 (growH b h0), hnV 5 h1, hnV 6 h2] ++ [hnO (growH b h0), hnO h1, hnO h2]⟩) \/ (z = 1 /\ s = ⟨bnU b 2, bnO m 3 [hnV 4 (growH b h0), hnV 5 (growH b h1), hnV 6 h2] ++ [hnO (growH b h0), hnO (growH b h1), hnO h2]⟩) \/ (z = 0 /\ s = ⟨bnU b 3, bnO m 3 [hnV 4 (growH b h0), hnV 5 (growH b h1), hnV 6 (growH b h2)] ++ [hnO (growH b h0), hnO (growH b h1), hnO (growH b h2)]⟩))
   (fun s => s = ⟨bnU b 3, bnO m 3 [hnV 4 (growH b h0), hnV 5 (growH b h1), hnV 6 (growH b h2)] ++ [hnO (growH b h0), hnO (growH b h1), hnO (growH b h2)]⟩) 3 _ (.refl _ _) (.inl ⟨rfl, rfl⟩) ?_ ?_
  rotate_left
  ·rintro s rfl
   simp only [inBlockE, if_true]
   exact ⟨_, .refl _ _, trivial, rfl⟩
  rintro z s (⟨rfl, rfl⟩ | ⟨rfl, rfl⟩ | ⟨rfl, rfl⟩ | ⟨rfl, rfl⟩)
  ·exact bn_v30 F0 w0 m b hb h0 h1 h2 hl0 fun s hs => ⟨2, _, by omega, hs, .inr <| .inl ⟨rfl, rfl⟩⟩
  ·exact bn_v31 F0 w0 m b hb (growH b h0) h1 h2 hl1 fun s hs => ⟨1, _, by omega, hs, .inr <| .inr <| .inl ⟨rfl, rfl⟩⟩
  ·exact bn_v32 F0 w0 m b hb (growH b h0) (growH b h1) h2 hl2 fun s hs => ⟨0, _, by omega, hs, .inr <| .inr <| .inr ⟨rfl, rfl⟩⟩
  ·refine bn_ve3 F0 w0 m b (growH b h0) (growH b h1) (growH b h2) fun s hs => ?_
   simp only [RoundX, if_true]
   exact ⟨_, hs, rfl⟩
 obtain ⟨O, hO⟩ : ∃ O, bnO m 3 [hnV 4 h0, hnV 5 h1, hnV 6 h2] ++ [hnO h0, hnO h1, hnO h2] = O := ⟨_, rfl⟩
 rw [hO]
 unfold bnS c11
 refine CwpE.block ?_
 refine CwpE.cut (st := ⟨(111, vb false) :: bnW a h b hi bi k sm 7, O⟩) ?_ ?_
 ·simp only [go_sem, ↓reduceIte, Nat.reduceLT, Int.reduceEq]
  exact ⟨_, WkE.keep (by simp only [go_sem, ↓reduceIte, Nat.reduceEqDiff]), rfl⟩
 refine CwpE.cond_f (by simp only [go_sem, ↓reduceIte]) ?_
 refine CwpE.cut (st := ⟨(130, vb false) :: bnW a h b hi bi k sm 7, O⟩) ?_ ?_
 ·simp only [go_sem, ↓reduceIte, Nat.reduceLT, Nat.reduceEqDiff, Int.reduceEq]
  exact ⟨_, WkE.keep (by simp only [go_sem, ↓reduceIte, Nat.reduceEqDiff]), rfl⟩
 refine CwpE.cond_f (by simp only [go_sem, ↓reduceIte]) ?_
 refine CwpE.cut (st := ⟨(147, vb false) :: bnW a h b hi bi k sm 7, O⟩) ?_ ?_
 ·simp only [go_sem, ↓reduceIte, Nat.reduceLT, Nat.reduceEqDiff, Int.reduceEq]
  exact ⟨_, WkE.keep (by simp only [go_sem, ↓reduceIte, Nat.reduceEqDiff]), rfl⟩
 refine CwpE.cond_f (by simp only [go_sem, ↓reduceIte]) ?_
 refine CwpE.cut (st := ⟨(164, vb false) :: bnW a h b hi bi k sm 7, O⟩) ?_ ?_
 ·simp only [go_sem, ↓reduceIte, Nat.reduceLT, Nat.reduceEqDiff, Int.reduceEq]
  exact ⟨_, WkE.keep (by simp only [go_sem, ↓reduceIte, Nat.reduceEqDiff]), rfl⟩
 refine CwpE.cond_f (by simp only [go_sem, ↓reduceIte]) ?_
 refine CwpE.cut (st := ⟨(173, vb false) :: bnW a h b hi bi k sm 7, O⟩) ?_ ?_
 ·simp only [go_sem, ↓reduceIte, Nat.reduceLT, Nat.reduceEqDiff, Int.reduceEq]
  exact ⟨_, WkE.keep (by simp only [go_sem, ↓reduceIte, Nat.reduceEqDiff]), rfl⟩
 refine CwpE.cond_f (by simp only [go_sem, ↓reduceIte]) ?_
 refine CwpE.cut (st := ⟨(186, vb false) :: bnW a h b hi bi k sm 7, O⟩) ?_ ?_
 ·simp only [go_sem, ↓reduceIte, Nat.reduceLT, Nat.reduceEqDiff, Int.reduceEq]
  exact ⟨_, WkE.keep (by simp only [go_sem, ↓reduceIte, Nat.reduceEqDiff]), rfl⟩
 refine CwpE.cond_f (by simp only [go_sem, ↓reduceIte]) ?_
 refine CwpE.cut (st := ⟨(219, vb false) :: bnW a h b hi bi k sm 7, O⟩) ?_ ?_
 ·simp only [go_sem, ↓reduceIte, Nat.reduceLT, Nat.reduceEqDiff, Int.reduceEq]
  exact ⟨_, WkE.keep (by simp only [go_sem, ↓reduceIte, Nat.reduceEqDiff]), rfl⟩
 refine CwpE.cond_f (by simp only [go_sem, ↓reduceIte]) ?_
 refine CwpE.cut (st := ⟨(230, vb true) :: bnW a h b hi bi k sm 7, O⟩) ?_ ?_
 ·simp only [go_sem, ↓reduceIte, Nat.reduceLT, Nat.reduceEqDiff]
  exact ⟨_, WkE.keep (by simp only [go_sem, ↓reduceIte, Nat.reduceEqDiff]), rfl⟩
 refine CwpE.cond_t (by simp only [go_sem, ↓reduceIte]) ?_
 subst hO
 refine CwpE.cut (st := ⟨bnU b 0, bnO m 3 [hnV 4 h0, hnV 5 h1, hnV 6 h2] ++ [hnO h0, hnO h1, hnO h2]⟩) ?_ ?_
 ·simp only [go_sem, ↓reduceIte, Nat.reduceLT, List.cons_append, List.nil_append]
  exact ⟨_, WkE.keep (by simp only [go_sem, ↓reduceIte, Nat.reduceEqDiff]; rfl), rfl⟩
 refine key.mono ?_
 rintro e s ⟨s', hw, rfl, rfl⟩
 simp only [inBlockE]
 exact ⟨s, .refl _ _, hQ _ (hw.trans ((WkE.keep (by simp only [go_sem, ↓reduceIte, Nat.reduceEqDiff])).trans hW))⟩
end Go.Proofs.YtnncijjkbonokaaDoor
namespace Go.Proofs.YtnncijjkbonokaaDoor
open Go.RowKit Dak
theorem bn_seven (F0 : FD) (w0 : World) (m : List (List (List Nt))) (a h b : Int) (ha : I64 a) (hh : I64 h) (hb : I64 b) (hm : melB m) (hi : Nat) (hd : List (List Nt)) (bi : Nat) (b0 : List Nt) (T : BnT m hi hd bi b0) (k : Nat) (hj7 : aroundL h 9 = 7) (hm3 : m.length <= 3)
 (ehi : aroundL a (m.length : Nat) = (hi : Nat)) (ebi : aroundL (a.tdiv (2 : Nat)) (hd.length : Nat) = (bi : Nat)) (ek : aroundL (a.tdiv (8 : Nat)) ((max b0.length 1 : Nat) : Int) = (k : Nat)) :
 CwpE Tryd.prog F0 w0 263 (match c11 with | .seq _ (.seq _ b) => b | _ => .skip) (retE [.cell 8 true 1] (vmel (m.map (growH b)))) ⟨bnE a h b, bnO m 0 [] ++ []⟩ := by
 have hhi : hi < m.length := (List.getElem?_eq_some_iff.1 T.th).1
 have hhd := hm.2 hd (List.mem_of_getElem? T.th)
 have hbl := hhd.2 b0 (List.mem_of_getElem? T.tb)
 have start : ∀ O, CwpE Tryd.prog F0 w0 263 (.block 0 (.loop bnH)) (fun e s => ∃ s', WkE 263 s s' /\ (e = .normal /\ s' = ⟨bnE a h b, O⟩)) ⟨(10, vi (0 : Nat)) :: bnE a h b, bnO m 0 [] ++ []⟩ ->
  CwpE Tryd.prog F0 w0 263 bnM (retE [.cell 8 true 1] (vmel (m.map (growH b)))) ⟨bnE a h b, O⟩ ->
  CwpE Tryd.prog F0 w0 263 (match c11 with | .seq _ (.seq _ b) => b | _ => .skip) (retE [.cell 8 true 1] (vmel (m.map (growH b)))) ⟨bnE a h b, bnO m 0 [] ++ []⟩ := by
  intro O h1 h2
  unfold c11
  refine CwpE.seqJ (fun s => s = ⟨bnE a h b, O⟩) ?_ ?_
  ·refine CwpE.cut (st := ⟨(10, vi (0 : Nat)) :: bnE a h b, bnO m 0 [] ++ []⟩) ?_ ?_
   ·simp only [go_sem, ↓reduceIte, Nat.reduceLT, List.cons_append, List.nil_append]
    exact ⟨_, WkE.keep (by simp only [go_sem, ↓reduceIte, Nat.reduceEqDiff]; rfl), rfl⟩
   exact h1.mono fun e s ⟨s', hw, he, hs⟩ => by
    subst he; exact ⟨s', hw, hs⟩
  rintro _ rfl
  exact h2
 match m, hm3, hm, T, hhi, ehi, start with
 | [], _, _, _, hhi, _, _ => simp at hhi
 | [h0], _, hm, T, hhi, ehi, start =>
  have l0 := (hm.2 h0 (by simp)).1
  refine start _ (bn_loopA1 F0 w0 [h0] a h b h0 rfl hm (Q := fun e s => e = .normal /\ s = _) ⟨rfl, rfl⟩) ?_
  obtain rfl : hi = 0 := by simp at hhi; omega
  obtain rfl : h0 = hd := by have := T.th; simpa using this
  refine bn_mid10 F0 w0 [h0] _ a h b ha hh h0 bi b0 T.tb hhd.1 hbl k ehi ebi ek ?_
  rw [hj7]
  exact bent_fin (Z := fun _ _ => True) (bn_c7_1 F0 w0 [h0] a h b hb h0 l0 0 bi k _ fun s hs => ⟨rfl, _, hs, rfl⟩)
 | [h0, h1], _, hm, T, hhi, ehi, start =>
  have l0 := (hm.2 h0 (by simp)).1
  have l1 := (hm.2 h1 (by simp)).1
  refine start _ (bn_loopA2 F0 w0 [h0, h1] a h b h0 h1 rfl hm (Q := fun e s => e = .normal /\ s = _) ⟨rfl, rfl⟩) ?_
  have hi2 : hi = 0 \/ hi = 1 := by simp at hhi; omega
  rcases hi2 with rfl | rfl
  ·obtain rfl : h0 = hd := by have := T.th; simpa using this
   refine bn_mid20 F0 w0 [h0, h1] _ a h b ha hh h0 h1 bi b0 T.tb hhd.1 hbl k ehi ebi ek ?_
   rw [hj7]
   exact bent_fin (Z := fun _ _ => True) (bn_c7_2 F0 w0 [h0, h1] a h b hb h0 h1 l0 l1 0 bi k _ fun s hs => ⟨rfl, _, hs, rfl⟩)
  ·obtain rfl : h1 = hd := by have := T.th; simpa using this
   refine bn_mid21 F0 w0 [h0, h1] _ a h b ha hh h0 h1 bi b0 T.tb hhd.1 hbl k ehi ebi ek ?_
   rw [hj7]
   exact bent_fin (Z := fun _ _ => True) (bn_c7_2 F0 w0 [h0, h1] a h b hb h0 h1 l0 l1 1 bi k _ fun s hs => ⟨rfl, _, hs, rfl⟩)
 | [h0, h1, h2], _, hm, T, hhi, ehi, start =>
  have l0 := (hm.2 h0 (by simp)).1
  have l1 := (hm.2 h1 (by simp)).1
  have l2 := (hm.2 h2 (by simp)).1
  refine start _ (bn_loopA3 F0 w0 [h0, h1, h2] a h b h0 h1 h2 rfl hm (Q := fun e s => e = .normal /\ s = _) ⟨rfl, rfl⟩) ?_
  have hi3 : hi = 0 \/ hi = 1 \/ hi = 2 := by simp at hhi; omega
  rcases hi3 with rfl | rfl | rfl
  ·obtain rfl : h0 = hd := by have := T.th; simpa using this
   refine bn_mid30 F0 w0 [h0, h1, h2] _ a h b ha hh h0 h1 h2 bi b0 T.tb hhd.1 hbl k ehi ebi ek ?_
   rw [hj7]
   exact bent_fin (Z := fun _ _ => True) (bn_c7_3 F0 w0 [h0, h1, h2] a h b hb h0 h1 h2 l0 l1 l2 0 bi k _ fun s hs => ⟨rfl, _, hs, rfl⟩)
  ·obtain rfl : h1 = hd := by have := T.th; simpa using this
   refine bn_mid31 F0 w0 [h0, h1, h2] _ a h b ha hh h0 h1 h2 bi b0 T.tb hhd.1 hbl k ehi ebi ek ?_
   rw [hj7]
   exact bent_fin (Z := fun _ _ => True) (bn_c7_3 F0 w0 [h0, h1, h2] a h b hb h0 h1 h2 l0 l1 l2 1 bi k _ fun s hs => ⟨rfl, _, hs, rfl⟩)
  ·obtain rfl : h2 = hd := by have := T.th; simpa using this
   refine bn_mid32 F0 w0 [h0, h1, h2] _ a h b ha hh h0 h1 h2 bi b0 T.tb hhd.1 hbl k ehi ebi ek ?_
   rw [hj7]
   exact bent_fin (Z := fun _ _ => True) (bn_c7_3 F0 w0 [h0, h1, h2] a h b hb h0 h1 h2 l0 l1 l2 2 bi k _ fun s hs => ⟨rfl, _, hs, rfl⟩)
 | _ :: _ :: _ :: _ :: _, h3, _, _, _, _, _ => simp at h3
theorem Bent_s (m : List (List (List Nt))) (a h b : Int) (ha : I64 a) (hh : I64 h) (hb : I64 b) (hm : melB m) (hm3 : m.length <= 3) : Ctr Tryd.prog 11 [vmel m, vi a, vi h, vi b] (vmel (bentP m a h b)) := by
 refine specC f11 (by simp) fun F0 w0 => ?_
 have g9 := around_bd (n := h) (most := 9) (by omega)
 have hml := hm.1
 refine CwpE.mono (Q := retE [.cell 8 true 1] (vmel (bentP m a h b))) ?_ fun e s hs => hs
 have body : CwpE Tryd.prog F0 w0 263 (match c11 with | .seq _ (.seq _ b) => b | _ => .skip) (retE [.cell 8 true 1] (vmel (bentP m a h b))) ⟨bnE a h b, bnO m 0 [] ++ []⟩ -> CwpE Tryd.prog F0 w0 263 c11 (retE [.cell 8 true 1] (vmel (bentP m a h b))) ⟨envOf 0 [vmel m, vi a, vi h, vi b], []⟩ := by
  intro hb
  unfold c11
  refine CwpE.cut (st := ⟨[(1, vi a), (2, vi h), (3, vi b), (4, .ref 0 1 0 0), (8, .ref 1 1 0 0)], [.arr 1 1 25 [vmel m], .arr 1 1 25 [nilT]]⟩) ?_ ?_
  ·simp only [go_sem, ↓reduceIte, Nat.reduceLT, Nat.reduceAdd]
   exact ⟨_, WkE.keep (by simp only [go_sem, ↓reduceIte, reduceCtorEq, Nat.reduceEqDiff]), rfl⟩
  refine CwpE.cut (st := ⟨bnE a h b, bnO m 0 [] ++ []⟩) ?_ ?_
  ·simp only [go_sem, ↓reduceIte, Nat.reduceLT, Nat.reduceAdd]
   exact ⟨_, (WkE.nilCell 2 1 1 0 0 1 28 25 [nilT] _ rfl rfl rfl).trans (WkE.keep (by simp only [go_sem, ↓reduceIte, Nat.reduceEqDiff])), rfl⟩
  exact hb
 refine body ?_
 have flat : CwpE Tryd.prog F0 w0 263 bnM (retE [.cell 8 true 1] (vmel (bentP m a h b))) ⟨bnE a h b, bnR m m⟩ -> CwpE Tryd.prog F0 w0 263 (match c11 with | .seq _ (.seq _ b) => b | _ => .skip) (retE [.cell 8 true 1] (vmel (bentP m a h b))) ⟨bnE a h b, bnO m 0 [] ++ []⟩ := by
  intro hk
  unfold c11
  refine CwpE.seqJ (fun s => s = ⟨bnE a h b, bnR m m⟩) ?_ ?_
  ·refine CwpE.cut (st := ⟨(10, vi (0 : Nat)) :: bnE a h b, bnO m 0 [] ++ []⟩) ?_ ?_
   ·simp only [go_sem, ↓reduceIte, Nat.reduceLT, List.cons_append, List.nil_append]
    exact ⟨_, WkE.keep (by simp only [go_sem, ↓reduceIte, Nat.reduceEqDiff]; rfl), rfl⟩
   exact (bn_loop0 F0 w0 m a h b hm (Q := fun e s => e = .normal /\ s = _) ⟨rfl, rfl⟩).mono fun e s ⟨s', hw, he, hs⟩ => by
    subst he; subst hs; exact ⟨_, hw.trans (frz_all rfl rfl), rfl⟩
  rintro _ rfl
  exact hk
 by_cases h0 : m.length = 0
 ·have e : bentP m a h b = m := if_pos h0
  rw [e] at flat ⊢
  refine flat ?_
  have n0 : (m.length : Int) = 0 := by omega
  unfold bnM c11
  refine CwpE.vc ?_
  simp only [go_sem, ↓reduceIte, Nat.reduceLT, Nat.reduceEqDiff, Int.reduceNeg, List.length_map, n0]
  exact .tree _ rfl
 have ghi := around_bd (n := a) (most := m.length) (by omega)
 obtain ⟨hi, ehi⟩ : ∃ i : Nat, aroundL a m.length = i := ⟨(aroundL a m.length).toNat, by omega⟩
 have hhl : hi < m.length := by omega
 obtain ⟨hd, hhd⟩ : ∃ r, m[hi] = r := ⟨_, rfl⟩
 have gh : m[hi]? = some hd := by rw [List.getElem?_eq_getElem hhl, hhd]
 have e : bentP m a h b = bentH m hi hd a h b := by
  unfold bentP
  rw [if_neg h0, ehi, Int.toNat_natCast, List.getD_eq_getElem?_getD, gh]; rfl
 rw [e] at flat body ⊢
 have n0 : ¬ (m.length : Int) = 0 := by omega
 have hdl := hm.2 hd (List.mem_of_getElem? gh)
 have hdl1 := hdl.1
 by_cases d0 : hd.length = 0
 ·have e : bentH m hi hd a h b = m := if_pos d0
  rw [e] at flat ⊢
  refine flat ?_
  have i0 : (0 : Int) <= (hi : Int) := by omega
  have i1 : (hi : Int) < (m.length : Int) := by omega
  have d0' : (hd.length : Int) = 0 := by omega
  unfold bnM c11
  refine CwpE.vc ?_
  simp only [go_sem, ↓reduceIte, Nat.reduceLT, Nat.reduceEqDiff, Int.reduceNeg, List.length_map, n0]
  refine callT (Around_s a m.length ha ⟨by omega, by omega⟩) rfl ?_
  simp only [go_sem, ↓reduceIte, Nat.reduceLT, Nat.reduceEqDiff, Int.reduceNeg, List.length_map, ehi, i0, List.getElem?_map, gh, Option.map_some, d0']
  exact .tree _ rfl
 have gbi := around_bd (n := a.tdiv 2) (most := hd.length) (by omega)
 obtain ⟨bi, ebi⟩ : ∃ i : Nat, aroundL (a.tdiv 2) hd.length = i := ⟨(aroundL (a.tdiv 2) hd.length).toNat, by omega⟩
 have hbl : bi < hd.length := by omega
 obtain ⟨b0, hb0⟩ : ∃ r, hd[bi] = r := ⟨_, rfl⟩
 have gb : hd[bi]? = some b0 := by rw [List.getElem?_eq_getElem hbl, hb0]
 have gk := around_bd (n := a.tdiv 8) (most := ((max b0.length 1 : Nat) : Int)) (by omega)
 obtain ⟨k, ek⟩ : ∃ i : Nat, aroundL (a.tdiv 8) ((max b0.length 1 : Nat) : Int) = i := ⟨(aroundL (a.tdiv 8) ((max b0.length 1 : Nat) : Int)).toNat, by omega⟩
 obtain ⟨j, ej⟩ : ∃ i : Nat, aroundL h 9 = i := ⟨(aroundL h 9).toNat, by omega⟩
 have e : bentH m hi hd a h b = bentT m hi hd bi b0 k b j := by
  unfold bentH bentK
  rw [if_neg d0, ebi, ej, Int.toNat_natCast, List.getD_eq_getElem?_getD, gb, Option.getD_some, ek]; rfl
 rw [e]
 have T : BnT m hi hd bi b0 := ⟨gh, gb, hm⟩
 by_cases j7 : j = 7
 ·subst j7
  exact bn_seven F0 w0 m a h b ha hh hb hm hi hd bi b0 T k ej hm3 ehi ebi ek
 unfold c11
 refine CwpE.seqJ (fun s => s = ⟨bnE a h b, bnT m hi hd bi b0⟩) ?_ ?_
 ·refine CwpE.cut (st := ⟨(10, vi (0 : Nat)) :: bnE a h b, bnO m 0 [] ++ []⟩) ?_ ?_
  ·simp only [go_sem, ↓reduceIte, Nat.reduceLT, List.cons_append, List.nil_append]
   exact ⟨_, WkE.keep (by simp only [go_sem, ↓reduceIte, Nat.reduceEqDiff]; rfl), rfl⟩
  exact (bn_loopT F0 w0 m a h b hm hi hd gh bi b0 gb (Q := fun e s => e = .normal /\ s = _) ⟨rfl, rfl⟩).mono fun e s ⟨s', hw, he, hs⟩ => by
   subst he; subst hs; exact ⟨_, hw, rfl⟩
 rintro _ rfl
 refine bn_midT F0 w0 m _ a h b ha hh hi hd bi b0 T k ehi ebi ek ?_
 rw [ej]
 exact bn_target F0 w0 m a h b hb hi hd bi b0 T k j (by omega) j7 (by omega)
end Go.Proofs.YtnncijjkbonokaaDoor
namespace Go.Proofs.YtnncijjkbonokaaDoor
open Go.RowKit Dak
def markR (h b : Nat) : List Nt -> Nat -> Int -> List (Nat × Nat × Nat)
 | [], _, _ => []
 | n :: r, i, last => (if markP n.s last = true then [(h, b, i)] else []) ++ markR h b r (i + 1) (stepP n last)
def markH (h : Nat) : List (List Nt) -> Nat -> Int -> List (Nat × Nat × Nat)
 | [], _, _ => []
 | x :: r, b, last => markR h b x 0 last ++ markH h r (b + 1) (lastP x last)
def markM : List (List (List Nt)) -> Nat -> List (Nat × Nat × Nat)
 | [], _ => []
 | x :: r, h => markH h x 0 (-1) ++ markM r (h + 1)
def marksP (m : List (List (List Nt))) : List (Nat × Nat × Nat) := if validE m = 0 then markM m 0 else []
theorem markR_len (h b : Nat) : ∀ (l : List Nt) (i : Nat) (last : Int), (markR h b l i last).length <= l.length
 | [], _, _ => Nat.le_refl _
 | n :: r, i, last => by
  have := markR_len h b r (i + 1) (stepP n last)
  rw [markR, List.length_append, List.length_cons]
  split <;> simp <;> omega
theorem markH_len (h : Nat) : ∀ (l : List (List Nt)) (b : Nat) (last : Int), (∀ x ∈ l, x.length <= 16) -> (markH h l b last).length <= 16 * l.length
 | [], _, _, _ => Nat.le_refl _
 | x :: r, b, last, hx => by
  have := markH_len h r (b + 1) (lastP x last) fun y hy => hx y (List.mem_cons_of_mem _ hy)
  have := markR_len h b x 0 last
  have := hx x (List.mem_cons_self ..)
  rw [markH, List.length_append, List.length_cons]; omega
theorem markM_len : ∀ (m : List (List (List Nt))) (h : Nat), (∀ x ∈ m, x.length <= 32 /\ ∀ y ∈ x, y.length <= 16) -> (markM m h).length <= 512 * m.length
 | [], _, _ => Nat.le_refl _
 | x :: r, h, hx => by
  have := markM_len r (h + 1) fun y hy => hx y (List.mem_cons_of_mem _ hy)
  have h1 := hx x (List.mem_cons_self ..)
  have := markH_len h x 0 (-1) h1.2
  rw [markM, List.length_append, List.length_cons]; omega
abbrev mk1 : CCode := match c30 with | .seq _ (.seq _ (.seq _ (.seq (.seq _ (.block _ (.loop b))) _))) => b | _ => .skip
abbrev mk2 : CCode := match mk1 with | .seq _ (.seq _ (.seq (.block _ (.seq _ (.seq _ (.seq _ (.block _ (.loop b)))))) _)) => b | _ => .skip
abbrev mk3 : CCode := match mk2 with | .seq _ (.seq _ (.seq (.block _ (.seq _ (.seq _ (.block _ (.loop b))))) _)) => b | _ => .skip
abbrev mkO (m : List (List (List Nt))) (acc : List (Nat × Nat × Nat)) : List AObj := [.arr 1 1 25 [vmel m], .arr acc.length 3 59 (acc.map v3)]
abbrev mkE1 (m : List (List (List Nt))) (n h : Nat) : List (Nat × AV) := [(3, .own 1 n 0 n), (15, vhands m), (16, vi m.length), (17, vi h)]
abbrev mkE2 (m : List (List (List Nt))) (n h : Nat) (hd : List (List Nt)) (b : Nat) (last : Int) : List (Nat × AV) := (4, vi h) :: (6, vi last) :: (22, vhand hd) :: (23, vi hd.length) :: (24, vi b) :: mkE1 m n h
abbrev mkE3 (m : List (List (List Nt))) (n h : Nat) (hd : List (List Nt)) (b : Nat) (last : Int) (bar : List Nt) (i : Nat) : List (Nat × AV) := (7, vi b) :: (29, vbar bar) :: (30, vi bar.length) :: (31, vi i) :: mkE2 m n h hd b last
theorem v3_inn (l : List (Nat × Nat × Nat)) (k : Nat) : (l.map v3).all (AV.inn k) = true := inn_map fun _ => rfl
theorem mk_note (F0 : FD) (w0 : World) (m : List (List (List Nt))) (h : Nat) (hd : List (List Nt)) (b : Nat) (last : Int) (hl : small last) (bar : List Nt) (i : Nat) (nt : Nt) (hi : bar[i]? = some nt) (hn : rightP nt = true) (acc : List (Nat × Nat × Nat)) (ha : acc.length <= 100000)
 (hb : bar.length <= 100000) {Q : Exit -> Est -> Prop} (hQ : ∀ s, WkE 56 s ⟨mkE3 m (acc ++ if markP nt.s last = true then [(h, b, i)] else []).length h hd b (stepP nt last) bar (i + 1), mkO m (acc ++ if markP nt.s last = true then [(h, b, i)] else [])⟩ -> Q .normal s) :
 CwpE Tryd.prog F0 w0 56 mk3 Q ⟨mkE3 m acc.length h hd b last bar i, mkO m acc⟩ := by
 have i1 : (i : Int) < (bar.length : Int) := by have := (List.getElem?_eq_some_iff.1 hi).1; omega
 have i0 : (0 : Int) <= (i : Int) := by omega
 have iw : IntKind.i64.wrap ((i : Int) + 1) = ((i + 1 : Nat) : Int) := by rw [wrap_id (by omega) (by omega)]; omega
 have hr := rightP_iff hn
 have gi : (bar.map vnote)[i]? = some (vnote nt) := by rw [List.getElem?_map, hi]; rfl
 have ss : small nt.s := ⟨by omega, by omega⟩
 unfold mk3 mk2 mk1 c30
 refine CwpE.vc ?_
 by_cases h0 : 0 <= nt.s
 ·have n0 : ¬ nt.s < 0 := by omega
  have est : stepP nt last = nt.s := by rw [stepP, if_pos h0]
  have emk : markP nt.s last = needP nt.s last := by simp [markP, h0]
  simp only [go_sem, ↓reduceIte, Nat.reduceLT, Nat.reduceEqDiff, Nat.reduceAdd, i0, i1, gi, n0]
  refine callT (needs_s nt.s last ss hl) rfl ?_
  rw [emk, est] at hQ
  cases hne : needP nt.s last with
  | true =>
   rw [hne] at hQ
   have q : (acc.length + 1) * 24 <= 140737488355328 := by omega
   have htk : List.take acc.length (acc.map v3) = acc.map v3 := List.take_of_length_le (by simp)
   simp only [go_sem, Nat.reducePow, Nat.reduceLeDiff, ↓reduceIte, Nat.reduceLT, Nat.reduceEqDiff, Nat.reduceAdd, Nat.reduceMul, iw, List.length_map, q, htk]
   have eL : (acc ++ [(h, b, i)]).length = acc.length + 1 := by simp
   simp only [if_true] at hQ
   unfold mkO at hQ
   rw [eL, List.map_append] at hQ
   refine hQ _ (WkE.round (by simp only [go_sem, ↓reduceIte, Nat.reduceEqDiff]) rfl ?_ rfl)
   have e : (acc.map v3 ++ [(h, b, i)].map v3).all (AV.inn 2) = true := by rw [List.all_append, v3_inn, v3_inn]; rfl
   simp only [List.all_cons, List.all_nil, innO_arr, e, List.length_cons, List.length_nil, Nat.zero_add, Nat.reduceAdd, Bool.and_self, Bool.and_true]
   rfl
  | false =>
   rw [hne] at hQ
   simp only [Bool.false_eq_true, if_false, List.append_nil] at hQ
   simp only [go_sem, ↓reduceIte, Nat.reduceLT, Nat.reduceEqDiff, iw]
   exact hQ _ (WkE.round (by simp only [go_sem, ↓reduceIte, Nat.reduceEqDiff]) rfl (by
    simp only [List.all_cons, List.all_nil, innO_arr, v3_inn, List.length_cons, List.length_nil, Nat.zero_add, Nat.reduceAdd, Bool.and_self, Bool.and_true]
    rfl) rfl)
 ·have n0 : nt.s < 0 := by omega
  have est : stepP nt last = last := by rw [stepP, if_neg h0]
  have emk : markP nt.s last = false := by simp [markP, h0]
  rw [emk, est] at hQ
  simp only [Bool.false_eq_true, if_false, List.append_nil] at hQ
  simp only [go_sem, ↓reduceIte, Nat.reduceLT, Nat.reduceEqDiff, Nat.reduceAdd, i0, i1, iw, gi, n0]
  exact hQ _ (WkE.round (by simp only [go_sem, ↓reduceIte, Nat.reduceEqDiff]) rfl (by
   simp only [List.all_cons, List.all_nil, innO_arr, v3_inn, List.length_cons, List.length_nil, Nat.zero_add, Nat.reduceAdd, Bool.and_self, Bool.and_true]
   rfl) rfl)
theorem mk_bar (F0 : FD) (w0 : World) (m : List (List (List Nt))) (h : Nat) (hd : List (List Nt)) (b : Nat) (last : Int) (hl : small last) (bar : List Nt) (hr : ∀ n ∈ bar, rightP n = true) (acc : List (Nat × Nat × Nat)) (ha : acc.length <= 50000)
 (hb : bar.length <= 1000) {Q : Exit -> Est -> Prop} (hQ : Q .normal ⟨mkE2 m (acc ++ markR h b bar 0 last).length h hd b (lastP bar last), mkO m (acc ++ markR h b bar 0 last)⟩) :
 CwpE Tryd.prog F0 w0 56 (.block 4 (.loop mk3)) (fun e s => ∃ s', WkE 56 s s' /\ Q e s') ⟨mkE3 m acc.length h hd b last bar 0, mkO m acc⟩ := by
 obtain ⟨A, hA⟩ : ∃ A, acc ++ markR h b bar 0 last = A := ⟨_, rfl⟩
 obtain ⟨Z, hZ⟩ : ∃ Z, lastP bar last = Z := ⟨_, rfl⟩
 have lA : A.length <= 60000 := by have := markR_len h b bar 0 last; rw [<- hA, List.length_append]; omega
 rw [hA, hZ] at hQ
 refine CwpE.block ?_
 refine loopXC 4 (fun z s => ∃ (i : Nat) (ac : List (Nat × Nat × Nat)) (la : Int), i + z = bar.length /\ small la /\ ac ++ markR h b (bar.drop i) i la = A /\ lastP (bar.drop i) la = Z /\ s = ⟨mkE3 m ac.length h hd b la bar i, mkO m ac⟩)
  (fun s => s = ⟨mkE2 m A.length h hd b Z, mkO m A⟩) bar.length _ (.refl _ _) ⟨0, acc, last, by omega, hl, hA, hZ, rfl⟩ ?_ ?_
 rotate_left
 ·rintro s rfl
  simp only [inBlockE, if_true]
  exact ⟨_, .refl _ _, hQ⟩
 rintro z s ⟨i, ac, la, hi, hla, hac, hlz, rfl⟩
 cases z with
 | zero =>
  have i1 : ¬ (i : Int) < (bar.length : Int) := by omega
  have hdr : bar.drop i = [] := List.drop_of_length_le (by omega)
  rw [hdr, markR, List.append_nil] at hac
  rw [hdr, lastP] at hlz
  subst hac; subst hlz
  obtain ⟨O, hO⟩ : ∃ O, AObj.arr ac.length 3 59 (ac.map v3) = O := ⟨_, rfl⟩
  unfold mkO
  rw [hO]
  unfold mk3 mk2 mk1 c30
  refine CwpE.vc ?_
  simp only [go_sem, ↓reduceIte, Nat.reduceLT, Nat.reduceEqDiff, i1]
  exact ⟨_, WkE.keep (by simp only [go_sem, ↓reduceIte, Nat.reduceEqDiff]), rfl⟩
 | succ z =>
  obtain ⟨nt, hnt⟩ : ∃ nt, bar[i]? = some nt := ⟨_, List.getElem?_eq_getElem (by omega)⟩
  have hdr : bar.drop i = nt :: bar.drop (i + 1) := by
   obtain ⟨hlt, e⟩ := List.getElem?_eq_some_iff.1 hnt
   rw [List.drop_eq_getElem_cons hlt, e]
  have hnr := hr nt (List.mem_of_getElem? hnt)
  rw [hdr, markR, <- List.append_assoc] at hac
  rw [hdr, lastP] at hlz
  have lac : ac.length <= A.length := by rw [<- hac]; simp
  exact mk_note F0 w0 m h hd b la hla bar i nt hnt hnr ac (by omega) (by omega) fun s hs => ⟨z, _, by omega, hs, i + 1, _, _, by omega, step_small hnr hla, hac, hlz, rfl⟩
theorem mk_hand (F0 : FD) (w0 : World) (m : List (List (List Nt))) (h : Nat) (hd : List (List Nt)) (hr : ∀ x ∈ hd, x.length <= 16 /\ ∀ n ∈ x, rightP n = true) (acc : List (Nat × Nat × Nat)) (ha : acc.length <= 10000)
 (hb : hd.length <= 1000) {Q : Exit -> Est -> Prop} (hQ : Q .normal ⟨mkE1 m (acc ++ markH h hd 0 (-1)).length h, mkO m (acc ++ markH h hd 0 (-1))⟩) :
 CwpE Tryd.prog F0 w0 56 (.block 2 (.loop mk2)) (fun e s => ∃ s', WkE 56 s s' /\ Q e s') ⟨mkE2 m acc.length h hd 0 (-1), mkO m acc⟩ := by
 obtain ⟨A, hA⟩ : ∃ A, acc ++ markH h hd 0 (-1) = A := ⟨_, rfl⟩
 have lA : A.length <= 40000 := by have := markH_len h hd 0 (-1) fun x hx => (hr x hx).1; rw [<- hA, List.length_append]; omega
 rw [hA] at hQ
 refine CwpE.block ?_
 refine loopXC 2 (fun z s => ∃ (b : Nat) (ac : List (Nat × Nat × Nat)) (la : Int), b + z = hd.length /\ small la /\ ac ++ markH h (hd.drop b) b la = A /\ s = ⟨mkE2 m ac.length h hd b la, mkO m ac⟩)
  (fun s => s = ⟨mkE1 m A.length h, mkO m A⟩) hd.length _ (.refl _ _) ⟨0, acc, -1, by omega, ⟨by decide, by decide⟩, hA, rfl⟩ ?_ ?_
 rotate_left
 ·rintro s rfl
  simp only [inBlockE, if_true]
  exact ⟨_, .refl _ _, hQ⟩
 rintro z s ⟨b, ac, la, hbz, hla, hac, rfl⟩
 cases z with
 | zero =>
  have i1 : ¬ (b : Int) < (hd.length : Int) := by omega
  have hdr : hd.drop b = [] := List.drop_of_length_le (by omega)
  rw [hdr, markH, List.append_nil] at hac
  subst hac
  obtain ⟨O, hO⟩ : ∃ O, AObj.arr ac.length 3 59 (ac.map v3) = O := ⟨_, rfl⟩
  unfold mkO
  rw [hO]
  unfold mk2 mk1 c30
  refine CwpE.vc ?_
  simp only [go_sem, ↓reduceIte, Nat.reduceLT, Nat.reduceEqDiff, i1]
  exact ⟨_, WkE.keep (by simp only [go_sem, ↓reduceIte, Nat.reduceEqDiff]), rfl⟩
 | succ z =>
  obtain ⟨bar, hbar⟩ : ∃ x, hd[b]? = some x := ⟨_, List.getElem?_eq_getElem (by omega)⟩
  have hdr : hd.drop b = bar :: hd.drop (b + 1) := by
   obtain ⟨hlt, e⟩ := List.getElem?_eq_some_iff.1 hbar
   rw [List.drop_eq_getElem_cons hlt, e]
  have hbr := hr bar (List.mem_of_getElem? hbar)
  rw [hdr, markH, <- List.append_assoc] at hac
  have lac : ac.length <= A.length := by rw [<- hac]; simp
  have b1 : (b : Int) < (hd.length : Int) := by omega
  have b0 : (0 : Int) <= (b : Int) := by omega
  have bw : IntKind.i64.wrap ((b : Int) + 1) = ((b + 1 : Nat) : Int) := by rw [wrap_id (by omega) (by omega)]; omega
  have key := mk_bar F0 w0 m h hd b la hla bar hbr.2 ac (by omega) (by omega) (Q := fun e s => e = .normal /\ s = ⟨mkE2 m (ac ++ markR h b bar 0 la).length h hd b (lastP bar la), mkO m (ac ++ markR h b bar 0 la)⟩) ⟨rfl, rfl⟩
  obtain ⟨A1, hA1⟩ : ∃ A1, ac ++ markR h b bar 0 la = A1 := ⟨_, rfl⟩
  rw [hA1] at key hac
  obtain ⟨O, hO⟩ : ∃ O, AObj.arr ac.length 3 59 (ac.map v3) = O := ⟨_, rfl⟩
  obtain ⟨O1, hO1⟩ : ∃ O, AObj.arr A1.length 3 59 (A1.map v3) = O := ⟨_, rfl⟩
  unfold mkO at key ⊢
  rw [hO, hO1] at key
  rw [hO]
  unfold mk2 mk1 c30
  refine CwpE.cut (st := ⟨(25, vb true) :: mkE2 m ac.length h hd b la, [.arr 1 1 25 [vmel m], O]⟩) ?_ ?_
  ·simp only [go_sem, ↓reduceIte, Nat.reduceLT, Nat.reduceEqDiff, b1]
   exact ⟨_, WkE.keep (by simp only [go_sem, ↓reduceIte, Nat.reduceEqDiff]), rfl⟩
  refine CwpE.cut (st := ⟨mkE2 m ac.length h hd b la, [.arr 1 1 25 [vmel m], O]⟩) ?_ ?_
  ·simp only [go_sem, ↓reduceIte]
   exact ⟨_, WkE.keep (by simp only [go_sem, ↓reduceIte, Nat.reduceEqDiff]), rfl⟩
  refine CwpE.seqJ (fun s => s = ⟨mkE2 m A1.length h hd b (lastP bar la), [.arr 1 1 25 [vmel m], O1]⟩) ?_ ?_
  rotate_left
  ·rintro _ rfl
   refine CwpE.vc ?_
   simp only [go_sem, ↓reduceIte, Nat.reduceLT, Nat.reduceEqDiff, bw]
   subst hO1
   exact ⟨z, ⟨mkE2 m A1.length h hd (b + 1) (lastP bar la), mkO m A1⟩, by omega, WkE.keep (by simp only [go_sem, ↓reduceIte, Nat.reduceEqDiff]), b + 1, A1, lastP bar la, by omega, last_small bar la hbr.2 hla, hac, rfl⟩
  refine CwpE.block ?_
  refine CwpE.cut (st := ⟨(7, vi b) :: (8, vbar bar) :: mkE2 m ac.length h hd b la, [.arr 1 1 25 [vmel m], O]⟩) ?_ ?_
  ·simp only [go_sem, ↓reduceIte, Nat.reduceLT, Nat.reduceEqDiff, List.getElem?_map, hbar, Option.map_some, b0]
   exact ⟨_, WkE.keep (by simp only [go_sem, ↓reduceIte, Nat.reduceEqDiff]), rfl⟩
  refine CwpE.cut (st := ⟨mkE3 m ac.length h hd b la bar 0, [.arr 1 1 25 [vmel m], O]⟩) ?_ ?_
  ·simp only [go_sem, ↓reduceIte, Nat.reduceLT, Nat.reduceEqDiff, List.length_map]
   exact ⟨_, WkE.keep (by simp only [go_sem, ↓reduceIte, Nat.reduceEqDiff]; rfl), rfl⟩
  exact key.mono fun e s ⟨s', hw, he, hs⟩ => by
   subst he; exact ⟨s', hw, hs⟩
theorem Marks_s (m : List (List (List Nt))) (hl : lenM m) (ho : okM m) : Ctr Tryd.prog 30 [vmel m] (.list 3 ((marksP m).map v3)) := by
 refine specC f30 (by simp) fun F0 w0 => ?_
 unfold c30
 refine CwpE.cut (st := ⟨[(1, .ref 0 1 0 0), (2, .val (.slice none 0 0))], [.arr 1 1 25 [vmel m]]⟩) ?_ ?_
 ·simp only [go_sem, ↓reduceIte, Nat.reduceLT]
  exact ⟨_, WkE.keep (by simp only [go_sem, ↓reduceIte, Nat.reduceEqDiff]), rfl⟩
 by_cases hv : validE m = 0
 rotate_left
 ·have e : marksP m = [] := if_neg hv
  rw [e]
  refine CwpE.vc ?_
  simp only [go_sem, ↓reduceIte, Nat.reduceLT, Int.reduceNeg]
  refine callT (Valid_s m hl ho) rfl ?_
  simp only [go_sem, ↓reduceIte, Nat.reduceLT, Int.reduceNeg, hv]
  exact .nil _
 have e : marksP m = markM m 0 := if_pos hv
 rw [e]
 have hm := vm_of hv
 have hh := hm.hands
 have hpos := hm.pos
 have hbd : ∀ x ∈ m, x.length <= 32 /\ ∀ y ∈ x, y.length <= 16 := fun x hx => ⟨by have := hm.bars x hx; omega, fun y hy => (hm.notes x hx y hy).1⟩
 have hG := markM_len m 0 hbd
 obtain ⟨G, eG⟩ : ∃ G, markM m 0 = G := ⟨_, rfl⟩
 rw [eG] at hG ⊢
 refine CwpE.cut (st := ⟨[(1, .ref 0 1 0 0)], [.arr 1 1 25 [vmel m]]⟩) ?_ ?_
 ·simp only [go_sem, ↓reduceIte, Nat.reduceLT]
  refine callT (Valid_s m hl ho) rfl ?_
  simp only [go_sem, ↓reduceIte, Nat.reduceLT, hv]
  exact ⟨_, WkE.keep (by simp only [go_sem, ↓reduceIte, Nat.reduceEqDiff]), rfl⟩
 refine CwpE.cut (st := ⟨[(1, .ref 0 1 0 0), (3, .own 1 0 0 0)], mkO m []⟩) ?_ ?_
 ·simp only [go_sem, ↓reduceIte, Nat.reduceLT]
  exact ⟨_, (WkE.nil 3 3 59 (by omega) rfl).trans (WkE.keep (by simp only [go_sem, ↓reduceIte, Nat.reduceEqDiff])), rfl⟩
 refine CwpE.seqJ (fun s => s = ⟨[(3, .own 1 G.length 0 G.length)], mkO m G⟩) ?_ ?_
 rotate_left
 ·rintro _ rfl
  refine CwpE.vc ?_
  simp only [go_sem, ↓reduceIte, Nat.reduceLT]
  exact snap_all G _ rfl rfl fun _ => rfl
 refine CwpE.cut (st := ⟨mkE1 m 0 0, mkO m []⟩) ?_ ?_
 ·simp only [go_sem, ↓reduceIte, Nat.reduceLT, List.length_map]
  exact ⟨_, WkE.keep (by simp only [go_sem, ↓reduceIte, Nat.reduceEqDiff]; rfl), rfl⟩
 refine CwpE.block ?_
 refine loopXC 0 (fun z s => ∃ (h : Nat) (ac : List (Nat × Nat × Nat)), h + z = m.length /\ ac ++ markM (m.drop h) h = G /\ s = ⟨mkE1 m ac.length h, mkO m ac⟩)
  (fun s => s = ⟨[(3, .own 1 G.length 0 G.length)], mkO m G⟩) m.length _ (.refl _ _) ⟨0, [], by omega, eG, rfl⟩ ?_ ?_
 rotate_left
 ·rintro s rfl
  simp only [inBlockE, if_true]
  exact ⟨_, .refl _ _, rfl⟩
 rintro z s ⟨h, ac, hz, hac, rfl⟩
 cases z with
 | zero =>
  have i1 : ¬ (h : Int) < (m.length : Int) := by omega
  have hdr : m.drop h = [] := List.drop_of_length_le (by omega)
  rw [hdr, markM, List.append_nil] at hac
  subst hac
  obtain ⟨O, hO⟩ : ∃ O, AObj.arr ac.length 3 59 (ac.map v3) = O := ⟨_, rfl⟩
  unfold mkO
  rw [hO]
  refine CwpE.vc ?_
  simp only [go_sem, ↓reduceIte, Nat.reduceLT, Nat.reduceEqDiff, Int.reduceNeg, i1]
  exact ⟨_, WkE.keep (by simp only [go_sem, ↓reduceIte, Nat.reduceEqDiff]), rfl⟩
 | succ z =>
  obtain ⟨hd, hhd⟩ : ∃ x, m[h]? = some x := ⟨_, List.getElem?_eq_getElem (by omega)⟩
  have hdr : m.drop h = hd :: m.drop (h + 1) := by
   obtain ⟨hlt, e⟩ := List.getElem?_eq_some_iff.1 hhd
   rw [List.drop_eq_getElem_cons hlt, e]
  have hdm := List.mem_of_getElem? hhd
  rw [hdr, markM, <- List.append_assoc] at hac
  have lac : ac.length <= G.length := by rw [<- hac]; simp
  have h1 : (h : Int) < (m.length : Int) := by omega
  have h0 : (0 : Int) <= (h : Int) := by omega
  have hw : IntKind.i64.wrap ((h : Int) + 1) = ((h + 1 : Nat) : Int) := by rw [wrap_id (by omega) (by omega)]; omega
  have key := mk_hand F0 w0 m h hd (fun x hx => ⟨(hm.notes hd hdm x hx).1, (hm.notes hd hdm x hx).2.2⟩) ac (by omega) (by have := (hbd hd hdm).1; omega) (Q := fun e s => e = .normal /\ s = ⟨mkE1 m (ac ++ markH h hd 0 (-1)).length h, mkO m (ac ++ markH h hd 0 (-1))⟩) ⟨rfl, rfl⟩
  obtain ⟨A1, hA1⟩ : ∃ A1, ac ++ markH h hd 0 (-1) = A1 := ⟨_, rfl⟩
  rw [hA1] at key hac
  obtain ⟨O, hO⟩ : ∃ O, AObj.arr ac.length 3 59 (ac.map v3) = O := ⟨_, rfl⟩
  obtain ⟨O1, hO1⟩ : ∃ O, AObj.arr A1.length 3 59 (A1.map v3) = O := ⟨_, rfl⟩
  unfold mkO at key ⊢
  rw [hO, hO1] at key
  rw [hO]
  refine CwpE.cut (st := ⟨(18, vb true) :: mkE1 m ac.length h, [.arr 1 1 25 [vmel m], O]⟩) ?_ ?_
  ·simp only [go_sem, ↓reduceIte, Nat.reduceLT, Nat.reduceEqDiff, h1]
   exact ⟨_, WkE.keep (by simp only [go_sem, ↓reduceIte, Nat.reduceEqDiff]), rfl⟩
  refine CwpE.cut (st := ⟨mkE1 m ac.length h, [.arr 1 1 25 [vmel m], O]⟩) ?_ ?_
  ·simp only [go_sem, ↓reduceIte]
   exact ⟨_, WkE.keep (by simp only [go_sem, ↓reduceIte, Nat.reduceEqDiff]), rfl⟩
  refine CwpE.seqJ (fun s => s = ⟨mkE1 m A1.length h, [.arr 1 1 25 [vmel m], O1]⟩) ?_ ?_
  rotate_left
  ·rintro _ rfl
   refine CwpE.vc ?_
   simp only [go_sem, ↓reduceIte, Nat.reduceLT, Nat.reduceEqDiff, hw]
   subst hO1
   exact ⟨z, ⟨mkE1 m A1.length (h + 1), mkO m A1⟩, by omega, WkE.keep (by simp only [go_sem, ↓reduceIte, Nat.reduceEqDiff]), h + 1, A1, by omega, hac, rfl⟩
  refine CwpE.block ?_
  refine CwpE.cut (st := ⟨(4, vi h) :: (5, vhand hd) :: mkE1 m ac.length h, [.arr 1 1 25 [vmel m], O]⟩) ?_ ?_
  ·simp only [go_sem, ↓reduceIte, Nat.reduceLT, Nat.reduceEqDiff, List.getElem?_map, hhd, Option.map_some, h0]
   exact ⟨_, WkE.keep (by simp only [go_sem, ↓reduceIte, Nat.reduceEqDiff]), rfl⟩
  refine CwpE.cut (st := ⟨(6, vi (-1)) :: (4, vi h) :: (5, vhand hd) :: mkE1 m ac.length h, [.arr 1 1 25 [vmel m], O]⟩) ?_ ?_
  ·simp only [go_sem, ↓reduceIte, Nat.reduceLT, Int.reduceNeg]
   exact ⟨_, WkE.keep (by simp only [go_sem, ↓reduceIte, Nat.reduceEqDiff]), rfl⟩
  refine CwpE.cut (st := ⟨mkE2 m ac.length h hd 0 (-1), [.arr 1 1 25 [vmel m], O]⟩) ?_ ?_
  ·simp only [go_sem, ↓reduceIte, Nat.reduceLT, Nat.reduceEqDiff, Int.reduceNeg, List.length_map]
   exact ⟨_, WkE.keep (by simp only [go_sem, ↓reduceIte, Nat.reduceEqDiff]; rfl), rfl⟩
  exact key.mono fun e s ⟨s', hw, he, hs⟩ => by
   subst he; exact ⟨s', hw, hs⟩
end Go.Proofs.YtnncijjkbonokaaDoor
namespace Go.Proofs.YtnncijjkbonokaaDoor
open Go.RowKit Dak
abbrev rk1 : CCode := match c31 with | .seq _ (.seq _ (.seq _ (.seq (.seq _ (.block _ (.loop b))) _))) => b | _ => .skip
abbrev rk2 : CCode := match rk1 with | .seq _ (.seq (.block _ (.seq _ (.seq _ (.block _ (.loop b))))) _) => b | _ => .skip
abbrev rk3 : CCode := match rk2 with | .seq _ (.seq (.block _ (.seq _ (.seq _ (.block _ (.loop b))))) _) => b | _ => .skip
abbrev rkE1 (n h : Nat) : List (Nat × AV) := [(1, .ref 0 1 0 0), (3, .own 1 n 0 n), (4, vi h)]
abbrev rkE2 (n h b : Nat) (last : Int) : List (Nat × AV) := (5, vi last) :: (6, vi b) :: rkE1 n h
abbrev rkE3 (n h b : Nat) (last : Int) (bar : List Nt) (i : Nat) : List (Nat × AV) := (7, vbar bar) :: (8, vi i) :: rkE2 n h b last
theorem rk_note (F0 : FD) (w0 : World) (m : List (List (List Nt))) (h b : Nat) (last : Int) (hl : small last) (bar : List Nt) (i : Nat) (nt : Nt) (hi : bar[i]? = some nt) (hn : rightP nt = true) (acc : List (Nat × Nat × Nat)) (ha : acc.length <= 100000)
 (hb : bar.length <= 100000) {Q : Exit -> Est -> Prop} (hQ : ∀ s, WkE 69 s ⟨rkE3 (acc ++ if markP nt.s last = true then [(h, b, i)] else []).length h b (stepP nt last) bar (i + 1), mkO m (acc ++ if markP nt.s last = true then [(h, b, i)] else [])⟩ -> Q .normal s) :
 CwpE Tryd.prog F0 w0 69 rk3 Q ⟨rkE3 acc.length h b last bar i, mkO m acc⟩ := by
 have i1 : (i : Int) < (bar.length : Int) := by have := (List.getElem?_eq_some_iff.1 hi).1; omega
 have i0 : (0 : Int) <= (i : Int) := by omega
 have iw : IntKind.i64.wrap ((i : Int) + 1) = ((i + 1 : Nat) : Int) := by rw [wrap_id (by omega) (by omega)]; omega
 have hr := rightP_iff hn
 have gi : (bar.map vnote)[i]? = some (vnote nt) := by rw [List.getElem?_map, hi]; rfl
 have ss : small nt.s := ⟨by omega, by omega⟩
 have q : (acc.length + 1) * 24 <= 140737488355328 := by omega
 have htk : List.take acc.length (acc.map v3) = acc.map v3 := List.take_of_length_le (by simp)
 have eL : (acc ++ [(h, b, i)]).length = acc.length + 1 := by simp
 unfold rk3 rk2 rk1 c31
 refine CwpE.vc ?_
 simp only [go_sem, ↓reduceIte, Nat.reduceLT, Nat.reduceEqDiff, i0, i1, List.length_map, gi]
 refine callT (marked_s nt.s last ss hl) rfl ?_
 by_cases h0 : 0 <= nt.s
 ·have est : stepP nt last = nt.s := by rw [stepP, if_pos h0]
  rw [est] at hQ
  cases hne : markP nt.s last with
  | true =>
   rw [hne] at hQ
   simp only [if_true] at hQ
   unfold mkO at hQ
   rw [eL, List.map_append] at hQ
   simp only [go_sem, Nat.reducePow, Nat.reduceLeDiff, ↓reduceIte, Nat.reduceLT, Nat.reduceEqDiff, Nat.reduceAdd, Nat.reduceMul, i0, iw, List.length_map, gi, q, htk, h0]
   exact hQ _ (WkE.keep (by simp only [go_sem, ↓reduceIte, Nat.reduceEqDiff]))
  | false =>
   rw [hne] at hQ
   simp only [Bool.false_eq_true, if_false, List.append_nil] at hQ
   simp only [go_sem, ↓reduceIte, Nat.reduceLT, Nat.reduceEqDiff, i0, iw, gi, h0]
   exact hQ _ (WkE.keep (by simp only [go_sem, ↓reduceIte, Nat.reduceEqDiff]))
 ·have est : stepP nt last = last := by rw [stepP, if_neg h0]
  have emk : markP nt.s last = false := by simp [markP, h0]
  rw [emk, est] at hQ
  rw [emk]
  simp only [Bool.false_eq_true, if_false, List.append_nil] at hQ
  simp only [go_sem, ↓reduceIte, Nat.reduceLT, Nat.reduceEqDiff, i0, iw, gi, h0]
  exact hQ _ (WkE.keep (by simp only [go_sem, ↓reduceIte, Nat.reduceEqDiff]))
theorem rk_bar (F0 : FD) (w0 : World) (m : List (List (List Nt))) (h b : Nat) (last : Int) (hl : small last) (bar : List Nt) (hr : ∀ n ∈ bar, rightP n = true) (acc : List (Nat × Nat × Nat)) (ha : acc.length <= 50000)
 (hb : bar.length <= 1000) {Q : Exit -> Est -> Prop} (hQ : Q .normal ⟨rkE2 (acc ++ markR h b bar 0 last).length h b (lastP bar last), mkO m (acc ++ markR h b bar 0 last)⟩) :
 CwpE Tryd.prog F0 w0 69 (.block 4 (.loop rk3)) (fun e s => ∃ s', WkE 69 s s' /\ Q e s') ⟨rkE3 acc.length h b last bar 0, mkO m acc⟩ := by
 obtain ⟨A, hA⟩ : ∃ A, acc ++ markR h b bar 0 last = A := ⟨_, rfl⟩
 obtain ⟨Z, hZ⟩ : ∃ Z, lastP bar last = Z := ⟨_, rfl⟩
 have lA : A.length <= 60000 := by have := markR_len h b bar 0 last; rw [<- hA, List.length_append]; omega
 rw [hA, hZ] at hQ
 refine CwpE.block ?_
 refine loopXC 4 (fun z s => ∃ (i : Nat) (ac : List (Nat × Nat × Nat)) (la : Int), i + z = bar.length /\ small la /\ ac ++ markR h b (bar.drop i) i la = A /\ lastP (bar.drop i) la = Z /\ s = ⟨rkE3 ac.length h b la bar i, mkO m ac⟩)
  (fun s => s = ⟨rkE2 A.length h b Z, mkO m A⟩) bar.length _ (.refl _ _) ⟨0, acc, last, by omega, hl, hA, hZ, rfl⟩ ?_ ?_
 rotate_left
 ·rintro s rfl
  simp only [inBlockE, if_true]
  exact ⟨_, .refl _ _, hQ⟩
 rintro z s ⟨i, ac, la, hi, hla, hac, hlz, rfl⟩
 cases z with
 | zero =>
  have i1 : ¬ (i : Int) < (bar.length : Int) := by omega
  have hdr : bar.drop i = [] := List.drop_of_length_le (by omega)
  rw [hdr, markR, List.append_nil] at hac
  rw [hdr, lastP] at hlz
  subst hac; subst hlz
  obtain ⟨O, hO⟩ : ∃ O, AObj.arr ac.length 3 59 (ac.map v3) = O := ⟨_, rfl⟩
  unfold mkO
  rw [hO]
  unfold rk3 rk2 rk1 c31
  refine CwpE.vc ?_
  simp only [go_sem, ↓reduceIte, Nat.reduceLT, Nat.reduceEqDiff, i1, List.length_map]
  exact ⟨_, WkE.keep (by simp only [go_sem, ↓reduceIte, Nat.reduceEqDiff]), rfl⟩
 | succ z =>
  obtain ⟨nt, hnt⟩ : ∃ nt, bar[i]? = some nt := ⟨_, List.getElem?_eq_getElem (by omega)⟩
  have hdr : bar.drop i = nt :: bar.drop (i + 1) := by
   obtain ⟨hlt, e⟩ := List.getElem?_eq_some_iff.1 hnt
   rw [List.drop_eq_getElem_cons hlt, e]
  have hnr := hr nt (List.mem_of_getElem? hnt)
  rw [hdr, markR, <- List.append_assoc] at hac
  rw [hdr, lastP] at hlz
  have lac : ac.length <= A.length := by rw [<- hac]; simp
  exact rk_note F0 w0 m h b la hla bar i nt hnt hnr ac (by omega) (by omega) fun s hs => ⟨z, _, by omega, hs, i + 1, _, _, by omega, step_small hnr hla, hac, hlz, rfl⟩
theorem rk_hand (F0 : FD) (w0 : World) (m : List (List (List Nt))) (h : Nat) (hd : List (List Nt)) (hhd : m[h]? = some hd) (hml : m.length <= 100) (hr : ∀ x ∈ hd, x.length <= 16 /\ ∀ n ∈ x, rightP n = true) (acc : List (Nat × Nat × Nat)) (ha : acc.length <= 10000)
 (hb : hd.length <= 1000) {Q : Exit -> Est -> Prop} (hQ : Q .normal ⟨rkE1 (acc ++ markH h hd 0 (-1)).length h, mkO m (acc ++ markH h hd 0 (-1))⟩) :
 CwpE Tryd.prog F0 w0 69 (.block 2 (.loop rk2)) (fun e s => ∃ s', WkE 69 s s' /\ Q e s') ⟨rkE2 acc.length h 0 (-1), mkO m acc⟩ := by
 have h1 : (h : Int) < (m.length : Int) := by have := (List.getElem?_eq_some_iff.1 hhd).1; omega
 have h0 : (0 : Int) <= (h : Int) := by omega
 obtain ⟨A, hA⟩ : ∃ A, acc ++ markH h hd 0 (-1) = A := ⟨_, rfl⟩
 have lA : A.length <= 40000 := by have := markH_len h hd 0 (-1) fun x hx => (hr x hx).1; rw [<- hA, List.length_append]; omega
 rw [hA] at hQ
 refine CwpE.block ?_
 refine loopXC 2 (fun z s => ∃ (b : Nat) (ac : List (Nat × Nat × Nat)) (la : Int), b + z = hd.length /\ small la /\ ac ++ markH h (hd.drop b) b la = A /\ s = ⟨rkE2 ac.length h b la, mkO m ac⟩)
  (fun s => s = ⟨rkE1 A.length h, mkO m A⟩) hd.length _ (.refl _ _) ⟨0, acc, -1, by omega, ⟨by decide, by decide⟩, hA, rfl⟩ ?_ ?_
 rotate_left
 ·rintro s rfl
  simp only [inBlockE, if_true]
  exact ⟨_, .refl _ _, hQ⟩
 rintro z s ⟨b, ac, la, hbz, hla, hac, rfl⟩
 cases z with
 | zero =>
  have i1 : ¬ (b : Int) < (hd.length : Int) := by omega
  have hdr : hd.drop b = [] := List.drop_of_length_le (by omega)
  rw [hdr, markH, List.append_nil] at hac
  subst hac
  obtain ⟨O, hO⟩ : ∃ O, AObj.arr ac.length 3 59 (ac.map v3) = O := ⟨_, rfl⟩
  unfold mkO
  rw [hO]
  unfold rk2 rk1 c31
  refine CwpE.vc ?_
  simp only [go_sem, ↓reduceIte, Nat.reduceLT, Nat.reduceEqDiff, i1, h0, List.length_map, List.getElem?_map, hhd, Option.map_some]
  exact ⟨_, WkE.keep (by simp only [go_sem, ↓reduceIte, Nat.reduceEqDiff]), rfl⟩
 | succ z =>
  obtain ⟨bar, hbar⟩ : ∃ x, hd[b]? = some x := ⟨_, List.getElem?_eq_getElem (by omega)⟩
  have hdr : hd.drop b = bar :: hd.drop (b + 1) := by
   obtain ⟨hlt, e⟩ := List.getElem?_eq_some_iff.1 hbar
   rw [List.drop_eq_getElem_cons hlt, e]
  have hbr := hr bar (List.mem_of_getElem? hbar)
  rw [hdr, markH, <- List.append_assoc] at hac
  have lac : ac.length <= A.length := by rw [<- hac]; simp
  have b1 : (b : Int) < (hd.length : Int) := by omega
  have b0 : (0 : Int) <= (b : Int) := by omega
  have bw : IntKind.i64.wrap ((b : Int) + 1) = ((b + 1 : Nat) : Int) := by rw [wrap_id (by omega) (by omega)]; omega
  have key := rk_bar F0 w0 m h b la hla bar hbr.2 ac (by omega) (by omega) (Q := fun e s => e = .normal /\ s = ⟨rkE2 (ac ++ markR h b bar 0 la).length h b (lastP bar la), mkO m (ac ++ markR h b bar 0 la)⟩) ⟨rfl, rfl⟩
  obtain ⟨A1, hA1⟩ : ∃ A1, ac ++ markR h b bar 0 la = A1 := ⟨_, rfl⟩
  rw [hA1] at key hac
  obtain ⟨O, hO⟩ : ∃ O, AObj.arr ac.length 3 59 (ac.map v3) = O := ⟨_, rfl⟩
  obtain ⟨O1, hO1⟩ : ∃ O, AObj.arr A1.length 3 59 (A1.map v3) = O := ⟨_, rfl⟩
  unfold mkO at key ⊢
  rw [hO, hO1] at key
  rw [hO]
  unfold rk2 rk1 c31
  refine CwpE.cut (st := ⟨rkE2 ac.length h b la, [.arr 1 1 25 [vmel m], O]⟩) ?_ ?_
  ·simp only [go_sem, ↓reduceIte, Nat.reduceLT, Nat.reduceEqDiff, b1, h0, List.length_map, List.getElem?_map, hhd, Option.map_some]
   exact ⟨_, WkE.keep (by simp only [go_sem, ↓reduceIte, Nat.reduceEqDiff]), rfl⟩
  refine CwpE.seqJ (fun s => s = ⟨rkE2 A1.length h b (lastP bar la), [.arr 1 1 25 [vmel m], O1]⟩) ?_ ?_
  rotate_left
  ·rintro _ rfl
   refine CwpE.vc ?_
   simp only [go_sem, ↓reduceIte, Nat.reduceLT, Nat.reduceEqDiff, bw]
   subst hO1
   exact ⟨z, ⟨rkE2 A1.length h (b + 1) (lastP bar la), mkO m A1⟩, by omega, WkE.keep (by simp only [go_sem, ↓reduceIte, Nat.reduceEqDiff]), b + 1, A1, lastP bar la, by omega, last_small bar la hbr.2 hla, hac, rfl⟩
  refine CwpE.block ?_
  refine CwpE.cut (st := ⟨(7, vbar bar) :: rkE2 ac.length h b la, [.arr 1 1 25 [vmel m], O]⟩) ?_ ?_
  ·simp only [go_sem, ↓reduceIte, Nat.reduceLT, Nat.reduceEqDiff, List.getElem?_map, hbar, hhd, Option.map_some, h0, b0]
   exact ⟨_, WkE.keep (by simp only [go_sem, ↓reduceIte, Nat.reduceEqDiff]), rfl⟩
  refine CwpE.cut (st := ⟨rkE3 ac.length h b la bar 0, [.arr 1 1 25 [vmel m], O]⟩) ?_ ?_
  ·simp only [go_sem, ↓reduceIte, Nat.reduceLT]
   exact ⟨_, WkE.keep (by simp only [go_sem, ↓reduceIte, Nat.reduceEqDiff]; rfl), rfl⟩
  exact key.mono fun e s ⟨s', hw, he, hs⟩ => by
   subst he; exact ⟨s', hw, hs⟩
theorem refMarks_s (m : List (List (List Nt))) (hl : lenM m) : Ctr Tryd.prog 31 [vmel m] (.list 3 ((marksP m).map v3)) := by
 refine specC f31 (by simp) fun F0 w0 => ?_
 unfold c31
 refine CwpE.cut (st := ⟨[(1, .ref 0 1 0 0), (2, .val (.slice none 0 0))], [.arr 1 1 25 [vmel m]]⟩) ?_ ?_
 ·simp only [go_sem, ↓reduceIte, Nat.reduceLT]
  exact ⟨_, WkE.keep (by simp only [go_sem, ↓reduceIte, Nat.reduceEqDiff]), rfl⟩
 by_cases hv : validE m = 0
 rotate_left
 ·have e : marksP m = [] := if_neg hv
  rw [e]
  refine CwpE.vc ?_
  simp only [go_sem, ↓reduceIte, Nat.reduceLT, Int.reduceNeg]
  refine callT (refValid_s m hl) rfl ?_
  simp only [go_sem, ↓reduceIte, Nat.reduceLT, Int.reduceNeg, hv]
  exact .nil _
 have e : marksP m = markM m 0 := if_pos hv
 rw [e]
 have hm := vm_of hv
 have hh := hm.hands
 have hpos := hm.pos
 have hbd : ∀ x ∈ m, x.length <= 32 /\ ∀ y ∈ x, y.length <= 16 := fun x hx => ⟨by have := hm.bars x hx; omega, fun y hy => (hm.notes x hx y hy).1⟩
 have hG := markM_len m 0 hbd
 obtain ⟨G, eG⟩ : ∃ G, markM m 0 = G := ⟨_, rfl⟩
 rw [eG] at hG ⊢
 refine CwpE.cut (st := ⟨[(1, .ref 0 1 0 0)], [.arr 1 1 25 [vmel m]]⟩) ?_ ?_
 ·simp only [go_sem, ↓reduceIte, Nat.reduceLT]
  refine callT (refValid_s m hl) rfl ?_
  simp only [go_sem, ↓reduceIte, Nat.reduceLT, hv]
  exact ⟨_, WkE.keep (by simp only [go_sem, ↓reduceIte, Nat.reduceEqDiff]), rfl⟩
 refine CwpE.cut (st := ⟨[(1, .ref 0 1 0 0), (3, .own 1 0 0 0)], mkO m []⟩) ?_ ?_
 ·simp only [go_sem, ↓reduceIte, Nat.reduceLT]
  exact ⟨_, (WkE.nil 3 3 59 (by omega) rfl).trans (WkE.keep (by simp only [go_sem, ↓reduceIte, Nat.reduceEqDiff])), rfl⟩
 refine CwpE.seqJ (fun s => s = ⟨[(3, .own 1 G.length 0 G.length)], mkO m G⟩) ?_ ?_
 rotate_left
 ·rintro _ rfl
  refine CwpE.vc ?_
  simp only [go_sem, ↓reduceIte, Nat.reduceLT]
  exact snap_all G _ rfl rfl fun _ => rfl
 refine CwpE.cut (st := ⟨rkE1 0 0, mkO m []⟩) ?_ ?_
 ·simp only [go_sem, ↓reduceIte, Nat.reduceLT]
  exact ⟨_, WkE.keep (by simp only [go_sem, ↓reduceIte, Nat.reduceEqDiff]; rfl), rfl⟩
 refine CwpE.block ?_
 refine loopXC 0 (fun z s => ∃ (h : Nat) (ac : List (Nat × Nat × Nat)), h + z = m.length /\ ac ++ markM (m.drop h) h = G /\ s = ⟨rkE1 ac.length h, mkO m ac⟩)
  (fun s => s = ⟨[(3, .own 1 G.length 0 G.length)], mkO m G⟩) m.length _ (.refl _ _) ⟨0, [], by omega, eG, rfl⟩ ?_ ?_
 rotate_left
 ·rintro s rfl
  simp only [inBlockE, if_true]
  exact ⟨_, .refl _ _, rfl⟩
 rintro z s ⟨h, ac, hz, hac, rfl⟩
 cases z with
 | zero =>
  have i1 : ¬ (h : Int) < (m.length : Int) := by omega
  have hdr : m.drop h = [] := List.drop_of_length_le (by omega)
  rw [hdr, markM, List.append_nil] at hac
  subst hac
  obtain ⟨O, hO⟩ : ∃ O, AObj.arr ac.length 3 59 (ac.map v3) = O := ⟨_, rfl⟩
  unfold mkO
  rw [hO]
  refine CwpE.vc ?_
  simp only [go_sem, ↓reduceIte, Nat.reduceLT, Nat.reduceEqDiff, Int.reduceNeg, i1, List.length_map]
  exact ⟨_, WkE.keep (by simp only [go_sem, ↓reduceIte, Nat.reduceEqDiff]), rfl⟩
 | succ z =>
  obtain ⟨hd, hhd⟩ : ∃ x, m[h]? = some x := ⟨_, List.getElem?_eq_getElem (by omega)⟩
  have hdr : m.drop h = hd :: m.drop (h + 1) := by
   obtain ⟨hlt, e⟩ := List.getElem?_eq_some_iff.1 hhd
   rw [List.drop_eq_getElem_cons hlt, e]
  have hdm := List.mem_of_getElem? hhd
  rw [hdr, markM, <- List.append_assoc] at hac
  have lac : ac.length <= G.length := by rw [<- hac]; simp
  have h1 : (h : Int) < (m.length : Int) := by omega
  have h0 : (0 : Int) <= (h : Int) := by omega
  have hw : IntKind.i64.wrap ((h : Int) + 1) = ((h + 1 : Nat) : Int) := by rw [wrap_id (by omega) (by omega)]; omega
  have key := rk_hand F0 w0 m h hd hhd (by omega) (fun x hx => ⟨(hm.notes hd hdm x hx).1, (hm.notes hd hdm x hx).2.2⟩) ac (by omega) (by have := (hbd hd hdm).1; omega) (Q := fun e s => e = .normal /\ s = ⟨rkE1 (ac ++ markH h hd 0 (-1)).length h, mkO m (ac ++ markH h hd 0 (-1))⟩) ⟨rfl, rfl⟩
  obtain ⟨A1, hA1⟩ : ∃ A1, ac ++ markH h hd 0 (-1) = A1 := ⟨_, rfl⟩
  rw [hA1] at key hac
  obtain ⟨O, hO⟩ : ∃ O, AObj.arr ac.length 3 59 (ac.map v3) = O := ⟨_, rfl⟩
  obtain ⟨O1, hO1⟩ : ∃ O, AObj.arr A1.length 3 59 (A1.map v3) = O := ⟨_, rfl⟩
  unfold mkO at key ⊢
  rw [hO, hO1] at key
  rw [hO]
  refine CwpE.cut (st := ⟨rkE1 ac.length h, [.arr 1 1 25 [vmel m], O]⟩) ?_ ?_
  ·simp only [go_sem, ↓reduceIte, Nat.reduceLT, Nat.reduceEqDiff, h1, List.length_map]
   exact ⟨_, WkE.keep (by simp only [go_sem, ↓reduceIte, Nat.reduceEqDiff]), rfl⟩
  refine CwpE.seqJ (fun s => s = ⟨rkE1 A1.length h, [.arr 1 1 25 [vmel m], O1]⟩) ?_ ?_
  rotate_left
  ·rintro _ rfl
   refine CwpE.vc ?_
   simp only [go_sem, ↓reduceIte, Nat.reduceLT, Nat.reduceEqDiff, hw]
   subst hO1
   exact ⟨z, ⟨rkE1 A1.length (h + 1), mkO m A1⟩, by omega, WkE.keep (by simp only [go_sem, ↓reduceIte, Nat.reduceEqDiff]), h + 1, A1, by omega, hac, rfl⟩
  refine CwpE.block ?_
  refine CwpE.cut (st := ⟨(5, vi (-1)) :: rkE1 ac.length h, [.arr 1 1 25 [vmel m], O]⟩) ?_ ?_
  ·simp only [go_sem, ↓reduceIte, Nat.reduceLT, Int.reduceNeg]
   exact ⟨_, WkE.keep (by simp only [go_sem, ↓reduceIte, Nat.reduceEqDiff]), rfl⟩
  refine CwpE.cut (st := ⟨rkE2 ac.length h 0 (-1), [.arr 1 1 25 [vmel m], O]⟩) ?_ ?_
  ·simp only [go_sem, ↓reduceIte, Nat.reduceLT, Int.reduceNeg]
   exact ⟨_, WkE.keep (by simp only [go_sem, ↓reduceIte, Nat.reduceEqDiff]; rfl), rfl⟩
  exact key.mono fun e s ⟨s', hw, he, hs⟩ => by
   subst he; exact ⟨s', hw, hs⟩
end Go.Proofs.YtnncijjkbonokaaDoor
namespace Go.Proofs.YtnncijjkbonokaaDoor
open Go.RowKit Dak
theorem vm_valid {m : List (List (List Nt))} (hm : Vm m) : validE m = 0 := by
 have h2 := hm.hands
 have hp := hm.pos
 have h1 : (decide (2 < m.length) || m.any longP) = false := by
  rw [Bool.or_eq_false_iff, decide_eq_false_iff_not, List.any_eq_false]
  refine ⟨by omega, fun h hh => ?_⟩
  have hb := hm.bars h hh
  have : longP h = false := by
   unfold longP
   rw [Bool.or_eq_false_iff, decide_eq_false_iff_not, List.any_eq_false]
   exact ⟨by omega, fun b hb' => by have := (hm.notes h hh b hb').1; simp; omega⟩
  simp [this]
 have h2' : (decide (m.length = 0) || m.any (wrongP (m.headD []).length)) = false := by
  rw [Bool.or_eq_false_iff, decide_eq_false_iff_not, List.any_eq_false]
  refine ⟨by omega, fun h hh => ?_⟩
  have hb := hm.bars h hh
  have : wrongP (m.headD []).length h = false := by
   unfold wrongP
   rw [Bool.or_eq_false_iff, decide_eq_false_iff_not, List.any_eq_false]
   refine ⟨by simp only [manyP] at hb hp; omega, fun b hb' => ?_⟩
   have hn := hm.notes h hh b hb'
   rw [barP_pos hn.2.1]
   have : b.all rightP = true := List.all_eq_true.2 hn.2.2
   simp [this]
  rw [this]; decide
 rw [validE, h1, h2']; rfl
end Go.Proofs.YtnncijjkbonokaaDoor
namespace Go.Proofs.YtnncijjkbonokaaDoor
open Dak
def c9 : CCode :=
 (.seq (.region [oo 10 (.mov (.const (.bool false)))])
 (.seq (.region [vv 19 0, oo 20 (.call (.func 10) [(T 19)]), oo 11 (.alloc 25 (.agg [(.val (.slice none 0 0))])), nn (.store 1 (T 11) (T 20))])
 (.seq (.region [oo 21 (.load true 1 (T 11)), vv 22 2, vv 23 3, vv 24 4, oo 25 (.call (.func 11) [(T 21), (T 22), (T 23), (T 24)]), oo 12 (.alloc 25 (.agg [(.val (.slice none 0 0))])), nn (.store 1 (T 12) (T 25))])
 (.seq (.drawn [oo 26 (.load true 1 (T 11)), oo 27 (.load true 1 (T 12)), oo 28 (.load true 1 (T 12)), vv 29 4, vv 30 3, oo 31 (.ibin .quo (T 30) (kk 9)), vv 32 2, vv 34 1, oo 36 (.build [(.val (.slice none 0 0))] [])] [(oo 33 (.call (.func 11) [(T 28), (T 29), (T 31), (T 32)]), [oo 26 (.load true 1 (T 11)), oo 27 (.load true 1 (T 12)), vv 34 1, oo 36 (.build [(.val (.slice none 0 0))] [])]), (oo 35 (.call (.func 10) [(T 34)]), [oo 26 (.load true 1 (T 11)), oo 27 (.load true 1 (T 12)), oo 36 (.build [(.val (.slice none 0 0))] [])]), (oo 37 (.bslice 25 1 [(T 26), (T 27), (T 33), (T 35), (T 36)]), []), (vv 13 37, [])])
 (.seq (.seq (.region [oo 14 (.mov (kk 0))])
 (.block 0 (.loop
 (.seq (.seq (.region [vv 38 14, vv 39 13, oo 40 (.len (T 39)), oo 41 (.ibin .lss (T 38) (T 40))])
 (.cond (T 41)
 .skip
 (.exit 0)))
 (.seq (.block 1 (.seq (.seq (.drawn [vv 44 13, vv 45 14, oo 46 (.idxS 1 (T 44) (T 45)), oo 47 (.load true 1 (T 46)), vv 49 13, vv 50 14, oo 51 (.idxS 1 (T 49) (T 50)), oo 52 (.load true 1 (T 51))] [(oo 48 (.call (.func 28) [(T 47)]), [vv 49 13, vv 50 14, oo 51 (.idxS 1 (T 49) (T 50)), oo 52 (.load true 1 (T 51))]), (oo 53 (.call (.func 29) [(T 52)]), []), (oo 54 (.ibin .neq (T 48) (T 53)), [])])
 (.cond (T 54)
 (.seq (.region [oo 10 (.mov (.const (.bool false)))])
 .ret)
 .skip))
 (.seq (.region [vv 55 13, vv 56 14, oo 57 (.idxS 1 (T 55) (T 56)), oo 58 (.load true 1 (T 57)), oo 59 (.call (.func 30) [(T 58)]), vv 15 59])
 (.seq (.region [vv 60 13, vv 61 14, oo 62 (.idxS 1 (T 60) (T 61)), oo 63 (.load true 1 (T 62)), oo 64 (.call (.func 31) [(T 63)]), vv 16 64])
 (.seq (.seq (.region [vv 65 15, oo 66 (.len (T 65)), vv 67 16, oo 68 (.len (T 67)), oo 69 (.ibin .neq (T 66) (T 68))])
 (.cond (T 69)
 (.seq (.region [oo 10 (.mov (.const (.bool false)))])
 .ret)
 .skip))
 (.seq (.seq (.region [oo 17 (.mov (kk 0))])
 (.block 2 (.loop
 (.seq (.seq (.region [vv 70 17, vv 71 15, oo 72 (.len (T 71)), oo 73 (.ibin .lss (T 70) (T 72))])
 (.cond (T 73)
 .skip
 (.exit 2)))
 (.seq (.block 3 (.seq (.drawn [vv 76 15, vv 77 17, oo 78 (.idxS 3 (T 76) (T 77)), oo 79 (.load true 3 (T 78)), vv 80 16, vv 81 17, oo 82 (.idxS 3 (T 80) (T 81)), oo 83 (.load true 3 (T 82)), oo 84 (.aeq true 3 (T 79) (T 83))] [])
 (.cond (T 84)
 (.seq (.region [oo 10 (.mov (.const (.bool false)))])
 .ret)
 .skip)))
 (.region [vv 74 17, oo 75 (.ibin .add (T 74) (kk 1)), vv 17 75]))))))
 (.seq (.region [oo 18 (.mov (kk 0))])
 (.block 4 (.loop
 (.seq (.seq (.region [vv 85 18, vv 86 13, oo 87 (.len (T 86)), oo 88 (.ibin .lss (T 85) (T 87))])
 (.cond (T 88)
 .skip
 (.exit 4)))
 (.seq (.block 5 (.seq (.drawn [vv 91 13, vv 92 14, oo 93 (.idxS 1 (T 91) (T 92)), oo 94 (.load true 1 (T 93)), vv 95 13, vv 96 18, oo 97 (.idxS 1 (T 95) (T 96)), oo 98 (.load true 1 (T 97)), vv 100 13, vv 101 14, oo 102 (.idxS 1 (T 100) (T 101)), oo 103 (.load true 1 (T 102)), vv 104 13, vv 105 18, oo 106 (.idxS 1 (T 104) (T 105)), oo 107 (.load true 1 (T 106))] [(oo 99 (.call (.func 32) [(T 94), (T 98)]), [vv 100 13, vv 101 14, oo 102 (.idxS 1 (T 100) (T 101)), oo 103 (.load true 1 (T 102)), vv 104 13, vv 105 18, oo 106 (.idxS 1 (T 104) (T 105)), oo 107 (.load true 1 (T 106))]), (oo 108 (.call (.func 21) [(T 103), (T 107)]), []), (oo 109 (.bbin .neq (T 99) (T 108)), [])])
 (.cond (T 109)
 (.seq (.region [oo 10 (.mov (.const (.bool false)))])
 .ret)
 .skip)))
 (.region [vv 89 18, oo 90 (.ibin .add (T 89) (kk 1)), vv 18 90]))))))))))))
 (.region [vv 42 14, oo 43 (.ibin .add (T 42) (kk 1)), vv 14 43]))))))
 (.seq (.region [oo 110 (.load true 1 (T 11)), oo 111 (.call (.func 28) [(T 110)]), oo 112 (.ibin .eql (T 111) (kk 0)), vv 113 112, gt 114 113 (.call (.func 16) []), oo 115 (.pick (T 113) (T 114) (.const (.bool false))), vv 10 115])
 .ret))))))
theorem f9 : fnC Tryd.prog 9 = some (c9, 116, [(.tmp 10)]) := by kernel_rfl
end Go.Proofs.YtnncijjkbonokaaDoor
namespace Go.Proofs.YtnncijjkbonokaaDoor
open Go.RowKit Dak
abbrev one1 (u : AV) : AV := .agg [u]
theorem MusicValid_s (l kl : List Int) (a h b : Int) (hl : ∀ x ∈ l, I64 x) (hkl : ∀ x ∈ kl, I64 x) (ha : I64 a) (hh : I64 h) (hb : I64 b) : Ctr Tryd.prog 9 [vints l, vints kl, vi a, vi h, vi b] (vb true) := by
 refine specC f9 (by simp) fun F0 w0 => ?_
 obtain ⟨q9, w9⟩ := quoI hh 9 (by omega)
 have t9 : ((9 : Nat) : Int) = 9 := rfl
 rw [t9] at q9 w9
 have hm := melP_vm l
 have hmk := melP_vm kl
 obtain ⟨m, em⟩ : ∃ m, melP l = m := ⟨_, rfl⟩
 obtain ⟨n, en⟩ : ∃ n, melP kl = n := ⟨_, rfl⟩
 rw [em] at hm
 rw [en] at hmk
 have sm := vm_shp hm
 have sn := vm_shp hmk
 have sr := bent_shp sm a h b
 have lm := sm.len (by omega) (by omega) (by omega)
 have ln := sn.len (by omega) (by omega) (by omega)
 obtain ⟨r, er⟩ : ∃ r, bentP m a h b = r := ⟨_, rfl⟩
 rw [er] at sr
 have lr := sr.len (by omega) (by omega) (by omega)
 have sq := bent_shp sr b (h.tdiv 9) a
 obtain ⟨q, eq⟩ : ∃ q, bentP r b (h.tdiv 9) a = q := ⟨_, rfl⟩
 rw [eq] at sq
 have lq := sq.len (by omega) (by omega) (by omega)
 obtain ⟨UL, hUL⟩ : ∃ UL : List AV, [vhands m, vhands r, vhands q, vhands n, .val (.slice none 0 0)] = UL := ⟨_, rfl⟩
 have lUL : UL.length = 5 := by rw [<- hUL]; rfl
 have hget : ∀ k, k < 5 -> ∃ u x, UL[k]? = some u /\ (∀ objs, Snap objs u (vhands x)) /\ lenM x /\ okM x := by
  intro k hk
  rw [<- hUL]
  rcases k with _ | _ | _ | _ | _ | k
  ·exact ⟨_, m, rfl, fun objs => .tree _ rfl, lm.1, lm.2.1⟩
  ·exact ⟨_, r, rfl, fun objs => .tree _ rfl, lr.1, lr.2.1⟩
  ·exact ⟨_, q, rfl, fun objs => .tree _ rfl, lq.1, lq.2.1⟩
  ·exact ⟨_, n, rfl, fun objs => .tree _ rfl, ln.1, ln.2.1⟩
  ·exact ⟨_, [], rfl, fun objs => .nil _, ⟨by simp, fun x hx => by cases hx⟩, fun x hx => by cases hx⟩
  ·omega
 unfold c9
 refine CwpE.cut (st := ⟨[(0, vints l), (1, vints kl), (2, vi a), (3, vi h), (4, vi b)], []⟩) ?_ ?_
 ·simp only [go_sem, ↓reduceIte, Nat.reduceLT, Nat.reduceAdd]
  exact ⟨_, WkE.keep (by simp only [go_sem, ↓reduceIte, reduceCtorEq, Nat.reduceEqDiff]), rfl⟩
 refine CwpE.cut (st := ⟨[(11, .ref 0 1 0 0), (1, vints kl), (2, vi a), (3, vi h), (4, vi b)], [.arr 1 1 25 [vmel m]]⟩) ?_ ?_
 ·simp only [go_sem, ↓reduceIte, Nat.reduceLT]
  refine callT (Melody_s l hl) rfl ?_
  rw [em]
  simp only [go_sem, ↓reduceIte, Nat.reduceLT, Nat.reduceEqDiff]
  exact ⟨_, WkE.keep (by simp only [go_sem, ↓reduceIte, reduceCtorEq, Nat.reduceEqDiff]), rfl⟩
 refine CwpE.cut (st := ⟨[(11, .ref 0 1 0 0), (12, .ref 1 1 0 0), (1, vints kl), (2, vi a), (3, vi h), (4, vi b)], [.arr 1 1 25 [vmel m], .arr 1 1 25 [vmel r]]⟩) ?_ ?_
 ·simp only [go_sem, ↓reduceIte, Nat.reduceLT, Nat.reduceEqDiff]
  refine callT (Bent_s m a h b ha hh hb lm.2.2 (by have := sm.a; omega)) rfl ?_
  rw [er]
  simp only [go_sem, ↓reduceIte, Nat.reduceLT, Nat.reduceEqDiff]
  exact ⟨_, WkE.keep (by simp only [go_sem, ↓reduceIte, Nat.reduceEqDiff]), rfl⟩
 refine CwpE.cut (st := ⟨[(11, .ref 0 1 0 0), (13, .list 1 (UL.map one1))], [.arr 1 1 25 [vmel m]]⟩) ?_ ?_
 ·simp only [go_sem, ↓reduceIte, Nat.reduceLT, Nat.reduceEqDiff, Int.reduceEq, w9]
  refine callT (Bent_s r b (h.tdiv 9) a hb q9 ha lr.2.2 (by have := sr.a; omega)) rfl ?_
  rw [eq]
  simp only [go_sem, ↓reduceIte, Nat.reduceLT, Nat.reduceEqDiff]
  refine callT (Melody_s kl hkl) rfl ?_
  rw [en]
  simp only [go_sem, Nat.reducePow, Nat.reduceLeDiff, ↓reduceIte, reduceCtorEq, Nat.reduceLT, Nat.reduceEqDiff, Nat.reduceAdd, Nat.reduceMul]
  rw [<- hUL]
  exact ⟨_, WkE.round (by simp only [go_sem, ↓reduceIte, Nat.reduceEqDiff]) rfl rfl rfl, rfl⟩
 refine CwpE.seqJ (fun s => s = ⟨[(11, .ref 0 1 0 0)], [.arr 1 1 25 [vmel m]]⟩) ?_ ?_
 rotate_left
 ·rintro _ rfl
  refine CwpE.vc ?_
  simp only [go_sem, ↓reduceIte, Nat.reduceLT]
  refine callT (Valid_s m lm.1 lm.2.1) rfl ?_
  rw [vm_valid hm]
  simp only [go_sem, ↓reduceIte, Nat.reduceLT]
  refine callT lives_s rfl ?_
  simp only [go_sem, ↓reduceIte, Nat.reduceLT, Nat.reduceEqDiff]
  exact .tree _ rfl
 obtain ⟨O, hO⟩ : ∃ O, AObj.arr 1 1 25 [vmel m] = O := ⟨_, rfl⟩
 rw [hO]
 refine CwpE.cut (st := ⟨[(11, .ref 0 1 0 0), (13, .list 1 (UL.map one1)), (14, vi (0 : Nat))], [O]⟩) ?_ ?_
 ·simp only [go_sem, ↓reduceIte, Nat.reduceLT]
  exact ⟨_, WkE.keep (by simp only [go_sem, ↓reduceIte, Nat.reduceEqDiff]; rfl), rfl⟩
 refine CwpE.block ?_
 refine loopX 0 (fun z s => ∃ k : Nat, k + z = 5 /\ s = ⟨[(11, .ref 0 1 0 0), (13, .list 1 (UL.map one1)), (14, vi k)], [O]⟩) (fun s => s = ⟨[(11, .ref 0 1 0 0)], [O]⟩) 5 _ (.refl _ _) ⟨0, by omega, rfl⟩ ?_ ?_
 rotate_left
 ·rintro s rfl
  simp only [inBlockE, if_true]
  exact ⟨_, .refl _ _, rfl⟩
 rintro z s ⟨k, hk, rfl⟩
 cases z with
 | zero =>
  have k1 : ¬ (k : Int) < ((5 : Nat) : Int) := by omega
  simp only [go_sem, ↓reduceIte, Nat.reduceLT, Nat.reduceEqDiff, List.length_map, lUL, k1]
  exact ⟨_, WkE.keep (by simp only [go_sem, ↓reduceIte, Nat.reduceEqDiff]), rfl⟩
 | succ z =>
  have k1 : (k : Int) < ((5 : Nat) : Int) := by omega
  have k0 : (0 : Int) <= (k : Int) := by omega
  have kw : IntKind.i64.wrap ((k : Int) + 1) = ((k + 1 : Nat) : Int) := by rw [wrap_id (by omega) (by omega)]; omega
  obtain ⟨u, x, gu, su, lx, ox⟩ := hget k (by omega)
  have sx : ∀ objs, Snap objs (.agg [u]) (vmel x) := fun objs => snap_agg1 (su objs)
  obtain ⟨G, hG⟩ : ∃ G, marksP x = G := ⟨_, rfl⟩
  have lG : G.length <= 100000 := by
   rw [<- hG]
   unfold marksP
   split
   ·rename_i hv
    have vx := vm_of hv
    have hp := vx.pos
    have := markM_len x 0 fun y hy => ⟨by have := vx.bars y hy; omega, fun t ht => (vx.notes y hy t ht).1⟩
    rcases vx.hands with e | e <;> rw [e] at this <;> omega
   ·simp
  simp only [go_sem, ↓reduceIte, Nat.reduceLT, Nat.reduceEqDiff, List.length_map, lUL, k0, k1, List.getElem?_map, gu, Option.map_some]
  refine callN (Valid_s x lx ox) (.cons (sx _) .nil) ?_
  simp only [go_sem, ↓reduceIte, Nat.reduceLT, Nat.reduceEqDiff, k0, List.getElem?_map, gu, Option.map_some]
  refine callN (refValid_s x lx) (.cons (sx _) .nil) ?_
  simp only [go_sem, ↓reduceIte, Nat.reduceLT, Nat.reduceEqDiff, k0, List.getElem?_map, gu, Option.map_some]
  refine callN (Marks_s x lx ox) (.cons (sx _) .nil) ?_
  rw [hG]
  simp only [go_sem, ↓reduceIte, Nat.reduceLT, Nat.reduceEqDiff, k0, List.getElem?_map, gu, Option.map_some]
  refine callN (refMarks_s x lx) (.cons (sx _) .nil) ?_
  rw [hG]
  simp only [go_sem, ↓reduceIte, Nat.reduceLT, Nat.reduceEqDiff, List.length_map]
  refine loopX 2 (fun z s => ∃ j : Nat, j + z = G.length /\ s = ⟨[(15, .list 3 (G.map v3)), (16, .list 3 (G.map v3)), (17, vi j), (11, .ref 0 1 0 0), (13, .list 1 (UL.map one1)), (14, vi k)], [O]⟩)
   (fun s => s = ⟨[(11, .ref 0 1 0 0), (13, .list 1 (UL.map one1)), (14, vi k)], [O]⟩) G.length ⟨[(15, .list 3 (G.map v3)), (16, .list 3 (G.map v3)), (17, vi (0 : Nat)), (11, .ref 0 1 0 0), (13, .list 1 (UL.map one1)), (14, vi k)], [O]⟩ (WkE.keep (by simp only [go_sem, ↓reduceIte, Nat.reduceEqDiff]; rfl)) ⟨0, by omega, rfl⟩ ?_ ?_
  rotate_left
  ·rintro s rfl
   simp only [go_sem, ↓reduceIte, Nat.reduceLT]
   refine loopX 4 (fun z s => ∃ j : Nat, j + z = 5 /\ s = ⟨[(18, vi j), (11, .ref 0 1 0 0), (13, .list 1 (UL.map one1)), (14, vi k)], [O]⟩)
    (fun s => s = ⟨[(11, .ref 0 1 0 0), (13, .list 1 (UL.map one1)), (14, vi k)], [O]⟩) 5 ⟨[(18, vi (0 : Nat)), (11, .ref 0 1 0 0), (13, .list 1 (UL.map one1)), (14, vi k)], [O]⟩ (WkE.keep (by simp only [go_sem, ↓reduceIte, Nat.reduceEqDiff]; rfl)) ⟨0, by omega, rfl⟩ ?_ ?_
   rotate_left
   ·rintro s rfl
    simp only [go_sem, ↓reduceIte, Nat.reduceLT, Nat.reduceEqDiff, kw]
    exact ⟨z, ⟨[(11, .ref 0 1 0 0), (13, .list 1 (UL.map one1)), (14, vi (k + 1 : Nat))], [O]⟩, by omega, WkE.keep (by simp only [go_sem, ↓reduceIte, Nat.reduceEqDiff]), k + 1, by omega, rfl⟩
   rintro y s ⟨j, hj, rfl⟩
   cases y with
   | zero =>
    have j1 : ¬ (j : Int) < ((5 : Nat) : Int) := by omega
    simp only [go_sem, ↓reduceIte, Nat.reduceLT, Nat.reduceEqDiff, List.length_map, lUL, j1]
    exact ⟨_, WkE.keep (by simp only [go_sem, ↓reduceIte, Nat.reduceEqDiff]), rfl⟩
   | succ y =>
    have j1 : (j : Int) < ((5 : Nat) : Int) := by omega
    have j0 : (0 : Int) <= (j : Int) := by omega
    have jw : IntKind.i64.wrap ((j : Int) + 1) = ((j + 1 : Nat) : Int) := by rw [wrap_id (by omega) (by omega)]; omega
    obtain ⟨u2, x2, gu2, su2, lx2, ox2⟩ := hget j (by omega)
    have sx2 : ∀ objs, Snap objs (.agg [u2]) (vmel x2) := fun objs => snap_agg1 (su2 objs)
    simp only [go_sem, ↓reduceIte, Nat.reduceLT, Nat.reduceEqDiff, List.length_map, lUL, k0, j0, j1, List.getElem?_map, gu, gu2, Option.map_some]
    refine callN (Same_s x x2 lx) (.cons (sx _) (.cons (sx2 _) .nil)) ?_
    simp only [go_sem, ↓reduceIte, Nat.reduceLT, Nat.reduceEqDiff, k0, j0, List.getElem?_map, gu, gu2, Option.map_some]
    refine callN (refSame_s x x2 lx) (.cons (sx _) (.cons (sx2 _) .nil)) ?_
    simp only [go_sem, ↓reduceIte, Nat.reduceLT, Nat.reduceEqDiff, jw]
    exact ⟨y, ⟨[(18, vi (j + 1 : Nat)), (11, .ref 0 1 0 0), (13, .list 1 (UL.map one1)), (14, vi k)], [O]⟩, by omega, WkE.keep (by simp only [go_sem, ↓reduceIte, Nat.reduceEqDiff]), j + 1, by omega, rfl⟩
  rintro y s ⟨j, hj, rfl⟩
  cases y with
  | zero =>
   have j1 : ¬ (j : Int) < (G.length : Int) := by omega
   simp only [go_sem, ↓reduceIte, Nat.reduceLT, Nat.reduceEqDiff, List.length_map, j1]
   exact ⟨_, WkE.keep (by simp only [go_sem, ↓reduceIte, Nat.reduceEqDiff]), rfl⟩
  | succ y =>
   have j1 : (j : Int) < (G.length : Int) := by omega
   have j0 : (0 : Int) <= (j : Int) := by omega
   have jw : IntKind.i64.wrap ((j : Int) + 1) = ((j + 1 : Nat) : Int) := by rw [wrap_id (by omega) (by omega)]; omega
   obtain ⟨g, gg⟩ : ∃ g, G[j]? = some g := ⟨_, List.getElem?_eq_getElem (by omega)⟩
   simp only [go_sem, ↓reduceIte, Nat.reduceLT, Nat.reduceEqDiff, Nat.reduceAdd, List.length_map, j0, j1, List.getElem?_map, gg, Option.map_some, jw]
   exact ⟨y, ⟨[(15, .list 3 (G.map v3)), (16, .list 3 (G.map v3)), (17, vi (j + 1 : Nat)), (11, .ref 0 1 0 0), (13, .list 1 (UL.map one1)), (14, vi k)], [O]⟩, by omega, WkE.keep (by simp only [go_sem, ↓reduceIte, Nat.reduceEqDiff]), j + 1, by omega, rfl⟩
end Go.Proofs.YtnncijjkbonokaaDoor
