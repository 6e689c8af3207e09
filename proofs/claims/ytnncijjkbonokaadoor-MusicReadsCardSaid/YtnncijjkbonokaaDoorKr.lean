/- Lemmas used by Encodes, Reads. -/
import Derived.Test.YtnncijjkbonokaaDoorKa
import Derived.Test.YtnncijjkbonokaaDoorKb
import Derived.Test.YtnncijjkbonokaaDoorKc
import Derived.Test.YtnncijjkbonokaaDoorKd
import Derived.Test.YtnncijjkbonokaaDoorKe
import Derived.Test.YtnncijjkbonokaaDoorKf
import Derived.Test.YtnncijjkbonokaaDoorKj
import Derived.Test.YtnncijjkbonokaaDoorKk
import Derived.Test.YtnncijjkbonokaaDoorKl
import Derived.Test.YtnncijjkbonokaaDoorKm
import Derived.Test.YtnncijjkbonokaaDoorKn
import Derived.Test.YtnncijjkbonokaaDoorKo
import Derived.Test.YtnncijjkbonokaaDoorProg
import Derived.WalkKit
import Derived.WalkSpells
import Derived.WalkLawsBesides
import Derived.Orders
import Derived.Laws.MakeOwn
import Derived.Deep.AppendSrc
import Derived.Lib.AppendZerosOnto
import Derived.Defers
import Derived.Laws.StructEq
import Derived.Scope
import Derived.Deep.LoopGhost
import Derived.OrdersIn
import Derived.ControlIn
import Derived.Sort.LoopGhostIn
import Derived.RangeFuncLeaves
import Derived.RangeFuncRecord
import Derived.RangeFuncFrom
set_option linter.unusedSimpArgs false
set_option linter.unusedVariables false
set_option linter.unusedSectionVars false
namespace Go.Proofs.YtnncijjkbonokaaDoor
open Dak
def c18 : CCode :=
 (.seq (.region [oo 2 (.box 25 (T 0)), oo 4 (.mov (.const (.slice none 0 0))), oo 5 (.mov (kk 0))])
 (.seq (.region [oo 12 (.load true 1 (T 2)), oo 13 (.call (.func 29) [(T 12)]), vv 6 13])
 (.seq (.seq (.region [vv 14 6, oo 15 (.ibin .neq (T 14) (kk 0))])
 (.cond (T 15)
 (.seq (.region [vv 16 6, oo 4 (.mov (.const (.slice none 0 0))), vv 5 16])
 .ret)
 .skip))
 (.seq (.seq (.region [vv 17 1, oo 18 (.ibin .lss (T 17) (kk 1)), vv 19 18, vf 20 19 1, gf 21 19 (.ibin .gtr (T 20) (kk 40)), oo 22 (.pick (T 19) (.const (.bool true)) (T 21))])
 (.cond (T 22)
 (.seq (.region [oo 4 (.mov (.const (.slice none 0 0))), oo 5 (.mov (kk 1))])
 .ret)
 .skip))
 (.seq (.region [oo 23 (.fieldAddr 0 (T 2)), oo 24 (.load false 1 (T 23)), oo 25 (.idxS 1 (T 24) (kk 0)), oo 26 (.load false 1 (T 25)), oo 27 (.len (T 26)), vv 7 27])
 (.seq (.seq (.region [oo 8 (.mov (kk 0))])
 (.block 0 (.loop
 (.seq (.seq (.region [vv 28 8, vv 29 7, oo 30 (.ibin .lss (T 28) (T 29))])
 (.cond (T 30)
 .skip
 (.exit 0)))
 (.seq (.block 1 (.seq (.region [oo 33 (.load true 1 (T 2)), vv 34 8, vv 35 8, oo 36 (.ibin .add (T 35) (kk 1)), oo 37 (.call (.func 27) [(T 33), (T 34), (T 36)]), oo 38 (.call (.func 42) [(T 37)]), vv 39 1, oo 40 (.ibin .gtr (T 38) (T 39))])
 (.cond (T 40)
 (.seq (.region [oo 4 (.mov (.const (.slice none 0 0))), oo 5 (.mov (kk 14))])
 .ret)
 .skip)))
 (.region [vv 31 8, oo 32 (.ibin .add (T 31) (kk 1)), vv 8 32]))))))
 (.seq (.region [oo 9 (.mov (.const (.slice none 0 0)))])
 (.seq (.seq (.region [oo 10 (.mov (kk 0))])
 (.block 2 (.loop
 (.seq (.seq (.region [vv 41 10, vv 42 7, oo 43 (.ibin .lss (T 41) (T 42))])
 (.cond (T 43)
 .skip
 (.exit 2)))
 (.block 3 (.seq (.region [vv 44 10, oo 45 (.ibin .add (T 44) (kk 1)), vv 11 45])
 (.seq (.block 4 (.loop
 (.seq (.seq (.region [vv 46 11, vv 47 7, oo 48 (.ibin .lss (T 46) (T 47)), vv 49 48, gt 50 49 (.load true 1 (T 2)), vt 51 49 10, vt 52 49 11, gt 53 49 (.ibin .add (T 52) (kk 1)), gt 54 49 (.call (.func 27) [(T 50), (T 51), (T 53)]), gt 55 49 (.call (.func 42) [(T 54)]), vt 56 49 1, gt 57 49 (.ibin .leq (T 55) (T 56)), oo 58 (.pick (T 49) (T 57) (.const (.bool false)))])
 (.cond (T 58)
 .skip
 (.exit 4)))
 (.block 5 (.region [vv 59 11, oo 60 (.ibin .add (T 59) (kk 1)), vv 11 60])))))
 (.seq (.region [vv 61 9, oo 62 (.load true 1 (T 2)), vv 63 10, vv 64 11, oo 65 (.call (.func 27) [(T 62), (T 63), (T 64)]), oo 66 (.append 30 1 24 (T 61) (T 65)), vv 9 66])
 (.region [vv 67 11, vv 10 67])))))))))
 (.seq (.region [vv 68 9, vv 4 68, oo 5 (.mov (kk 0))])
 .ret)))))))))
theorem f18 : fnC Tryd.prog 18 = some (c18, 69, [(.tmp 4), (.tmp 5)]) := by kernel_rfl
def c19 : CCode :=
 (.seq (.region [oo 4 (.mov (.const (.bool false)))])
 (.seq (.seq (.region [vv 6 0, oo 7 (.len (T 6)), vv 8 1, oo 9 (.len (T 8)), oo 10 (.ibin .neq (T 7) (T 9))])
 (.cond (T 10)
 (.seq (.region [oo 4 (.mov (.const (.bool false)))])
 .ret)
 .skip))
 (.seq (.seq (.region [oo 5 (.mov (kk 0))])
 (.block 0 (.loop
 (.seq (.seq (.region [vv 11 5, vv 12 0, oo 13 (.len (T 12)), oo 14 (.ibin .lss (T 11) (T 13))])
 (.cond (T 14)
 .skip
 (.exit 0)))
 (.seq (.block 1 (.seq (.drawn [vv 17 0, vv 18 5, oo 19 (.idxS 1 (T 17) (T 18)), oo 20 (.load false 1 (T 19)), vv 21 1, vv 22 5, oo 23 (.idxS 1 (T 21) (T 22)), oo 24 (.load false 1 (T 23))] [(oo 25 (.call (.func 15) [(T 20), (T 24)]), []), (oo 26 (.lnot (T 25)), [])])
 (.cond (T 26)
 (.seq (.region [oo 4 (.mov (.const (.bool false)))])
 .ret)
 .skip)))
 (.region [vv 15 5, oo 16 (.ibin .add (T 15) (kk 1)), vv 5 16]))))))
 (.seq (.region [oo 4 (.mov (.const (.bool true)))])
 .ret))))
theorem f19 : fnC Tryd.prog 19 = some (c19, 27, [(.tmp 4)]) := by kernel_rfl
end Go.Proofs.YtnncijjkbonokaaDoor
namespace Go.Proofs.YtnncijjkbonokaaDoor
open Dak
def c42 : CCode :=
 (.seq (.region [oo 2 (.mov (kk 0))])
 (.seq (.region [oo 3 (.mov (kk 0))])
 (.seq (.seq (.region [oo 4 (.mov (kk 0))])
 (.block 0 (.loop
 (.seq (.seq (.region [vv 5 4, vv 6 0, oo 7 (.len (T 6)), oo 8 (.ibin .lss (T 5) (T 7))])
 (.cond (T 8)
 .skip
 (.exit 0)))
 (.seq (.block 1 (.region [vv 11 3, vv 12 0, vv 13 4, oo 14 (.idxS 1 (T 12) (T 13)), oo 15 (.load false 1 (T 14)), oo 16 (.len (T 15)), oo 17 (.imax (T 11) (T 16)), vv 3 17]))
 (.region [vv 9 4, oo 10 (.ibin .add (T 9) (kk 1)), vv 4 10]))))))
 (.seq (.region [vv 18 3, vv 2 18])
 .ret))))
theorem f42 : fnC Tryd.prog 42 = some (c42, 19, [(.tmp 2)]) := by kernel_rfl
end Go.Proofs.YtnncijjkbonokaaDoor
namespace Go.Proofs.YtnncijjkbonokaaDoor
open Go.RowKit Dak
set_option maxRecDepth 100000 in
theorem refWide_s (l : List (List Int)) (hl : l.length <= 9223372036854775806) : Ctr Tryd.prog 42 [vpage l] (vi (wideP l 0)) := by
 refine specE f42 (by simp) fun F0 w0 => ?_
 simp only [c42, go_sem, ↓reduceIte, Nat.reduceLT]
 refine loopX 0 (fun m s => ∃ k n : Nat, m = l.length - k /\ k <= l.length /\ wideP (l.drop k) n = wideP l 0 /\ s = ⟨[(0, vpage l), (3, vi n), (4, vi k)], []⟩) (fun s => s = ⟨[(3, vi (wideP l 0))], []⟩) l.length
  ⟨[(0, vpage l), (3, vi (0 : Nat)), (4, vi (0 : Nat))], []⟩ (WkE.keep (by simp only [go_sem, ↓reduceIte, reduceCtorEq, Nat.reduceEqDiff]; rfl)) ⟨0, 0, by omega, by omega, rfl, rfl⟩ ?_ ?_
 rotate_left
 ·rintro s rfl
  simp only [go_sem, ↓reduceIte, Nat.reduceLT]
  exact .tree _ rfl
 rintro m s ⟨k, n, rfl, hk, hw, rfl⟩
 by_cases hlt : k < l.length
 ·have g1 : (k : Int) < (l.length : Int) := by omega
  have g0 : (0 : Int) <= (k : Int) := by omega
  have w1 : IntKind.i64.wrap ((k : Int) + 1) = ((k + 1 : Nat) : Int) := by rw [wrap_id (by omega) (by omega)]; omega
  rw [List.drop_eq_getElem_cons hlt, wideP] at hw
  simp only [go_sem, ↓reduceIte, reduceCtorEq, Nat.reduceLT, Nat.reduceEqDiff, g1, g0, List.getElem?_map, List.getElem?_eq_getElem hlt, w1, List.length_map, max_if]
  exact ⟨l.length - (k + 1), ⟨[(0, vpage l), (3, vi (max n l[k].length : Nat)), (4, vi (k + 1 : Nat))], []⟩, by omega, WkE.keep (by simp only [go_sem, ↓reduceIte, reduceCtorEq, Nat.reduceEqDiff]), k + 1, _, rfl, by omega, hw, rfl⟩
 ·have g1 : ¬ (k : Int) < (l.length : Int) := by omega
  rw [List.drop_eq_nil_of_le (by omega), wideP] at hw
  subst hw
  simp only [go_sem, ↓reduceIte, reduceCtorEq, Nat.reduceLT, Nat.reduceEqDiff, g1]
  exact ⟨_, WkE.keep (by simp only [go_sem, ↓reduceIte, reduceCtorEq, Nat.reduceEqDiff]), rfl⟩
set_option maxRecDepth 100000 in
theorem SamePages_s (A B : List (List Int)) (hA : A.length <= 9223372036854775806) (hA2 : ∀ x ∈ A, x.length <= 9223372036854775806) : Ctr Tryd.prog 19 [vpage A, vpage B] (vb (decide (A = B))) := by
 refine specE f19 (by simp) fun F0 w0 => ?_
 by_cases hl : A.length = B.length
 ·have hl' : (A.length : Int) = (B.length : Int) := by omega
  simp only [c19, go_sem, ↓reduceIte, reduceCtorEq, Nat.reduceLT, Nat.reduceEqDiff, hl']
  refine loopX 0 (fun m s => ∃ k : Nat, m = B.length - k /\ k <= B.length /\ A.take k = B.take k /\ s = ⟨[(0, vpage A), (1, vpage B), (5, vi k)], []⟩) (fun _ => A = B) B.length ⟨[(0, vpage A), (1, vpage B), (5, vi (0 : Nat))], []⟩ (WkE.keep (by simp only [go_sem, ↓reduceIte, reduceCtorEq, Nat.reduceEqDiff]; rfl)) ⟨0, by omega, by omega, rfl, rfl⟩ ?_ ?_
  rotate_left
  ·rintro s e
   simp only [go_sem, ↓reduceIte, Nat.reduceLT, e]
   exact .tree _ rfl
  rintro m s ⟨k, rfl, hk, ht, rfl⟩
  by_cases hlt : k < B.length
  ·have hltA : k < A.length := by omega
   have h1 : (k : Int) < (B.length : Int) := by omega
   have h0 : (0 : Int) <= (k : Int) := by omega
   have hw : IntKind.i64.wrap ((k : Int) + 1) = ((k + 1 : Nat) : Int) := by rw [wrap_id (by omega) (by omega)]; omega
   simp only [go_sem, ↓reduceIte, reduceCtorEq, Nat.reduceLT, Nat.reduceEqDiff, hl', h1, h0, List.getElem?_map, List.getElem?_eq_getElem hlt, List.getElem?_eq_getElem hltA]
   refine callT (Equal15_s A[k] B[k] (hA2 _ (List.getElem_mem hltA))) rfl ?_
   by_cases he : A[k] = B[k]
   ·simp only [go_sem, ↓reduceIte, reduceCtorEq, Nat.reduceLT, Nat.reduceEqDiff, he, hw]
    exact ⟨B.length - (k + 1), ⟨[(0, vpage A), (1, vpage B), (5, vi (k + 1 : Nat))], []⟩, by omega, WkE.keep (by simp only [go_sem, ↓reduceIte, reduceCtorEq, Nat.reduceEqDiff]), k + 1, rfl, by omega, takeS_eq ht hltA hlt he, rfl⟩
   ·simp only [go_sem, ↓reduceIte, Nat.reduceLT, he]
    have : decide (A = B) = false := by rw [decide_eq_false_iff_not]; rintro rfl; exact he rfl
    rw [this]; exact .tree _ rfl
  ·have hkB : k = B.length := by omega
   have h1 : ¬ (k : Int) < (B.length : Int) := by omega
   simp only [go_sem, ↓reduceIte, reduceCtorEq, Nat.reduceLT, Nat.reduceEqDiff, hl', h1]
   refine ⟨⟨[], []⟩, WkE.keep trivial, ?_⟩
   rw [hkB, List.take_length, <- hl, List.take_length] at ht
   exact ht
 ·have hl' : ¬ (A.length : Int) = (B.length : Int) := by omega
  simp only [c19, go_sem, ↓reduceIte, reduceCtorEq, Nat.reduceLT, Nat.reduceEqDiff, hl']
  have : decide (A = B) = false := by rw [decide_eq_false_iff_not]; rintro rfl; exact hl rfl
  rw [this]; exact .tree _ rfl
end Go.Proofs.YtnncijjkbonokaaDoor
namespace Go.Proofs.YtnncijjkbonokaaDoor
open Go.RowKit Dak
def RestP (m : List (List (List Nt))) (width : Int) (b : Nat) (p : List (List Int)) : List (List Int) := if b < manyP m then encGo m width (manyP m - b - 1) (b + 1) (lineP m b 1) p else p
abbrev rencS (m : List (List (List Nt))) (width : Int) (b : Nat) (p : List (List Int)) : Est :=
 ⟨[(1, vi width), (2, .ref 0 1 0 0), (7, vi (manyP m)), (9, .own 1 p.length 0 p.length), (10, vi b)], [.arr 1 1 25 [vmel m], .arr p.length 1 30 (p.map vbytes)]⟩
set_option maxRecDepth 100000 in
theorem refEncode_s (m : List (List (List Nt))) (width : Int) (hl : lenM m) : Ctr Tryd.prog 18 [vmel m, vi width] (vpe (encP m width)) := by
 refine specE f18 (by simp) fun F0 w0 => ?_
 simp only [c18, go_sem, ↓reduceIte, Nat.reduceLT, Nat.reduceEqDiff]
 refine callT (refValid_s m hl) rfl ?_
 by_cases hv : validE m = 0
 rotate_left
 ·simp only [go_sem, ↓reduceIte, Nat.reduceLT, Nat.reduceEqDiff, hv]
  rw [show encP m width = ([], validE m) by simp only [encP, ne_eq, hv, not_false_eq_true, if_true]]
  exact snap_pe0
 have hm := vm_of hv
 have hcnt : m.length <= 2 := by have := hm.hands; omega
 have hmp := hm.pos
 simp only [go_sem, ↓reduceIte, reduceCtorEq, Nat.reduceLT, Nat.reduceEqDiff, Int.reduceToNat, Int.reduceToNat, Int.le_refl, hv]
 by_cases a1 : width < 1
 ·simp only [go_sem, ↓reduceIte, a1]
  rw [show encP m width = ([], 1) by simp only [encP, ne_eq, hv, not_true_eq_false, if_false, a1, true_or, if_true]]
  exact snap_pe0
 by_cases a2 : 40 < width
 ·simp only [go_sem, ↓reduceIte, a1, a2]
  rw [show encP m width = ([], 1) by simp only [encP, ne_eq, hv, not_true_eq_false, if_false, a2, or_true, if_true]]
  exact snap_pe0
 obtain ⟨h0, hh0⟩ : ∃ h0, m[0]? = some h0 := ⟨_, List.getElem?_eq_getElem (by have := hm.hands; omega)⟩
 have hd : h0.length = manyP m := by
  show _ = (m.headD []).length
  cases m with | nil => cases hh0 | cons x l => simp at hh0; subst hh0; rfl
 have zlt : (0 : Int) < (m.length : Int) := by have := hm.hands; omega
 simp only [go_sem, ↓reduceIte, Nat.reduceLT, a1, a2, List.getElem?_map, hh0, Option.map_some, List.length_map, hd]
 refine loopX 0 (fun x s => ∃ k : Nat, x = manyP m - k /\ k <= manyP m /\ (List.range k).any (overP m width) = false /\ s = ⟨[(1, vi width), (2, .ref 0 1 0 0), (7, vi (manyP m)), (8, vi k)], [.arr 1 1 25 [vmel m]]⟩)
  (fun s => (List.range (manyP m)).any (overP m width) = false /\ s = ⟨[(1, vi width), (2, .ref 0 1 0 0), (7, vi (manyP m))], [.arr 1 1 25 [vmel m]]⟩) (manyP m)
  ⟨[(1, vi width), (2, .ref 0 1 0 0), (7, vi (manyP m)), (8, vi (0 : Nat))], [.arr 1 1 25 [vmel m]]⟩ (WkE.keep (by simp only [go_sem, ↓reduceIte, reduceCtorEq, Nat.reduceEqDiff]; rfl)) ⟨0, by omega, by omega, rfl, rfl⟩ ?_ ?_
 ·rintro x s ⟨k, rfl, hk, ht, rfl⟩
  by_cases hlt : k < manyP m
  ·have h1 : (k : Int) < (manyP m : Int) := by omega
   have hw : IntKind.i64.wrap ((k : Int) + 1) = ((k + 1 : Nat) : Int) := by rw [wrap_id (by omega) (by omega)]; omega
   simp only [go_sem, ↓reduceIte, Nat.reduceLT, Nat.reduceEqDiff, h1, hw]
   have hline := Line_s m k (k + 1) hm (by omega) (by omega)
   rw [Nat.add_sub_cancel_left] at hline
   refine callT hline rfl ?_
   simp only [go_sem, ↓reduceIte, Nat.reduceLT]
   refine callT (refWide_s _ (by have := (sok_line hm (fr := k) 1 (by omega)).l1; omega)) rfl ?_
   by_cases hov : width < ((wideP (lineP m k 1).ls 0 : Nat) : Int)
   ·simp only [go_sem, ↓reduceIte, Nat.reduceLT, Nat.reduceEqDiff, hov]
    have : (List.range (manyP m)).any (overP m width) = true := List.any_eq_true.2 ⟨k, List.mem_range.2 hlt, by
     show decide (width < ((wideP (lineP m k 1).ls 0 : Nat) : Int)) = true
     simp only [hov, decide_true]⟩
    rw [show encP m width = ([], 14) by simp only [encP, ne_eq, hv, not_true_eq_false, if_false, a1, a2, or_self, this, if_true]]
    exact snap_pe0
   ·simp only [go_sem, ↓reduceIte, Nat.reduceLT, Nat.reduceEqDiff, hov, hw]
    exact ⟨manyP m - (k + 1), _, by omega, WkE.keep (by simp only [go_sem, ↓reduceIte, Nat.reduceEqDiff]), k + 1, rfl, by omega, any_range ht (by
     show decide (width < ((wideP (lineP m k 1).ls 0 : Nat) : Int)) = false
     simp only [hov, decide_false]), rfl⟩
  ·obtain rfl : k = manyP m := by omega
   have h1 : ¬ (manyP m : Int) < (manyP m : Int) := by omega
   simp only [go_sem, ↓reduceIte, Nat.reduceLT, Nat.reduceEqDiff, h1]
   exact ⟨_, WkE.keep (by simp only [go_sem, ↓reduceIte, Nat.reduceEqDiff]), ht, rfl⟩
 rintro s ⟨hno, rfl⟩
 have hfit : ∀ k, k < manyP m -> ¬ width < ((wideP (lineP m k 1).ls 0 : Nat) : Int) := fun k hk => by
  have := List.any_eq_false.1 hno k (List.mem_range.2 hk)
  simp only [overP, decide_eq_true_eq] at this
  exact this
 have henc : encP m width = (RestP m width 0 [], 0) := by
  have e : encGo m width (manyP m) 0 (firstP m.length) [] = RestP m width 0 [] := by
   obtain ⟨z, hz⟩ : ∃ z, manyP m = z + 1 := ⟨manyP m - 1, by omega⟩
   rw [RestP, if_pos (by omega), hz, encGo]
   exact if_neg (hfit 0 (by omega))
  simp [encP, hv, a1, a2, hno, e]
 simp only [go_sem, ↓reduceIte, Nat.reduceLT]
 refine loopX 2 (fun x s => ∃ (b : Nat) (p : List (List Int)), x = manyP m - b /\ b <= manyP m /\ p.length <= 2 * b /\ RestP m width b p = RestP m width 0 [] /\ s = rencS m width b p)
  (fun s => ∃ (p : List (List Int)), p = RestP m width 0 [] /\ s = rencS m width (manyP m) p) (manyP m)
  (rencS m width 0 []) ?_ ⟨0, [], by omega, by omega, by simp, rfl, rfl⟩ ?_ ?_
 ·exact (WkE.nil 9 1 30 (by omega) rfl).trans (WkE.keep (by simp only [go_sem, ↓reduceIte, Nat.reduceEqDiff]; rfl))
 rotate_left
 ·rintro s ⟨p, hp, rfl⟩
  simp only [go_sem, ↓reduceIte, Nat.reduceLT, Nat.reduceEqDiff]
  rw [henc, <- hp]
  exact snap_pe _ 0 rfl rfl
 rintro x s ⟨b, p, rfl, hb, hp, hg, rfl⟩
 by_cases hlt : b < manyP m
 rotate_left
 ·obtain rfl : b = manyP m := by omega
  have h1 : ¬ (manyP m : Int) < (manyP m : Int) := by omega
  simp only [go_sem, ↓reduceIte, Nat.reduceLT, Nat.reduceEqDiff, h1]
  rw [RestP, if_neg (by omega)] at hg
  exact ⟨_, WkE.keep (by simp only [go_sem, ↓reduceIte, Nat.reduceEqDiff]), p, hg, rfl⟩
 have h1 : (b : Int) < (manyP m : Int) := by omega
 have hw : IntKind.i64.wrap ((b : Int) + 1) = ((b + 1 : Nat) : Int) := by rw [wrap_id (by omega) (by omega)]; omega
 rw [RestP, if_pos hlt] at hg
 simp only [go_sem, ↓reduceIte, Nat.reduceLT, Nat.reduceEqDiff, h1, hw]
 refine loopX 4 (fun y s => ∃ k : Nat, y = manyP m - (b + 1 + k) /\ b + 1 + k <= manyP m /\ encGo m width (manyP m - (b + 1 + k)) (b + 1 + k) (lineP m b (k + 1)) p = RestP m width 0 [] /\ s = ⟨(11, vi (b + 1 + k : Nat)) :: (rencS m width b p).env, (rencS m width b p).objs⟩)
  (fun s => ∃ k : Nat, b + 1 + k <= manyP m /\ RestP m width (b + 1 + k) (p ++ (lineP m b (k + 1)).ls) = RestP m width 0 [] /\ s = ⟨(11, vi (b + 1 + k : Nat)) :: (rencS m width b p).env, (rencS m width b p).objs⟩) (manyP m - (b + 1))
  ⟨(11, vi (b + 1 : Nat)) :: (rencS m width b p).env, (rencS m width b p).objs⟩ (WkE.keep (by simp only [go_sem, ↓reduceIte, Nat.reduceEqDiff])) ⟨0, by omega, by omega, by rw [<- hg]; rfl, rfl⟩ ?_ ?_
 ·rintro y s ⟨k, rfl, hk, he, rfl⟩
  have hw1 : IntKind.i64.wrap (((b + 1 + k : Nat) : Int) + 1) = ((b + 1 + (k + 1) : Nat) : Int) := by rw [wrap_id (by omega) (by omega)]; omega
  by_cases hkl : b + 1 + k < manyP m
  ·have h2 : ((b + 1 + k : Nat) : Int) < (manyP m : Int) := by omega
   simp only [go_sem, ↓reduceIte, Nat.reduceLT, Nat.reduceEqDiff, h2, hw1]
   have hline := Line_s m b (b + 1 + (k + 1)) hm (by omega) (by omega)
   rw [show b + 1 + (k + 1) - b = k + 2 by omega] at hline
   refine callT hline rfl ?_
   simp only [go_sem, ↓reduceIte, Nat.reduceLT, Nat.reduceEqDiff]
   refine callT (refWide_s _ (by have := (sok_line hm (fr := b) (k + 2) (by omega)).l1; omega)) rfl ?_
   obtain ⟨z, hz⟩ : ∃ z, manyP m - (b + 1 + k) = z + 1 := ⟨manyP m - (b + 1 + k) - 1, by omega⟩
   rw [hz, encGo] at he
   have hadd : (lineP m b (k + 1)).add m (b + 1 + k) = lineP m b (k + 2) := by
    show _ = (lineP m b (k + 1)).add m (b + (k + 1))
    rw [show b + 1 + k = b + (k + 1) by omega]
   rw [hadd] at he
   by_cases hov : ((wideP (lineP m b (k + 2)).ls 0 : Nat) : Int) <= width
   ·rw [if_neg (by omega)] at he
    simp only [go_sem, ↓reduceIte, Nat.reduceLT, Nat.reduceEqDiff, hov, hw1]
    exact ⟨manyP m - (b + 1 + (k + 1)), _, by omega, WkE.keep (by simp only [go_sem, ↓reduceIte, Nat.reduceEqDiff]), k + 1, rfl, by omega, by rw [<- he, show manyP m - (b + 1 + (k + 1)) = z by omega]; rfl, rfl⟩
   ·rw [if_pos (by omega)] at he
    simp only [go_sem, ↓reduceIte, Nat.reduceLT, Nat.reduceEqDiff, hov]
    refine ⟨_, WkE.keep (by simp only [go_sem, ↓reduceIte, Nat.reduceEqDiff]), k, by omega, ?_, rfl⟩
    rw [RestP, if_pos hkl, <- he, show manyP m - (b + 1 + k) - 1 = z by omega]
    rfl
  ·obtain hkl' : b + 1 + k = manyP m := by omega
   have h2 : ¬ ((b + 1 + k : Nat) : Int) < (manyP m : Int) := by omega
   simp only [go_sem, ↓reduceIte, Nat.reduceLT, Nat.reduceEqDiff, h2]
   refine ⟨_, WkE.keep (by simp only [go_sem, ↓reduceIte, Nat.reduceEqDiff]), k, by omega, ?_, rfl⟩
   rw [RestP, if_neg (by omega), <- he, show manyP m - (b + 1 + k) = 0 by omega]
   rfl
 rintro s ⟨k, hk, he, rfl⟩
 have tls : (lineP m b (k + 1)).ls.length = m.length := (sok_line hm (fr := b) (k + 1) (by omega)).l1
 have b1 : (p.length + (lineP m b (k + 1)).ls.length) * 24 <= 140737488355328 := by omega
 have htk : List.take p.length (p.map vbytes) = p.map vbytes := List.take_of_length_le (by simp)
 simp only [go_sem, ↓reduceIte, Nat.reduceLT, Nat.reduceEqDiff]
 have hline := Line_s m b (b + 1 + k) hm (by omega) (by omega)
 rw [show b + 1 + k - b = k + 1 by omega] at hline
 refine callT hline rfl ?_
 simp only [go_sem, ↓reduceIte, Nat.reduceLT, Nat.reduceEqDiff, Nat.reduceAdd, b1, htk, List.length_map]
 have e1 : p.length + (lineP m b (k + 1)).ls.length = (p ++ (lineP m b (k + 1)).ls).length := by simp
 rw [e1, <- List.map_append]
 exact ⟨manyP m - (b + 1 + k), rencS m width (b + 1 + k) (p ++ (lineP m b (k + 1)).ls), by omega, WkE.keep (by simp only [go_sem, ↓reduceIte, Nat.reduceEqDiff]), b + 1 + k, _, rfl, hk, by simp only [List.length_append]; omega, he, rfl⟩
end Go.Proofs.YtnncijjkbonokaaDoor
