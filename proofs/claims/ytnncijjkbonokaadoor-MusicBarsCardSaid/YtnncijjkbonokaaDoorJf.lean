/- Lemmas used by Bars, Encodes. -/
import Derived.Test.YtnncijjkbonokaaDoorJa
import Derived.Test.YtnncijjkbonokaaDoorJb
import Derived.Test.YtnncijjkbonokaaDoorJc
import Derived.Test.YtnncijjkbonokaaDoorJd
import Derived.Test.YtnncijjkbonokaaDoorJe
import Derived.Test.YtnncijjkbonokaaDoorProg
import Derived.WalkKit
import Derived.WalkSpells
import Derived.WalkLawsBesides
import Derived.Orders
import Derived.Laws.MakeOwn
import Derived.Deep.AppendSrc
import Derived.Lib.AppendZerosOnto
import Derived.Defers
import Derived.Laws.StructEq
import Derived.Scope
import Derived.Deep.LoopGhost
import Derived.OrdersIn
import Derived.ControlIn
import Derived.Sort.LoopGhostIn
import Derived.RangeFuncLeaves
import Derived.RangeFuncRecord
import Derived.RangeFuncFrom
import Derived.RangeFuncBox
import Derived.OwnWalkIn
import Derived.TacticsInMore
import Derived.LoopNIn
import Derived.LoopIn
import Derived.Sort.QuietTacIn
set_option linter.unusedSimpArgs false
set_option linter.unusedVariables false
set_option linter.unusedSectionVars false
set_option maxRecDepth 100000
namespace Go.Proofs.YtnncijjkbonokaaDoor
open Dak
def c38 : CCode :=
 (.seq (.region [oo 4 (.mov (.const (.slice none 0 0))), oo 5 (.mov (kk 0))])
 (.seq (.region [oo 6 (.mov (.const (.slice none 0 0)))])
 (.seq (.seq (.region [oo 7 (.mov (kk 0))])
 (.block 0 (.loop
 (.seq (.seq (.region [vv 8 7, vv 9 0, oo 10 (.len (T 9)), oo 11 (.ibin .lss (T 8) (T 10))])
 (.cond (T 11)
 .skip
 (.exit 0)))
 (.seq (.block 1 (.seq (.drawn [vv 14 6, vv 15 0, vv 16 7, oo 17 (.idxS 3 (T 15) (T 16)), oo 18 (.load true 3 (T 17)), vv 19 0, vv 20 7, oo 21 (.idxS 3 (T 19) (T 20)), oo 22 (.fieldAddr 0 (T 21)), oo 23 (.load false 1 (T 22)), vv 24 1] [(oo 25 (.call (.func 60) [(T 23), (T 24)]), [vv 14 6, vv 15 0, vv 16 7, oo 17 (.idxS 3 (T 15) (T 16)), oo 18 (.load true 3 (T 17))]), (oo 26 (.call (.func 70) [(T 18), (T 25)]), [vv 14 6]), (oo 27 (.append 5 1 1 (T 14) (T 26)), []), (vv 6 27, [])])
 (.seq (.region [vv 28 0, vv 29 7, oo 30 (.idxS 3 (T 28) (T 29)), oo 31 (.fieldAddr 0 (T 30)), oo 32 (.load false 1 (T 31)), oo 33 (.ibin .geq (T 32) (kk 0))])
 (.cond (T 33)
 (.region [vv 34 0, vv 35 7, oo 36 (.idxS 3 (T 34) (T 35)), oo 37 (.fieldAddr 0 (T 36)), oo 38 (.load false 1 (T 37)), vv 1 38])
 .skip))))
 (.region [vv 12 7, oo 13 (.ibin .add (T 12) (kk 1)), vv 7 13]))))))
 (.seq (.region [vv 39 6, vv 40 1, vv 4 39, vv 5 40])
 .ret))))
theorem f38 : fnC Tryd.prog 38 = some (c38, 41, [(.tmp 4), (.tmp 5)]) := by kernel_rfl
end Go.Proofs.YtnncijjkbonokaaDoor
namespace Go.Proofs.YtnncijjkbonokaaDoor
open Dak
def c70 : CCode :=
 (.seq (.region [oo 2 (.box 64 (T 0)), oo 4 (.mov (.const (.slice none 0 0)))])
 (.seq (.region [oo 5 (.mov (.const (.slice none 0 0)))])
 (.seq (.seq (.region [oo 7 (.fieldAddr 2 (T 2)), oo 8 (.load false 1 (T 7)), oo 9 (.ibin .eql (T 8) (kk 1))])
 (.cond (T 9)
 (.region [vv 10 5, oo 11 (.bslice 5 1 [(.const (.int .u8 33))]), oo 12 (.append 5 1 1 (T 10) (T 11)), vv 5 12])
 .skip))
 (.seq (.seq (.region [oo 13 (.fieldAddr 2 (T 2)), oo 14 (.load false 1 (T 13)), oo 15 (.ibin .eql (T 14) (kk (-1)))])
 (.cond (T 15)
 (.region [vv 16 5, oo 17 (.bslice 5 1 [(.const (.int .u8 34))]), oo 18 (.append 5 1 1 (T 16) (T 17)), vv 5 18])
 .skip))
 (.seq (.seq (.region [vv 19 1])
 (.cond (T 19)
 (.region [vv 20 5, oo 21 (.bslice 5 1 [(.const (.int .u8 8)), (.const (.int .u8 24)), (.const (.int .u8 56)), (.const (.int .u8 16)), (.const (.int .u8 40)), (.const (.int .u8 48)), (.const (.int .u8 32))]), oo 22 (.fieldAddr 0 (T 2)), oo 23 (.load false 1 (T 22)), oo 24 (.ibin .quo (T 23) (kk 7)), oo 25 (.idxS 1 (T 21) (T 24)), oo 26 (.load false 1 (T 25)), oo 27 (.bslice 5 1 [(T 26)]), oo 28 (.append 5 1 1 (T 20) (T 27)), vv 5 28])
 .skip))
 (.seq (.seq (.region [oo 29 (.fieldAddr 1 (T 2)), oo 30 (.load false 1 (T 29)), oo 31 (.ibin .eql (T 30) (kk 4))])
 (.cond (T 31)
 (.region [vv 32 5, oo 33 (.bslice 5 1 [(.const (.int .u8 3))]), oo 34 (.append 5 1 1 (T 32) (T 33)), vv 5 34])
 .skip))
 (.seq (.region [oo 6 (.mov (.const (.int .u8 9)))])
 (.seq (.seq (.region [oo 35 (.fieldAddr 0 (T 2)), oo 36 (.load false 1 (T 35)), oo 37 (.ibin .geq (T 36) (kk 0))])
 (.cond (T 37)
 (.region [oo 38 (.bslice 5 1 [(.const (.int .u8 25)), (.const (.int .u8 17)), (.const (.int .u8 11)), (.const (.int .u8 27)), (.const (.int .u8 19)), (.const (.int .u8 10)), (.const (.int .u8 26))]), oo 39 (.fieldAddr 0 (T 2)), oo 40 (.load false 1 (T 39)), oo 41 (.ibin .rem (T 40) (kk 7)), oo 42 (.idxS 1 (T 38) (T 41)), oo 43 (.load false 1 (T 42)), vv 6 43])
 .skip))
 (.seq (.region [vv 44 5, vv 45 6, oo 46 (.bslice 5 1 [(.const (.int .u8 36)), (.const (.int .u8 4)), (.const (.int .u8 32)), (.const (.int .u8 0)), (.const (.int .u8 36))]), oo 47 (.fieldAddr 1 (T 2)), oo 48 (.load false 1 (T 47)), oo 49 (.idxS 1 (T 46) (T 48)), oo 50 (.load false 1 (T 49)), oo 51 (.ibin .add (T 45) (T 50)), oo 52 (.bslice 5 1 [(T 51)]), oo 53 (.append 5 1 1 (T 44) (T 52)), vv 4 53])
 .ret)))))))))
theorem f70 : fnC Tryd.prog 70 = some (c70, 54, [(.tmp 4)]) := by kernel_rfl
end Go.Proofs.YtnncijjkbonokaaDoor
namespace Go.Proofs.YtnncijjkbonokaaDoor
open Go.RowKit Dak
theorem oct_at' {q : Nat} (h : q <= 6) : ([vu 8, vu 24, vu 56, vu 16, vu 40, vu 48, vu 32] : List AV)[q]? = some (vu (octs.getD q 0)) := by
 match q, h with
 | 0, _ | 1, _ | 2, _ | 3, _ | 4, _ | 5, _ | 6, _ => rfl
theorem name_at' {q : Nat} (h : q <= 6) : ([vu 25, vu 17, vu 11, vu 27, vu 19, vu 10, vu 26] : List AV)[q]? = some (vu (names.getD q 0)) := by
 match q, h with
 | 0, _ | 1, _ | 2, _ | 3, _ | 4, _ | 5, _ | 6, _ => rfl
theorem len_at' {q : Nat} (h : q <= 4) : ([vu 36, vu 4, vu 32, vu 0, vu 36] : List AV)[q]? = some (vu (lens.getD q 0)) := by
 match q, h with
 | 0, _ | 1, _ | 2, _ | 3, _ | 4, _ => rfl
theorem Note_am4 (n : Nt) (hr : rightP n = true) (h1 : n.a = 1) (h2 : 0 <= n.s) (h4 : n.l = 4) : Ctr Tryd.prog 70 [vnote n, vb true] (vbytes (noteC n true)) := by
 refine specE f70 (by simp) fun F0 w0 => ?_
 obtain ⟨r1, r2, r3, r4, r5, r6, r7⟩ := rightP_iff hr
 have la := len_at' (q := n.l.toNat) (by omega)
 have s9 := sum_ok (p := 7) (q := n.l.toNat) (by omega) (by omega)
 rw [show names.getD 7 0 = 9 from rfl] at s9
 rw [h4] at la s9
 simp only [Int.reduceToNat] at la s9
 have hsm : small n.s := ⟨by omega, by omega⟩
 have q7 := quo7 hsm
 have d1 : n.s.tdiv 7 = n.s / 7 := Int.tdiv_eq_ediv_of_nonneg h2
 have d2 : n.s.tmod 7 = n.s % 7 := Int.tmod_eq_emod_of_nonneg h2
 have q0 : 0 <= n.s.tdiv 7 := by omega
 have m0 : 0 <= n.s.tmod 7 := by omega
 have oa := oct_at' (q := (n.s.tdiv 7).toNat) (by omega)
 have na := name_at' (q := (n.s.tmod 7).toNat) (by omega)
 have sa := sum_ok (p := (n.s.tmod 7).toNat) (q := 4) (by omega) (by omega)
 have hE : noteC n true = [33, octs.getD (n.s.tdiv 7).toNat 0, 3, names.getD (n.s.tmod 7).toNat 0 + lens.getD 4 0] := by
  simp [noteC, alterC, octC, smallC, nameC, h1, h2, h4]
 simp only [c70, go_sem, Nat.reducePow, Nat.reduceLeDiff, ↓reduceIte, reduceCtorEq, Nat.reduceLT, Nat.reduceEqDiff, Nat.reduceAdd, Int.reduceToNat, Int.reduceLE, Int.reduceEq, Int.reduceNeg, Int.reduceToNat, h1, h2, h4, la, Nat.mul_one, Int.reduceToNat, List.cons_append, List.nil_append, List.take_succ_cons, List.take_zero, q7, q0, m0, oa, na, sa]
 rw [hE]
 exact snap_bytes (c := [33, octs.getD (n.s.tdiv 7).toNat 0, 3, names.getD (n.s.tmod 7).toNat 0 + lens.getD 4 0]) rfl
theorem Note_amo (n : Nt) (hr : rightP n = true) (h1 : n.a = 1) (h2 : 0 <= n.s) (h4 : ¬ n.l = 4) : Ctr Tryd.prog 70 [vnote n, vb true] (vbytes (noteC n true)) := by
 refine specE f70 (by simp) fun F0 w0 => ?_
 obtain ⟨r1, r2, r3, r4, r5, r6, r7⟩ := rightP_iff hr
 have la := len_at' (q := n.l.toNat) (by omega)
 have s9 := sum_ok (p := 7) (q := n.l.toNat) (by omega) (by omega)
 rw [show names.getD 7 0 = 9 from rfl] at s9
 have hsm : small n.s := ⟨by omega, by omega⟩
 have q7 := quo7 hsm
 have d1 : n.s.tdiv 7 = n.s / 7 := Int.tdiv_eq_ediv_of_nonneg h2
 have d2 : n.s.tmod 7 = n.s % 7 := Int.tmod_eq_emod_of_nonneg h2
 have q0 : 0 <= n.s.tdiv 7 := by omega
 have m0 : 0 <= n.s.tmod 7 := by omega
 have oa := oct_at' (q := (n.s.tdiv 7).toNat) (by omega)
 have na := name_at' (q := (n.s.tmod 7).toNat) (by omega)
 have sa := sum_ok (p := (n.s.tmod 7).toNat) (q := n.l.toNat) (by omega) (by omega)
 have hE : noteC n true = [33, octs.getD (n.s.tdiv 7).toNat 0, names.getD (n.s.tmod 7).toNat 0 + lens.getD n.l.toNat 0] := by
  simp [noteC, alterC, octC, smallC, nameC, h1, h2, h4]
 simp only [c70, go_sem, Nat.reducePow, Nat.reduceLeDiff, ↓reduceIte, reduceCtorEq, Nat.reduceLT, Nat.reduceEqDiff, Nat.reduceAdd, Int.reduceEq, Int.reduceNeg, h1, h2, h4, r3, la, Nat.mul_one, List.cons_append, List.nil_append, List.take_succ_cons, List.take_zero, q7, q0, m0, oa, na, sa]
 rw [hE]
 exact snap_bytes (c := [33, octs.getD (n.s.tdiv 7).toNat 0, names.getD (n.s.tmod 7).toNat 0 + lens.getD n.l.toNat 0]) rfl
theorem Note_an4 (n : Nt) (hr : rightP n = true) (h1 : n.a = 1) (h2 : 0 <= n.s) (h4 : n.l = 4) : Ctr Tryd.prog 70 [vnote n, vb false] (vbytes (noteC n false)) := by
 refine specE f70 (by simp) fun F0 w0 => ?_
 obtain ⟨r1, r2, r3, r4, r5, r6, r7⟩ := rightP_iff hr
 have la := len_at' (q := n.l.toNat) (by omega)
 have s9 := sum_ok (p := 7) (q := n.l.toNat) (by omega) (by omega)
 rw [show names.getD 7 0 = 9 from rfl] at s9
 rw [h4] at la s9
 simp only [Int.reduceToNat] at la s9
 have hsm : small n.s := ⟨by omega, by omega⟩
 have q7 := quo7 hsm
 have d1 : n.s.tdiv 7 = n.s / 7 := Int.tdiv_eq_ediv_of_nonneg h2
 have d2 : n.s.tmod 7 = n.s % 7 := Int.tmod_eq_emod_of_nonneg h2
 have q0 : 0 <= n.s.tdiv 7 := by omega
 have m0 : 0 <= n.s.tmod 7 := by omega
 have oa := oct_at' (q := (n.s.tdiv 7).toNat) (by omega)
 have na := name_at' (q := (n.s.tmod 7).toNat) (by omega)
 have sa := sum_ok (p := (n.s.tmod 7).toNat) (q := 4) (by omega) (by omega)
 have hE : noteC n false = [33, 3, names.getD (n.s.tmod 7).toNat 0 + lens.getD 4 0] := by
  simp [noteC, alterC, octC, smallC, nameC, h1, h2, h4]
 simp only [c70, go_sem, Nat.reducePow, Nat.reduceLeDiff, ↓reduceIte, reduceCtorEq, Nat.reduceLT, Nat.reduceEqDiff, Nat.reduceAdd, Int.reduceToNat, Int.reduceLE, Int.reduceEq, Int.reduceNeg, Int.reduceToNat, h1, h2, h4, la, Nat.mul_one, Int.reduceToNat, List.cons_append, List.nil_append, List.take_succ_cons, List.take_zero, m0, na, sa]
 rw [hE]
 exact snap_bytes (c := [33, 3, names.getD (n.s.tmod 7).toNat 0 + lens.getD 4 0]) rfl
theorem Note_ano (n : Nt) (hr : rightP n = true) (h1 : n.a = 1) (h2 : 0 <= n.s) (h4 : ¬ n.l = 4) : Ctr Tryd.prog 70 [vnote n, vb false] (vbytes (noteC n false)) := by
 refine specE f70 (by simp) fun F0 w0 => ?_
 obtain ⟨r1, r2, r3, r4, r5, r6, r7⟩ := rightP_iff hr
 have la := len_at' (q := n.l.toNat) (by omega)
 have s9 := sum_ok (p := 7) (q := n.l.toNat) (by omega) (by omega)
 rw [show names.getD 7 0 = 9 from rfl] at s9
 have hsm : small n.s := ⟨by omega, by omega⟩
 have q7 := quo7 hsm
 have d1 : n.s.tdiv 7 = n.s / 7 := Int.tdiv_eq_ediv_of_nonneg h2
 have d2 : n.s.tmod 7 = n.s % 7 := Int.tmod_eq_emod_of_nonneg h2
 have q0 : 0 <= n.s.tdiv 7 := by omega
 have m0 : 0 <= n.s.tmod 7 := by omega
 have oa := oct_at' (q := (n.s.tdiv 7).toNat) (by omega)
 have na := name_at' (q := (n.s.tmod 7).toNat) (by omega)
 have sa := sum_ok (p := (n.s.tmod 7).toNat) (q := n.l.toNat) (by omega) (by omega)
 have hE : noteC n false = [33, names.getD (n.s.tmod 7).toNat 0 + lens.getD n.l.toNat 0] := by
  simp [noteC, alterC, octC, smallC, nameC, h1, h2, h4]
 simp only [c70, go_sem, Nat.reducePow, Nat.reduceLeDiff, ↓reduceIte, reduceCtorEq, Nat.reduceLT, Nat.reduceEqDiff, Nat.reduceAdd, Int.reduceEq, Int.reduceNeg, h1, h2, h4, r3, la, Nat.mul_one, List.cons_append, List.nil_append, List.take_succ_cons, List.take_zero, m0, na, sa]
 rw [hE]
 exact snap_bytes (c := [33, names.getD (n.s.tmod 7).toNat 0 + lens.getD n.l.toNat 0]) rfl
theorem Note_bm4 (n : Nt) (hr : rightP n = true) (h1 : n.a = -1) (h2 : 0 <= n.s) (h4 : n.l = 4) : Ctr Tryd.prog 70 [vnote n, vb true] (vbytes (noteC n true)) := by
 refine specE f70 (by simp) fun F0 w0 => ?_
 obtain ⟨r1, r2, r3, r4, r5, r6, r7⟩ := rightP_iff hr
 have la := len_at' (q := n.l.toNat) (by omega)
 have s9 := sum_ok (p := 7) (q := n.l.toNat) (by omega) (by omega)
 rw [show names.getD 7 0 = 9 from rfl] at s9
 rw [h4] at la s9
 simp only [Int.reduceToNat] at la s9
 have hsm : small n.s := ⟨by omega, by omega⟩
 have q7 := quo7 hsm
 have d1 : n.s.tdiv 7 = n.s / 7 := Int.tdiv_eq_ediv_of_nonneg h2
 have d2 : n.s.tmod 7 = n.s % 7 := Int.tmod_eq_emod_of_nonneg h2
 have q0 : 0 <= n.s.tdiv 7 := by omega
 have m0 : 0 <= n.s.tmod 7 := by omega
 have oa := oct_at' (q := (n.s.tdiv 7).toNat) (by omega)
 have na := name_at' (q := (n.s.tmod 7).toNat) (by omega)
 have sa := sum_ok (p := (n.s.tmod 7).toNat) (q := 4) (by omega) (by omega)
 have hE : noteC n true = [34, octs.getD (n.s.tdiv 7).toNat 0, 3, names.getD (n.s.tmod 7).toNat 0 + lens.getD 4 0] := by
  simp [noteC, alterC, octC, smallC, nameC, h1, h2, h4]
 simp only [c70, go_sem, Nat.reducePow, Nat.reduceLeDiff, ↓reduceIte, reduceCtorEq, Nat.reduceLT, Nat.reduceEqDiff, Nat.reduceAdd, Int.reduceToNat, Int.reduceLE, Int.reduceEq, Int.reduceNeg, Int.reduceToNat, h1, h2, h4, la, Nat.mul_one, Int.reduceToNat, List.cons_append, List.nil_append, List.take_succ_cons, List.take_zero, q7, q0, m0, oa, na, sa]
 rw [hE]
 exact snap_bytes (c := [34, octs.getD (n.s.tdiv 7).toNat 0, 3, names.getD (n.s.tmod 7).toNat 0 + lens.getD 4 0]) rfl
theorem Note_bmo (n : Nt) (hr : rightP n = true) (h1 : n.a = -1) (h2 : 0 <= n.s) (h4 : ¬ n.l = 4) : Ctr Tryd.prog 70 [vnote n, vb true] (vbytes (noteC n true)) := by
 refine specE f70 (by simp) fun F0 w0 => ?_
 obtain ⟨r1, r2, r3, r4, r5, r6, r7⟩ := rightP_iff hr
 have la := len_at' (q := n.l.toNat) (by omega)
 have s9 := sum_ok (p := 7) (q := n.l.toNat) (by omega) (by omega)
 rw [show names.getD 7 0 = 9 from rfl] at s9
 have hsm : small n.s := ⟨by omega, by omega⟩
 have q7 := quo7 hsm
 have d1 : n.s.tdiv 7 = n.s / 7 := Int.tdiv_eq_ediv_of_nonneg h2
 have d2 : n.s.tmod 7 = n.s % 7 := Int.tmod_eq_emod_of_nonneg h2
 have q0 : 0 <= n.s.tdiv 7 := by omega
 have m0 : 0 <= n.s.tmod 7 := by omega
 have oa := oct_at' (q := (n.s.tdiv 7).toNat) (by omega)
 have na := name_at' (q := (n.s.tmod 7).toNat) (by omega)
 have sa := sum_ok (p := (n.s.tmod 7).toNat) (q := n.l.toNat) (by omega) (by omega)
 have hE : noteC n true = [34, octs.getD (n.s.tdiv 7).toNat 0, names.getD (n.s.tmod 7).toNat 0 + lens.getD n.l.toNat 0] := by
  simp [noteC, alterC, octC, smallC, nameC, h1, h2, h4]
 simp only [c70, go_sem, Nat.reducePow, Nat.reduceLeDiff, ↓reduceIte, reduceCtorEq, Nat.reduceLT, Nat.reduceEqDiff, Nat.reduceAdd, Int.reduceEq, Int.reduceNeg, h1, h2, h4, r3, la, Nat.mul_one, List.cons_append, List.nil_append, List.take_succ_cons, List.take_zero, q7, q0, m0, oa, na, sa]
 rw [hE]
 exact snap_bytes (c := [34, octs.getD (n.s.tdiv 7).toNat 0, names.getD (n.s.tmod 7).toNat 0 + lens.getD n.l.toNat 0]) rfl
theorem Note_bn4 (n : Nt) (hr : rightP n = true) (h1 : n.a = -1) (h2 : 0 <= n.s) (h4 : n.l = 4) : Ctr Tryd.prog 70 [vnote n, vb false] (vbytes (noteC n false)) := by
 refine specE f70 (by simp) fun F0 w0 => ?_
 obtain ⟨r1, r2, r3, r4, r5, r6, r7⟩ := rightP_iff hr
 have la := len_at' (q := n.l.toNat) (by omega)
 have s9 := sum_ok (p := 7) (q := n.l.toNat) (by omega) (by omega)
 rw [show names.getD 7 0 = 9 from rfl] at s9
 rw [h4] at la s9
 simp only [Int.reduceToNat] at la s9
 have hsm : small n.s := ⟨by omega, by omega⟩
 have q7 := quo7 hsm
 have d1 : n.s.tdiv 7 = n.s / 7 := Int.tdiv_eq_ediv_of_nonneg h2
 have d2 : n.s.tmod 7 = n.s % 7 := Int.tmod_eq_emod_of_nonneg h2
 have q0 : 0 <= n.s.tdiv 7 := by omega
 have m0 : 0 <= n.s.tmod 7 := by omega
 have oa := oct_at' (q := (n.s.tdiv 7).toNat) (by omega)
 have na := name_at' (q := (n.s.tmod 7).toNat) (by omega)
 have sa := sum_ok (p := (n.s.tmod 7).toNat) (q := 4) (by omega) (by omega)
 have hE : noteC n false = [34, 3, names.getD (n.s.tmod 7).toNat 0 + lens.getD 4 0] := by
  simp [noteC, alterC, octC, smallC, nameC, h1, h2, h4]
 simp only [c70, go_sem, Nat.reducePow, Nat.reduceLeDiff, ↓reduceIte, reduceCtorEq, Nat.reduceLT, Nat.reduceEqDiff, Nat.reduceAdd, Int.reduceToNat, Int.reduceLE, Int.reduceEq, Int.reduceNeg, Int.reduceToNat, h1, h2, h4, la, Nat.mul_one, Int.reduceToNat, List.cons_append, List.nil_append, List.take_succ_cons, List.take_zero, m0, na, sa]
 rw [hE]
 exact snap_bytes (c := [34, 3, names.getD (n.s.tmod 7).toNat 0 + lens.getD 4 0]) rfl
theorem Note_bno (n : Nt) (hr : rightP n = true) (h1 : n.a = -1) (h2 : 0 <= n.s) (h4 : ¬ n.l = 4) : Ctr Tryd.prog 70 [vnote n, vb false] (vbytes (noteC n false)) := by
 refine specE f70 (by simp) fun F0 w0 => ?_
 obtain ⟨r1, r2, r3, r4, r5, r6, r7⟩ := rightP_iff hr
 have la := len_at' (q := n.l.toNat) (by omega)
 have s9 := sum_ok (p := 7) (q := n.l.toNat) (by omega) (by omega)
 rw [show names.getD 7 0 = 9 from rfl] at s9
 have hsm : small n.s := ⟨by omega, by omega⟩
 have q7 := quo7 hsm
 have d1 : n.s.tdiv 7 = n.s / 7 := Int.tdiv_eq_ediv_of_nonneg h2
 have d2 : n.s.tmod 7 = n.s % 7 := Int.tmod_eq_emod_of_nonneg h2
 have q0 : 0 <= n.s.tdiv 7 := by omega
 have m0 : 0 <= n.s.tmod 7 := by omega
 have oa := oct_at' (q := (n.s.tdiv 7).toNat) (by omega)
 have na := name_at' (q := (n.s.tmod 7).toNat) (by omega)
 have sa := sum_ok (p := (n.s.tmod 7).toNat) (q := n.l.toNat) (by omega) (by omega)
 have hE : noteC n false = [34, names.getD (n.s.tmod 7).toNat 0 + lens.getD n.l.toNat 0] := by
  simp [noteC, alterC, octC, smallC, nameC, h1, h2, h4]
 simp only [c70, go_sem, Nat.reducePow, Nat.reduceLeDiff, ↓reduceIte, reduceCtorEq, Nat.reduceLT, Nat.reduceEqDiff, Nat.reduceAdd, Int.reduceEq, Int.reduceNeg, h1, h2, h4, r3, la, Nat.mul_one, List.cons_append, List.nil_append, List.take_succ_cons, List.take_zero, m0, na, sa]
 rw [hE]
 exact snap_bytes (c := [34, names.getD (n.s.tmod 7).toNat 0 + lens.getD n.l.toNat 0]) rfl
theorem Note_cr4 (n : Nt) (hr : rightP n = true) (h1 : n.a = 0) (h2 : ¬ 0 <= n.s) (h4 : n.l = 4) : Ctr Tryd.prog 70 [vnote n, vb false] (vbytes (noteC n false)) := by
 refine specE f70 (by simp) fun F0 w0 => ?_
 obtain ⟨r1, r2, r3, r4, r5, r6, r7⟩ := rightP_iff hr
 have la := len_at' (q := n.l.toNat) (by omega)
 have s9 := sum_ok (p := 7) (q := n.l.toNat) (by omega) (by omega)
 rw [show names.getD 7 0 = 9 from rfl] at s9
 rw [h4] at la s9
 simp only [Int.reduceToNat] at la s9
 have hE : noteC n false = [3, 9 + lens.getD 4 0] := by
  simp [noteC, alterC, octC, smallC, nameC, h1, h2, h4]
 simp only [c70, go_sem, Nat.reducePow, Nat.reduceLeDiff, ↓reduceIte, reduceCtorEq, Nat.reduceLT, Nat.reduceEqDiff, Nat.reduceAdd, Int.reduceToNat, Int.reduceLE, Int.reduceEq, Int.reduceNeg, Int.reduceToNat, h1, h2, h4, la, s9, Nat.mul_one, Int.reduceToNat, List.cons_append, List.nil_append, List.take_succ_cons, List.take_zero]
 rw [hE]
 exact snap_bytes (c := [3, 9 + lens.getD 4 0]) rfl
theorem Note_cro (n : Nt) (hr : rightP n = true) (h1 : n.a = 0) (h2 : ¬ 0 <= n.s) (h4 : ¬ n.l = 4) : Ctr Tryd.prog 70 [vnote n, vb false] (vbytes (noteC n false)) := by
 refine specE f70 (by simp) fun F0 w0 => ?_
 obtain ⟨r1, r2, r3, r4, r5, r6, r7⟩ := rightP_iff hr
 have la := len_at' (q := n.l.toNat) (by omega)
 have s9 := sum_ok (p := 7) (q := n.l.toNat) (by omega) (by omega)
 rw [show names.getD 7 0 = 9 from rfl] at s9
 have hE : noteC n false = [9 + lens.getD n.l.toNat 0] := by
  simp [noteC, alterC, octC, smallC, nameC, h1, h2, h4]
 simp only [c70, go_sem, Nat.reducePow, Nat.reduceLeDiff, ↓reduceIte, reduceCtorEq, Nat.reduceLT, Nat.reduceEqDiff, Nat.reduceAdd, Int.reduceEq, Int.reduceNeg, h1, h2, h4, r3, la, s9, Nat.mul_one, List.cons_append, List.nil_append]
 rw [hE]
 exact snap_bytes (c := [9 + lens.getD n.l.toNat 0]) rfl
theorem Note_cm4 (n : Nt) (hr : rightP n = true) (h1 : n.a = 0) (h2 : 0 <= n.s) (h4 : n.l = 4) : Ctr Tryd.prog 70 [vnote n, vb true] (vbytes (noteC n true)) := by
 refine specE f70 (by simp) fun F0 w0 => ?_
 obtain ⟨r1, r2, r3, r4, r5, r6, r7⟩ := rightP_iff hr
 have la := len_at' (q := n.l.toNat) (by omega)
 have s9 := sum_ok (p := 7) (q := n.l.toNat) (by omega) (by omega)
 rw [show names.getD 7 0 = 9 from rfl] at s9
 rw [h4] at la s9
 simp only [Int.reduceToNat] at la s9
 have hsm : small n.s := ⟨by omega, by omega⟩
 have q7 := quo7 hsm
 have d1 : n.s.tdiv 7 = n.s / 7 := Int.tdiv_eq_ediv_of_nonneg h2
 have d2 : n.s.tmod 7 = n.s % 7 := Int.tmod_eq_emod_of_nonneg h2
 have q0 : 0 <= n.s.tdiv 7 := by omega
 have m0 : 0 <= n.s.tmod 7 := by omega
 have oa := oct_at' (q := (n.s.tdiv 7).toNat) (by omega)
 have na := name_at' (q := (n.s.tmod 7).toNat) (by omega)
 have sa := sum_ok (p := (n.s.tmod 7).toNat) (q := 4) (by omega) (by omega)
 have hE : noteC n true = [octs.getD (n.s.tdiv 7).toNat 0, 3, names.getD (n.s.tmod 7).toNat 0 + lens.getD 4 0] := by
  simp [noteC, alterC, octC, smallC, nameC, h1, h2, h4]
 simp only [c70, go_sem, Nat.reducePow, Nat.reduceLeDiff, ↓reduceIte, reduceCtorEq, Nat.reduceLT, Nat.reduceEqDiff, Nat.reduceAdd, Int.reduceToNat, Int.reduceLE, Int.reduceEq, Int.reduceNeg, Int.reduceToNat, h1, h2, h4, la, Nat.mul_one, Int.reduceToNat, List.cons_append, List.nil_append, List.take_succ_cons, List.take_zero, q7, q0, m0, oa, na, sa]
 rw [hE]
 exact snap_bytes (c := [octs.getD (n.s.tdiv 7).toNat 0, 3, names.getD (n.s.tmod 7).toNat 0 + lens.getD 4 0]) rfl
theorem Note_cmo (n : Nt) (hr : rightP n = true) (h1 : n.a = 0) (h2 : 0 <= n.s) (h4 : ¬ n.l = 4) : Ctr Tryd.prog 70 [vnote n, vb true] (vbytes (noteC n true)) := by
 refine specE f70 (by simp) fun F0 w0 => ?_
 obtain ⟨r1, r2, r3, r4, r5, r6, r7⟩ := rightP_iff hr
 have la := len_at' (q := n.l.toNat) (by omega)
 have s9 := sum_ok (p := 7) (q := n.l.toNat) (by omega) (by omega)
 rw [show names.getD 7 0 = 9 from rfl] at s9
 have hsm : small n.s := ⟨by omega, by omega⟩
 have q7 := quo7 hsm
 have d1 : n.s.tdiv 7 = n.s / 7 := Int.tdiv_eq_ediv_of_nonneg h2
 have d2 : n.s.tmod 7 = n.s % 7 := Int.tmod_eq_emod_of_nonneg h2
 have q0 : 0 <= n.s.tdiv 7 := by omega
 have m0 : 0 <= n.s.tmod 7 := by omega
 have oa := oct_at' (q := (n.s.tdiv 7).toNat) (by omega)
 have na := name_at' (q := (n.s.tmod 7).toNat) (by omega)
 have sa := sum_ok (p := (n.s.tmod 7).toNat) (q := n.l.toNat) (by omega) (by omega)
 have hE : noteC n true = [octs.getD (n.s.tdiv 7).toNat 0, names.getD (n.s.tmod 7).toNat 0 + lens.getD n.l.toNat 0] := by
  simp [noteC, alterC, octC, smallC, nameC, h1, h2, h4]
 simp only [c70, go_sem, Nat.reducePow, Nat.reduceLeDiff, ↓reduceIte, reduceCtorEq, Nat.reduceLT, Nat.reduceEqDiff, Nat.reduceAdd, Int.reduceEq, Int.reduceNeg, h1, h2, h4, r3, la, Nat.mul_one, List.cons_append, List.nil_append, List.take_succ_cons, List.take_zero, q7, q0, m0, oa, na, sa]
 rw [hE]
 exact snap_bytes (c := [octs.getD (n.s.tdiv 7).toNat 0, names.getD (n.s.tmod 7).toNat 0 + lens.getD n.l.toNat 0]) rfl
theorem Note_cn4 (n : Nt) (hr : rightP n = true) (h1 : n.a = 0) (h2 : 0 <= n.s) (h4 : n.l = 4) : Ctr Tryd.prog 70 [vnote n, vb false] (vbytes (noteC n false)) := by
 refine specE f70 (by simp) fun F0 w0 => ?_
 obtain ⟨r1, r2, r3, r4, r5, r6, r7⟩ := rightP_iff hr
 have la := len_at' (q := n.l.toNat) (by omega)
 have s9 := sum_ok (p := 7) (q := n.l.toNat) (by omega) (by omega)
 rw [show names.getD 7 0 = 9 from rfl] at s9
 rw [h4] at la s9
 simp only [Int.reduceToNat] at la s9
 have hsm : small n.s := ⟨by omega, by omega⟩
 have q7 := quo7 hsm
 have d1 : n.s.tdiv 7 = n.s / 7 := Int.tdiv_eq_ediv_of_nonneg h2
 have d2 : n.s.tmod 7 = n.s % 7 := Int.tmod_eq_emod_of_nonneg h2
 have q0 : 0 <= n.s.tdiv 7 := by omega
 have m0 : 0 <= n.s.tmod 7 := by omega
 have oa := oct_at' (q := (n.s.tdiv 7).toNat) (by omega)
 have na := name_at' (q := (n.s.tmod 7).toNat) (by omega)
 have sa := sum_ok (p := (n.s.tmod 7).toNat) (q := 4) (by omega) (by omega)
 have hE : noteC n false = [3, names.getD (n.s.tmod 7).toNat 0 + lens.getD 4 0] := by
  simp [noteC, alterC, octC, smallC, nameC, h1, h2, h4]
 simp only [c70, go_sem, Nat.reducePow, Nat.reduceLeDiff, ↓reduceIte, reduceCtorEq, Nat.reduceLT, Nat.reduceEqDiff, Nat.reduceAdd, Int.reduceToNat, Int.reduceLE, Int.reduceEq, Int.reduceNeg, Int.reduceToNat, h1, h2, h4, la, Nat.mul_one, Int.reduceToNat, List.cons_append, List.nil_append, List.take_succ_cons, List.take_zero, m0, na, sa]
 rw [hE]
 exact snap_bytes (c := [3, names.getD (n.s.tmod 7).toNat 0 + lens.getD 4 0]) rfl
theorem Note_cno (n : Nt) (hr : rightP n = true) (h1 : n.a = 0) (h2 : 0 <= n.s) (h4 : ¬ n.l = 4) : Ctr Tryd.prog 70 [vnote n, vb false] (vbytes (noteC n false)) := by
 refine specE f70 (by simp) fun F0 w0 => ?_
 obtain ⟨r1, r2, r3, r4, r5, r6, r7⟩ := rightP_iff hr
 have la := len_at' (q := n.l.toNat) (by omega)
 have s9 := sum_ok (p := 7) (q := n.l.toNat) (by omega) (by omega)
 rw [show names.getD 7 0 = 9 from rfl] at s9
 have hsm : small n.s := ⟨by omega, by omega⟩
 have q7 := quo7 hsm
 have d1 : n.s.tdiv 7 = n.s / 7 := Int.tdiv_eq_ediv_of_nonneg h2
 have d2 : n.s.tmod 7 = n.s % 7 := Int.tmod_eq_emod_of_nonneg h2
 have q0 : 0 <= n.s.tdiv 7 := by omega
 have m0 : 0 <= n.s.tmod 7 := by omega
 have oa := oct_at' (q := (n.s.tdiv 7).toNat) (by omega)
 have na := name_at' (q := (n.s.tmod 7).toNat) (by omega)
 have sa := sum_ok (p := (n.s.tmod 7).toNat) (q := n.l.toNat) (by omega) (by omega)
 have hE : noteC n false = [names.getD (n.s.tmod 7).toNat 0 + lens.getD n.l.toNat 0] := by
  simp [noteC, alterC, octC, smallC, nameC, h1, h2, h4]
 simp only [c70, go_sem, Nat.reducePow, Nat.reduceLeDiff, ↓reduceIte, reduceCtorEq, Nat.reduceLT, Nat.reduceEqDiff, Nat.reduceAdd, Int.reduceEq, Int.reduceNeg, h1, h2, h4, r3, la, Nat.mul_one, List.cons_append, List.nil_append, m0, na, sa]
 rw [hE]
 exact snap_bytes (c := [names.getD (n.s.tmod 7).toNat 0 + lens.getD n.l.toNat 0]) rfl
theorem Note_s (n : Nt) (m : Bool) (hr : rightP n = true) (hm : m = true -> 0 <= n.s) : Ctr Tryd.prog 70 [vnote n, vb m] (vbytes (noteC n m)) := by
 obtain ⟨r1, r2, r3, r4, r5, r6, r7⟩ := rightP_iff hr
 by_cases h4 : n.l = 4
 ·cases m with
  | true =>
   by_cases a1 : n.a = 1
   ·exact Note_am4 n hr a1 (hm rfl) h4
   by_cases a2 : n.a = -1
   ·exact Note_bm4 n hr a2 (hm rfl) h4
   exact Note_cm4 n hr (by omega) (hm rfl) h4
  | false =>
   by_cases h2 : 0 <= n.s
   ·by_cases a1 : n.a = 1
    ·exact Note_an4 n hr a1 h2 h4
    by_cases a2 : n.a = -1
    ·exact Note_bn4 n hr a2 h2 h4
    exact Note_cn4 n hr (by omega) h2 h4
   ·exact Note_cr4 n hr (by omega) h2 h4
 ·cases m with
  | true =>
   by_cases a1 : n.a = 1
   ·exact Note_amo n hr a1 (hm rfl) h4
   by_cases a2 : n.a = -1
   ·exact Note_bmo n hr a2 (hm rfl) h4
   exact Note_cmo n hr (by omega) (hm rfl) h4
  | false =>
   by_cases h2 : 0 <= n.s
   ·by_cases a1 : n.a = 1
    ·exact Note_ano n hr a1 h2 h4
    by_cases a2 : n.a = -1
    ·exact Note_bno n hr a2 h2 h4
    exact Note_cno n hr (by omega) h2 h4
   ·exact Note_cro n hr (by omega) h2 h4
end Go.Proofs.YtnncijjkbonokaaDoor
namespace Go.Proofs.YtnncijjkbonokaaDoor
open Go.RowKit Dak
theorem mark_pos {s l : Int} (h : markP s l = true) : 0 <= s := by
 simp only [markP, Bool.and_eq_true, decide_eq_true_eq] at h; exact h.1
abbrev cellS (l : List Nt) (lst : Int) (k : Nat) (L : Nat) (X : List AV) : Est := ⟨[(0, vbar l), (1, vi lst), (6, .own 0 L 0 L), (7, vi k)], [.arr L 1 5 X]⟩
theorem Cells_s (l : List Nt) (last : Int) (hlen : l.length <= 10000) (hr : ∀ n ∈ l, rightP n = true) (hl : small last) :
 Ctr Tryd.prog 38 [vbar l, vi last] (.tup [vbytes (cellsP l last), vi (lastP l last)]) := by
 refine specC f38 (by simp) fun F0 w0 => ?_
 unfold c38
 refine CwpE.cut (st := ⟨[(0, vbar l), (1, vi last)], []⟩) ?_ ?_
 ·simp only [go_sem, ↓reduceIte, Nat.reduceLT]
  exact ⟨_, WkE.keep (by simp only [go_sem, ↓reduceIte, reduceCtorEq, Nat.reduceEqDiff]), rfl⟩
 refine CwpE.cut (st := ⟨[(6, .own 0 0 0 0), (0, vbar l), (1, vi last)], [.arr 0 1 5 []]⟩) ?_ ?_
 ·simp only [go_sem, ↓reduceIte, Nat.reduceLT]
  exact ⟨_, (WkE.nil 6 1 5 (by omega) rfl).trans (WkE.keep (by simp only [go_sem, ↓reduceIte, reduceCtorEq, Nat.reduceEqDiff])), rfl⟩
 refine CwpE.seqJ (fun s => s = ⟨[(1, vi (lastP l last)), (6, .own 0 (cellsP l last).length 0 (cellsP l last).length)], [.arr (cellsP l last).length 1 5 ((cellsP l last).map vu)]⟩) ?_ ?_
 ·refine CwpE.cut (st := cellS l last 0 0 []) ?_ ?_
  ·simp only [go_sem, ↓reduceIte, Nat.reduceLT]
   exact ⟨_, WkE.keep (by simp only [go_sem, ↓reduceIte, reduceCtorEq, Nat.reduceEqDiff]; rfl), rfl⟩
  refine CwpE.block ?_
  refine loopXC 0 (fun m s => ∃ (k : Nat) (out : List Int) (lst : Int), m = l.length - k /\ k <= l.length /\ out ++ cellsP (l.drop k) lst = cellsP l last /\ lastP (l.drop k) lst = lastP l last /\ out.length <= 4 * k /\ small lst /\ s = cellS l lst k out.length (out.map vu))
   (fun s => s = ⟨[(1, vi (lastP l last)), (6, .own 0 (cellsP l last).length 0 (cellsP l last).length)], [.arr (cellsP l last).length 1 5 ((cellsP l last).map vu)]⟩) l.length
   (cellS l last 0 0 []) (.refl _ _) ⟨0, [], last, by omega, by omega, rfl, rfl, by simp, hl, by simp⟩ ?_ ?_
  rotate_left
  ·rintro s rfl
   simp only [inBlockE, if_true, thenE]
   exact ⟨_, .refl _ _, rfl⟩
  rintro m s ⟨k, out, lst, rfl, hk, ho, hls, hol, hsm, rfl⟩
  refine CwpE.vc ?_
  by_cases hlt : k < l.length
  ·have g1 : (k : Int) < (l.length : Int) := by omega
   have g0 : (0 : Int) <= (k : Int) := by omega
   have w1 : IntKind.i64.wrap ((k : Int) + 1) = ((k + 1 : Nat) : Int) := by rw [wrap_id (by omega) (by omega)]; omega
   have hrn := hr _ (List.getElem_mem hlt)
   obtain ⟨n, hn⟩ : ∃ n, l[k]? = some n := ⟨_, List.getElem?_eq_getElem hlt⟩
   have hn' : l[k] = n := by rw [List.getElem?_eq_getElem hlt] at hn; exact Option.some.inj hn
   rw [hn'] at hrn
   rw [List.drop_eq_getElem_cons hlt, cellsP, hn'] at ho
   rw [List.drop_eq_getElem_cons hlt, lastP, hn'] at hls
   obtain ⟨r1, r2, r3, r4, r5, r6, r7⟩ := rightP_iff hrn
   obtain ⟨X, hXe⟩ : ∃ X, out.map vu = X := ⟨_, rfl⟩
   obtain ⟨L, hL⟩ : ∃ L, out.length = L := ⟨_, rfl⟩
   have hX : X.length = L := by rw [<- hXe, <- hL]; simp
   have hT : List.take L X = X := List.take_of_length_le (by omega)
   obtain ⟨cs, hcs⟩ : ∃ cs, noteC n (markP n.s lst) = cs := ⟨_, rfl⟩
   have hcl : cs.length <= 4 := by rw [<- hcs]; exact noteC_len _ _
   have hcp : 0 < cs.length := by rw [<- hcs]; simp [noteC]; omega
   have b1 : L + cs.length <= 140737488355328 := by omega
   rw [hXe, hL]
   simp only [cellS, go_sem, ↓reduceIte, reduceCtorEq, Nat.reduceLT, Nat.reduceEqDiff, Nat.reduceAdd, g1, g0, List.getElem?_map, hn, Option.map_some]
   refine callT (marked_s n.s lst ⟨by omega, by omega⟩ hsm) rfl ?_
   simp only [go_sem, ↓reduceIte, reduceCtorEq, Nat.reduceLT, Nat.reduceEqDiff, Nat.reduceAdd, g0, List.getElem?_map, hn, Option.map_some]
   refine callT (Note_s n (markP n.s lst) hrn mark_pos) rfl ?_
   rw [hcs]
   have fin : ∀ s, WkE 41 s (cellS l (stepP n lst) (k + 1) (L + cs.length) (X ++ cs.map vu)) -> ∃ m s', m < l.length - k /\ WkE 41 s s' /\ ∃ (k : Nat) (out : List Int) (lst : Int), m = l.length - k /\ k <= l.length /\ out ++ cellsP (l.drop k) lst = cellsP l last /\ lastP (l.drop k) lst = lastP l last /\ out.length <= 4 * k /\ small lst /\ s' = cellS l lst k out.length (out.map vu) := by
    intro s hs
    refine ⟨l.length - (k + 1), _, by omega, hs, k + 1, out ++ cs, stepP n lst, rfl, by omega, by rw [List.append_assoc, <- hcs]; exact ho, hls, by rw [List.length_append]; omega, step_small hrn hsm, ?_⟩
    rw [List.length_append, hL, List.map_append, hXe]
   by_cases h2 : 0 <= n.s
   ·have e : stepP n lst = n.s := if_pos h2
    rw [e] at fin
    simp only [go_sem, ↓reduceIte, reduceCtorEq, Nat.reduceLT, Nat.reduceEqDiff, g0, List.getElem?_map, hn, Option.map_some, hT, hX, hcp, b1, h2, w1, List.length_map, Nat.mul_one, Nat.zero_add, List.drop_zero]
    exact fin _ (WkE.keep (by simp only [go_sem, ↓reduceIte, reduceCtorEq, Nat.reduceEqDiff]))
   ·have e : stepP n lst = lst := if_neg h2
    rw [e] at fin
    simp only [go_sem, ↓reduceIte, reduceCtorEq, Nat.reduceLT, Nat.reduceEqDiff, g0, List.getElem?_map, hn, Option.map_some, hT, hX, hcp, b1, h2, w1, List.length_map, Nat.mul_one, Nat.zero_add, List.drop_zero]
    exact fin _ (WkE.keep (by simp only [go_sem, ↓reduceIte, reduceCtorEq, Nat.reduceEqDiff]))
  ·have g1 : ¬ (k : Int) < (l.length : Int) := by omega
   rw [List.drop_eq_nil_of_le (by omega), cellsP, List.append_nil] at ho
   rw [List.drop_eq_nil_of_le (by omega), lastP] at hls
   subst ho; subst hls
   simp only [cellS, go_sem, ↓reduceIte, reduceCtorEq, Nat.reduceLT, Nat.reduceEqDiff, g1]
   exact ⟨_, WkE.keep (by simp only [go_sem, ↓reduceIte, reduceCtorEq, Nat.reduceEqDiff]), rfl⟩
 ·rintro s rfl
  refine CwpE.vc ?_
  simp only [go_sem, ↓reduceIte, Nat.reduceLT, Nat.reduceEqDiff]
  refine .tup _ _ rfl fun i h1 h2 => ?_
  match i, h1 with
  | 0, _ => exact snap_bytes rfl
  | 1, _ => exact .tree _ rfl
end Go.Proofs.YtnncijjkbonokaaDoor
namespace Go.Proofs.YtnncijjkbonokaaDoor
open Dak
theorem f3 : fnC Tryd.prog 3 = some (c3, 112, [(.tmp 10)]) := by kernel_rfl
end Go.Proofs.YtnncijjkbonokaaDoor
namespace Go.Proofs.YtnncijjkbonokaaDoor
open Go.RowKit Dak
theorem bn_seven2 (F0 : FD) (w0 : World) (m : List (List (List Nt))) (a h b : Int) (ha : I64 a) (hh : I64 h) (hb : I64 b) (hm : melB m) (hi : Nat) (hd : List (List Nt)) (bi : Nat) (b0 : List Nt) (T : BnT m hi hd bi b0) (k : Nat) (hj7 : aroundL h 9 = 7) (hm3 : m.length <= 2)
 (ehi : aroundL a (m.length : Nat) = (hi : Nat)) (ebi : aroundL (a.tdiv (2 : Nat)) (hd.length : Nat) = (bi : Nat)) (ek : aroundL (a.tdiv (8 : Nat)) ((max b0.length 1 : Nat) : Int) = (k : Nat)) :
 CwpE Tryd.prog F0 w0 263 (match c11 with | .seq _ (.seq _ b) => b | _ => .skip) (retE [.cell 8 true 1] (vmel (m.map (growH b)))) ⟨bnE a h b, bnO m 0 [] ++ []⟩ := by
 have hhi : hi < m.length := (List.getElem?_eq_some_iff.1 T.th).1
 have hhd := hm.2 hd (List.mem_of_getElem? T.th)
 have hbl := hhd.2 b0 (List.mem_of_getElem? T.tb)
 have start : ∀ O, CwpE Tryd.prog F0 w0 263 (.block 0 (.loop bnH)) (fun e s => ∃ s', WkE 263 s s' /\ (e = .normal /\ s' = ⟨bnE a h b, O⟩)) ⟨(10, vi (0 : Nat)) :: bnE a h b, bnO m 0 [] ++ []⟩ ->
  CwpE Tryd.prog F0 w0 263 bnM (retE [.cell 8 true 1] (vmel (m.map (growH b)))) ⟨bnE a h b, O⟩ ->
  CwpE Tryd.prog F0 w0 263 (match c11 with | .seq _ (.seq _ b) => b | _ => .skip) (retE [.cell 8 true 1] (vmel (m.map (growH b)))) ⟨bnE a h b, bnO m 0 [] ++ []⟩ := by
  intro O h1 h2
  unfold c11
  refine CwpE.seqJ (fun s => s = ⟨bnE a h b, O⟩) ?_ ?_
  ·refine CwpE.cut (st := ⟨(10, vi (0 : Nat)) :: bnE a h b, bnO m 0 [] ++ []⟩) ?_ ?_
   ·simp only [go_sem, ↓reduceIte, Nat.reduceLT, List.cons_append, List.nil_append]
    exact ⟨_, WkE.keep (by simp only [go_sem, ↓reduceIte, Nat.reduceEqDiff]; rfl), rfl⟩
   exact h1.mono fun e s ⟨s', hw, he, hs⟩ => by
    subst he; exact ⟨s', hw, hs⟩
  rintro _ rfl
  exact h2
 match m, hm3, hm, T, hhi, ehi, start with
 | [], _, _, _, hhi, _, _ => simp at hhi
 | [h0], _, hm, T, hhi, ehi, start =>
  have l0 := (hm.2 h0 (by simp)).1
  refine start _ (bn_loopA1 F0 w0 [h0] a h b h0 rfl hm (Q := fun e s => e = .normal /\ s = _) ⟨rfl, rfl⟩) ?_
  obtain rfl : hi = 0 := by simp at hhi; omega
  obtain rfl : h0 = hd := by have := T.th; simpa using this
  refine bn_mid10 F0 w0 [h0] _ a h b ha hh h0 bi b0 T.tb hhd.1 hbl k ehi ebi ek ?_
  rw [hj7]
  exact bent_fin (Z := fun _ _ => True) (bn_c7_1 F0 w0 [h0] a h b hb h0 l0 0 bi k _ fun s hs => ⟨rfl, _, hs, rfl⟩)
 | [h0, h1], _, hm, T, hhi, ehi, start =>
  have l0 := (hm.2 h0 (by simp)).1
  have l1 := (hm.2 h1 (by simp)).1
  refine start _ (bn_loopA2 F0 w0 [h0, h1] a h b h0 h1 rfl hm (Q := fun e s => e = .normal /\ s = _) ⟨rfl, rfl⟩) ?_
  have hi2 : hi = 0 \/ hi = 1 := by simp at hhi; omega
  rcases hi2 with rfl | rfl
  ·obtain rfl : h0 = hd := by have := T.th; simpa using this
   refine bn_mid20 F0 w0 [h0, h1] _ a h b ha hh h0 h1 bi b0 T.tb hhd.1 hbl k ehi ebi ek ?_
   rw [hj7]
   exact bent_fin (Z := fun _ _ => True) (bn_c7_2 F0 w0 [h0, h1] a h b hb h0 h1 l0 l1 0 bi k _ fun s hs => ⟨rfl, _, hs, rfl⟩)
  ·obtain rfl : h1 = hd := by have := T.th; simpa using this
   refine bn_mid21 F0 w0 [h0, h1] _ a h b ha hh h0 h1 bi b0 T.tb hhd.1 hbl k ehi ebi ek ?_
   rw [hj7]
   exact bent_fin (Z := fun _ _ => True) (bn_c7_2 F0 w0 [h0, h1] a h b hb h0 h1 l0 l1 1 bi k _ fun s hs => ⟨rfl, _, hs, rfl⟩)
 | _ :: _ :: _ :: _, h3, _, _, _, _, _ => simp at h3
theorem Bent2_s (m : List (List (List Nt))) (a h b : Int) (ha : I64 a) (hh : I64 h) (hb : I64 b) (hm : melB m) (hm3 : m.length <= 2) : Ctr Tryd.prog 11 [vmel m, vi a, vi h, vi b] (vmel (bentP m a h b)) := by
 refine specC f11 (by simp) fun F0 w0 => ?_
 have g9 := around_bd (n := h) (most := 9) (by omega)
 have hml := hm.1
 refine CwpE.mono (Q := retE [.cell 8 true 1] (vmel (bentP m a h b))) ?_ fun e s hs => hs
 have body : CwpE Tryd.prog F0 w0 263 (match c11 with | .seq _ (.seq _ b) => b | _ => .skip) (retE [.cell 8 true 1] (vmel (bentP m a h b))) ⟨bnE a h b, bnO m 0 [] ++ []⟩ -> CwpE Tryd.prog F0 w0 263 c11 (retE [.cell 8 true 1] (vmel (bentP m a h b))) ⟨envOf 0 [vmel m, vi a, vi h, vi b], []⟩ := by
  intro hb
  unfold c11
  refine CwpE.cut (st := ⟨[(1, vi a), (2, vi h), (3, vi b), (4, .ref 0 1 0 0), (8, .ref 1 1 0 0)], [.arr 1 1 25 [vmel m], .arr 1 1 25 [nilT]]⟩) ?_ ?_
  ·simp only [go_sem, ↓reduceIte, Nat.reduceLT, Nat.reduceAdd]
   exact ⟨_, WkE.keep (by simp only [go_sem, ↓reduceIte, reduceCtorEq, Nat.reduceEqDiff]), rfl⟩
  refine CwpE.cut (st := ⟨bnE a h b, bnO m 0 [] ++ []⟩) ?_ ?_
  ·simp only [go_sem, ↓reduceIte, Nat.reduceLT, Nat.reduceAdd]
   exact ⟨_, (WkE.nilCell 2 1 1 0 0 1 28 25 [nilT] _ rfl rfl rfl).trans (WkE.keep (by simp only [go_sem, ↓reduceIte, Nat.reduceEqDiff])), rfl⟩
  exact hb
 refine body ?_
 have flat : CwpE Tryd.prog F0 w0 263 bnM (retE [.cell 8 true 1] (vmel (bentP m a h b))) ⟨bnE a h b, bnR m m⟩ -> CwpE Tryd.prog F0 w0 263 (match c11 with | .seq _ (.seq _ b) => b | _ => .skip) (retE [.cell 8 true 1] (vmel (bentP m a h b))) ⟨bnE a h b, bnO m 0 [] ++ []⟩ := by
  intro hk
  unfold c11
  refine CwpE.seqJ (fun s => s = ⟨bnE a h b, bnR m m⟩) ?_ ?_
  ·refine CwpE.cut (st := ⟨(10, vi (0 : Nat)) :: bnE a h b, bnO m 0 [] ++ []⟩) ?_ ?_
   ·simp only [go_sem, ↓reduceIte, Nat.reduceLT, List.cons_append, List.nil_append]
    exact ⟨_, WkE.keep (by simp only [go_sem, ↓reduceIte, Nat.reduceEqDiff]; rfl), rfl⟩
   exact (bn_loop0 F0 w0 m a h b hm (Q := fun e s => e = .normal /\ s = _) ⟨rfl, rfl⟩).mono fun e s ⟨s', hw, he, hs⟩ => by
    subst he; subst hs; exact ⟨_, hw.trans (frz_all rfl rfl), rfl⟩
  rintro _ rfl
  exact hk
 by_cases h0 : m.length = 0
 ·have e : bentP m a h b = m := if_pos h0
  rw [e] at flat ⊢
  refine flat ?_
  have n0 : (m.length : Int) = 0 := by omega
  unfold bnM c11
  refine CwpE.vc ?_
  simp only [go_sem, ↓reduceIte, Nat.reduceLT, Nat.reduceEqDiff, Int.reduceNeg, List.length_map, n0]
  exact .tree _ rfl
 have ghi := around_bd (n := a) (most := m.length) (by omega)
 obtain ⟨hi, ehi⟩ : ∃ i : Nat, aroundL a m.length = i := ⟨(aroundL a m.length).toNat, by omega⟩
 have hhl : hi < m.length := by omega
 obtain ⟨hd, hhd⟩ : ∃ r, m[hi] = r := ⟨_, rfl⟩
 have gh : m[hi]? = some hd := by rw [List.getElem?_eq_getElem hhl, hhd]
 have e : bentP m a h b = bentH m hi hd a h b := by
  unfold bentP
  rw [if_neg h0, ehi, Int.toNat_natCast, List.getD_eq_getElem?_getD, gh]; rfl
 rw [e] at flat body ⊢
 have n0 : ¬ (m.length : Int) = 0 := by omega
 have hdl := hm.2 hd (List.mem_of_getElem? gh)
 have hdl1 := hdl.1
 by_cases d0 : hd.length = 0
 ·have e : bentH m hi hd a h b = m := if_pos d0
  rw [e] at flat ⊢
  refine flat ?_
  have i0 : (0 : Int) <= (hi : Int) := by omega
  have i1 : (hi : Int) < (m.length : Int) := by omega
  have d0' : (hd.length : Int) = 0 := by omega
  unfold bnM c11
  refine CwpE.vc ?_
  simp only [go_sem, ↓reduceIte, Nat.reduceLT, Nat.reduceEqDiff, Int.reduceNeg, List.length_map, n0]
  refine callT (Around_s a m.length ha ⟨by omega, by omega⟩) rfl ?_
  simp only [go_sem, ↓reduceIte, Nat.reduceLT, Nat.reduceEqDiff, Int.reduceNeg, List.length_map, ehi, i0, List.getElem?_map, gh, Option.map_some, d0']
  exact .tree _ rfl
 have gbi := around_bd (n := a.tdiv 2) (most := hd.length) (by omega)
 obtain ⟨bi, ebi⟩ : ∃ i : Nat, aroundL (a.tdiv 2) hd.length = i := ⟨(aroundL (a.tdiv 2) hd.length).toNat, by omega⟩
 have hbl : bi < hd.length := by omega
 obtain ⟨b0, hb0⟩ : ∃ r, hd[bi] = r := ⟨_, rfl⟩
 have gb : hd[bi]? = some b0 := by rw [List.getElem?_eq_getElem hbl, hb0]
 have gk := around_bd (n := a.tdiv 8) (most := ((max b0.length 1 : Nat) : Int)) (by omega)
 obtain ⟨k, ek⟩ : ∃ i : Nat, aroundL (a.tdiv 8) ((max b0.length 1 : Nat) : Int) = i := ⟨(aroundL (a.tdiv 8) ((max b0.length 1 : Nat) : Int)).toNat, by omega⟩
 obtain ⟨j, ej⟩ : ∃ i : Nat, aroundL h 9 = i := ⟨(aroundL h 9).toNat, by omega⟩
 have e : bentH m hi hd a h b = bentT m hi hd bi b0 k b j := by
  unfold bentH bentK
  rw [if_neg d0, ebi, ej, Int.toNat_natCast, List.getD_eq_getElem?_getD, gb, Option.getD_some, ek]; rfl
 rw [e]
 have T : BnT m hi hd bi b0 := ⟨gh, gb, hm⟩
 by_cases j7 : j = 7
 ·subst j7
  exact bn_seven2 F0 w0 m a h b ha hh hb hm hi hd bi b0 T k ej hm3 ehi ebi ek
 unfold c11
 refine CwpE.seqJ (fun s => s = ⟨bnE a h b, bnT m hi hd bi b0⟩) ?_ ?_
 ·refine CwpE.cut (st := ⟨(10, vi (0 : Nat)) :: bnE a h b, bnO m 0 [] ++ []⟩) ?_ ?_
  ·simp only [go_sem, ↓reduceIte, Nat.reduceLT, List.cons_append, List.nil_append]
   exact ⟨_, WkE.keep (by simp only [go_sem, ↓reduceIte, Nat.reduceEqDiff]; rfl), rfl⟩
  exact (bn_loopT F0 w0 m a h b hm hi hd gh bi b0 gb (Q := fun e s => e = .normal /\ s = _) ⟨rfl, rfl⟩).mono fun e s ⟨s', hw, he, hs⟩ => by
   subst he; subst hs; exact ⟨_, hw, rfl⟩
 rintro _ rfl
 refine bn_midT F0 w0 m _ a h b ha hh hi hd bi b0 T k ehi ebi ek ?_
 rw [ej]
 exact bn_target F0 w0 m a h b hb hi hd bi b0 T k j (by omega) j7 (by omega)
end Go.Proofs.YtnncijjkbonokaaDoor
