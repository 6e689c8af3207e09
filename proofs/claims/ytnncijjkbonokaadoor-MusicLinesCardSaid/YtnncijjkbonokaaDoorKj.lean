/- Lemmas used by Bars, Encodes, Lines, Reads. -/
import Derived.Test.YtnncijjkbonokaaDoorKa
import Derived.Test.YtnncijjkbonokaaDoorKb
import Derived.Test.YtnncijjkbonokaaDoorKc
import Derived.Test.YtnncijjkbonokaaDoorKd
import Derived.Test.YtnncijjkbonokaaDoorKe
import Derived.Test.YtnncijjkbonokaaDoorProg
import Derived.WalkKit
import Derived.WalkSpells
import Derived.WalkLawsBesides
import Derived.Orders
import Derived.Laws.MakeOwn
import Derived.Deep.AppendSrc
import Derived.Lib.AppendZerosOnto
import Derived.Defers
import Derived.Laws.StructEq
import Derived.Scope
import Derived.Deep.LoopGhost
import Derived.OrdersIn
import Derived.ControlIn
import Derived.Sort.LoopGhostIn
import Derived.RangeFuncLeaves
import Derived.RangeFuncRecord
import Derived.RangeFuncFrom
set_option linter.unusedSimpArgs false
set_option linter.unusedVariables false
set_option linter.unusedSectionVars false
namespace Go.Proofs.YtnncijjkbonokaaDoor
open Dak
def c38 : CCode :=
 (.seq (.region [oo 4 (.mov (.const (.slice none 0 0))), oo 5 (.mov (kk 0))])
 (.seq (.region [oo 6 (.mov (.const (.slice none 0 0)))])
 (.seq (.seq (.region [oo 7 (.mov (kk 0))])
 (.block 0 (.loop
 (.seq (.seq (.region [vv 8 7, vv 9 0, oo 10 (.len (T 9)), oo 11 (.ibin .lss (T 8) (T 10))])
 (.cond (T 11)
 .skip
 (.exit 0)))
 (.seq (.block 1 (.seq (.drawn [vv 14 6, vv 15 0, vv 16 7, oo 17 (.idxS 3 (T 15) (T 16)), oo 18 (.load true 3 (T 17)), vv 19 0, vv 20 7, oo 21 (.idxS 3 (T 19) (T 20)), oo 22 (.fieldAddr 0 (T 21)), oo 23 (.load false 1 (T 22)), vv 24 1] [(oo 25 (.call (.func 60) [(T 23), (T 24)]), [vv 14 6, vv 15 0, vv 16 7, oo 17 (.idxS 3 (T 15) (T 16)), oo 18 (.load true 3 (T 17))]), (oo 26 (.call (.func 70) [(T 18), (T 25)]), [vv 14 6]), (oo 27 (.append 5 1 1 (T 14) (T 26)), []), (vv 6 27, [])])
 (.seq (.region [vv 28 0, vv 29 7, oo 30 (.idxS 3 (T 28) (T 29)), oo 31 (.fieldAddr 0 (T 30)), oo 32 (.load false 1 (T 31)), oo 33 (.ibin .geq (T 32) (kk 0))])
 (.cond (T 33)
 (.region [vv 34 0, vv 35 7, oo 36 (.idxS 3 (T 34) (T 35)), oo 37 (.fieldAddr 0 (T 36)), oo 38 (.load false 1 (T 37)), vv 1 38])
 .skip))))
 (.region [vv 12 7, oo 13 (.ibin .add (T 12) (kk 1)), vv 7 13]))))))
 (.seq (.region [vv 39 6, vv 40 1, vv 4 39, vv 5 40])
 .ret))))
theorem f38 : fnC Tryd.prog 38 = some (c38, 41, [(.tmp 4), (.tmp 5)]) := by kernel_rfl
def c60 : CCode :=
 (.seq (.region [oo 4 (.mov (.const (.bool false)))])
 (.seq (.seq (.region [vv 6 0, oo 7 (.ibin .lss (T 6) (kk 0))])
 (.cond (T 7)
 (.seq (.region [oo 4 (.mov (.const (.bool false)))])
 .ret)
 .skip))
 (.seq (.seq (.region [vv 8 1, oo 9 (.ibin .lss (T 8) (kk 0))])
 (.cond (T 9)
 (.seq (.region [oo 4 (.mov (.const (.bool true)))])
 .ret)
 .skip))
 (.seq (.region [vv 10 0, vv 11 1, oo 12 (.ibin .sub (T 10) (T 11)), vv 13 1, vv 14 0, oo 15 (.ibin .sub (T 13) (T 14)), oo 16 (.imax (T 12) (T 15)), vv 5 16])
 (.seq (.region [vv 17 5, oo 18 (.ibin .geq (T 17) (kk 5)), vv 19 18, vf 20 19 5, gf 21 19 (.ibin .geq (T 20) (kk 3)), vf 22 19 21, vt 23 22 0, gt 24 22 (.ibin .quo (T 23) (kk 7)), vt 25 22 1, gt 26 22 (.ibin .quo (T 25) (kk 7)), gt 27 22 (.ibin .neq (T 24) (T 26)), gf 28 19 (.pick (T 22) (T 27) (.const (.bool false))), oo 29 (.pick (T 19) (.const (.bool true)) (T 28)), vv 4 29])
 .ret)))))
theorem f60 : fnC Tryd.prog 60 = some (c60, 30, [(.tmp 4)]) := by kernel_rfl
end Go.Proofs.YtnncijjkbonokaaDoor
namespace Go.Proofs.YtnncijjkbonokaaDoor
open Dak
def c70 : CCode :=
 (.seq (.region [oo 2 (.box 64 (T 0)), oo 4 (.mov (.const (.slice none 0 0)))])
 (.seq (.region [oo 5 (.mov (.const (.slice none 0 0)))])
 (.seq (.seq (.region [oo 7 (.fieldAddr 2 (T 2)), oo 8 (.load false 1 (T 7)), oo 9 (.ibin .eql (T 8) (kk 1))])
 (.cond (T 9)
 (.region [vv 10 5, oo 11 (.bslice 5 1 [(.const (.int .u8 33))]), oo 12 (.append 5 1 1 (T 10) (T 11)), vv 5 12])
 .skip))
 (.seq (.seq (.region [oo 13 (.fieldAddr 2 (T 2)), oo 14 (.load false 1 (T 13)), oo 15 (.ibin .eql (T 14) (kk (-1)))])
 (.cond (T 15)
 (.region [vv 16 5, oo 17 (.bslice 5 1 [(.const (.int .u8 34))]), oo 18 (.append 5 1 1 (T 16) (T 17)), vv 5 18])
 .skip))
 (.seq (.seq (.region [vv 19 1])
 (.cond (T 19)
 (.region [vv 20 5, oo 21 (.bslice 5 1 [(.const (.int .u8 8)), (.const (.int .u8 24)), (.const (.int .u8 56)), (.const (.int .u8 16)), (.const (.int .u8 40)), (.const (.int .u8 48)), (.const (.int .u8 32))]), oo 22 (.fieldAddr 0 (T 2)), oo 23 (.load false 1 (T 22)), oo 24 (.ibin .quo (T 23) (kk 7)), oo 25 (.idxS 1 (T 21) (T 24)), oo 26 (.load false 1 (T 25)), oo 27 (.bslice 5 1 [(T 26)]), oo 28 (.append 5 1 1 (T 20) (T 27)), vv 5 28])
 .skip))
 (.seq (.seq (.region [oo 29 (.fieldAddr 1 (T 2)), oo 30 (.load false 1 (T 29)), oo 31 (.ibin .eql (T 30) (kk 4))])
 (.cond (T 31)
 (.region [vv 32 5, oo 33 (.bslice 5 1 [(.const (.int .u8 3))]), oo 34 (.append 5 1 1 (T 32) (T 33)), vv 5 34])
 .skip))
 (.seq (.region [oo 6 (.mov (.const (.int .u8 9)))])
 (.seq (.seq (.region [oo 35 (.fieldAddr 0 (T 2)), oo 36 (.load false 1 (T 35)), oo 37 (.ibin .geq (T 36) (kk 0))])
 (.cond (T 37)
 (.region [oo 38 (.bslice 5 1 [(.const (.int .u8 25)), (.const (.int .u8 17)), (.const (.int .u8 11)), (.const (.int .u8 27)), (.const (.int .u8 19)), (.const (.int .u8 10)), (.const (.int .u8 26))]), oo 39 (.fieldAddr 0 (T 2)), oo 40 (.load false 1 (T 39)), oo 41 (.ibin .rem (T 40) (kk 7)), oo 42 (.idxS 1 (T 38) (T 41)), oo 43 (.load false 1 (T 42)), vv 6 43])
 .skip))
 (.seq (.region [vv 44 5, vv 45 6, oo 46 (.bslice 5 1 [(.const (.int .u8 36)), (.const (.int .u8 4)), (.const (.int .u8 32)), (.const (.int .u8 0)), (.const (.int .u8 36))]), oo 47 (.fieldAddr 1 (T 2)), oo 48 (.load false 1 (T 47)), oo 49 (.idxS 1 (T 46) (T 48)), oo 50 (.load false 1 (T 49)), oo 51 (.ibin .add (T 45) (T 50)), oo 52 (.bslice 5 1 [(T 51)]), oo 53 (.append 5 1 1 (T 44) (T 52)), vv 4 53])
 .ret)))))))))
theorem f70 : fnC Tryd.prog 70 = some (c70, 54, [(.tmp 4)]) := by kernel_rfl
end Go.Proofs.YtnncijjkbonokaaDoor
namespace Go.Proofs.YtnncijjkbonokaaDoor
open Go.RowKit Dak
set_option maxRecDepth 100000 in
theorem marked_s (s l : Int) (hs : small s) (hl : small l) : Ctr Tryd.prog 60 [vi s, vi l] (vb (markP s l)) := by
 refine specE f60 (by simp) fun F0 w0 => ?_
 have h1 := hs.1; have h2 := hs.2; have h3 := hl.1; have h4 := hl.2
 have w1 : IntKind.i64.wrap (s - l) = s - l := wrap_id (by omega) (by omega)
 have w2 : IntKind.i64.wrap (l - s) = l - s := wrap_id (by omega) (by omega)
 obtain ⟨d, hd⟩ : ∃ d, (if s - l < l - s then l - s else s - l) = d := ⟨_, rfl⟩
 have hd' : distP s l = d := hd
 by_cases z : s < 0
 ·simp only [c60, go_sem, ↓reduceIte, reduceCtorEq, Nat.reduceLT, z]
  rw [show markP s l = false by simp only [markP, show ¬ 0 <= s from by omega, decide_false, Bool.false_and]]
  exact .tree _ rfl
 have z' : 0 <= s := by omega
 have mk : markP s l = needP s l := by simp only [markP, z', decide_true, Bool.true_and]
 by_cases a : l < 0
 ·simp only [c60, go_sem, ↓reduceIte, reduceCtorEq, Nat.reduceLT, Nat.reduceEqDiff, z, a]
  rw [mk, show needP s l = true by simp only [needP, a, true_or, decide_true]]
  exact .tree _ rfl
 by_cases b : 5 <= d
 ·simp only [c60, go_sem, ↓reduceIte, reduceCtorEq, Nat.reduceLT, Nat.reduceEqDiff, w1, w2, hd, z, a, b]
  rw [mk, show needP s l = true by simp only [needP, hd', b, true_or, or_true, decide_true]]
  exact .tree _ rfl
 by_cases c : 3 <= d
 ·by_cases e : s.tdiv 7 = l.tdiv 7
  ·simp only [c60, go_sem, ↓reduceIte, reduceCtorEq, Nat.reduceLT, Nat.reduceEqDiff, Int.reduceEq, w1, w2, hd, z, a, b, c, quo7 hl, e]
   rw [mk, show needP s l = false by simp only [needP, hd', a, b, e, ne_eq, not_true_eq_false, and_false, or_false, decide_false]]
   exact .tree _ rfl
  ·simp only [c60, go_sem, ↓reduceIte, reduceCtorEq, Nat.reduceLT, Nat.reduceEqDiff, Int.reduceEq, w1, w2, hd, z, a, b, c, quo7 hs, quo7 hl, e]
   rw [mk, show needP s l = true by simp only [needP, hd', c, e, ne_eq, not_false_eq_true, and_self, or_true, decide_true]]
   exact .tree _ rfl
 ·simp only [c60, go_sem, ↓reduceIte, reduceCtorEq, Nat.reduceLT, Nat.reduceEqDiff, w1, w2, hd, z, a, b, c]
  rw [mk, show needP s l = false by simp only [needP, hd', a, b, c, false_and, or_false, decide_false]]
  exact .tree _ rfl
end Go.Proofs.YtnncijjkbonokaaDoor
namespace Go.Proofs.YtnncijjkbonokaaDoor
open Go.RowKit Dak
theorem oct_at' {q : Nat} (h : q <= 6) : ([vu 8, vu 24, vu 56, vu 16, vu 40, vu 48, vu 32] : List AV)[q]? = some (vu (octs.getD q 0)) := by
 match q, h with
 | 0, _ | 1, _ | 2, _ | 3, _ | 4, _ | 5, _ | 6, _ => rfl
theorem name_at' {q : Nat} (h : q <= 6) : ([vu 25, vu 17, vu 11, vu 27, vu 19, vu 10, vu 26] : List AV)[q]? = some (vu (names.getD q 0)) := by
 match q, h with
 | 0, _ | 1, _ | 2, _ | 3, _ | 4, _ | 5, _ | 6, _ => rfl
theorem len_at' {q : Nat} (h : q <= 4) : ([vu 36, vu 4, vu 32, vu 0, vu 36] : List AV)[q]? = some (vu (lens.getD q 0)) := by
 match q, h with
 | 0, _ | 1, _ | 2, _ | 3, _ | 4, _ => rfl
set_option maxRecDepth 100000 in
theorem Note_am4 (n : Nt) (hr : rightP n = true) (h1 : n.a = 1) (h2 : 0 <= n.s) (h4 : n.l = 4) : Ctr Tryd.prog 70 [vnote n, vb true] (vbytes (noteC n true)) := by
 refine specE f70 (by simp) fun F0 w0 => ?_
 obtain ⟨r1, r2, r3, r4, r5, r6, r7⟩ := rightP_iff hr
 have la := len_at' (q := n.l.toNat) (by omega)
 have s9 := sum_ok (p := 7) (q := n.l.toNat) (by omega) (by omega)
 rw [show names.getD 7 0 = 9 from rfl] at s9
 rw [h4] at la s9
 simp only [Int.reduceToNat] at la s9
 have hsm : small n.s := ⟨by omega, by omega⟩
 have q7 := quo7 hsm
 have d1 : n.s.tdiv 7 = n.s / 7 := Int.tdiv_eq_ediv_of_nonneg h2
 have d2 : n.s.tmod 7 = n.s % 7 := Int.tmod_eq_emod_of_nonneg h2
 have q0 : 0 <= n.s.tdiv 7 := by omega
 have m0 : 0 <= n.s.tmod 7 := by omega
 have oa := oct_at' (q := (n.s.tdiv 7).toNat) (by omega)
 have na := name_at' (q := (n.s.tmod 7).toNat) (by omega)
 have sa := sum_ok (p := (n.s.tmod 7).toNat) (q := 4) (by omega) (by omega)
 have hE : noteC n true = [33, octs.getD (n.s.tdiv 7).toNat 0, 3, names.getD (n.s.tmod 7).toNat 0 + lens.getD 4 0] := by
  simp [noteC, alterC, octC, smallC, nameC, h1, h2, h4]
 simp only [c70, go_sem, Nat.reducePow, Nat.reduceLeDiff, ↓reduceIte, reduceCtorEq, Nat.reduceLT, Nat.reduceEqDiff, Nat.reduceAdd, Int.reduceToNat, Int.reduceLE, Int.reduceEq, Int.reduceNeg, Int.reduceToNat, h1, h2, h4, la, Nat.mul_one, Int.reduceToNat, List.cons_append, List.nil_append, List.take_succ_cons, List.take_zero, q7, q0, m0, oa, na, sa]
 rw [hE]
 exact snap_bytes (c := [33, octs.getD (n.s.tdiv 7).toNat 0, 3, names.getD (n.s.tmod 7).toNat 0 + lens.getD 4 0]) rfl
set_option maxRecDepth 100000 in
theorem Note_amo (n : Nt) (hr : rightP n = true) (h1 : n.a = 1) (h2 : 0 <= n.s) (h4 : ¬ n.l = 4) : Ctr Tryd.prog 70 [vnote n, vb true] (vbytes (noteC n true)) := by
 refine specE f70 (by simp) fun F0 w0 => ?_
 obtain ⟨r1, r2, r3, r4, r5, r6, r7⟩ := rightP_iff hr
 have la := len_at' (q := n.l.toNat) (by omega)
 have s9 := sum_ok (p := 7) (q := n.l.toNat) (by omega) (by omega)
 rw [show names.getD 7 0 = 9 from rfl] at s9
 have hsm : small n.s := ⟨by omega, by omega⟩
 have q7 := quo7 hsm
 have d1 : n.s.tdiv 7 = n.s / 7 := Int.tdiv_eq_ediv_of_nonneg h2
 have d2 : n.s.tmod 7 = n.s % 7 := Int.tmod_eq_emod_of_nonneg h2
 have q0 : 0 <= n.s.tdiv 7 := by omega
 have m0 : 0 <= n.s.tmod 7 := by omega
 have oa := oct_at' (q := (n.s.tdiv 7).toNat) (by omega)
 have na := name_at' (q := (n.s.tmod 7).toNat) (by omega)
 have sa := sum_ok (p := (n.s.tmod 7).toNat) (q := n.l.toNat) (by omega) (by omega)
 have hE : noteC n true = [33, octs.getD (n.s.tdiv 7).toNat 0, names.getD (n.s.tmod 7).toNat 0 + lens.getD n.l.toNat 0] := by
  simp [noteC, alterC, octC, smallC, nameC, h1, h2, h4]
 simp only [c70, go_sem, Nat.reducePow, Nat.reduceLeDiff, ↓reduceIte, reduceCtorEq, Nat.reduceLT, Nat.reduceEqDiff, Nat.reduceAdd, Int.reduceEq, Int.reduceNeg, h1, h2, h4, r3, la, Nat.mul_one, List.cons_append, List.nil_append, List.take_succ_cons, List.take_zero, q7, q0, m0, oa, na, sa]
 rw [hE]
 exact snap_bytes (c := [33, octs.getD (n.s.tdiv 7).toNat 0, names.getD (n.s.tmod 7).toNat 0 + lens.getD n.l.toNat 0]) rfl
set_option maxRecDepth 100000 in
theorem Note_an4 (n : Nt) (hr : rightP n = true) (h1 : n.a = 1) (h2 : 0 <= n.s) (h4 : n.l = 4) : Ctr Tryd.prog 70 [vnote n, vb false] (vbytes (noteC n false)) := by
 refine specE f70 (by simp) fun F0 w0 => ?_
 obtain ⟨r1, r2, r3, r4, r5, r6, r7⟩ := rightP_iff hr
 have la := len_at' (q := n.l.toNat) (by omega)
 have s9 := sum_ok (p := 7) (q := n.l.toNat) (by omega) (by omega)
 rw [show names.getD 7 0 = 9 from rfl] at s9
 rw [h4] at la s9
 simp only [Int.reduceToNat] at la s9
 have hsm : small n.s := ⟨by omega, by omega⟩
 have q7 := quo7 hsm
 have d1 : n.s.tdiv 7 = n.s / 7 := Int.tdiv_eq_ediv_of_nonneg h2
 have d2 : n.s.tmod 7 = n.s % 7 := Int.tmod_eq_emod_of_nonneg h2
 have q0 : 0 <= n.s.tdiv 7 := by omega
 have m0 : 0 <= n.s.tmod 7 := by omega
 have oa := oct_at' (q := (n.s.tdiv 7).toNat) (by omega)
 have na := name_at' (q := (n.s.tmod 7).toNat) (by omega)
 have sa := sum_ok (p := (n.s.tmod 7).toNat) (q := 4) (by omega) (by omega)
 have hE : noteC n false = [33, 3, names.getD (n.s.tmod 7).toNat 0 + lens.getD 4 0] := by
  simp [noteC, alterC, octC, smallC, nameC, h1, h2, h4]
 simp only [c70, go_sem, Nat.reducePow, Nat.reduceLeDiff, ↓reduceIte, reduceCtorEq, Nat.reduceLT, Nat.reduceEqDiff, Nat.reduceAdd, Int.reduceToNat, Int.reduceLE, Int.reduceEq, Int.reduceNeg, Int.reduceToNat, h1, h2, h4, la, Nat.mul_one, Int.reduceToNat, List.cons_append, List.nil_append, List.take_succ_cons, List.take_zero, m0, na, sa]
 rw [hE]
 exact snap_bytes (c := [33, 3, names.getD (n.s.tmod 7).toNat 0 + lens.getD 4 0]) rfl
set_option maxRecDepth 100000 in
theorem Note_ano (n : Nt) (hr : rightP n = true) (h1 : n.a = 1) (h2 : 0 <= n.s) (h4 : ¬ n.l = 4) : Ctr Tryd.prog 70 [vnote n, vb false] (vbytes (noteC n false)) := by
 refine specE f70 (by simp) fun F0 w0 => ?_
 obtain ⟨r1, r2, r3, r4, r5, r6, r7⟩ := rightP_iff hr
 have la := len_at' (q := n.l.toNat) (by omega)
 have s9 := sum_ok (p := 7) (q := n.l.toNat) (by omega) (by omega)
 rw [show names.getD 7 0 = 9 from rfl] at s9
 have hsm : small n.s := ⟨by omega, by omega⟩
 have q7 := quo7 hsm
 have d1 : n.s.tdiv 7 = n.s / 7 := Int.tdiv_eq_ediv_of_nonneg h2
 have d2 : n.s.tmod 7 = n.s % 7 := Int.tmod_eq_emod_of_nonneg h2
 have q0 : 0 <= n.s.tdiv 7 := by omega
 have m0 : 0 <= n.s.tmod 7 := by omega
 have oa := oct_at' (q := (n.s.tdiv 7).toNat) (by omega)
 have na := name_at' (q := (n.s.tmod 7).toNat) (by omega)
 have sa := sum_ok (p := (n.s.tmod 7).toNat) (q := n.l.toNat) (by omega) (by omega)
 have hE : noteC n false = [33, names.getD (n.s.tmod 7).toNat 0 + lens.getD n.l.toNat 0] := by
  simp [noteC, alterC, octC, smallC, nameC, h1, h2, h4]
 simp only [c70, go_sem, Nat.reducePow, Nat.reduceLeDiff, ↓reduceIte, reduceCtorEq, Nat.reduceLT, Nat.reduceEqDiff, Nat.reduceAdd, Int.reduceEq, Int.reduceNeg, h1, h2, h4, r3, la, Nat.mul_one, List.cons_append, List.nil_append, List.take_succ_cons, List.take_zero, m0, na, sa]
 rw [hE]
 exact snap_bytes (c := [33, names.getD (n.s.tmod 7).toNat 0 + lens.getD n.l.toNat 0]) rfl
set_option maxRecDepth 100000 in
theorem Note_bm4 (n : Nt) (hr : rightP n = true) (h1 : n.a = -1) (h2 : 0 <= n.s) (h4 : n.l = 4) : Ctr Tryd.prog 70 [vnote n, vb true] (vbytes (noteC n true)) := by
 refine specE f70 (by simp) fun F0 w0 => ?_
 obtain ⟨r1, r2, r3, r4, r5, r6, r7⟩ := rightP_iff hr
 have la := len_at' (q := n.l.toNat) (by omega)
 have s9 := sum_ok (p := 7) (q := n.l.toNat) (by omega) (by omega)
 rw [show names.getD 7 0 = 9 from rfl] at s9
 rw [h4] at la s9
 simp only [Int.reduceToNat] at la s9
 have hsm : small n.s := ⟨by omega, by omega⟩
 have q7 := quo7 hsm
 have d1 : n.s.tdiv 7 = n.s / 7 := Int.tdiv_eq_ediv_of_nonneg h2
 have d2 : n.s.tmod 7 = n.s % 7 := Int.tmod_eq_emod_of_nonneg h2
 have q0 : 0 <= n.s.tdiv 7 := by omega
 have m0 : 0 <= n.s.tmod 7 := by omega
 have oa := oct_at' (q := (n.s.tdiv 7).toNat) (by omega)
 have na := name_at' (q := (n.s.tmod 7).toNat) (by omega)
 have sa := sum_ok (p := (n.s.tmod 7).toNat) (q := 4) (by omega) (by omega)
 have hE : noteC n true = [34, octs.getD (n.s.tdiv 7).toNat 0, 3, names.getD (n.s.tmod 7).toNat 0 + lens.getD 4 0] := by
  simp [noteC, alterC, octC, smallC, nameC, h1, h2, h4]
 simp only [c70, go_sem, Nat.reducePow, Nat.reduceLeDiff, ↓reduceIte, reduceCtorEq, Nat.reduceLT, Nat.reduceEqDiff, Nat.reduceAdd, Int.reduceToNat, Int.reduceLE, Int.reduceEq, Int.reduceNeg, Int.reduceToNat, h1, h2, h4, la, Nat.mul_one, Int.reduceToNat, List.cons_append, List.nil_append, List.take_succ_cons, List.take_zero, q7, q0, m0, oa, na, sa]
 rw [hE]
 exact snap_bytes (c := [34, octs.getD (n.s.tdiv 7).toNat 0, 3, names.getD (n.s.tmod 7).toNat 0 + lens.getD 4 0]) rfl
set_option maxRecDepth 100000 in
theorem Note_bmo (n : Nt) (hr : rightP n = true) (h1 : n.a = -1) (h2 : 0 <= n.s) (h4 : ¬ n.l = 4) : Ctr Tryd.prog 70 [vnote n, vb true] (vbytes (noteC n true)) := by
 refine specE f70 (by simp) fun F0 w0 => ?_
 obtain ⟨r1, r2, r3, r4, r5, r6, r7⟩ := rightP_iff hr
 have la := len_at' (q := n.l.toNat) (by omega)
 have s9 := sum_ok (p := 7) (q := n.l.toNat) (by omega) (by omega)
 rw [show names.getD 7 0 = 9 from rfl] at s9
 have hsm : small n.s := ⟨by omega, by omega⟩
 have q7 := quo7 hsm
 have d1 : n.s.tdiv 7 = n.s / 7 := Int.tdiv_eq_ediv_of_nonneg h2
 have d2 : n.s.tmod 7 = n.s % 7 := Int.tmod_eq_emod_of_nonneg h2
 have q0 : 0 <= n.s.tdiv 7 := by omega
 have m0 : 0 <= n.s.tmod 7 := by omega
 have oa := oct_at' (q := (n.s.tdiv 7).toNat) (by omega)
 have na := name_at' (q := (n.s.tmod 7).toNat) (by omega)
 have sa := sum_ok (p := (n.s.tmod 7).toNat) (q := n.l.toNat) (by omega) (by omega)
 have hE : noteC n true = [34, octs.getD (n.s.tdiv 7).toNat 0, names.getD (n.s.tmod 7).toNat 0 + lens.getD n.l.toNat 0] := by
  simp [noteC, alterC, octC, smallC, nameC, h1, h2, h4]
 simp only [c70, go_sem, Nat.reducePow, Nat.reduceLeDiff, ↓reduceIte, reduceCtorEq, Nat.reduceLT, Nat.reduceEqDiff, Nat.reduceAdd, Int.reduceEq, Int.reduceNeg, h1, h2, h4, r3, la, Nat.mul_one, List.cons_append, List.nil_append, List.take_succ_cons, List.take_zero, q7, q0, m0, oa, na, sa]
 rw [hE]
 exact snap_bytes (c := [34, octs.getD (n.s.tdiv 7).toNat 0, names.getD (n.s.tmod 7).toNat 0 + lens.getD n.l.toNat 0]) rfl
set_option maxRecDepth 100000 in
theorem Note_bn4 (n : Nt) (hr : rightP n = true) (h1 : n.a = -1) (h2 : 0 <= n.s) (h4 : n.l = 4) : Ctr Tryd.prog 70 [vnote n, vb false] (vbytes (noteC n false)) := by
 refine specE f70 (by simp) fun F0 w0 => ?_
 obtain ⟨r1, r2, r3, r4, r5, r6, r7⟩ := rightP_iff hr
 have la := len_at' (q := n.l.toNat) (by omega)
 have s9 := sum_ok (p := 7) (q := n.l.toNat) (by omega) (by omega)
 rw [show names.getD 7 0 = 9 from rfl] at s9
 rw [h4] at la s9
 simp only [Int.reduceToNat] at la s9
 have hsm : small n.s := ⟨by omega, by omega⟩
 have q7 := quo7 hsm
 have d1 : n.s.tdiv 7 = n.s / 7 := Int.tdiv_eq_ediv_of_nonneg h2
 have d2 : n.s.tmod 7 = n.s % 7 := Int.tmod_eq_emod_of_nonneg h2
 have q0 : 0 <= n.s.tdiv 7 := by omega
 have m0 : 0 <= n.s.tmod 7 := by omega
 have oa := oct_at' (q := (n.s.tdiv 7).toNat) (by omega)
 have na := name_at' (q := (n.s.tmod 7).toNat) (by omega)
 have sa := sum_ok (p := (n.s.tmod 7).toNat) (q := 4) (by omega) (by omega)
 have hE : noteC n false = [34, 3, names.getD (n.s.tmod 7).toNat 0 + lens.getD 4 0] := by
  simp [noteC, alterC, octC, smallC, nameC, h1, h2, h4]
 simp only [c70, go_sem, Nat.reducePow, Nat.reduceLeDiff, ↓reduceIte, reduceCtorEq, Nat.reduceLT, Nat.reduceEqDiff, Nat.reduceAdd, Int.reduceToNat, Int.reduceLE, Int.reduceEq, Int.reduceNeg, Int.reduceToNat, h1, h2, h4, la, Nat.mul_one, Int.reduceToNat, List.cons_append, List.nil_append, List.take_succ_cons, List.take_zero, m0, na, sa]
 rw [hE]
 exact snap_bytes (c := [34, 3, names.getD (n.s.tmod 7).toNat 0 + lens.getD 4 0]) rfl
set_option maxRecDepth 100000 in
theorem Note_bno (n : Nt) (hr : rightP n = true) (h1 : n.a = -1) (h2 : 0 <= n.s) (h4 : ¬ n.l = 4) : Ctr Tryd.prog 70 [vnote n, vb false] (vbytes (noteC n false)) := by
 refine specE f70 (by simp) fun F0 w0 => ?_
 obtain ⟨r1, r2, r3, r4, r5, r6, r7⟩ := rightP_iff hr
 have la := len_at' (q := n.l.toNat) (by omega)
 have s9 := sum_ok (p := 7) (q := n.l.toNat) (by omega) (by omega)
 rw [show names.getD 7 0 = 9 from rfl] at s9
 have hsm : small n.s := ⟨by omega, by omega⟩
 have q7 := quo7 hsm
 have d1 : n.s.tdiv 7 = n.s / 7 := Int.tdiv_eq_ediv_of_nonneg h2
 have d2 : n.s.tmod 7 = n.s % 7 := Int.tmod_eq_emod_of_nonneg h2
 have q0 : 0 <= n.s.tdiv 7 := by omega
 have m0 : 0 <= n.s.tmod 7 := by omega
 have oa := oct_at' (q := (n.s.tdiv 7).toNat) (by omega)
 have na := name_at' (q := (n.s.tmod 7).toNat) (by omega)
 have sa := sum_ok (p := (n.s.tmod 7).toNat) (q := n.l.toNat) (by omega) (by omega)
 have hE : noteC n false = [34, names.getD (n.s.tmod 7).toNat 0 + lens.getD n.l.toNat 0] := by
  simp [noteC, alterC, octC, smallC, nameC, h1, h2, h4]
 simp only [c70, go_sem, Nat.reducePow, Nat.reduceLeDiff, ↓reduceIte, reduceCtorEq, Nat.reduceLT, Nat.reduceEqDiff, Nat.reduceAdd, Int.reduceEq, Int.reduceNeg, h1, h2, h4, r3, la, Nat.mul_one, List.cons_append, List.nil_append, List.take_succ_cons, List.take_zero, m0, na, sa]
 rw [hE]
 exact snap_bytes (c := [34, names.getD (n.s.tmod 7).toNat 0 + lens.getD n.l.toNat 0]) rfl
set_option maxRecDepth 100000 in
theorem Note_cr4 (n : Nt) (hr : rightP n = true) (h1 : n.a = 0) (h2 : ¬ 0 <= n.s) (h4 : n.l = 4) : Ctr Tryd.prog 70 [vnote n, vb false] (vbytes (noteC n false)) := by
 refine specE f70 (by simp) fun F0 w0 => ?_
 obtain ⟨r1, r2, r3, r4, r5, r6, r7⟩ := rightP_iff hr
 have la := len_at' (q := n.l.toNat) (by omega)
 have s9 := sum_ok (p := 7) (q := n.l.toNat) (by omega) (by omega)
 rw [show names.getD 7 0 = 9 from rfl] at s9
 rw [h4] at la s9
 simp only [Int.reduceToNat] at la s9
 have hE : noteC n false = [3, 9 + lens.getD 4 0] := by
  simp [noteC, alterC, octC, smallC, nameC, h1, h2, h4]
 simp only [c70, go_sem, Nat.reducePow, Nat.reduceLeDiff, ↓reduceIte, reduceCtorEq, Nat.reduceLT, Nat.reduceEqDiff, Nat.reduceAdd, Int.reduceToNat, Int.reduceLE, Int.reduceEq, Int.reduceNeg, Int.reduceToNat, h1, h2, h4, la, s9, Nat.mul_one, Int.reduceToNat, List.cons_append, List.nil_append, List.take_succ_cons, List.take_zero]
 rw [hE]
 exact snap_bytes (c := [3, 9 + lens.getD 4 0]) rfl
set_option maxRecDepth 100000 in
theorem Note_cro (n : Nt) (hr : rightP n = true) (h1 : n.a = 0) (h2 : ¬ 0 <= n.s) (h4 : ¬ n.l = 4) : Ctr Tryd.prog 70 [vnote n, vb false] (vbytes (noteC n false)) := by
 refine specE f70 (by simp) fun F0 w0 => ?_
 obtain ⟨r1, r2, r3, r4, r5, r6, r7⟩ := rightP_iff hr
 have la := len_at' (q := n.l.toNat) (by omega)
 have s9 := sum_ok (p := 7) (q := n.l.toNat) (by omega) (by omega)
 rw [show names.getD 7 0 = 9 from rfl] at s9
 have hE : noteC n false = [9 + lens.getD n.l.toNat 0] := by
  simp [noteC, alterC, octC, smallC, nameC, h1, h2, h4]
 simp only [c70, go_sem, Nat.reducePow, Nat.reduceLeDiff, ↓reduceIte, reduceCtorEq, Nat.reduceLT, Nat.reduceEqDiff, Nat.reduceAdd, Int.reduceEq, Int.reduceNeg, h1, h2, h4, r3, la, s9, Nat.mul_one, List.cons_append, List.nil_append]
 rw [hE]
 exact snap_bytes (c := [9 + lens.getD n.l.toNat 0]) rfl
set_option maxRecDepth 100000 in
theorem Note_cm4 (n : Nt) (hr : rightP n = true) (h1 : n.a = 0) (h2 : 0 <= n.s) (h4 : n.l = 4) : Ctr Tryd.prog 70 [vnote n, vb true] (vbytes (noteC n true)) := by
 refine specE f70 (by simp) fun F0 w0 => ?_
 obtain ⟨r1, r2, r3, r4, r5, r6, r7⟩ := rightP_iff hr
 have la := len_at' (q := n.l.toNat) (by omega)
 have s9 := sum_ok (p := 7) (q := n.l.toNat) (by omega) (by omega)
 rw [show names.getD 7 0 = 9 from rfl] at s9
 rw [h4] at la s9
 simp only [Int.reduceToNat] at la s9
 have hsm : small n.s := ⟨by omega, by omega⟩
 have q7 := quo7 hsm
 have d1 : n.s.tdiv 7 = n.s / 7 := Int.tdiv_eq_ediv_of_nonneg h2
 have d2 : n.s.tmod 7 = n.s % 7 := Int.tmod_eq_emod_of_nonneg h2
 have q0 : 0 <= n.s.tdiv 7 := by omega
 have m0 : 0 <= n.s.tmod 7 := by omega
 have oa := oct_at' (q := (n.s.tdiv 7).toNat) (by omega)
 have na := name_at' (q := (n.s.tmod 7).toNat) (by omega)
 have sa := sum_ok (p := (n.s.tmod 7).toNat) (q := 4) (by omega) (by omega)
 have hE : noteC n true = [octs.getD (n.s.tdiv 7).toNat 0, 3, names.getD (n.s.tmod 7).toNat 0 + lens.getD 4 0] := by
  simp [noteC, alterC, octC, smallC, nameC, h1, h2, h4]
 simp only [c70, go_sem, Nat.reducePow, Nat.reduceLeDiff, ↓reduceIte, reduceCtorEq, Nat.reduceLT, Nat.reduceEqDiff, Nat.reduceAdd, Int.reduceToNat, Int.reduceLE, Int.reduceEq, Int.reduceNeg, Int.reduceToNat, h1, h2, h4, la, Nat.mul_one, Int.reduceToNat, List.cons_append, List.nil_append, List.take_succ_cons, List.take_zero, q7, q0, m0, oa, na, sa]
 rw [hE]
 exact snap_bytes (c := [octs.getD (n.s.tdiv 7).toNat 0, 3, names.getD (n.s.tmod 7).toNat 0 + lens.getD 4 0]) rfl
set_option maxRecDepth 100000 in
theorem Note_cmo (n : Nt) (hr : rightP n = true) (h1 : n.a = 0) (h2 : 0 <= n.s) (h4 : ¬ n.l = 4) : Ctr Tryd.prog 70 [vnote n, vb true] (vbytes (noteC n true)) := by
 refine specE f70 (by simp) fun F0 w0 => ?_
 obtain ⟨r1, r2, r3, r4, r5, r6, r7⟩ := rightP_iff hr
 have la := len_at' (q := n.l.toNat) (by omega)
 have s9 := sum_ok (p := 7) (q := n.l.toNat) (by omega) (by omega)
 rw [show names.getD 7 0 = 9 from rfl] at s9
 have hsm : small n.s := ⟨by omega, by omega⟩
 have q7 := quo7 hsm
 have d1 : n.s.tdiv 7 = n.s / 7 := Int.tdiv_eq_ediv_of_nonneg h2
 have d2 : n.s.tmod 7 = n.s % 7 := Int.tmod_eq_emod_of_nonneg h2
 have q0 : 0 <= n.s.tdiv 7 := by omega
 have m0 : 0 <= n.s.tmod 7 := by omega
 have oa := oct_at' (q := (n.s.tdiv 7).toNat) (by omega)
 have na := name_at' (q := (n.s.tmod 7).toNat) (by omega)
 have sa := sum_ok (p := (n.s.tmod 7).toNat) (q := n.l.toNat) (by omega) (by omega)
 have hE : noteC n true = [octs.getD (n.s.tdiv 7).toNat 0, names.getD (n.s.tmod 7).toNat 0 + lens.getD n.l.toNat 0] := by
  simp [noteC, alterC, octC, smallC, nameC, h1, h2, h4]
 simp only [c70, go_sem, Nat.reducePow, Nat.reduceLeDiff, ↓reduceIte, reduceCtorEq, Nat.reduceLT, Nat.reduceEqDiff, Nat.reduceAdd, Int.reduceEq, Int.reduceNeg, h1, h2, h4, r3, la, Nat.mul_one, List.cons_append, List.nil_append, List.take_succ_cons, List.take_zero, q7, q0, m0, oa, na, sa]
 rw [hE]
 exact snap_bytes (c := [octs.getD (n.s.tdiv 7).toNat 0, names.getD (n.s.tmod 7).toNat 0 + lens.getD n.l.toNat 0]) rfl
set_option maxRecDepth 100000 in
theorem Note_cn4 (n : Nt) (hr : rightP n = true) (h1 : n.a = 0) (h2 : 0 <= n.s) (h4 : n.l = 4) : Ctr Tryd.prog 70 [vnote n, vb false] (vbytes (noteC n false)) := by
 refine specE f70 (by simp) fun F0 w0 => ?_
 obtain ⟨r1, r2, r3, r4, r5, r6, r7⟩ := rightP_iff hr
 have la := len_at' (q := n.l.toNat) (by omega)
 have s9 := sum_ok (p := 7) (q := n.l.toNat) (by omega) (by omega)
 rw [show names.getD 7 0 = 9 from rfl] at s9
 rw [h4] at la s9
 simp only [Int.reduceToNat] at la s9
 have hsm : small n.s := ⟨by omega, by omega⟩
 have q7 := quo7 hsm
 have d1 : n.s.tdiv 7 = n.s / 7 := Int.tdiv_eq_ediv_of_nonneg h2
 have d2 : n.s.tmod 7 = n.s % 7 := Int.tmod_eq_emod_of_nonneg h2
 have q0 : 0 <= n.s.tdiv 7 := by omega
 have m0 : 0 <= n.s.tmod 7 := by omega
 have oa := oct_at' (q := (n.s.tdiv 7).toNat) (by omega)
 have na := name_at' (q := (n.s.tmod 7).toNat) (by omega)
 have sa := sum_ok (p := (n.s.tmod 7).toNat) (q := 4) (by omega) (by omega)
 have hE : noteC n false = [3, names.getD (n.s.tmod 7).toNat 0 + lens.getD 4 0] := by
  simp [noteC, alterC, octC, smallC, nameC, h1, h2, h4]
 simp only [c70, go_sem, Nat.reducePow, Nat.reduceLeDiff, ↓reduceIte, reduceCtorEq, Nat.reduceLT, Nat.reduceEqDiff, Nat.reduceAdd, Int.reduceToNat, Int.reduceLE, Int.reduceEq, Int.reduceNeg, Int.reduceToNat, h1, h2, h4, la, Nat.mul_one, Int.reduceToNat, List.cons_append, List.nil_append, List.take_succ_cons, List.take_zero, m0, na, sa]
 rw [hE]
 exact snap_bytes (c := [3, names.getD (n.s.tmod 7).toNat 0 + lens.getD 4 0]) rfl
set_option maxRecDepth 100000 in
theorem Note_cno (n : Nt) (hr : rightP n = true) (h1 : n.a = 0) (h2 : 0 <= n.s) (h4 : ¬ n.l = 4) : Ctr Tryd.prog 70 [vnote n, vb false] (vbytes (noteC n false)) := by
 refine specE f70 (by simp) fun F0 w0 => ?_
 obtain ⟨r1, r2, r3, r4, r5, r6, r7⟩ := rightP_iff hr
 have la := len_at' (q := n.l.toNat) (by omega)
 have s9 := sum_ok (p := 7) (q := n.l.toNat) (by omega) (by omega)
 rw [show names.getD 7 0 = 9 from rfl] at s9
 have hsm : small n.s := ⟨by omega, by omega⟩
 have q7 := quo7 hsm
 have d1 : n.s.tdiv 7 = n.s / 7 := Int.tdiv_eq_ediv_of_nonneg h2
 have d2 : n.s.tmod 7 = n.s % 7 := Int.tmod_eq_emod_of_nonneg h2
 have q0 : 0 <= n.s.tdiv 7 := by omega
 have m0 : 0 <= n.s.tmod 7 := by omega
 have oa := oct_at' (q := (n.s.tdiv 7).toNat) (by omega)
 have na := name_at' (q := (n.s.tmod 7).toNat) (by omega)
 have sa := sum_ok (p := (n.s.tmod 7).toNat) (q := n.l.toNat) (by omega) (by omega)
 have hE : noteC n false = [names.getD (n.s.tmod 7).toNat 0 + lens.getD n.l.toNat 0] := by
  simp [noteC, alterC, octC, smallC, nameC, h1, h2, h4]
 simp only [c70, go_sem, Nat.reducePow, Nat.reduceLeDiff, ↓reduceIte, reduceCtorEq, Nat.reduceLT, Nat.reduceEqDiff, Nat.reduceAdd, Int.reduceEq, Int.reduceNeg, h1, h2, h4, r3, la, Nat.mul_one, List.cons_append, List.nil_append, m0, na, sa]
 rw [hE]
 exact snap_bytes (c := [names.getD (n.s.tmod 7).toNat 0 + lens.getD n.l.toNat 0]) rfl
theorem Note_s (n : Nt) (m : Bool) (hr : rightP n = true) (hm : m = true -> 0 <= n.s) : Ctr Tryd.prog 70 [vnote n, vb m] (vbytes (noteC n m)) := by
 obtain ⟨r1, r2, r3, r4, r5, r6, r7⟩ := rightP_iff hr
 by_cases h4 : n.l = 4
 ·cases m with
  | true =>
   by_cases a1 : n.a = 1
   ·exact Note_am4 n hr a1 (hm rfl) h4
   by_cases a2 : n.a = -1
   ·exact Note_bm4 n hr a2 (hm rfl) h4
   exact Note_cm4 n hr (by omega) (hm rfl) h4
  | false =>
   by_cases h2 : 0 <= n.s
   ·by_cases a1 : n.a = 1
    ·exact Note_an4 n hr a1 h2 h4
    by_cases a2 : n.a = -1
    ·exact Note_bn4 n hr a2 h2 h4
    exact Note_cn4 n hr (by omega) h2 h4
   ·exact Note_cr4 n hr (by omega) h2 h4
 ·cases m with
  | true =>
   by_cases a1 : n.a = 1
   ·exact Note_amo n hr a1 (hm rfl) h4
   by_cases a2 : n.a = -1
   ·exact Note_bmo n hr a2 (hm rfl) h4
   exact Note_cmo n hr (by omega) (hm rfl) h4
  | false =>
   by_cases h2 : 0 <= n.s
   ·by_cases a1 : n.a = 1
    ·exact Note_ano n hr a1 h2 h4
    by_cases a2 : n.a = -1
    ·exact Note_bno n hr a2 h2 h4
    exact Note_cno n hr (by omega) h2 h4
   ·exact Note_cro n hr (by omega) h2 h4
end Go.Proofs.YtnncijjkbonokaaDoor
namespace Go.Proofs.YtnncijjkbonokaaDoor
open Go.RowKit Dak
theorem mark_pos {s l : Int} (h : markP s l = true) : 0 <= s := by
 simp only [markP, Bool.and_eq_true, decide_eq_true_eq] at h; exact h.1
abbrev cellS (l : List Nt) (lst : Int) (k : Nat) (L : Nat) (X : List AV) : Est := ⟨[(0, vbar l), (1, vi lst), (6, .own 0 L 0 L), (7, vi k)], [.arr L 1 5 X]⟩
set_option maxRecDepth 100000 in
theorem Cells_s (l : List Nt) (last : Int) (hlen : l.length <= 10000) (hr : ∀ n ∈ l, rightP n = true) (hl : small last) :
 Ctr Tryd.prog 38 [vbar l, vi last] (.tup [vbytes (cellsP l last), vi (lastP l last)]) := by
 refine specC f38 (by simp) fun F0 w0 => ?_
 unfold c38
 refine CwpE.cut (st := ⟨[(0, vbar l), (1, vi last)], []⟩) ?_ ?_
 ·simp only [go_sem, ↓reduceIte, Nat.reduceLT]
  exact ⟨_, WkE.keep (by simp only [go_sem, ↓reduceIte, reduceCtorEq, Nat.reduceEqDiff]), rfl⟩
 refine CwpE.cut (st := ⟨[(6, .own 0 0 0 0), (0, vbar l), (1, vi last)], [.arr 0 1 5 []]⟩) ?_ ?_
 ·simp only [go_sem, ↓reduceIte, Nat.reduceLT]
  exact ⟨_, (WkE.nil 6 1 5 (by omega) rfl).trans (WkE.keep (by simp only [go_sem, ↓reduceIte, reduceCtorEq, Nat.reduceEqDiff])), rfl⟩
 refine CwpE.seqJ (fun s => s = ⟨[(1, vi (lastP l last)), (6, .own 0 (cellsP l last).length 0 (cellsP l last).length)], [.arr (cellsP l last).length 1 5 ((cellsP l last).map vu)]⟩) ?_ ?_
 ·refine CwpE.cut (st := cellS l last 0 0 []) ?_ ?_
  ·simp only [go_sem, ↓reduceIte, Nat.reduceLT]
   exact ⟨_, WkE.keep (by simp only [go_sem, ↓reduceIte, reduceCtorEq, Nat.reduceEqDiff]; rfl), rfl⟩
  refine CwpE.block ?_
  refine loopXC 0 (fun m s => ∃ (k : Nat) (out : List Int) (lst : Int), m = l.length - k /\ k <= l.length /\ out ++ cellsP (l.drop k) lst = cellsP l last /\ lastP (l.drop k) lst = lastP l last /\ out.length <= 4 * k /\ small lst /\ s = cellS l lst k out.length (out.map vu))
   (fun s => s = ⟨[(1, vi (lastP l last)), (6, .own 0 (cellsP l last).length 0 (cellsP l last).length)], [.arr (cellsP l last).length 1 5 ((cellsP l last).map vu)]⟩) l.length
   (cellS l last 0 0 []) (.refl _ _) ⟨0, [], last, by omega, by omega, rfl, rfl, by simp, hl, by simp⟩ ?_ ?_
  rotate_left
  ·rintro s rfl
   simp only [inBlockE, if_true, thenE]
   exact ⟨_, .refl _ _, rfl⟩
  rintro m s ⟨k, out, lst, rfl, hk, ho, hls, hol, hsm, rfl⟩
  refine CwpE.vc ?_
  by_cases hlt : k < l.length
  ·have g1 : (k : Int) < (l.length : Int) := by omega
   have g0 : (0 : Int) <= (k : Int) := by omega
   have w1 : IntKind.i64.wrap ((k : Int) + 1) = ((k + 1 : Nat) : Int) := by rw [wrap_id (by omega) (by omega)]; omega
   have hrn := hr _ (List.getElem_mem hlt)
   obtain ⟨n, hn⟩ : ∃ n, l[k]? = some n := ⟨_, List.getElem?_eq_getElem hlt⟩
   have hn' : l[k] = n := by rw [List.getElem?_eq_getElem hlt] at hn; exact Option.some.inj hn
   rw [hn'] at hrn
   rw [List.drop_eq_getElem_cons hlt, cellsP, hn'] at ho
   rw [List.drop_eq_getElem_cons hlt, lastP, hn'] at hls
   obtain ⟨r1, r2, r3, r4, r5, r6, r7⟩ := rightP_iff hrn
   obtain ⟨X, hXe⟩ : ∃ X, out.map vu = X := ⟨_, rfl⟩
   obtain ⟨L, hL⟩ : ∃ L, out.length = L := ⟨_, rfl⟩
   have hX : X.length = L := by rw [<- hXe, <- hL]; simp
   have hT : List.take L X = X := List.take_of_length_le (by omega)
   obtain ⟨cs, hcs⟩ : ∃ cs, noteC n (markP n.s lst) = cs := ⟨_, rfl⟩
   have hcl : cs.length <= 4 := by rw [<- hcs]; exact noteC_len _ _
   have hcp : 0 < cs.length := by rw [<- hcs]; simp [noteC]; omega
   have b1 : L + cs.length <= 140737488355328 := by omega
   rw [hXe, hL]
   simp only [cellS, go_sem, ↓reduceIte, reduceCtorEq, Nat.reduceLT, Nat.reduceEqDiff, Nat.reduceAdd, g1, g0, List.getElem?_map, hn, Option.map_some]
   refine callT (marked_s n.s lst ⟨by omega, by omega⟩ hsm) rfl ?_
   simp only [go_sem, ↓reduceIte, reduceCtorEq, Nat.reduceLT, Nat.reduceEqDiff, Nat.reduceAdd, g0, List.getElem?_map, hn, Option.map_some]
   refine callT (Note_s n (markP n.s lst) hrn mark_pos) rfl ?_
   rw [hcs]
   have fin : ∀ s, WkE 41 s (cellS l (stepP n lst) (k + 1) (L + cs.length) (X ++ cs.map vu)) -> ∃ m s', m < l.length - k /\ WkE 41 s s' /\ ∃ (k : Nat) (out : List Int) (lst : Int), m = l.length - k /\ k <= l.length /\ out ++ cellsP (l.drop k) lst = cellsP l last /\ lastP (l.drop k) lst = lastP l last /\ out.length <= 4 * k /\ small lst /\ s' = cellS l lst k out.length (out.map vu) := by
    intro s hs
    refine ⟨l.length - (k + 1), _, by omega, hs, k + 1, out ++ cs, stepP n lst, rfl, by omega, by rw [List.append_assoc, <- hcs]; exact ho, hls, by rw [List.length_append]; omega, step_small hrn hsm, ?_⟩
    rw [List.length_append, hL, List.map_append, hXe]
   by_cases h2 : 0 <= n.s
   ·have e : stepP n lst = n.s := if_pos h2
    rw [e] at fin
    simp only [go_sem, ↓reduceIte, reduceCtorEq, Nat.reduceLT, Nat.reduceEqDiff, g0, List.getElem?_map, hn, Option.map_some, hT, hX, hcp, b1, h2, w1, List.length_map, Nat.mul_one, Nat.zero_add, List.drop_zero]
    exact fin _ (WkE.keep (by simp only [go_sem, ↓reduceIte, reduceCtorEq, Nat.reduceEqDiff]))
   ·have e : stepP n lst = lst := if_neg h2
    rw [e] at fin
    simp only [go_sem, ↓reduceIte, reduceCtorEq, Nat.reduceLT, Nat.reduceEqDiff, g0, List.getElem?_map, hn, Option.map_some, hT, hX, hcp, b1, h2, w1, List.length_map, Nat.mul_one, Nat.zero_add, List.drop_zero]
    exact fin _ (WkE.keep (by simp only [go_sem, ↓reduceIte, reduceCtorEq, Nat.reduceEqDiff]))
  ·have g1 : ¬ (k : Int) < (l.length : Int) := by omega
   rw [List.drop_eq_nil_of_le (by omega), cellsP, List.append_nil] at ho
   rw [List.drop_eq_nil_of_le (by omega), lastP] at hls
   subst ho; subst hls
   simp only [cellS, go_sem, ↓reduceIte, reduceCtorEq, Nat.reduceLT, Nat.reduceEqDiff, g1]
   exact ⟨_, WkE.keep (by simp only [go_sem, ↓reduceIte, reduceCtorEq, Nat.reduceEqDiff]), rfl⟩
 ·rintro s rfl
  refine CwpE.vc ?_
  simp only [go_sem, ↓reduceIte, Nat.reduceLT, Nat.reduceEqDiff]
  refine .tup _ _ rfl fun i h1 h2 => ?_
  match i, h1 with
  | 0, _ => exact snap_bytes rfl
  | 1, _ => exact .tree _ rfl
end Go.Proofs.YtnncijjkbonokaaDoor
