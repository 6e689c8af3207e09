/- Lemmas used by Aligned, Encodes, Lines, Needed, Reads. -/
import Derived.Test.YtnncijjkbonokaaDoorKa
import Derived.Test.YtnncijjkbonokaaDoorKb
import Derived.Test.YtnncijjkbonokaaDoorKc
import Derived.Test.YtnncijjkbonokaaDoorKd
import Derived.Test.YtnncijjkbonokaaDoorKe
import Derived.Test.YtnncijjkbonokaaDoorProg
import Derived.WalkKit
import Derived.WalkSpells
import Derived.WalkLawsBesides
import Derived.Orders
import Derived.Laws.MakeOwn
import Derived.Deep.AppendSrc
import Derived.Lib.AppendZerosOnto
import Derived.Defers
import Derived.Laws.StructEq
import Derived.Scope
import Derived.Deep.LoopGhost
import Derived.OrdersIn
import Derived.ControlIn
import Derived.Sort.LoopGhostIn
import Derived.RangeFuncLeaves
import Derived.RangeFuncRecord
import Derived.RangeFuncFrom
set_option linter.unusedSimpArgs false
set_option linter.unusedVariables false
set_option linter.unusedSectionVars false
namespace Go.Proofs.YtnncijjkbonokaaDoor
open Go.RowKit Dak
def lineP (m : List (List (List Nt))) (fr : Nat) : Nat -> Sys
 | 0 => firstP m.length
 | k + 1 => (lineP m fr k).add m (fr + k)
end Go.Proofs.YtnncijjkbonokaaDoor
namespace Go.Proofs.YtnncijjkbonokaaDoor
open Go.RowKit Dak
theorem line_n (m : List (List (List Nt))) (fr : Nat) : ∀ k, (lineP m fr k).n = k
 | 0 => rfl
 | k + 1 => by show (lineP m fr k).n + 1 = k + 1; rw [line_n m fr k]
theorem sok_line {m : List (List (List Nt))} (hm : Vm m) {fr : Nat} : ∀ k, fr + k <= manyP m -> Sok m (lineP m fr k)
 | 0, _ => sok_first hm
 | k + 1, h => sok_add hm (sok_line hm k (by omega)) (by omega)
end Go.Proofs.YtnncijjkbonokaaDoor
namespace Go.Proofs.YtnncijjkbonokaaDoor
open Dak
def c4 : CCode :=
 (.seq (.region [oo 10 (.mov (.const (.bool false)))])
 (.seq (.region [vv 22 0, oo 23 (.call (.func 10) [(T 22)]), oo 11 (.alloc 25 (.agg [(.val (.slice none 0 0))])), nn (.store 1 (T 11) (T 23))])
 (.seq (.drawn [oo 24 (.load true 1 (T 11)), oo 25 (.load true 1 (T 11)), vv 26 1, vv 27 2, vv 28 3] [(oo 29 (.call (.func 11) [(T 25), (T 26), (T 27), (T 28)]), [oo 24 (.load true 1 (T 11))]), (oo 30 (.bslice 25 1 [(T 24), (T 29)]), []), (vv 12 30, [])])
 (.seq (.region [vv 31 4, oo 32 (.call (.func 12) [(T 31), (kk 40)]), oo 33 (.ibin .add (kk 1) (T 32)), vv 34 4, oo 35 (.bslice 3 1 [(T 33), (kk 40), (T 34)]), vv 13 35])
 (.seq (.seq (.region [oo 14 (.mov (kk 0))])
 (.block 0 (.loop
 (.seq (.seq (.region [vv 36 14, oo 37 (.ibin .lss (T 36) (kk 2))])
 (.cond (T 37)
 .skip
 (.exit 0)))
 (.seq (.block 1 (.seq (.region [oo 15 (.mov (kk 0))])
 (.block 2 (.loop
 (.seq (.seq (.region [vv 40 15, oo 41 (.ibin .lss (T 40) (kk 3))])
 (.cond (T 41)
 .skip
 (.exit 2)))
 (.seq (.block 3 (.seq (.drawn [vv 45 12, vv 46 14, oo 47 (.idxS 1 (T 45) (T 46)), oo 48 (.load true 1 (T 47)), vv 49 13, vv 50 15, oo 51 (.idxS 1 (T 49) (T 50)), oo 52 (.load false 1 (T 51))] [(oo 53 (.call (.func 17) [(T 48), (T 52)]), []), (vv 44 53, []), (oo 54 (.extract (T 44) 0), []), (oo 55 (.extract (T 44) 1), []), (vv 16 54, []), (vv 17 55, [])])
 (.seq (.drawn [vv 57 12, vv 58 14, oo 59 (.idxS 1 (T 57) (T 58)), oo 60 (.load true 1 (T 59)), vv 61 13, vv 62 15, oo 63 (.idxS 1 (T 61) (T 62)), oo 64 (.load false 1 (T 63))] [(oo 65 (.call (.func 18) [(T 60), (T 64)]), []), (vv 56 65, []), (oo 66 (.extract (T 56) 0), []), (oo 67 (.extract (T 56) 1), []), (vv 18 66, []), (vv 19 67, [])])
 (.seq (.seq (.region [vv 68 17, vv 69 19, oo 70 (.ibin .neq (T 68) (T 69)), vv 71 70, vf 72 71 16, vf 73 71 18, gf 74 71 (.call (.func 19) [(T 72), (T 73)]), gf 75 71 (.lnot (T 74)), oo 76 (.pick (T 71) (.const (.bool true)) (T 75))])
 (.cond (T 76)
 (.seq (.region [oo 10 (.mov (.const (.bool false)))])
 .ret)
 .skip))
 (.seq (.seq (.region [vv 77 17, oo 78 (.ibin .neq (T 77) (kk 0))])
 (.cond (T 78)
 (.exit 3)
 .skip))
 (.seq (.region [vv 80 16, oo 81 (.call (.func 20) [(T 80)]), vv 79 81, oo 82 (.extract (T 79) 0), oo 83 (.extract (T 79) 1), oo 20 (.alloc 25 (.agg [(.val (.slice none 0 0))])), nn (.store 1 (T 20) (T 82)), vv 21 83])
 (.seq (.drawn [vv 84 21, oo 85 (.ibin .neq (T 84) (kk 0)), vv 86 85, gf 87 86 (.load true 1 (T 20)), vf 88 86 12, vf 89 86 14, gf 90 86 (.idxS 1 (T 88) (T 89)), gf 91 86 (.load true 1 (T 90))] [(gf 92 86 (.call (.func 21) [(T 87), (T 91)]), []), (gf 93 86 (.lnot (T 92)), []), (oo 94 (.pick (T 86) (.const (.bool true)) (T 93)), [])])
 (.cond (T 94)
 (.seq (.region [oo 10 (.mov (.const (.bool false)))])
 .ret)
 .skip))))))))
 (.region [vv 42 15, oo 43 (.ibin .add (T 42) (kk 1)), vv 15 43])))))))
 (.region [vv 38 14, oo 39 (.ibin .add (T 38) (kk 1)), vv 14 39]))))))
 (.seq (.region [oo 95 (.call (.func 16) []), vv 10 95])
 .ret))))))
def c5 : CCode :=
 (.seq (.region [oo 12 (.mov (.const (.bool false)))])
 (.seq (.region [vv 25 0, oo 26 (.call (.func 10) [(T 25)]), vv 27 1, oo 28 (.call (.func 12) [(T 27), (kk 31)]), oo 29 (.ibin .add (kk 10) (T 28)), oo 30 (.call (.func 18) [(T 26), (T 29)]), vv 24 30, oo 31 (.extract (T 24) 0), oo 32 (.extract (T 24) 1), vv 13 31, vv 14 32])
 (.seq (.region [vv 33 13, vv 34 2, vv 35 3, vv 36 4, oo 37 (.call (.func 22) [(T 33), (T 34), (T 35), (T 36)]), vv 15 37])
 (.seq (.region [oo 16 (.mov (.const (.slice none 0 0)))])
 (.seq (.seq (.region [oo 17 (.mov (kk 0))])
 (.block 0 (.loop
 (.seq (.seq (.region [vv 38 17, vv 39 5, oo 40 (.len (T 39)), oo 41 (.ibin .lss (T 38) (T 40)), vv 42 41, vt 43 42 17, gt 44 42 (.ibin .lss (T 43) (kk 4)), oo 45 (.pick (T 42) (T 44) (.const (.bool false)))])
 (.cond (T 45)
 .skip
 (.exit 0)))
 (.seq (.block 1 (.region [vv 48 16, vv 49 5, vv 50 17, oo 51 (.idxS 1 (T 49) (T 50)), oo 52 (.load false 1 (T 51)), oo 53 (.call (.func 23) [(T 52), (kk 12)]), oo 54 (.bslice 30 1 [(T 53)]), oo 55 (.append 30 1 24 (T 48) (T 54)), vv 16 55]))
 (.region [vv 46 17, oo 47 (.ibin .add (T 46) (kk 1)), vv 17 47]))))))
 (.seq (.region [vv 56 13, vv 57 15, vv 58 15, vv 59 4, vv 60 3, oo 61 (.ibin .quo (T 60) (kk 5)), vv 62 2, oo 63 (.call (.func 22) [(T 58), (T 59), (T 61), (T 62)]), vv 64 16, oo 65 (.bslice 40 1 [(T 56), (T 57), (T 63), (T 64), (.const (.slice none 0 0))]), vv 18 65])
 (.seq (.seq (.region [oo 19 (.mov (kk 0))])
 (.block 2 (.loop
 (.seq (.seq (.region [vv 66 19, vv 67 18, oo 68 (.len (T 67)), oo 69 (.ibin .lss (T 66) (T 68))])
 (.cond (T 69)
 .skip
 (.exit 2)))
 (.seq (.block 3 (.seq (.region [vv 73 18, vv 74 19, oo 75 (.idxS 1 (T 73) (T 74)), oo 76 (.load false 1 (T 75)), oo 77 (.call (.func 20) [(T 76)]), vv 72 77, oo 78 (.extract (T 72) 0), oo 79 (.extract (T 72) 1), oo 20 (.alloc 25 (.agg [(.val (.slice none 0 0))])), nn (.store 1 (T 20) (T 78)), vv 21 79])
 (.seq (.region [vv 81 18, vv 82 19, oo 83 (.idxS 1 (T 81) (T 82)), oo 84 (.load false 1 (T 83)), oo 85 (.call (.func 24) [(T 84)]), vv 80 85, oo 86 (.extract (T 80) 0), oo 87 (.extract (T 80) 1), oo 22 (.alloc 25 (.agg [(.val (.slice none 0 0))])), nn (.store 1 (T 22) (T 86)), vv 23 87])
 (.seq (.region [vv 88 21, vv 89 23, oo 90 (.ibin .neq (T 88) (T 89)), vv 91 90, gf 92 91 (.load true 1 (T 20)), gf 93 91 (.load true 1 (T 22)), gf 94 91 (.call (.func 21) [(T 92), (T 93)]), gf 95 91 (.lnot (T 94)), oo 96 (.pick (T 91) (.const (.bool true)) (T 95))])
 (.cond (T 96)
 (.seq (.region [oo 12 (.mov (.const (.bool false)))])
 .ret)
 .skip)))))
 (.region [vv 70 19, oo 71 (.ibin .add (T 70) (kk 1)), vv 19 71]))))))
 (.seq (.region [oo 97 (.call (.func 16) []), vv 12 97])
 .ret))))))))
theorem f5 : fnC Tryd.prog 5 = some (c5, 98, [(.tmp 12)]) := by kernel_rfl
end Go.Proofs.YtnncijjkbonokaaDoor
