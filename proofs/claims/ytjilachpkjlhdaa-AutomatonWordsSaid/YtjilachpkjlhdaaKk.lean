/- Lemmas used by Combines, Words. -/
import Derived.Test.YtjilachpkjlhdaaKa
import Derived.Test.YtjilachpkjlhdaaKb
import Derived.Test.YtjilachpkjlhdaaKc
import Derived.Test.YtjilachpkjlhdaaKd
import Derived.Test.YtjilachpkjlhdaaKe
import Derived.Test.YtjilachpkjlhdaaKf
import Derived.Test.YtjilachpkjlhdaaKg
import Derived.Test.YtjilachpkjlhdaaProg
import Derived.WalkKit
import Derived.WalkSpells
import Derived.WalkLawsBesides
import Derived.Orders
import Derived.Laws.MakeOwn
import Derived.Deep.AppendSrc
import Derived.Lib.AppendZerosOnto
import Derived.Defers
import Derived.Laws.BytesString
import Derived.Laws.StructEq
import Derived.Scope
import Derived.Deep.LoopGhost
import Derived.OrdersIn
import Derived.ControlIn
import Derived.Sort.LoopGhostIn
import Derived.RangeFuncLeaves
import Derived.RangeFuncRecord
import Derived.RangeFuncFrom
import Derived.RangeFuncNested
set_option linter.unusedSimpArgs false
set_option linter.unusedVariables false
set_option linter.unusedSectionVars false
set_option maxRecDepth 100000
namespace Go.Proofs.Ytjilachpkjlhdaa
open Dak
theorem f36:fnC Try.prog 36=some (c36,38,[(.cell 4 true 3),(.tmp 5)]):=by kernel_rfl
end Go.Proofs.Ytjilachpkjlhdaa
namespace Go.Proofs.Ytjilachpkjlhdaa
open Dak
def c68:CCode :=
 (.seq (.region [oo 4 (.box 109 (T 0)),oo 8 (.alloc 97 (.agg [(.val (.int .i64 0)),(.val (.slice none 0 0)),(.val (.slice none 0 0))])),oo 9 (.mov (kk 0))])
 (.seq (.region [vv 20 1,oo 21 (.build [(.val (.int .i64 0)),(.val (.slice none 0 0)),(.val (.slice none 0 0))] [(0,(1,(T 20)))]),oo 10 (.alloc 97 (.agg [(.val (.int .i64 0)),(.val (.slice none 0 0)),(.val (.slice none 0 0))])),nn (.store 3 (T 10) (T 21))])
 (.seq (.region [oo 22 (.mnew 1000000006),oo 23 (.load true 2 (T 4)),nn (.mset 6 (T 22) (T 23) (kk 0)),vv 24 22,vv 11 24])
 (.seq (.seq (.region [oo 25 (.load true 2 (T 4)),oo 26 (.bslice 109 2 [(T 25)]),vv 12 26])
 (.block 0 (.loop
 (.seq (.seq (.region [oo 27 (.fieldAddr 2 (T 10)),oo 28 (.load false 1 (T 27)),oo 29 (.len (T 28)),vv 30 12,oo 31 (.len (T 30)),oo 32 (.ibin .lss (T 29) (T 31))])
 (.cond (T 32)
 .skip
 (.exit 0)))
 (.block 1 (.seq (.region [vv 33 12,oo 34 (.fieldAddr 2 (T 10)),oo 35 (.load false 1 (T 34)),oo 36 (.len (T 35)),oo 37 (.idxS 2 (T 33) (T 36)),oo 38 (.load true 2 (T 37)),oo 13 (.alloc 109 (.agg [(.val (.int .i64 0)),(.val (.int .i64 0))])),nn (.store 2 (T 13) (T 38))])
 (.seq (.region [vv 39 1,oo 40 (.mkslice 3 1 8 (.val (.int .i64 0)) (T 39) (T 39)),vv 14 40])
 (.seq (.seq (.region [vv 41 14,oo 42 (.len (T 41)),oo 43 (.mov (kk 0))])
 (.block 2 (.loop
 (.seq (.region [oo 44 (.ibin .lss (T 43) (T 42))])
 (.seq (.cond (T 44)
 .skip
 (.exit 2))
 (.seq (.block 3 (.seq (.region [vv 45 43,vv 15 45])
 (.seq (.region [vv 47 3,oo 48 (.load true 2 (T 13)),vv 49 15,oo 50 (.call (T 47) [(T 48),(T 49)]),vv 46 50,oo 51 (.extract (T 46) 0),oo 52 (.extract (T 46) 1),oo 16 (.alloc 109 (.agg [(.val (.int .i64 0)),(.val (.int .i64 0))])),nn (.store 2 (T 16) (T 51)),vv 17 52])
 (.seq (.seq (.region [vv 53 17,oo 54 (.lnot (T 53))])
 (.cond (T 54)
 (.seq (.region [vv 55 14,vv 56 15,oo 57 (.idxS 1 (T 55) (T 56)),nn (.store 1 (T 57) (kk (-1)))])
 (.exit 3))
 .skip))
 (.seq (.region [vv 59 11,oo 60 (.load true 2 (T 16)),oo 61 (.mget 6 true (.int .i64 0) (T 59) (T 60)),vv 58 61,oo 62 (.extract (T 58) 0),oo 63 (.extract (T 58) 1),vv 18 62,vv 19 63])
 (.seq (.seq (.region [vv 64 19,oo 65 (.lnot (T 64))])
 (.cond (T 65)
 (.seq (.region [vv 66 12,oo 67 (.len (T 66)),vv 18 67])
 (.seq (.region [vv 68 11,oo 69 (.load true 2 (T 16)),vv 70 18,nn (.mset 6 (T 68) (T 69) (T 70))])
 (.region [vv 71 12,oo 72 (.load true 2 (T 16)),oo 73 (.bslice 109 2 [(T 72)]),oo 74 (.append 109 2 16 (T 71) (T 73)),vv 12 74])))
 .skip))
 (.region [vv 75 14,vv 76 15,vv 77 18,oo 78 (.idxS 1 (T 75) (T 76)),nn (.store 1 (T 78) (T 77))])))))))
 (.region [oo 79 (.ibin .add (T 43) (kk 1)),vv 43 79])))))))
 (.seq (.seq (.region [vv 80 12,oo 81 (.len (T 80)),oo 82 (.ibin .gtr (T 81) (kk 256))])
 (.cond (T 82)
 (.seq (.region [oo 83 (.build [(.val (.int .i64 0)),(.val (.slice none 0 0)),(.val (.slice none 0 0))] []),nn (.store 3 (T 8) (T 83)),oo 9 (.mov (kk 4))])
 .ret)
 .skip))
 (.cut [oo 84 (.fieldAddr 2 (T 10)),oo 85 (.load false 1 (T 84)),vv 86 14,oo 87 (.bslice 22 1 [(T 86)]),oo 89 (.fieldAddr 1 (T 10)),oo 90 (.load false 1 (T 89)),vv 91 2,oo 92 (.load true 2 (T 13))] [] (.alt (oo 88 (.append 22 1 24 (T 85) (T 87))) [oo 89 (.fieldAddr 1 (T 10)),oo 90 (.load false 1 (T 89)),vv 91 2,oo 92 (.load true 2 (T 13))] (.alt (oo 93 (.call (T 91) [(T 92)])) [oo 89 (.fieldAddr 1 (T 10)),oo 90 (.load false 1 (T 89))] (.alt (oo 94 (.bslice 4 1 [(T 93)])) [oo 89 (.fieldAddr 1 (T 10)),oo 90 (.load false 1 (T 89))] (.alt (oo 95 (.append 4 1 1 (T 90) (T 94))) [] (.alt (oo 96 (.fieldAddr 2 (T 10))) [vv 91 2,oo 92 (.load true 2 (T 13))] (.alt (nn (.store 1 (T 96) (T 88))) [] (.alt (oo 97 (.fieldAddr 1 (T 10))) [] (.alt (nn (.store 1 (T 97) (T 95))) [] .done .stop) .stop) .stop) .stop) (.alt (oo 96 (.fieldAddr 2 (T 10))) [vv 91 2,oo 92 (.load true 2 (T 13))] (.alt (oo 95 (.append 4 1 1 (T 90) (T 94))) [] (.alt (nn (.store 1 (T 96) (T 88))) [] (.alt (oo 97 (.fieldAddr 1 (T 10))) [] (.alt (nn (.store 1 (T 97) (T 95))) [] .done .stop) .stop) .stop) .stop) .stop)) (.alt (oo 96 (.fieldAddr 2 (T 10))) [vv 91 2,oo 92 (.load true 2 (T 13))] (.alt (oo 94 (.bslice 4 1 [(T 93)])) [oo 89 (.fieldAddr 1 (T 10)),oo 90 (.load false 1 (T 89))] (.alt (oo 95 (.append 4 1 1 (T 90) (T 94))) [] (.alt (nn (.store 1 (T 96) (T 88))) [] (.alt (oo 97 (.fieldAddr 1 (T 10))) [] (.alt (nn (.store 1 (T 97) (T 95))) [] .done .stop) .stop) .stop) .stop) .stop) .stop)) (.alt (oo 96 (.fieldAddr 2 (T 10))) [vv 91 2,oo 92 (.load true 2 (T 13))] (.alt (oo 93 (.call (T 91) [(T 92)])) [oo 89 (.fieldAddr 1 (T 10)),oo 90 (.load false 1 (T 89))] (.alt (oo 94 (.bslice 4 1 [(T 93)])) [oo 89 (.fieldAddr 1 (T 10)),oo 90 (.load false 1 (T 89))] (.alt (oo 95 (.append 4 1 1 (T 90) (T 94))) [] (.alt (nn (.store 1 (T 96) (T 88))) [] (.alt (oo 97 (.fieldAddr 1 (T 10))) [] (.alt (nn (.store 1 (T 97) (T 95))) [] .done .stop) .stop) .stop) .stop) .stop) .stop) .stop)) .stop)))))))))))
 (.seq (.region [oo 98 (.load true 3 (T 10)),nn (.store 3 (T 8) (T 98)),oo 9 (.mov (kk 0))])
 .ret)))))
theorem f68:fnC Try.prog 68=some (c68,99,[(.cell 8 true 3),(.tmp 9)]):=by kernel_rfl
def c69:CCode :=
 (.seq (.region [oo 3 (.box 109 (T 0)),oo 4 (.mov (.const (.bool false)))])
 (.seq (.region [oo 5 (.fieldAddr 1 (T 1)),oo 6 (.load false 1 (T 5)),oo 7 (.idxA 2 1 (T 3) (kk 0)),oo 8 (.load false 1 (T 7)),oo 9 (.idxS 1 (T 6) (T 8)),oo 10 (.load false 1 (T 9)),vv 11 10,gt 12 11 (.fieldAddr 1 (T 2)),gt 13 11 (.load false 1 (T 12)),gt 14 11 (.idxA 2 1 (T 3) (kk 1)),gt 15 11 (.load false 1 (T 14)),gt 16 11 (.idxS 1 (T 13) (T 15)),gt 17 11 (.load false 1 (T 16)),oo 18 (.pick (T 11) (T 17) (.const (.bool false))),vv 4 18])
 .ret))
theorem f69:fnC Try.prog 69=some (c69,19,[(.tmp 4)]):=by kernel_rfl
def c70:CCode :=
 (.seq (.region [oo 4 (.box 109 (T 0)),oo 6 (.alloc 109 (.agg [(.val (.int .i64 0)),(.val (.int .i64 0))])),oo 7 (.mov (.const (.bool false)))])
 (.seq (.drawn [oo 9 (.fieldAddr 2 (T 2)),oo 10 (.load false 1 (T 9)),oo 11 (.idxA 2 1 (T 4) (kk 0)),oo 12 (.load false 1 (T 11)),oo 13 (.idxS 1 (T 10) (T 12)),oo 14 (.load false 1 (T 13)),vv 15 1,oo 16 (.idxS 1 (T 14) (T 15)),oo 17 (.load false 1 (T 16)),oo 18 (.fieldAddr 2 (T 3)),oo 19 (.load false 1 (T 18)),oo 20 (.idxA 2 1 (T 4) (kk 1)),oo 21 (.load false 1 (T 20)),oo 22 (.idxS 1 (T 19) (T 21)),oo 23 (.load false 1 (T 22)),vv 24 1,oo 25 (.idxS 1 (T 23) (T 24)),oo 26 (.load false 1 (T 25)),oo 27 (.build [(.val (.int .i64 0)),(.val (.int .i64 0))] [(0,(1,(T 17))),(1,(1,(T 26)))]),oo 8 (.alloc 109 (.agg [(.val (.int .i64 0)),(.val (.int .i64 0))]))] [(nn (.store 2 (T 8) (T 27)),[])])
 (.seq (.cut [] [] (.alt (oo 28 (.load true 2 (T 8))) [] (.alt (oo 29 (.idxA 2 1 (T 8) (kk 0))) [] (.alt (oo 30 (.load false 1 (T 29))) [] (.alt (oo 31 (.ibin .geq (T 30) (kk 0))) [] (.alt (oo 32 (.mov (T 31))) [] (.alt (gt 33 32 (.idxA 2 1 (T 8) (kk 1))) [] (.alt (gt 34 32 (.load false 1 (T 33))) [] (.alt (gt 35 32 (.ibin .geq (T 34) (kk 0))) [] (.alt (oo 36 (.pick (T 32) (T 35) (.const (.bool false)))) [] (.alt (nn (.store 2 (T 6) (T 28))) [] (.alt (oo 7 (.mov (T 36))) [] .done .stop) .stop) (.alt (nn (.store 2 (T 6) (T 28))) [] (.alt (oo 36 (.pick (T 32) (T 35) (.const (.bool false)))) [] (.alt (oo 7 (.mov (T 36))) [] .done .stop) .stop) .stop)) (.alt (nn (.store 2 (T 6) (T 28))) [] (.alt (gt 35 32 (.ibin .geq (T 34) (kk 0))) [] (.alt (oo 36 (.pick (T 32) (T 35) (.const (.bool false)))) [] (.alt (oo 7 (.mov (T 36))) [] .done .stop) .stop) .stop) .stop)) (.alt (nn (.store 2 (T 6) (T 28))) [] (.alt (gt 34 32 (.load false 1 (T 33))) [] (.alt (gt 35 32 (.ibin .geq (T 34) (kk 0))) [] (.alt (oo 36 (.pick (T 32) (T 35) (.const (.bool false)))) [] (.alt (oo 7 (.mov (T 36))) [] .done .stop) .stop) .stop) .stop) .stop)) (.alt (nn (.store 2 (T 6) (T 28))) [] (.alt (gt 33 32 (.idxA 2 1 (T 8) (kk 1))) [] (.alt (gt 34 32 (.load false 1 (T 33))) [] (.alt (gt 35 32 (.ibin .geq (T 34) (kk 0))) [] (.alt (oo 36 (.pick (T 32) (T 35) (.const (.bool false)))) [] (.alt (oo 7 (.mov (T 36))) [] .done .stop) .stop) .stop) .stop) .stop) .stop)) .stop) .stop) .stop) .stop) (.alt (oo 29 (.idxA 2 1 (T 8) (kk 0))) [] (.alt (oo 28 (.load true 2 (T 8))) [] (.alt (oo 30 (.load false 1 (T 29))) [] (.alt (oo 31 (.ibin .geq (T 30) (kk 0))) [] (.alt (oo 32 (.mov (T 31))) [] (.alt (gt 33 32 (.idxA 2 1 (T 8) (kk 1))) [] (.alt (gt 34 32 (.load false 1 (T 33))) [] (.alt (gt 35 32 (.ibin .geq (T 34) (kk 0))) [] (.alt (oo 36 (.pick (T 32) (T 35) (.const (.bool false)))) [] (.alt (nn (.store 2 (T 6) (T 28))) [] (.alt (oo 7 (.mov (T 36))) [] .done .stop) .stop) (.alt (nn (.store 2 (T 6) (T 28))) [] (.alt (oo 36 (.pick (T 32) (T 35) (.const (.bool false)))) [] (.alt (oo 7 (.mov (T 36))) [] .done .stop) .stop) .stop)) (.alt (nn (.store 2 (T 6) (T 28))) [] (.alt (gt 35 32 (.ibin .geq (T 34) (kk 0))) [] (.alt (oo 36 (.pick (T 32) (T 35) (.const (.bool false)))) [] (.alt (oo 7 (.mov (T 36))) [] .done .stop) .stop) .stop) .stop)) (.alt (nn (.store 2 (T 6) (T 28))) [] (.alt (gt 34 32 (.load false 1 (T 33))) [] (.alt (gt 35 32 (.ibin .geq (T 34) (kk 0))) [] (.alt (oo 36 (.pick (T 32) (T 35) (.const (.bool false)))) [] (.alt (oo 7 (.mov (T 36))) [] .done .stop) .stop) .stop) .stop) .stop)) (.alt (nn (.store 2 (T 6) (T 28))) [] (.alt (gt 33 32 (.idxA 2 1 (T 8) (kk 1))) [] (.alt (gt 34 32 (.load false 1 (T 33))) [] (.alt (gt 35 32 (.ibin .geq (T 34) (kk 0))) [] (.alt (oo 36 (.pick (T 32) (T 35) (.const (.bool false)))) [] (.alt (oo 7 (.mov (T 36))) [] .done .stop) .stop) .stop) .stop) .stop) .stop)) .stop) .stop) .stop) (.alt (oo 30 (.load false 1 (T 29))) [] (.alt (oo 28 (.load true 2 (T 8))) [] (.alt (oo 31 (.ibin .geq (T 30) (kk 0))) [] (.alt (oo 32 (.mov (T 31))) [] (.alt (gt 33 32 (.idxA 2 1 (T 8) (kk 1))) [] (.alt (gt 34 32 (.load false 1 (T 33))) [] (.alt (gt 35 32 (.ibin .geq (T 34) (kk 0))) [] (.alt (oo 36 (.pick (T 32) (T 35) (.const (.bool false)))) [] (.alt (nn (.store 2 (T 6) (T 28))) [] (.alt (oo 7 (.mov (T 36))) [] .done .stop) .stop) (.alt (nn (.store 2 (T 6) (T 28))) [] (.alt (oo 36 (.pick (T 32) (T 35) (.const (.bool false)))) [] (.alt (oo 7 (.mov (T 36))) [] .done .stop) .stop) .stop)) (.alt (nn (.store 2 (T 6) (T 28))) [] (.alt (gt 35 32 (.ibin .geq (T 34) (kk 0))) [] (.alt (oo 36 (.pick (T 32) (T 35) (.const (.bool false)))) [] (.alt (oo 7 (.mov (T 36))) [] .done .stop) .stop) .stop) .stop)) (.alt (nn (.store 2 (T 6) (T 28))) [] (.alt (gt 34 32 (.load false 1 (T 33))) [] (.alt (gt 35 32 (.ibin .geq (T 34) (kk 0))) [] (.alt (oo 36 (.pick (T 32) (T 35) (.const (.bool false)))) [] (.alt (oo 7 (.mov (T 36))) [] .done .stop) .stop) .stop) .stop) .stop)) (.alt (nn (.store 2 (T 6) (T 28))) [] (.alt (gt 33 32 (.idxA 2 1 (T 8) (kk 1))) [] (.alt (gt 34 32 (.load false 1 (T 33))) [] (.alt (gt 35 32 (.ibin .geq (T 34) (kk 0))) [] (.alt (oo 36 (.pick (T 32) (T 35) (.const (.bool false)))) [] (.alt (oo 7 (.mov (T 36))) [] .done .stop) .stop) .stop) .stop) .stop) .stop)) .stop) .stop) (.alt (oo 31 (.ibin .geq (T 30) (kk 0))) [] (.alt (oo 28 (.load true 2 (T 8))) [] (.alt (oo 32 (.mov (T 31))) [] (.alt (gt 33 32 (.idxA 2 1 (T 8) (kk 1))) [] (.alt (gt 34 32 (.load false 1 (T 33))) [] (.alt (gt 35 32 (.ibin .geq (T 34) (kk 0))) [] (.alt (oo 36 (.pick (T 32) (T 35) (.const (.bool false)))) [] (.alt (nn (.store 2 (T 6) (T 28))) [] (.alt (oo 7 (.mov (T 36))) [] .done .stop) .stop) (.alt (nn (.store 2 (T 6) (T 28))) [] (.alt (oo 36 (.pick (T 32) (T 35) (.const (.bool false)))) [] (.alt (oo 7 (.mov (T 36))) [] .done .stop) .stop) .stop)) (.alt (nn (.store 2 (T 6) (T 28))) [] (.alt (gt 35 32 (.ibin .geq (T 34) (kk 0))) [] (.alt (oo 36 (.pick (T 32) (T 35) (.const (.bool false)))) [] (.alt (oo 7 (.mov (T 36))) [] .done .stop) .stop) .stop) .stop)) (.alt (nn (.store 2 (T 6) (T 28))) [] (.alt (gt 34 32 (.load false 1 (T 33))) [] (.alt (gt 35 32 (.ibin .geq (T 34) (kk 0))) [] (.alt (oo 36 (.pick (T 32) (T 35) (.const (.bool false)))) [] (.alt (oo 7 (.mov (T 36))) [] .done .stop) .stop) .stop) .stop) .stop)) (.alt (nn (.store 2 (T 6) (T 28))) [] (.alt (gt 33 32 (.idxA 2 1 (T 8) (kk 1))) [] (.alt (gt 34 32 (.load false 1 (T 33))) [] (.alt (gt 35 32 (.ibin .geq (T 34) (kk 0))) [] (.alt (oo 36 (.pick (T 32) (T 35) (.const (.bool false)))) [] (.alt (oo 7 (.mov (T 36))) [] .done .stop) .stop) .stop) .stop) .stop) .stop)) .stop) (.alt (oo 32 (.mov (T 31))) [] (.alt (oo 28 (.load true 2 (T 8))) [] (.alt (gt 33 32 (.idxA 2 1 (T 8) (kk 1))) [] (.alt (gt 34 32 (.load false 1 (T 33))) [] (.alt (gt 35 32 (.ibin .geq (T 34) (kk 0))) [] (.alt (oo 36 (.pick (T 32) (T 35) (.const (.bool false)))) [] (.alt (nn (.store 2 (T 6) (T 28))) [] (.alt (oo 7 (.mov (T 36))) [] .done .stop) .stop) (.alt (nn (.store 2 (T 6) (T 28))) [] (.alt (oo 36 (.pick (T 32) (T 35) (.const (.bool false)))) [] (.alt (oo 7 (.mov (T 36))) [] .done .stop) .stop) .stop)) (.alt (nn (.store 2 (T 6) (T 28))) [] (.alt (gt 35 32 (.ibin .geq (T 34) (kk 0))) [] (.alt (oo 36 (.pick (T 32) (T 35) (.const (.bool false)))) [] (.alt (oo 7 (.mov (T 36))) [] .done .stop) .stop) .stop) .stop)) (.alt (nn (.store 2 (T 6) (T 28))) [] (.alt (gt 34 32 (.load false 1 (T 33))) [] (.alt (gt 35 32 (.ibin .geq (T 34) (kk 0))) [] (.alt (oo 36 (.pick (T 32) (T 35) (.const (.bool false)))) [] (.alt (oo 7 (.mov (T 36))) [] .done .stop) .stop) .stop) .stop) .stop)) (.alt (nn (.store 2 (T 6) (T 28))) [] (.alt (gt 33 32 (.idxA 2 1 (T 8) (kk 1))) [] (.alt (gt 34 32 (.load false 1 (T 33))) [] (.alt (gt 35 32 (.ibin .geq (T 34) (kk 0))) [] (.alt (oo 36 (.pick (T 32) (T 35) (.const (.bool false)))) [] (.alt (oo 7 (.mov (T 36))) [] .done .stop) .stop) .stop) .stop) .stop) .stop)) (.alt (gt 33 32 (.idxA 2 1 (T 8) (kk 1))) [] (.alt (oo 28 (.load true 2 (T 8))) [] (.alt (gt 34 32 (.load false 1 (T 33))) [] (.alt (gt 35 32 (.ibin .geq (T 34) (kk 0))) [] (.alt (oo 36 (.pick (T 32) (T 35) (.const (.bool false)))) [] (.alt (nn (.store 2 (T 6) (T 28))) [] (.alt (oo 7 (.mov (T 36))) [] .done .stop) .stop) (.alt (nn (.store 2 (T 6) (T 28))) [] (.alt (oo 36 (.pick (T 32) (T 35) (.const (.bool false)))) [] (.alt (oo 7 (.mov (T 36))) [] .done .stop) .stop) .stop)) (.alt (nn (.store 2 (T 6) (T 28))) [] (.alt (gt 35 32 (.ibin .geq (T 34) (kk 0))) [] (.alt (oo 36 (.pick (T 32) (T 35) (.const (.bool false)))) [] (.alt (oo 7 (.mov (T 36))) [] .done .stop) .stop) .stop) .stop)) (.alt (nn (.store 2 (T 6) (T 28))) [] (.alt (gt 34 32 (.load false 1 (T 33))) [] (.alt (gt 35 32 (.ibin .geq (T 34) (kk 0))) [] (.alt (oo 36 (.pick (T 32) (T 35) (.const (.bool false)))) [] (.alt (oo 7 (.mov (T 36))) [] .done .stop) .stop) .stop) .stop) .stop)) (.alt (gt 34 32 (.load false 1 (T 33))) [] (.alt (oo 28 (.load true 2 (T 8))) [] (.alt (gt 35 32 (.ibin .geq (T 34) (kk 0))) [] (.alt (oo 36 (.pick (T 32) (T 35) (.const (.bool false)))) [] (.alt (nn (.store 2 (T 6) (T 28))) [] (.alt (oo 7 (.mov (T 36))) [] .done .stop) .stop) (.alt (nn (.store 2 (T 6) (T 28))) [] (.alt (oo 36 (.pick (T 32) (T 35) (.const (.bool false)))) [] (.alt (oo 7 (.mov (T 36))) [] .done .stop) .stop) .stop)) (.alt (nn (.store 2 (T 6) (T 28))) [] (.alt (gt 35 32 (.ibin .geq (T 34) (kk 0))) [] (.alt (oo 36 (.pick (T 32) (T 35) (.const (.bool false)))) [] (.alt (oo 7 (.mov (T 36))) [] .done .stop) .stop) .stop) .stop)) (.alt (gt 35 32 (.ibin .geq (T 34) (kk 0))) [] (.alt (oo 28 (.load true 2 (T 8))) [] (.alt (oo 36 (.pick (T 32) (T 35) (.const (.bool false)))) [] (.alt (nn (.store 2 (T 6) (T 28))) [] (.alt (oo 7 (.mov (T 36))) [] .done .stop) .stop) (.alt (nn (.store 2 (T 6) (T 28))) [] (.alt (oo 36 (.pick (T 32) (T 35) (.const (.bool false)))) [] (.alt (oo 7 (.mov (T 36))) [] .done .stop) .stop) .stop)) (.alt (oo 36 (.pick (T 32) (T 35) (.const (.bool false)))) [] (.alt (oo 28 (.load true 2 (T 8))) [] (.alt (nn (.store 2 (T 6) (T 28))) [] (.alt (oo 7 (.mov (T 36))) [] .done .stop) .stop) .stop) .stop)) .stop)) .stop)) .stop)) .stop)) .stop)) .stop)) .stop)))
 .ret)))
theorem f70:fnC Try.prog 70=some (c70,37,[(.cell 6 true 2),(.tmp 7)]):=by kernel_rfl
end Go.Proofs.Ytjilachpkjlhdaa
namespace P5
def nextB (g h:Gr) (k:PI) (x:Nat):Option PI:=if gto g k.1.toNat x<0 \/ gto h k.2.toNat x<0 then none else some (gto g k.1.toNat x,gto h k.2.toNat x)
def accB (g h:Gr) (k:PI):Bool:=bt g.acc k.1.toNat && bt h.acc k.2.toNat
def prodM (g h:Gr):Option Gr:=(bfs 256 (nextB g h) g.sy (0,0)).map fun r=>grOf g.sy (accB g h) r.1 r.2
def bothM (a b:Au):Au × Int :=
 let t:=twoM a b
 if t.1=0 then match prodM t.2.1 t.2.2 with | none=>(nilA,4) | some g=>checkedM (leastR g) else (nilA,t.1)
end P5
namespace Go.Proofs.Ytjilachpkjlhdaa
open Go.RowKit Dak P5
open Nat (reduceEqDiff reduceLT reduceAdd)
def objsexplB (ox:AObj) (y:Nat) (ks:List (MK × Value)) (L:List AV) (A:List Bool) (R:List (List Int)) (T:List AObj):List AObj :=
 [ox,.arr 1 3 97 [nil3],.arr 1 3 97 [.agg [vi y,.own 5 A.length 0 A.length,.own 6 R.length 0 R.length]],.arr 1 1 (mapT+6) [.val (mapV ks)],.arr L.length 2 109 L,.arr A.length 1 4 (A.map vb),.arr R.length 1 22 (R.map vints)]++T
theorem objsexplB_eq (ox:AObj) (y:Nat) (ks:List (MK × Value)) (L:List AV) (A:List Bool) (R:List (List Int)) (T:List AObj):objsexplB ox y ks L A R T =
 [ox,.arr 1 3 97 [nil3],.arr 1 3 97 [.agg [vi y,.own 5 A.length 0 A.length,.own 6 R.length 0 R.length]],.arr 1 1 (mapT+6) [.val (mapV ks)],.arr L.length 2 109 L,.arr A.length 1 4 (A.map vb),.arr R.length 1 22 (R.map vints)]++T:=rfl
theorem objsexplB_drop {m:Nat} {env env':List (Nat × AV)} (k0:PI) (y:Nat) (ks:List (MK × Value)) (L:List PI) (A:List Bool) (R:List (List Int)) (T T':List AObj) (hA:Agree env env') (he:(env'.all fun p=>p.2.inn (7+T.length))=true) (hT:(T.all fun o=>o.innO (7+T.length))=true) :
 WkE m ⟨env,objsexplB (.arr 1 2 109 [vpair k0]) y ks (L.map vpair) A R (T++T')⟩ ⟨env',objsexplB (.arr 1 2 109 [vpair k0]) y ks (L.map vpair) A R T⟩:=by
 have hl:(objsexplB (.arr 1 2 109 [vpair k0]) y ks (L.map vpair) A R T).length=7+T.length:=by rw [objsexplB_eq,List.length_append];rfl
 refine WkE.round hA (by rw [hl];exact he) ?_ ?_
 ·rw [hl,objsexplB_eq,List.all_append,Bool.and_eq_true]
  refine ⟨?_,hT⟩
  have h1:((L.map vpair).all (AV.inn (7+T.length)))=true:=inn_map fun _=>rfl
  have h2:((A.map vb).all (AV.inn (7+T.length)))=true:=inn_map fun _=>rfl
  have h3:((R.map vints).all (AV.inn (7+T.length)))=true:=inn_map fun _=>rfl
  simp [AObj.innO,h1,h2,h3,AV.inn,AV.inn1]
  omega
 ·rw [hl,objsexplB_eq,objsexplB_eq,<-List.append_assoc]
  exact List.take_left' (by rw [List.length_append];rfl)
set_option maxHeartbeats 8000000 in
theorem explB_s (ok:PI->Prop) (hinj:∀ s t,ok s->ok t->keyP s=keyP t->s=t) (fa fn:AV) (first:PI) (y:Nat) (hy:y<=64) (acc:PI->Bool) (raw:PI->Nat->PI × Bool) (hf0:ok first)
 (hr:∀ k x,ok k->x<y->(raw k x).2=true->ok (raw k x).1)
 (ha:∀ k,ok k->∀ objs,CallOk Try.prog objs fa [vpair k] (vb (acc k)))
 (hn:∀ k x,ok k->x<y->∀ objs,CallOk Try.prog objs fn [vpair k,vi (x:Int)] (.tup [vpair (raw k x).1,vb (raw k x).2]))
 (hfi:∀ k,fa.inn k=true/\fn.inn k=true) :
 Ctr Try.prog 68 [vpair first,vi y,fa,fn] (vge (resE y acc (bfs 256 (nextE raw) y first))):=by
 refine specC f68 (by simp) fun F0 w0=>?_
 obtain ⟨B,hB⟩:∃ B,bfs 256 (nextE raw) y first=B:=⟨_,rfl⟩
 rw [hB]
 unfold c68
 refine CwpE.cut (st:=⟨[(1,vi y),(2,fa),(3,fn),(4,.ref 0 1 0 0),(8,.ref 1 1 0 0)],[.arr 1 2 109 [vpair first],.arr 1 3 97 [nil3]]⟩) ?_ ?_
 ·simp only [go_sem,↓reduceIte,reduceLT,reduceAdd]
  exact ⟨_,WkE.kq,rfl⟩
 refine CwpE.cut (st:=⟨[(1,vi y),(2,fa),(3,fn),(4,.ref 0 1 0 0),(8,.ref 1 1 0 0),(10,.ref 2 1 0 0)],[.arr 1 2 109 [vpair first],.arr 1 3 97 [nil3],.arr 1 3 97 [.agg [vi y,nilV,nilV]]]⟩) ?_ ?_
 ·simp only [go_sem,Nat.reduceLeDiff,↓reduceIte,reduceLT,reduceEqDiff,reduceAdd]
  exact ⟨_,WkE.kp,rfl⟩
 refine CwpE.cut (st:=⟨[(1,vi y),(2,fa),(3,fn),(4,.ref 0 1 0 0),(8,.ref 1 1 0 0),(10,.ref 2 1 0 0),(11,.mref 3 1)],[.arr 1 2 109 [vpair first],.arr 1 3 97 [nil3],.arr 1 3 97 [.agg [vi y,nilV,nilV]],.arr 1 1 (mapT+6) [.val (mapV [(keyP first,.int .i64 0)])]]⟩) ?_ ?_
 ·simp only [go_sem,↓reduceIte,reduceLT,reduceEqDiff,reduceAdd]
  exact ⟨_,WkE.kp,rfl⟩
 refine CwpE.seqJ (fun z=>∃ (ks:List (MK × Value)) (L:List (PI)) (rows:List (List Int)),B=some (L,rows)/\z=⟨[(1,vi y),(2,fa),(3,fn),(8,.ref 1 1 0 0),(10,.ref 2 1 0 0),(11,.mref 3 1),(12,.own 4 (L).length 0 (L).length)],objsexplB (.arr 1 2 109 [vpair first]) y ks (L.map vpair) (L.map acc) (rows) []⟩) ?_ ?_
 rotate_left
 ·rintro _ ⟨ks,L,rows,hBs,rfl⟩
  rw [hBs]
  refine CwpE.vc ?_
  rw [objsexplB_eq]
  simp only [go_sem,↓reduceIte,reduceLT,reduceEqDiff,reduceAdd]
  exact snap_tup2 (gr_snap y (L.map acc) rows _ _ _ (by simp) rfl rfl rfl) (.tree _ rfl)
 refine CwpE.seqJ (fun st=>st=⟨[(1,vi y),(2,fa),(3,fn),(8,.ref 1 1 0 0),(10,.ref 2 1 0 0),(11,.mref 3 1),(12,.own 4 ([first]).length 0 ([first]).length)],objsexplB (.arr 1 2 109 [vpair first]) y [(keyP first,.int .i64 0)] ([first].map vpair) ([]) ([]) []⟩) ?_ ?_
 ·refine CwpE.regionC (csa:=[⟨some 25,none,.load true 2 (T 4)⟩]) (csb:=[⟨some 12,none,.mov (T 26)⟩]) (by omega) (by decide) ?_
  simp only [go_sem,↓reduceIte,reduceLT,reduceEqDiff,reduceAdd]
  refine ⟨_,.refl _ _,?_⟩
  simp only [go_sem,↓reduceIte]
  exact ⟨_,(WkE.nilCell 2 1 3 0 1 1 4 97 _ (.agg [vi y,nilV,nilV]) rfl rfl rfl).trans ((WkE.nilCell 2 1 3 0 2 1 22 97 _ (.agg [vi y,.own 5 0 0 0,nilV]) rfl rfl rfl).trans (WkE.kp)),rfl⟩
 rintro _ rfl
 refine CwpE.vc ?_
 simp only [go_sem]
 have hB0:B=bfsGo 256 (nextE raw) y 257 [first] []:=by rw [<-hB];rfl
 refine loopX 0 (fun m z=>∃ (i:Nat) (ks:List (MK × Value)) (L:List (PI)) (rows:List (List Int)),m=257-i/\rows.length=i/\i<=L.length/\L.length<=256/\(∀ t ∈ L,ok t)/\(∀ r ∈ rows,r.length=y)/\Numb ok keyP ks L/\B=bfsGo 256 (nextE raw) y (257-i) L rows /\
  z=⟨[(1,vi y),(2,fa),(3,fn),(8,.ref 1 1 0 0),(10,.ref 2 1 0 0),(11,.mref 3 1),(12,.own 4 (L).length 0 (L).length)],objsexplB (.arr 1 2 109 [vpair first]) y ks (L.map vpair) ((L.take i).map acc) (rows) []⟩)
  (fun z=>∃ (ks:List (MK × Value)) (L:List (PI)) (rows:List (List Int)),B=some (L,rows)/\z=⟨[(1,vi y),(2,fa),(3,fn),(8,.ref 1 1 0 0),(10,.ref 2 1 0 0),(11,.mref 3 1),(12,.own 4 (L).length 0 (L).length)],objsexplB (.arr 1 2 109 [vpair first]) y ks (L.map vpair) (L.map acc) (rows) []⟩) 257
  ⟨[(1,vi y),(2,fa),(3,fn),(8,.ref 1 1 0 0),(10,.ref 2 1 0 0),(11,.mref 3 1),(12,.own 4 ([first]).length 0 ([first]).length)],objsexplB (.arr 1 2 109 [vpair first]) y [(keyP first,.int .i64 0)] ([first].map vpair) ([]) ([]) []⟩ (.refl _ _)
  ⟨0,_,[first],[],rfl,rfl,by simp,by simp,fun t ht=>by rw [List.mem_singleton.1 ht];exact hf0,fun r hr=>by simp at hr,Numb.one hinj hf0,hB0,rfl⟩ ?_ ?_
 rotate_left
 ·rintro z ⟨ks,L,rows,h1,rfl⟩
  simp only [go_sem,↓reduceIte]
  exact ⟨_,.refl _ _,ks,L,rows,h1,rfl⟩
 rintro m z ⟨i,ks,L,rows,rfl,hri,hiL,hL,hLn,hrl,hks,hBi,rfl⟩
 by_cases hlt:i<L.length
 rotate_left
 ·have gk:¬ (rows.length:Int)<(L.length:Int):=by omega
  rw [bfsGo_end (by omega)] at hBi
  have htk:L.take i=L:=List.take_of_length_le (by omega)
  rw [htk,objsexplB_eq]
  simp only [go_sem,↓reduceIte,reduceLT,reduceEqDiff,reduceAdd,gk,List.length_map]
  refine ⟨_,?_,ks,L,rows,hBi,rfl⟩
  rw [objsexplB_eq]
  simp only [List.length_map]
  exact WkE.kp
 have hf:257-i=(257-(i+1))+1:=by omega
 rw [hf,bfsGo_step (by omega)] at hBi
 have hnx:nextE raw L[rows.length]=nextE raw L[i]:=by simp only [hri]
 rw [hnx] at hBi
 obtain ⟨q,hq⟩:∃ q,L[i]=q:=⟨_,rfl⟩
 have hqo:ok q:=by rw [<-hq];exact hLn _ (List.getElem_mem hlt)
 have g1:(rows.length:Int)<(L.length:Int):=by omega
 have g0:(0:Int)<=(rows.length:Int):=by omega
 have hLi:(L.map vpair)[rows.length]? = some (vpair q):=by rw [List.getElem?_map,List.getElem?_eq_getElem (by omega)];simp only [hri,hq];rfl
 rw [hq] at hBi
 obtain ⟨nx,hnxe⟩:∃ nx,nextE raw q=nx:=⟨_,rfl⟩
 rw [hnxe] at hBi
 have nxv:∀ x,nx x=if (raw q x).2=true then some (raw q x).1 else none:=fun x=>by rw [<-hnxe];rfl
 have hAl:((L.take i).map acc).length=i:=by simp;omega
 have hA1:((L.take i).map acc)++[acc q]=(L.take (i+1)).map acc:=by
  rw [List.take_succ_eq_append_getElem hlt,List.map_append,hq];rfl
 obtain ⟨A,hAe⟩:∃ A,(L.take i).map acc=A:=⟨_,rfl⟩
 rw [hAe] at hAl hA1 ⊢
 have hacc:=ha q hqo
 have q0:(0:Int)<=(y:Int):=by omega
 have q2:((8:Nat):Int)*(y:Int)<=281474976710656:=by omega
 have q3:(y:Int)<=9223372036854775807:=by omega
 rw [objsexplB_eq]
 simp only [go_sem,↓reduceIte,reduceLT,reduceEqDiff,reduceAdd,g1,g0,hLi,List.length_map,q0,q2,q3,Int.le_refl,Int.toNat_natCast,rg_rep]
 refine loopX 2 (fun m z=>∃ (x:Nat) (ks:List (MK × Value)),m=y-x/\x<=y/\Numb ok keyP ks (rowGo nx (List.range x) L).2/\(∀ t ∈ (rowGo nx (List.range x) L).2,ok t) /\
  z=⟨[(1,vi y),(2,fa),(3,fn),(8,.ref 1 1 0 0),(10,.ref 2 1 0 0),(11,.mref 3 1),(12,.own 4 ((rowGo nx (List.range x) L).2).length 0 ((rowGo nx (List.range x) L).2).length),(13,.ref 7 1 0 0),(14,.own 8 y 0 y),(42,vi y),(43,vi x)],objsexplB (.arr 1 2 109 [vpair first]) y ks (((rowGo nx (List.range x) L).2).map vpair) (A) (rows) [.arr 1 2 109 [vpair q],.arr y 1 3 ((partR y (rowGo nx (List.range x) L).1).map vi)]⟩)
  (fun z=>∃ (ks:List (MK × Value)),Numb ok keyP ks (rowGo nx (List.range y) L).2/\(∀ t ∈ (rowGo nx (List.range y) L).2,ok t) /\
   z=⟨[(1,vi y),(2,fa),(3,fn),(8,.ref 1 1 0 0),(10,.ref 2 1 0 0),(11,.mref 3 1),(12,.own 4 ((rowGo nx (List.range y) L).2).length 0 ((rowGo nx (List.range y) L).2).length),(13,.ref 7 1 0 0),(14,vints (rowGo nx (List.range y) L).1)],objsexplB (.arr 1 2 109 [vpair first]) y ks (((rowGo nx (List.range y) L).2).map vpair) (A) (rows) [.arr 1 2 109 [vpair q]]⟩) y
  ⟨[(1,vi y),(2,fa),(3,fn),(8,.ref 1 1 0 0),(10,.ref 2 1 0 0),(11,.mref 3 1),(12,.own 4 (L).length 0 (L).length),(13,.ref 7 1 0 0),(14,.own 8 y 0 y),(42,vi y),(43,vi (0:Nat))],objsexplB (.arr 1 2 109 [vpair first]) y ks ((L).map vpair) (A) (rows) [.arr 1 2 109 [vpair q],.arr y 1 3 ((partR y []).map vi)]⟩ ?_ ⟨0,ks,by omega,by omega,hks,hLn,rfl⟩ ?_ ?_
 ·rw [objsexplB_eq]
  have e0:(rg y fun _=>vi 0)=(partR y []).map vi:=by rw [<-partR_nil,rg_rep]
  rw [<-e0]
  simp only [List.length_map]
  exact WkE.kp
 rotate_left
 ·rintro z ⟨ks1,hk1,ho1,rfl⟩
  have hr1l:((rowGo nx (List.range y) L).1).length=y:=by rw [rowGo_len,List.length_range]
  have hpre:=rowGo_pre nx (List.range y) L
  obtain ⟨L1,hL1⟩:∃ L1,(rowGo nx (List.range y) L).2=L1:=⟨_,rfl⟩
  obtain ⟨r1,hr1⟩:∃ r1,(rowGo nx (List.range y) L).1=r1:=⟨_,rfl⟩
  rw [hL1] at hk1 ho1 hBi hpre ⊢
  rw [hr1] at hr1l hBi ⊢
  rw [objsexplB_eq]
  by_cases h256:256<L1.length
  ·have hBn:B=none:=by rw [hBi,if_pos h256]
   have g256:(256:Int)<(L1.length:Int):=by omega
   rw [hBn]
   simp only [go_sem,↓reduceIte,reduceCtorEq,reduceLT,reduceEqDiff,reduceAdd,g256,List.length_map]
   exact snap_tup2 nilG_snap (.tree _ rfl)
  have g256:¬ (256:Int)<(L1.length:Int):=by omega
  rw [if_neg h256] at hBi
  have qa:(A.length+1)*1<=140737488355328:=by omega
  have qr:(rows.length+1)*24<=140737488355328:=by omega
  simp only [go_sem,Nat.reducePow,Nat.reduceLeDiff,↓reduceIte,reduceLT,reduceEqDiff,reduceAdd,Nat.reduceMul,g256,List.length_map,qr]
  obtain ⟨A1,hA1e⟩:∃ A1,(L.take (i+1)).map acc=A1:=⟨_,rfl⟩
  rw [hA1e] at hA1
  have fin:∀ st,WkE 99 st ⟨[(1,vi y),(2,fa),(3,fn),(8,.ref 1 1 0 0),(10,.ref 2 1 0 0),(11,.mref 3 1),(12,.own 4 (L1).length 0 (L1).length)],objsexplB (.arr 1 2 109 [vpair first]) y ks1 (L1.map vpair) A1 (rows++[r1]) []⟩->∃ m s',m<257-i/\WkE 99 st s'/\∃ (i:Nat) (ks:List (MK × Value)) (L:List PI) (rows:List (List Int)),m=257-i/\rows.length=i/\i<=L.length/\L.length<=256/\(∀ t ∈ L,ok t)/\(∀ r ∈ rows,r.length=y)/\Numb ok keyP ks L/\B=bfsGo 256 (nextE raw) y (257-i) L rows /\
   s'=⟨[(1,vi y),(2,fa),(3,fn),(8,.ref 1 1 0 0),(10,.ref 2 1 0 0),(11,.mref 3 1),(12,.own 4 (L).length 0 (L).length)],objsexplB (.arr 1 2 109 [vpair first]) y ks (L.map vpair) ((L.take i).map acc) (rows) []⟩:=by
   intro st hst
   refine ⟨257-(i+1),_,by omega,hst,i+1,ks1,L1,rows++[r1],rfl,by simp [hri],?_,by omega,ho1,?_,hk1,hBi,?_⟩
   ·have:=hpre.length_le;omega
   ·intro r hr
    rcases List.mem_append.1 hr with hr | hr
    ·exact hrl r hr
    ·rw [List.mem_singleton.1 hr,hr1l]
   ·have e2:(L1.take (i+1)).map acc=A1:=by
     obtain ⟨r,hr⟩:=hpre
     rw [<-hr,List.take_append_of_le_length (by omega),hA1e]
    rw [e2]
  have hA1m:A.map vb++[vb (acc q)]=A1.map vb:=by rw [<-hA1,List.map_append];rfl
  have hA1l:A1.length=A.length+1:=by rw [<-hA1];simp
  have fin2:∀ env,Agree env [(1,vi y),(2,fa),(3,fn),(8,.ref 1 1 0 0),(10,.ref 2 1 0 0),(11,.mref 3 1),(12,.own 4 L1.length 0 L1.length)]->WkE 99 ⟨env,[.arr 1 2 109 [vpair first],.arr 1 3 97 [nil3],.arr 1 3 97 [.agg [vi y,.own 5 (A.length+1) 0 (A.length+1),.own 6 (rows.length+1) 0 (rows.length+1)]],.arr 1 1 (mapT+6) [.val (mapV ks1)],.arr L1.length 2 109 (L1.map vpair),.arr (A.length+1) 1 4 (A.map vb++[vb (acc q)]),.arr (rows.length+1) 1 22 (rows.map vints++[vints r1]),.arr 1 2 109 [vpair q]]⟩ ⟨[(1,vi y),(2,fa),(3,fn),(8,.ref 1 1 0 0),(10,.ref 2 1 0 0),(11,.mref 3 1),(12,.own 4 (L1).length 0 (L1).length)],objsexplB (.arr 1 2 109 [vpair first]) y ks1 (L1.map vpair) A1 (rows++[r1]) []⟩:=by
   intro env henv
   have:=objsexplB_drop (m:=99) (env:=env) (env':=[(1,vi y),(2,fa),(3,fn),(8,.ref 1 1 0 0),(10,.ref 2 1 0 0),(11,.mref 3 1),(12,.own 4 L1.length 0 L1.length)]) first y ks1 L1 A1 (rows++[r1]) [] [.arr 1 2 109 [vpair q]] henv (by simp only [List.all_cons,List.all_nil,(hfi _).1,(hfi _).2];rfl) rfl
   rw [objsexplB_eq] at this
   simp only [hA1l,<-hA1m,List.length_append,List.map_append,List.length_map,List.length_singleton,List.map_cons,List.map_nil] at this
   exact this
  refine ⟨?_,?_⟩
  ·refine callOk (hacc _) ?_
   simp only [go_sem,Nat.reducePow,Nat.reduceLeDiff,↓reduceIte,reduceLT,reduceEqDiff,reduceAdd,Nat.reduceMul,qa,List.length_map]
   exact ⟨⟨fin _ (fin2 _ (by simp only [go_sem,↓reduceIte,reduceEqDiff])),fin _ (fin2 _ (by simp only [go_sem,↓reduceIte,reduceEqDiff]))⟩,fin _ (fin2 _ (by simp only [go_sem,↓reduceIte,reduceEqDiff]))⟩
  ·refine callOk (hacc _) ?_
   simp only [go_sem,Nat.reducePow,Nat.reduceLeDiff,↓reduceIte,reduceLT,reduceEqDiff,reduceAdd,Nat.reduceMul,qa,List.length_map]
   exact fin _ (fin2 _ (by simp only [go_sem,↓reduceIte,reduceEqDiff]))
 rintro m z ⟨x,ks,rfl,hx,hks,hLo,rfl⟩
 by_cases hxy:x<y
 rotate_left
 ·obtain rfl:y=x:=by omega
  have hrl1:((rowGo nx (List.range y) L).1).length=y:=by rw [rowGo_len,List.length_range]
  obtain ⟨L1,hL1⟩:∃ L1,(rowGo nx (List.range y) L).2=L1:=⟨_,rfl⟩
  obtain ⟨r1,hr1⟩:∃ r1,(rowGo nx (List.range y) L).1=r1:=⟨_,rfl⟩
  rw [hL1] at hks hLo ⊢
  rw [hr1] at hrl1 ⊢
  rw [objsexplB_eq]
  simp only [go_sem,↓reduceIte,reduceLT,reduceEqDiff,reduceAdd,Int.lt_irrefl,partR_full hrl1]
  refine ⟨_,?_,ks,hks,hLo,rfl⟩
  have hz:=WkE.freeze (n:=99) (env:=[(1,vi y),(2,fa),(3,fn),(8,.ref 1 1 0 0),(10,.ref 2 1 0 0),(11,.mref 3 1),(12,.own 4 L1.length 0 L1.length),(13,.ref 7 1 0 0),(14,.own 8 y 0 y),(42,vi y),(43,vi y)]) (objs:=objsexplB (.arr 1 2 109 [vpair first]) y ks (L1.map vpair) A rows [.arr 1 2 109 [vpair q],.arr y 1 3 (r1.map vi)]) 14 8 y 0 y 1 3 (r1.map vi) (by omega) rfl rfl (by simp [hrl1]) (isT_map (fun _=>rfl) _)
  have e1:((r1.map vi).drop 0).take y=r1.map vi:=by rw [List.drop_zero,List.take_of_length_le (by simp [hrl1])]
  rw [e1] at hz
  have hd:=objsexplB_drop (m:=99) (env:=(14,vints r1)::[(1,vi y),(2,fa),(3,fn),(8,.ref 1 1 0 0),(10,.ref 2 1 0 0),(11,.mref 3 1),(12,.own 4 L1.length 0 L1.length),(13,.ref 7 1 0 0),(14,.own 8 y 0 y),(42,vi y),(43,vi y)]) (env':=[(1,vi y),(2,fa),(3,fn),(8,.ref 1 1 0 0),(10,.ref 2 1 0 0),(11,.mref 3 1),(12,.own 4 L1.length 0 L1.length),(13,.ref 7 1 0 0),(14,vints r1)]) first y ks L1 A rows [.arr 1 2 109 [vpair q]] [.dead] (by simp only [go_sem,↓reduceIte,reduceEqDiff];try rfl) (by simp only [List.all_cons,List.all_nil,(hfi _).1,(hfi _).2];rfl) rfl
  have hzd:=hz.trans hd
  simp only [objsexplB_eq,List.length_map,List.cons_append,List.nil_append] at hzd ⊢
  refine WkE.trans (WkE.keep ?_) hzd
  simp only [go_sem,↓reduceIte,reduceEqDiff];try rfl
 have hrx:((rowGo nx (List.range x) L).1).length=x:=by rw [rowGo_len,List.length_range]
 have hpx:=(rowGo_pre nx (List.range x) L).length_le
 have hrr:=rowGo_range nx x L
 have hlb:=rowGo_lb nx L x
 obtain ⟨Lx,hLx⟩:∃ Lx,(rowGo nx (List.range x) L).2=Lx:=⟨_,rfl⟩
 obtain ⟨rx,hrxe⟩:∃ rx,(rowGo nx (List.range x) L).1=rx:=⟨_,rfl⟩
 obtain ⟨L1,hL1⟩:∃ L1,(rowGo nx (List.range (x+1)) L).2=L1:=⟨_,rfl⟩
 obtain ⟨r1,hr1⟩:∃ r1,(rowGo nx (List.range (x+1)) L).1=r1:=⟨_,rfl⟩
 have hnx2:=nxv x
 simp only [hLx,hrxe] at hks hLo hrx hrr hpx hlb ⊢
 have gx:(x:Int)<(y:Int):=by omega
 have gx0:(0:Int)<=(x:Int):=by omega
 have wx:=wrap_s x (by omega)
 have hstep:=hn q x hqo hxy
 have hset:∀ v,((partR y rx).map vi).set x (vi v)=(partR y (rx++[v])).map vi:=fun v=>partR_set hrx v
 have hplen:=partR_len y rx
 obtain ⟨u0,hget⟩:∃ u0,((partR y rx).map vi)[x]? = some (vi u0):=⟨_,by rw [List.getElem?_map,List.getElem?_eq_getElem (by omega)];rfl⟩
 have fin:∀ (st:Est) (ks2:List (MK × Value)) (L2:List PI) (r2:List Int),L1=L2->r1=r2->Numb ok keyP ks2 L2->(∀ t ∈ L2,ok t)->WkE 99 st ⟨[(1,vi y),(2,fa),(3,fn),(8,.ref 1 1 0 0),(10,.ref 2 1 0 0),(11,.mref 3 1),(12,.own 4 (L2).length 0 (L2).length),(13,.ref 7 1 0 0),(14,.own 8 y 0 y),(42,vi y),(43,vi (x+1:Nat))],objsexplB (.arr 1 2 109 [vpair first]) y ks2 (L2.map vpair) (A) (rows) [.arr 1 2 109 [vpair q],.arr y 1 3 ((partR y r2).map vi)]⟩ ->
  ∃ m s',m<y-x/\WkE 99 st s'/\∃ (x:Nat) (ks:List (MK × Value)),m=y-x/\x<=y/\Numb ok keyP ks (rowGo nx (List.range x) L).2/\(∀ t ∈ (rowGo nx (List.range x) L).2,ok t) /\
  s'=⟨[(1,vi y),(2,fa),(3,fn),(8,.ref 1 1 0 0),(10,.ref 2 1 0 0),(11,.mref 3 1),(12,.own 4 ((rowGo nx (List.range x) L).2).length 0 ((rowGo nx (List.range x) L).2).length),(13,.ref 7 1 0 0),(14,.own 8 y 0 y),(42,vi y),(43,vi x)],objsexplB (.arr 1 2 109 [vpair first]) y ks (((rowGo nx (List.range x) L).2).map vpair) (A) (rows) [.arr 1 2 109 [vpair q],.arr y 1 3 ((partR y (rowGo nx (List.range x) L).1).map vi)]⟩:=by
  rintro st ks2 L2 r2 rfl rfl h1 h2 hst
  exact ⟨y-(x+1),_,by omega,hst,x+1,ks2,rfl,by omega,by rw [hL1];exact h1,by rw [hL1];exact h2,by rw [hL1,hr1]⟩
 have fin2:∀ env objs9 (ks2:List (MK × Value)) (L2:List PI) (r2:List Int),Agree env [(1,vi y),(2,fa),(3,fn),(8,.ref 1 1 0 0),(10,.ref 2 1 0 0),(11,.mref 3 1),(12,.own 4 L2.length 0 L2.length),(13,.ref 7 1 0 0),(14,.own 8 y 0 y),(42,vi y),(43,vi (x+1:Nat))]->WkE 99 ⟨env,[.arr 1 2 109 [vpair first],.arr 1 3 97 [nil3],.arr 1 3 97 [.agg [vi y,.own 5 A.length 0 A.length,.own 6 rows.length 0 rows.length]],.arr 1 1 (mapT+6) [.val (mapV ks2)],.arr L2.length 2 109 (L2.map vpair),.arr A.length 1 4 (A.map vb),.arr rows.length 1 22 (rows.map vints),.arr 1 2 109 [vpair q],.arr y 1 3 ((partR y r2).map vi),objs9]⟩ ⟨[(1,vi y),(2,fa),(3,fn),(8,.ref 1 1 0 0),(10,.ref 2 1 0 0),(11,.mref 3 1),(12,.own 4 (L2).length 0 (L2).length),(13,.ref 7 1 0 0),(14,.own 8 y 0 y),(42,vi y),(43,vi (x+1:Nat))],objsexplB (.arr 1 2 109 [vpair first]) y ks2 (L2.map vpair) (A) (rows) [.arr 1 2 109 [vpair q],.arr y 1 3 ((partR y r2).map vi)]⟩:=by
  intro env o9 ks2 L2 r2 henv
  have h1:(((partR y r2).map vi).all (AV.inn 9))=true:=inn_map fun _=>rfl
  have:=objsexplB_drop (m:=99) (env:=env) (env':=[(1,vi y),(2,fa),(3,fn),(8,.ref 1 1 0 0),(10,.ref 2 1 0 0),(11,.mref 3 1),(12,.own 4 L2.length 0 L2.length),(13,.ref 7 1 0 0),(14,.own 8 y 0 y),(42,vi y),(43,vi (x+1:Nat))]) first y ks2 L2 A rows [.arr 1 2 109 [vpair q],.arr y 1 3 ((partR y r2).map vi)] [o9] henv (by simp only [List.all_cons,List.all_nil,(hfi _).1,(hfi _).2];rfl) (Bool.and_eq_true_iff.2 ⟨rfl,Bool.and_eq_true_iff.2 ⟨h1,rfl⟩⟩)
  simp only [objsexplB_eq,List.length_map,List.cons_append,List.nil_append] at this ⊢
  exact this
 rw [objsexplB_eq]
 simp only [go_sem,↓reduceIte,reduceLT,reduceEqDiff,reduceAdd,gx]
 refine callOk (hstep _) ?_
 cases hok:(raw q x).2 with
 | false =>
  simp only [hok,Bool.false_eq_true,if_false] at hnx2
  rw [hnx2] at hrr
  simp only [hL1,hr1,Prod.ext_iff] at hrr
  simp only [go_sem,↓reduceIte,reduceLT,reduceEqDiff,reduceAdd,gx,gx0,hget,hset,wx,Int.toNat_natCast]
  refine fin _ ks Lx (rx++[-1]) hrr.2 hrr.1 hks hLo (fin2 _ _ _ _ _ ?_)
  simp only [go_sem,↓reduceIte,reduceEqDiff];try rfl
 | true =>
  simp only [hok,if_true] at hnx2
  have hto:=hr q x hqo hxy hok
  obtain ⟨t,ht⟩:∃ t,(raw q x).1=t:=⟨_,rfl⟩
  rw [ht] at hnx2 hto ⊢
  rw [hnx2] at hrr
  simp only [hL1,hr1,Prod.ext_iff] at hrr
  have hk:=hks t hto
  by_cases hm:posF Lx t<Lx.length
  ·rw [if_pos hm] at hk
   have hk':kget ks (.a [t.1,t.2])=some (.int .i64 (posF Lx t:Nat)):=hk
   have hk1:addK Lx t=Lx:=by rw [addK,if_pos hm]
   rw [hk1] at hrr
   simp only [go_sem,↓reduceIte,reduceLT,reduceEqDiff,reduceAdd,gx,gx0,hget,hset,wx,hk',Int.toNat_natCast,Option.getD_some,Option.isSome_some]
   refine fin _ ks Lx (rx++[(posF Lx t:Int)]) hrr.2 hrr.1 hks hLo (fin2 _ _ _ _ _ ?_)
   simp only [go_sem,↓reduceIte,reduceEqDiff];try rfl
  ·rw [if_neg hm] at hk
   have hk':kget ks (.a [t.1,t.2])=none:=hk
   have hnm:t ∉ Lx:=fun h=>hm (posF_mem.2 h)
   have hk1:addK Lx t=Lx++[t]:=by rw [addK,if_neg hm]
   rw [hk1,posF_new hnm] at hrr
   have qL:(Lx.length+1)*16<=140737488355328:=by omega
   have hm1:Lx.map vpair++[vpair t]=(Lx++[t]).map vpair:=by rw [List.map_append];rfl
   have hl1:(Lx++[t]).length=Lx.length+1:=by simp
   simp only [go_sem,Nat.reducePow,Nat.reduceLeDiff,↓reduceIte,reduceLT,reduceEqDiff,reduceAdd,Nat.reduceMul,gx,gx0,hget,hset,wx,hk',List.length_map,Int.toNat_natCast,Option.getD_none,Option.isSome_none,qL]
   have h2:=fun env o9 h=>fin2 env o9 (kset ks (keyP t) (.int .i64 (Lx.length:Nat))) (Lx++[t]) (rx++[(Lx.length:Int)]) h
   rw [hl1] at h2
   rw [<-hm1] at h2
   refine fin _ (kset ks (keyP t) (.int .i64 (Lx.length:Nat))) (Lx++[t]) (rx++[(Lx.length:Int)]) hrr.2 hrr.1 (hks.add hinj hto hnm) ?_ ?_
   ·intro u hu
    rcases List.mem_append.1 hu with hu | hu
    ·exact hLo u hu
    ·rw [List.mem_singleton.1 hu];exact hto
   ·rw [hl1,<-hm1]
    exact h2 _ _ (by simp only [go_sem,↓reduceIte,reduceEqDiff];try rfl)
end Go.Proofs.Ytjilachpkjlhdaa
namespace Go.Proofs.Ytjilachpkjlhdaa
open Go.RowKit Dak P5
open Nat (reduceEqDiff reduceLT reduceAdd)
abbrev pgr (g:Gr):AV:=.ptr [vi g.sy,vbools g.acc,vrows g.to]
structure InP (g h:Gr) (k:PI):Prop where
 a0:0<=k.1
 a1:k.1<g.acc.length
 b0:0<=k.2
 b1:k.2<h.acc.length
theorem both1_s (g h:Gr) (k:PI) (hk:InP g h k):Ctr Try.prog 69 [vpair k,pgr g,pgr h] (vb (accB g h k)):=by
 refine specE f69 (by simp) fun F0 w0=>?_
 obtain ⟨p,q⟩:=k
 obtain ⟨a0,a1,b0,b1⟩:=hk
 simp only at a0 a1 b0 b1
 have ha:=bt_get (s:=g.acc) (k:=p.toNat) (by omega)
 have hb:=bt_get (s:=h.acc) (k:=q.toNat) (by omega)
 rw [accB]
 simp only
 cases h1:bt g.acc p.toNat with
 | false =>
  rw [h1] at ha
  simp only [c69,go_sem,↓reduceIte,reduceCtorEq,reduceLT,reduceEqDiff,reduceAdd,Nat.reduceMul,Int.reduceToNat,Int.reduceToNat,Int.le_refl,w02,a0,ha]
  exact .tree _ rfl
 | true =>
  rw [h1] at ha
  simp only [c69,go_sem,↓reduceIte,reduceCtorEq,reduceLT,reduceEqDiff,reduceAdd,Nat.reduceMul,Int.reduceToNat,Int.reduceLE,Int.reduceToNat,Int.le_refl,w02,w12,a0,b0,ha,hb]
  exact .tree _ rfl
def rawB (g h:Gr) (k:PI) (x:Nat):PI × Bool:=((gto g k.1.toNat x,gto h k.2.toNat x),decide (0<=gto g k.1.toNat x) && decide (0<=gto h k.2.toNat x))
theorem nextE_rawB (g h:Gr):nextE (rawB g h)=nextB g h:=by
 funext k x
 unfold nextE nextB rawB
 simp only [Bool.and_eq_true,decide_eq_true_eq]
 by_cases h1:gto g k.1.toNat x<0
 ·rw [if_neg (by omega),if_pos (.inl h1)]
 ·by_cases h2:gto h k.2.toNat x<0
  ·rw [if_neg (by omega),if_pos (.inr h2)]
  ·rw [if_pos (by omega),if_neg (by omega)]
set_option maxHeartbeats 4000000 in
theorem both2_s (g h:Gr) (hg:GrOk g) (hh:GrOk h) (k:PI) (hk:InP g h k) (x:Nat) (hx:x<g.sy) (hx2:x<h.sy):Ctr Try.prog 70 [vpair k,vi x,pgr g,pgr h] (.tup [vpair (rawB g h k x).1,vb (rawB g h k x).2]):=by
 refine specC f70 (by simp) fun F0 w0=>?_
 obtain ⟨p,q⟩:=k
 obtain ⟨a0,a1,b0,b1⟩:=hk
 simp only at a0 a1 b0 b1
 have r1:=row_get hg (i:=p.toNat) (by omega)
 have r2:=row_get hh (i:=q.toNat) (by omega)
 have t1:=gto_get hg (i:=p.toNat) (x:=x) (by omega) hx
 have t2:=gto_get hh (i:=q.toNat) (x:=x) (by omega) hx2
 have x0:(0:Int)<=(x:Int):=by omega
 have l1:=rowAt_len hg (i:=p.toNat) (by omega)
 have l2:=rowAt_len hh (i:=q.toNat) (by omega)
 have m1:g.to.length=g.acc.length:=hg.len
 have m2:h.to.length=h.acc.length:=hh.len
 rw [rawB]
 simp only
 generalize gto g p.toNat x=u at t1 ⊢
 generalize gto h q.toNat x=v at t2 ⊢
 unfold c70
 refine CwpE.cut (st:=⟨[(1,vi x),(2,pgr g),(3,pgr h),(4,.ref 0 1 0 0),(6,.ref 1 1 0 0),(7,vb false)],[.arr 1 2 109 [vpair (p,q)],.arr 1 2 109 [.agg [vi 0,vi 0]]]⟩) ?_ ?_
 ·simp only [go_sem,↓reduceIte,reduceLT,reduceAdd]
  exact ⟨_,WkE.kq,rfl⟩
 refine CwpE.cut (st:=⟨[(6,.ref 1 1 0 0),(8,.ref 2 1 0 0)],[.arr 1 2 109 [vpair (p,q)],.arr 1 2 109 [.agg [vi 0,vi 0]],.arr 1 2 109 [.agg [vi u,vi v]]]⟩) ?_ ?_
 ·simp only [go_sem,Nat.reduceLeDiff,↓reduceIte,reduceLT,reduceEqDiff,reduceAdd,Nat.reduceMul,Int.reduceToNat,Int.reduceLE,Int.reduceToNat,Int.le_refl,w02,w12,a0,b0,r1,r2,t1,t2,x0,Int.toNat_natCast]
  exact ⟨_,WkE.kp,rfl⟩
 refine CwpE.step (fun z=>z=⟨[(6,.ref 1 1 0 0),(7,vb (decide (0<=u) && decide (0<=v)))],[.arr 1 2 109 [vpair (p,q)],.arr 1 2 109 [.agg [vi u,vi v]],.arr 1 2 109 [.agg [vi u,vi v]]]⟩) ?_ ?_
 rotate_left
 ·rintro _ rfl
  refine CwpE.vc ?_
  simp only [go_sem,↓reduceIte,reduceLT,reduceEqDiff,reduceAdd]
  exact snap_tup2 (.tree _ rfl) (.tree _ rfl)
 by_cases hu:0<=u
 ·simp only [go_sem,↓reduceIte,reduceLT,reduceEqDiff,reduceAdd,Nat.reduceMul,Int.reduceToNat,Int.reduceLE,Int.reduceToNat,Int.le_refl,w02,w12,hu]
  repeat' apply And.intro
  all_goals exact ⟨_,WkE.kp,rfl⟩
 ·simp only [go_sem,↓reduceIte,reduceLT,reduceEqDiff,reduceAdd,Nat.reduceMul,Int.reduceToNat,Int.reduceToNat,Int.le_refl,w02,hu]
  repeat' apply And.intro
  all_goals exact ⟨_,WkE.kp,rfl⟩
theorem two_ok {a b:Au} (h:(twoM a b).1=0):VA a/\VA b/\a.sy=b.sy/\GrOk (twoM a b).2.1/\GrOk (twoM a b).2.2/\(twoM a b).2.1.acc.length<=256/\(twoM a b).2.2.acc.length<=256/\((twoM a b).2.1.sy:Int)=a.sy/\((twoM a b).2.2.sy:Int)=a.sy:=by
 have key:∀ {c:Au},(fixedM c).2=0->VA c->GrOk (tabG (fixedM c).1)/\(tabG (fixedM c).1).acc.length<=256/\((tabG (fixedM c).1).sy:Int)=c.sy:=fun {c} h hv=>by
  obtain ⟨_,g,d,h1,h2,h3,h4,h5,_⟩:=fixed_norm h
  rw [h3]
  simp only
  rw [tab_auOf h4.ok]
  refine ⟨h4.ok,h4.va.n.2,?_⟩
  have:=hv.sy
  omega
 unfold twoM at h ⊢
 simp only at h ⊢
 by_cases h1:validM a=0
 ·rw [if_pos h1] at h ⊢
  by_cases h2:validM b=0
  ·rw [if_pos h2] at h ⊢
   by_cases h3:a.sy=b.sy
   ·rw [if_pos h3] at h ⊢
    by_cases h4:(fixedM a).2=0
    ·rw [if_pos h4] at h ⊢
     by_cases h5:(fixedM b).2=0
     ·rw [if_pos h5]
      obtain ⟨a1,a2,a3⟩:=key h4 (valid_VA.1 h1)
      obtain ⟨b1,b2,b3⟩:=key h5 (valid_VA.1 h2)
      exact ⟨valid_VA.1 h1,valid_VA.1 h2,h3,a1,b1,a2,b2,a3,by rw [b3,h3]⟩
     ·rw [if_neg h5] at h;exact absurd h h5
    ·rw [if_neg h4] at h;exact absurd h h4
   ·rw [if_neg h3] at h;simp at h
  ·rw [if_neg h2] at h;exact absurd h h2
 ·rw [if_neg h1] at h;exact absurd h h1
set_option maxHeartbeats 4000000 in
theorem Both_s (a b:Au) (ha:SzA a) (hb:SzA b):Ctr Try.prog 36 [vau a,vau b] (vae (bothM a b)):=by
 refine specC f36 (by simp) fun F0 w0=>?_
 have htw:=two_s a b ha hb
 have hto:=two_ok (a:=a) (b:=b)
 rw [bothM]
 obtain ⟨e,g,h,ht⟩:∃ e g h,twoM a b=(e,g,h):=⟨_,_,_,rfl⟩
 rw [ht] at htw hto ⊢
 simp only at htw hto ⊢
 unfold c36
 refine CwpE.cut (st:=⟨[(2,.ref 0 1 0 0),(3,.ref 1 1 0 0),(4,.ref 2 1 0 0),(5,vi 0)],[oX a,oX b,.arr 1 3 34 [nil3]]⟩) ?_ ?_
 ·simp only [go_sem,↓reduceIte,reduceCtorEq,reduceLT,reduceEqDiff,reduceAdd]
  exact ⟨_,WkE.kp,rfl⟩
 refine CwpE.cut (st:=⟨[(7,pgr h),(6,pgr g),(2,.ref 0 1 0 0),(4,.ref 2 1 0 0),(5,vi 0),(8,vi e)],[oX a,oX b,.arr 1 3 34 [nil3],.dead,.dead]⟩) ?_ ?_
 ·simp only [go_sem,↓reduceIte,reduceLT,reduceEqDiff,reduceAdd]
  refine callT htw rfl ?_
  simp only [go_sem,↓reduceIte,reduceLT,reduceEqDiff,reduceAdd]
  refine ⟨_,(WkE.freezeS 6 3 1 3 97 [vgr g] (.ref 3 1 0 0) (pgr g) (by omega) rfl rfl ?_).trans ((WkE.freezeS 7 4 1 3 97 [vgr h] (.ref 4 1 0 0) (pgr h) (by omega) rfl rfl ?_).trans (WkE.kp)),rfl⟩
  ·refine .ref 3 1 0 0 _ _ rfl rfl fun i h1 h2=>?_
   match i,h1,h2 with
   | 0,_,_=>exact .tree _ rfl
   | 1,_,_=>exact .tree _ rfl
   | 2,_,_=>exact .tree _ rfl
  ·refine .ref 4 1 0 0 _ _ rfl rfl fun i h1 h2=>?_
   match i,h1,h2 with
   | 0,_,_=>exact .tree _ rfl
   | 1,_,_=>exact .tree _ rfl
   | 2,_,_=>exact .tree _ rfl
 by_cases he:e=0
 rotate_left
 ·rw [if_neg he]
  refine CwpE.vc ?_
  simp only [go_sem,↓reduceIte,reduceLT,reduceEqDiff,reduceAdd,he]
  exact snap_tup2 nil_snap (.tree _ rfl)
 subst he
 rw [if_pos rfl]
 obtain ⟨v1,v2,v3,gk,hk,gn,hn,gs,hs⟩:=hto rfl
 have hsy:=v1.sy
 have gn0:=gk.n
 have hn0:=hk.n
 refine CwpE.cut (st:=⟨[(7,pgr h),(6,pgr g),(2,.ref 0 1 0 0),(4,.ref 2 1 0 0),(5,vi 0)],[oX a,oX b,.arr 1 3 34 [nil3],.dead,.dead]⟩) ?_ ?_
 ·simp only [go_sem,↓reduceIte,reduceLT,reduceEqDiff]
  exact ⟨_,WkE.kp,rfl⟩
 have hex:=explB_s (InP g h) (fun s t _ _=>keyP_inj) (.clo (.func 69) [pgr g,pgr h]) (.clo (.func 70) [pgr g,pgr h]) (0,0) g.sy (by omega) (accB g h) (rawB g h) ⟨by omega,by simp only;omega,by omega,by simp only;omega⟩
  (fun k x hk2 hx hr=>by
   unfold rawB at hr ⊢
   simp only [Bool.and_eq_true,decide_eq_true_eq] at hr ⊢
   have h1:=gk.hi k.1.toNat x
   have h2:=hk.hi k.2.toNat x
   exact ⟨hr.1,by omega,hr.2,by omega⟩)
  (fun k hk2 objs=>.data 69 _ _ _ _ (.cons (.tree _ rfl) (.cons (.tree _ rfl) (.cons (.tree _ rfl) .nil))) (both1_s g h k hk2))
  (fun k x hk2 hx objs=>.data 70 _ _ _ _ (.cons (.tree _ rfl) (.cons (.tree _ rfl) (.cons (.tree _ rfl) (.cons (.tree _ rfl) .nil)))) (both2_s g h gk hk k hk2 x hx (by omega))) (fun k=>⟨rfl,rfl⟩)
 rw [nextE_rawB,gs] at hex
 rw [prodM]
 have hbs:=@bfs_ok PI _ 256 (by omega) (nextB g h) g.sy (0,0)
 cases hB:bfs 256 (nextB g h) g.sy (0,0) with
 | none =>
  rw [hB] at hex
  simp only [Option.map_none]
  refine CwpE.vc ?_
  simp only [go_sem,↓reduceIte,reduceLT,reduceEqDiff]
  refine callN hex (.cons (.tree _ rfl) (.cons (.tree _ rfl) (.cons (.tree _ rfl) (.cons (.tree _ rfl) .nil)))) ?_
  simp only [resE,go_sem,↓reduceIte,reduceLT,reduceEqDiff,reduceAdd,Int.reduceEq]
  exact snap_tup2 nil_snap (.tree _ rfl)
 | some r =>
  rw [hB,resE] at hex
  obtain ⟨l,rows⟩:=r
  obtain ⟨o1,o2,o3⟩:=hbs hB
  simp only [Option.map_some]
  have hl1:1<=l.length:=by have:=o3.length_le;simpa using this
  have hgo:=grOf_ok (acc:=accB g h) o1 o2 hl1
  have hlen:(grOf g.sy (accB g h) l rows).acc.length<=256:=by show (l.map _).length<=256;rw [List.length_map];exact o1.most
  have hGs:(grOf g.sy (accB g h) l rows).sy=g.sy:=rfl
  generalize grOf g.sy (accB g h) l rows=G at hex hgo hlen hGs ⊢
  have hls:=least_s G hgo (by omega) (by omega)
  rw [leastP_R hgo (by omega)] at hls
  refine CwpE.vc ?_
  simp only [go_sem,↓reduceIte,reduceLT,reduceEqDiff]
  refine callN hex (.cons (.tree _ rfl) (.cons (.tree _ rfl) (.cons (.tree _ rfl) (.cons (.tree _ rfl) .nil)))) ?_
  simp only [go_sem,↓reduceIte,reduceLT,reduceEqDiff,reduceAdd]
  refine callT hls rfl ?_
  simp only [go_sem,↓reduceIte,reduceLT,reduceEqDiff,reduceAdd]
  exact snap_tup2 (.tree _ rfl) (.tree _ rfl)
end Go.Proofs.Ytjilachpkjlhdaa
namespace P5
theorem neg_to {g:Gr} (h:GrOk g) {i x:Nat} (hi:i<=g.acc.length) (hx:x<g.sy):gto (negG g) i x=if gto g i x<0 then (g.acc.length:Int) else gto g i x:=by
 have hl:=h.len
 unfold gto negG
 simp only [List.getD_eq_getElem?_getD]
 by_cases hi2:i<g.acc.length
 ·have hr:=h.row g.to[i] (List.getElem_mem _)
  rw [List.getElem?_append_left (by rw [List.length_map];omega),List.getElem?_map,List.getElem?_eq_getElem (l:=g.to) (i:=i) (by omega)]
  simp only [Option.map_some,Option.getD_some]
  rw [List.getElem?_map,List.getElem?_eq_getElem (i:=x) (by rw [hr];exact hx)]
  rfl
 ·have:i=g.acc.length:=by omega
  subst this
  rw [List.getElem?_append_right (by rw [List.length_map];omega),List.length_map,hl,Nat.sub_self,List.getElem?_eq_none (l:=g.to) (by omega)]
  simp only [List.getElem?_cons_zero,Option.getD_some,Option.getD_none,List.getElem?_nil]
  rw [List.getElem?_replicate_of_lt hx]
  simp
theorem neg_acc {g:Gr} {i:Nat} (hi:i<=g.acc.length):bt (negG g).acc i = !bt g.acc i:=by
 unfold bt negG
 simp only [List.getD_eq_getElem?_getD]
 by_cases hi2:i<g.acc.length
 ·rw [List.getElem?_append_left (by rw [List.length_map];omega),List.getElem?_map,List.getElem?_eq_getElem (by omega)]
  rfl
 ·have:i=g.acc.length:=by omega
  subst this
  rw [List.getElem?_append_right (by rw [List.length_map];omega),List.length_map,Nat.sub_self,List.getElem?_eq_none (l:=g.acc) (by omega)]
  rfl
end P5
namespace Go.Proofs.Ytjilachpkjlhdaa
open Go.RowKit Dak P5
open Nat (reduceEqDiff reduceLT reduceAdd)
theorem checked_sz (g:Gr):SzA (checkedM g).1:=by
 rcases checked_cases g with ⟨h,e⟩ | ⟨_,e⟩
 ·rw [e];exact szA_va h
 ·rw [e];exact ⟨by simp,by simp⟩
theorem nilA_sz:SzA nilA:=⟨by simp,by simp⟩
theorem both_sz (a b:Au):SzA (bothM a b).1:=by
 unfold bothM
 simp only
 split
 ·split
  ·exact nilA_sz
  ·exact checked_sz _
 ·exact nilA_sz
theorem not_sz (a:Au):SzA (P5.notM a).1:=by
 unfold P5.notM
 split
 ·exact checked_sz _
 ·exact nilA_sz
end Go.Proofs.Ytjilachpkjlhdaa
