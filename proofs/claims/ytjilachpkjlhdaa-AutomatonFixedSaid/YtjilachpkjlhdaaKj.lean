/- Lemmas used by Combines, Fixed. -/
import Derived.Test.YtjilachpkjlhdaaKa
import Derived.Test.YtjilachpkjlhdaaKb
import Derived.Test.YtjilachpkjlhdaaKc
import Derived.Test.YtjilachpkjlhdaaKd
import Derived.Test.YtjilachpkjlhdaaKe
import Derived.Test.YtjilachpkjlhdaaKf
import Derived.Test.YtjilachpkjlhdaaKg
import Derived.Test.YtjilachpkjlhdaaKh
import Derived.Test.YtjilachpkjlhdaaProg
import Derived.WalkKit
import Derived.WalkSpells
import Derived.WalkLawsBesides
import Derived.Orders
import Derived.Laws.MakeOwn
import Derived.Deep.AppendSrc
import Derived.Lib.AppendZerosOnto
import Derived.Defers
import Derived.Laws.BytesString
import Derived.Laws.StructEq
import Derived.Scope
import Derived.Deep.LoopGhost
import Derived.OrdersIn
import Derived.ControlIn
import Derived.Sort.LoopGhostIn
import Derived.RangeFuncLeaves
import Derived.RangeFuncRecord
import Derived.RangeFuncFrom
import Derived.RangeFuncNested
set_option linter.unusedSimpArgs false
set_option linter.unusedVariables false
set_option linter.unusedSectionVars false
set_option maxRecDepth 100000
namespace Go.Proofs.Ytjilachpkjlhdaa
open Dak
def c23:CCode :=
 (.seq (.region [oo 1 (.box 26 (T 0)),oo 2 (.alloc 26 (.agg [(.val (.int .i64 0)),(.val (.slice none 0 0)),(.val (.slice none 0 0))])),oo 3 (.mov (kk 0))])
 (.seq (.region [oo 7 (.load true 3 (T 1)),oo 8 (.call (.func 15) [(T 7)]),vv 4 8])
 (.seq (.seq (.region [vv 9 4,oo 10 (.ibin .neq (T 9) (kk 0))])
 (.cond (T 10)
 (.seq (.region [oo 11 (.build [(.val (.int .i64 0)),(.val (.slice none 0 0)),(.val (.slice none 0 0))] []),vv 12 4,nn (.store 3 (T 2) (T 11)),vv 3 12])
 .ret)
 .skip))
 (.seq (.region [oo 14 (.load true 3 (T 1)),oo 15 (.call (.func 51) [(T 14)]),vv 13 15,oo 16 (.extract (T 13) 0),oo 17 (.extract (T 13) 1),oo 5 (.alloc 26 (.agg [(.val (.int .i64 0)),(.val (.slice none 0 0)),(.val (.slice none 0 0))])),nn (.store 3 (T 5) (T 16)),vv 6 17])
 (.seq (.seq (.region [vv 18 6,oo 19 (.ibin .neq (T 18) (kk 0))])
 (.cond (T 19)
 (.seq (.region [oo 20 (.build [(.val (.int .i64 0)),(.val (.slice none 0 0)),(.val (.slice none 0 0))] []),vv 21 6,nn (.store 3 (T 2) (T 20)),vv 3 21])
 .ret)
 .skip))
 (.seq (.region [oo 22 (.load true 3 (T 5)),oo 23 (.call (.func 53) [(T 22)]),oo 24 (.call (.func 52) [(T 23)]),oo 25 (.extract (T 24) 0),oo 26 (.extract (T 24) 1),nn (.store 3 (T 2) (T 25)),vv 3 26])
 .ret))))))
theorem f23:fnC Try.prog 23=some (c23,27,[(.cell 2 true 3),(.tmp 3)]):=by kernel_rfl
end Go.Proofs.Ytjilachpkjlhdaa
namespace Go.Proofs.Ytjilachpkjlhdaa
open Dak
def c51:CCode :=
 (.seq (.region [oo 1 (.box 26 (T 0)),oo 2 (.alloc 26 (.agg [(.val (.int .i64 0)),(.val (.slice none 0 0)),(.val (.slice none 0 0))])),oo 3 (.mov (kk 0))])
 (.seq (.region [oo 11 (.load true 3 (T 1)),oo 12 (.call (.func 44) [(T 11)]),oo 13 (.bslice 23 1 [(T 12)]),vv 4 13])
 (.seq (.region [oo 14 (.fieldAddr 0 (T 1)),oo 15 (.load false 1 (T 14)),oo 16 (.build [(.val (.int .i64 0)),(.val (.slice none 0 0)),(.val (.slice none 0 0))] [(0,(1,(T 15)))]),oo 5 (.alloc 26 (.agg [(.val (.int .i64 0)),(.val (.slice none 0 0)),(.val (.slice none 0 0))])),nn (.store 3 (T 5) (T 16))])
 (.seq (.seq (.region [oo 6 (.mov (kk 0))])
 (.block 0 (.loop
 (.seq (.seq (.region [vv 17 6,vv 18 4,oo 19 (.len (T 18)),oo 20 (.ibin .lss (T 17) (T 19))])
 (.cond (T 20)
 .skip
 (.exit 0)))
 (.seq (.block 1 (.seq (.drawn [oo 23 (.fieldAddr 1 (T 5)),oo 24 (.load false 1 (T 23)),oo 25 (.load true 3 (T 1)),vv 26 4,vv 27 6,oo 28 (.idxS 1 (T 26) (T 27)),oo 29 (.load false 1 (T 28))] [(oo 30 (.call (.func 46) [(T 25),(T 29)]),[oo 23 (.fieldAddr 1 (T 5)),oo 24 (.load false 1 (T 23))]),(oo 31 (.bslice 4 1 [(T 30)]),[oo 23 (.fieldAddr 1 (T 5)),oo 24 (.load false 1 (T 23))]),(oo 32 (.append 4 1 1 (T 24) (T 31)),[]),(oo 33 (.fieldAddr 1 (T 5)),[]),(nn (.store 1 (T 33) (T 32)),[])])
 (.seq (.region [oo 7 (.mov (kk 0))])
 (.block 2 (.loop
 (.seq (.seq (.region [vv 34 7,oo 35 (.fieldAddr 0 (T 1)),oo 36 (.load false 1 (T 35)),oo 37 (.ibin .lss (T 34) (T 36))])
 (.cond (T 37)
 .skip
 (.exit 2)))
 (.seq (.block 3 (.seq (.drawn [oo 41 (.load true 3 (T 1)),vv 42 4,vv 43 6,oo 44 (.idxS 1 (T 42) (T 43)),oo 45 (.load false 1 (T 44)),vv 46 7] [(oo 47 (.call (.func 45) [(T 41),(T 45),(T 46)]),[]),(vv 40 47,[]),(oo 48 (.extract (T 40) 0),[]),(oo 49 (.extract (T 40) 1),[]),(vv 8 48,[]),(vv 9 49,[])])
 (.seq (.seq (.region [vv 50 9,oo 51 (.lnot (T 50))])
 (.cond (T 51)
 (.exit 3)
 .skip))
 (.seq (.region [vv 52 4,vv 53 8,oo 54 (.call (.func 64) [(T 52),(T 53)]),vv 10 54])
 (.seq (.seq (.region [vv 55 10,oo 56 (.ibin .lss (T 55) (kk 0))])
 (.cond (T 56)
 (.seq (.region [vv 57 4,oo 58 (.len (T 57)),vv 10 58])
 (.region [vv 59 4,vv 60 8,oo 61 (.bslice 23 1 [(T 60)]),oo 62 (.append 23 1 24 (T 59) (T 61)),vv 4 62]))
 .skip))
 (.seq (.seq (.region [vv 63 4,oo 64 (.len (T 63)),oo 65 (.ibin .gtr (T 64) (kk 256))])
 (.cond (T 65)
 (.seq (.region [oo 66 (.build [(.val (.int .i64 0)),(.val (.slice none 0 0)),(.val (.slice none 0 0))] []),nn (.store 3 (T 2) (T 66)),oo 3 (.mov (kk 4))])
 .ret)
 .skip))
 (.region [oo 67 (.fieldAddr 2 (T 5)),oo 68 (.load false 1 (T 67)),vv 69 6,vv 70 7,vv 71 10,oo 72 (.build [(.val (.int .i64 0)),(.val (.int .i64 0)),(.val (.int .i64 0))] [(0,(1,(T 69))),(1,(1,(T 70))),(2,(1,(T 71)))]),oo 73 (.bslice 71 3 [(T 72)]),oo 74 (.append 71 3 24 (T 68) (T 73)),oo 75 (.fieldAddr 2 (T 5)),nn (.store 1 (T 75) (T 74))])))))))
 (.region [vv 38 7,oo 39 (.ibin .add (T 38) (kk 1)),vv 7 39]))))))))
 (.region [vv 21 6,oo 22 (.ibin .add (T 21) (kk 1)),vv 6 22]))))))
 (.seq (.region [oo 76 (.load true 3 (T 5)),nn (.store 3 (T 2) (T 76)),oo 3 (.mov (kk 0))])
 .ret)))))
theorem f51:fnC Try.prog 51=some (c51,77,[(.cell 2 true 3),(.tmp 3)]):=by kernel_rfl
def c52:CCode :=
 (.seq (.region [oo 1 (.box 26 (T 0)),oo 2 (.alloc 26 (.agg [(.val (.int .i64 0)),(.val (.slice none 0 0)),(.val (.slice none 0 0))])),oo 3 (.mov (kk 0))])
 (.seq (.seq (.region [oo 4 (.load true 3 (T 1)),oo 5 (.call (.func 15) [(T 4)]),oo 6 (.ibin .neq (T 5) (kk 0))])
 (.cond (T 6)
 (.seq (.region [oo 7 (.build [(.val (.int .i64 0)),(.val (.slice none 0 0)),(.val (.slice none 0 0))] []),nn (.store 3 (T 2) (T 7)),oo 3 (.mov (kk 4))])
 .ret)
 .skip))
 (.seq (.region [oo 8 (.load true 3 (T 1)),nn (.store 3 (T 2) (T 8)),oo 3 (.mov (kk 0))])
 .ret)))
theorem f52:fnC Try.prog 52=some (c52,9,[(.cell 2 true 3),(.tmp 3)]):=by kernel_rfl
def c53:CCode :=
 (.seq (.region [oo 1 (.box 26 (T 0)),oo 2 (.alloc 26 (.agg [(.val (.int .i64 0)),(.val (.slice none 0 0)),(.val (.slice none 0 0))]))])
 (.seq (.region [oo 13 (.load true 3 (T 1)),oo 14 (.call (.func 71) [(T 13)]),vv 3 14])
 (.seq (.region [oo 15 (.load true 3 (T 1)),vv 16 3,oo 17 (.call (.func 77) [(T 15),(T 16)]),vv 4 17])
 (.seq (.region [oo 18 (.fieldAddr 0 (T 1)),oo 19 (.load false 1 (T 18)),oo 20 (.build [(.val (.int .i64 0)),(.val (.slice none 0 0)),(.val (.slice none 0 0))] [(0,(1,(T 19)))]),oo 5 (.alloc 26 (.agg [(.val (.int .i64 0)),(.val (.slice none 0 0)),(.val (.slice none 0 0))])),nn (.store 3 (T 5) (T 20))])
 (.seq (.region [oo 21 (.bslice 3 1 [(kk 0)]),vv 6 21])
 (.seq (.seq (.region [oo 7 (.mov (kk 0))])
 (.block 0 (.loop
 (.seq (.seq (.region [vv 22 7,vv 23 6,oo 24 (.len (T 23)),oo 25 (.ibin .lss (T 22) (T 24))])
 (.cond (T 25)
 .skip
 (.exit 0)))
 (.seq (.block 1 (.seq (.region [vv 28 6,vv 29 7,oo 30 (.idxS 1 (T 28) (T 29)),oo 31 (.load false 1 (T 30)),vv 8 31])
 (.seq (.drawn [oo 32 (.fieldAddr 1 (T 5)),oo 33 (.load false 1 (T 32)),oo 34 (.fieldAddr 1 (T 1)),oo 35 (.load false 1 (T 34)),vv 36 8,oo 37 (.idxS 1 (T 35) (T 36)),oo 38 (.load false 1 (T 37)),oo 39 (.bslice 4 1 [(T 38)])] [(oo 40 (.append 4 1 1 (T 33) (T 39)),[]),(oo 41 (.fieldAddr 1 (T 5)),[]),(nn (.store 1 (T 41) (T 40)),[])])
 (.seq (.region [oo 9 (.mov (kk 0))])
 (.block 2 (.loop
 (.seq (.seq (.region [vv 42 9,oo 43 (.fieldAddr 0 (T 1)),oo 44 (.load false 1 (T 43)),oo 45 (.ibin .lss (T 42) (T 44))])
 (.cond (T 45)
 .skip
 (.exit 2)))
 (.seq (.block 3 (.seq (.region [vv 48 3,vv 49 8,oo 50 (.idxS 1 (T 48) (T 49)),oo 51 (.load false 1 (T 50)),vv 52 9,oo 53 (.idxS 1 (T 51) (T 52)),oo 54 (.load false 1 (T 53)),vv 10 54])
 (.seq (.seq (.region [vv 55 10,oo 56 (.ibin .lss (T 55) (kk 0)),vv 57 56,vf 58 57 4,vf 59 57 10,gf 60 57 (.imax (T 59) (kk 0)),gf 61 57 (.idxS 1 (T 58) (T 60)),gf 62 57 (.load false 1 (T 61)),gf 63 57 (.ibin .lss (T 62) (kk 0)),oo 64 (.pick (T 57) (.const (.bool true)) (T 63))])
 (.cond (T 64)
 (.exit 3)
 .skip))
 (.seq (.region [oo 11 (.mov (kk (-1)))])
 (.seq (.seq (.region [oo 12 (.mov (kk 0))])
 (.block 4 (.loop
 (.seq (.seq (.region [vv 65 12,vv 66 6,oo 67 (.len (T 66)),oo 68 (.ibin .lss (T 65) (T 67))])
 (.cond (T 68)
 .skip
 (.exit 4)))
 (.seq (.block 5 (.seq (.drawn [vv 71 4,vv 72 6,vv 73 12,oo 74 (.idxS 1 (T 72) (T 73)),oo 75 (.load false 1 (T 74)),oo 76 (.idxS 1 (T 71) (T 75)),oo 77 (.load false 1 (T 76)),vv 78 4,vv 79 10,oo 80 (.idxS 1 (T 78) (T 79)),oo 81 (.load false 1 (T 80)),oo 82 (.ibin .eql (T 77) (T 81))] [])
 (.cond (T 82)
 (.region [vv 83 12,vv 11 83])
 .skip)))
 (.region [vv 69 12,oo 70 (.ibin .add (T 69) (kk 1)),vv 12 70]))))))
 (.seq (.seq (.region [vv 84 11,oo 85 (.ibin .lss (T 84) (kk 0))])
 (.cond (T 85)
 (.seq (.region [vv 86 6,oo 87 (.len (T 86)),vv 11 87])
 (.region [vv 88 6,vv 89 10,oo 90 (.bslice 3 1 [(T 89)]),oo 91 (.append 3 1 8 (T 88) (T 90)),vv 6 91]))
 .skip))
 (.region [oo 92 (.fieldAddr 2 (T 5)),oo 93 (.load false 1 (T 92)),vv 94 7,vv 95 9,vv 96 11,oo 97 (.build [(.val (.int .i64 0)),(.val (.int .i64 0)),(.val (.int .i64 0))] [(0,(1,(T 94))),(1,(1,(T 95))),(2,(1,(T 96)))]),oo 98 (.bslice 71 3 [(T 97)]),oo 99 (.append 71 3 24 (T 93) (T 98)),oo 100 (.fieldAddr 2 (T 5)),nn (.store 1 (T 100) (T 99))])))))))
 (.region [vv 46 9,oo 47 (.ibin .add (T 46) (kk 1)),vv 9 47])))))))))
 (.region [vv 26 7,oo 27 (.ibin .add (T 26) (kk 1)),vv 7 27]))))))
 (.seq (.region [oo 101 (.load true 3 (T 5)),nn (.store 3 (T 2) (T 101))])
 .ret)))))))
theorem f53:fnC Try.prog 53=some (c53,102,[(.cell 2 true 3)]):=by kernel_rfl
def c64:CCode :=
 (.seq (.region [oo 4 (.mov (kk 0))])
 (.seq (.seq (.region [oo 5 (.mov (kk 0))])
 (.block 0 (.loop
 (.seq (.seq (.region [vv 8 5,vv 9 0,oo 10 (.len (T 9)),oo 11 (.ibin .lss (T 8) (T 10))])
 (.cond (T 11)
 .skip
 (.exit 0)))
 (.seq (.block 1 (.seq (.region [oo 6 (.mov (.const (.bool true)))])
 (.seq (.seq (.region [oo 7 (.mov (kk 0))])
 (.block 2 (.loop
 (.seq (.seq (.region [vv 14 7,vv 15 1,oo 16 (.len (T 15)),oo 17 (.ibin .lss (T 14) (T 16)),vv 18 17,vt 19 18 6,oo 20 (.pick (T 18) (T 19) (.const (.bool false)))])
 (.cond (T 20)
 .skip
 (.exit 2)))
 (.seq (.block 3 (.drawn [vv 23 0,vv 24 5,oo 25 (.idxS 1 (T 23) (T 24)),oo 26 (.load false 1 (T 25)),vv 27 7,oo 28 (.idxS 1 (T 26) (T 27)),oo 29 (.load false 1 (T 28)),vv 30 1,vv 31 7,oo 32 (.idxS 1 (T 30) (T 31)),oo 33 (.load false 1 (T 32)),oo 34 (.bbin .eql (T 29) (T 33)),vv 6 34] []))
 (.region [vv 21 7,oo 22 (.ibin .add (T 21) (kk 1)),vv 7 22]))))))
 (.seq (.region [vv 35 6])
 (.cond (T 35)
 (.seq (.region [vv 36 5,vv 4 36])
 .ret)
 .skip)))))
 (.region [vv 12 5,oo 13 (.ibin .add (T 12) (kk 1)),vv 5 13]))))))
 (.seq (.region [oo 4 (.mov (kk (-1)))])
 .ret)))
theorem f64:fnC Try.prog 64=some (c64,37,[(.tmp 4)]):=by kernel_rfl
def c71:CCode :=
 (.seq (.region [oo 1 (.box 26 (T 0)),oo 2 (.mov (.const (.slice none 0 0)))])
 (.seq (.region [oo 7 (.fieldAddr 1 (T 1)),oo 8 (.load false 1 (T 7)),oo 9 (.len (T 8)),oo 10 (.mkslice 22 1 24 (.val (.slice none 0 0)) (T 9) (T 9)),vv 3 10])
 (.seq (.seq (.region [oo 4 (.mov (kk 0))])
 (.block 0 (.loop
 (.seq (.seq (.region [vv 11 4,vv 12 3,oo 13 (.len (T 12)),oo 14 (.ibin .lss (T 11) (T 13))])
 (.cond (T 14)
 .skip
 (.exit 0)))
 (.seq (.block 1 (.seq (.region [vv 17 3,vv 18 4,oo 19 (.fieldAddr 0 (T 1)),oo 20 (.load false 1 (T 19)),oo 21 (.mkslice 3 1 8 (.val (.int .i64 0)) (T 20) (T 20)),oo 22 (.idxS 1 (T 17) (T 18)),nn (.store 1 (T 22) (T 21))])
 (.seq (.region [oo 5 (.mov (kk 0))])
 (.block 2 (.loop
 (.seq (.seq (.region [vv 23 5,oo 24 (.fieldAddr 0 (T 1)),oo 25 (.load false 1 (T 24)),oo 26 (.ibin .lss (T 23) (T 25))])
 (.cond (T 26)
 .skip
 (.exit 2)))
 (.seq (.block 3 (.region [vv 29 3,vv 30 4,oo 31 (.idxS 1 (T 29) (T 30)),oo 32 (.load false 1 (T 31)),vv 33 5,oo 34 (.idxS 1 (T 32) (T 33)),nn (.store 1 (T 34) (kk (-1)))]))
 (.region [vv 27 5,oo 28 (.ibin .add (T 27) (kk 1)),vv 5 28]))))))))
 (.region [vv 15 4,oo 16 (.ibin .add (T 15) (kk 1)),vv 4 16]))))))
 (.seq (.seq (.region [oo 6 (.mov (kk 0))])
 (.block 4 (.loop
 (.seq (.seq (.region [vv 35 6,oo 36 (.fieldAddr 2 (T 1)),oo 37 (.load false 1 (T 36)),oo 38 (.len (T 37)),oo 39 (.ibin .lss (T 35) (T 38))])
 (.cond (T 39)
 .skip
 (.exit 4)))
 (.seq (.block 5 (.drawn [vv 42 3,oo 43 (.fieldAddr 2 (T 1)),oo 44 (.load false 1 (T 43)),vv 45 6,oo 46 (.idxS 3 (T 44) (T 45)),oo 47 (.fieldAddr 0 (T 46)),oo 48 (.load false 1 (T 47)),oo 49 (.idxS 1 (T 42) (T 48)),oo 50 (.load false 1 (T 49)),oo 51 (.fieldAddr 2 (T 1)),oo 52 (.load false 1 (T 51)),vv 53 6,oo 54 (.idxS 3 (T 52) (T 53)),oo 55 (.fieldAddr 1 (T 54)),oo 56 (.load false 1 (T 55)),oo 57 (.fieldAddr 2 (T 1)),oo 58 (.load false 1 (T 57)),vv 59 6,oo 60 (.idxS 3 (T 58) (T 59)),oo 61 (.fieldAddr 2 (T 60)),oo 62 (.load false 1 (T 61)),oo 63 (.idxS 1 (T 50) (T 56))] [(nn (.store 1 (T 63) (T 62)),[])]))
 (.region [vv 40 6,oo 41 (.ibin .add (T 40) (kk 1)),vv 6 41]))))))
 (.seq (.region [vv 64 3,vv 2 64])
 .ret)))))
theorem f71:fnC Try.prog 71=some (c71,65,[(.tmp 2)]):=by kernel_rfl
def c77:CCode :=
 (.seq (.region [oo 2 (.box 26 (T 0)),oo 4 (.mov (.const (.slice none 0 0)))])
 (.seq (.region [oo 13 (.load true 3 (T 2)),oo 14 (.call (.func 82) [(T 13)]),vv 5 14])
 (.seq (.region [oo 15 (.fieldAddr 1 (T 2)),oo 16 (.load false 1 (T 15)),oo 17 (.len (T 16)),oo 18 (.mkslice 3 1 8 (.val (.int .i64 0)) (T 17) (T 17)),vv 6 18])
 (.seq (.seq (.region [oo 7 (.mov (kk 0))])
 (.block 0 (.loop
 (.seq (.seq (.region [vv 19 7,vv 20 6,oo 21 (.len (T 20)),oo 22 (.ibin .lss (T 19) (T 21))])
 (.cond (T 22)
 .skip
 (.exit 0)))
 (.seq (.block 1 (.seq (.region [vv 25 6,vv 26 7,oo 27 (.idxS 1 (T 25) (T 26)),nn (.store 1 (T 27) (kk (-1)))])
 (.seq (.region [vv 28 5,vv 29 7,oo 30 (.idxS 1 (T 28) (T 29)),oo 31 (.load false 1 (T 30))])
 (.cond (T 31)
 (.seq (.region [vv 32 6,vv 33 7,oo 34 (.idxS 1 (T 32) (T 33)),nn (.store 1 (T 34) (kk 0))])
 (.seq (.region [oo 35 (.fieldAddr 1 (T 2)),oo 36 (.load false 1 (T 35)),vv 37 7,oo 38 (.idxS 1 (T 36) (T 37)),oo 39 (.load false 1 (T 38))])
 (.cond (T 39)
 (.region [vv 40 6,vv 41 7,oo 42 (.idxS 1 (T 40) (T 41)),nn (.store 1 (T 42) (kk 1))])
 .skip)))
 .skip))))
 (.region [vv 23 7,oo 24 (.ibin .add (T 23) (kk 1)),vv 7 24]))))))
 (.seq (.region [oo 8 (.mov (kk 0))])
 (.block 2 (.loop
 (.block 3 (.seq (.region [vv 43 6,oo 44 (.len (T 43)),oo 45 (.mkslice 3 1 8 (.val (.int .i64 0)) (T 44) (T 44)),vv 9 45])
 (.seq (.region [oo 10 (.mov (.const (.slice none 0 0)))])
 (.seq (.seq (.region [oo 11 (.mov (kk 0))])
 (.block 4 (.loop
 (.seq (.seq (.region [vv 46 11,vv 47 6,oo 48 (.len (T 47)),oo 49 (.ibin .lss (T 46) (T 48))])
 (.cond (T 49)
 .skip
 (.exit 4)))
 (.seq (.block 5 (.seq (.region [vv 52 9,vv 53 11,oo 54 (.idxS 1 (T 52) (T 53)),nn (.store 1 (T 54) (kk (-1)))])
 (.seq (.seq (.region [vv 55 5,vv 56 11,oo 57 (.idxS 1 (T 55) (T 56)),oo 58 (.load false 1 (T 57)),oo 59 (.lnot (T 58))])
 (.cond (T 59)
 (.exit 5)
 .skip))
 (.seq (.seq (.region [oo 12 (.mov (kk 0))])
 (.block 6 (.loop
 (.seq (.seq (.region [vv 60 12,vv 61 10,oo 62 (.len (T 61)),oo 63 (.ibin .lss (T 60) (T 62))])
 (.cond (T 63)
 .skip
 (.exit 6)))
 (.seq (.block 7 (.seq (.region [vv 66 6,vv 67 1,vv 68 11,vv 69 10,vv 70 12,oo 71 (.idxS 1 (T 69) (T 70)),oo 72 (.load false 1 (T 71)),oo 73 (.call (.func 83) [(T 66),(T 67),(T 68),(T 72)])])
 (.cond (T 73)
 (.region [vv 74 9,vv 75 11,vv 76 12,oo 77 (.idxS 1 (T 74) (T 75)),nn (.store 1 (T 77) (T 76))])
 .skip)))
 (.region [vv 64 12,oo 65 (.ibin .add (T 64) (kk 1)),vv 12 65]))))))
 (.seq (.region [vv 78 9,vv 79 11,oo 80 (.idxS 1 (T 78) (T 79)),oo 81 (.load false 1 (T 80)),oo 82 (.ibin .lss (T 81) (kk 0))])
 (.cond (T 82)
 (.seq (.region [vv 83 9,vv 84 11,vv 85 10,oo 86 (.len (T 85)),oo 87 (.idxS 1 (T 83) (T 84)),nn (.store 1 (T 87) (T 86))])
 (.region [vv 88 10,vv 89 11,oo 90 (.bslice 3 1 [(T 89)]),oo 91 (.append 3 1 8 (T 88) (T 90)),vv 10 91]))
 .skip))))))
 (.region [vv 50 11,oo 51 (.ibin .add (T 50) (kk 1)),vv 11 51]))))))
 (.seq (.region [vv 92 9,vv 6 92])
 (.seq (.seq (.region [vv 93 10,oo 94 (.len (T 93)),vv 95 8,oo 96 (.ibin .eql (T 94) (T 95))])
 (.cond (T 96)
 (.seq (.region [vv 97 6,vv 4 97])
 .ret)
 .skip))
 (.region [vv 98 10,oo 99 (.len (T 98)),vv 8 99]))))))))))))))
theorem f77:fnC Try.prog 77=some (c77,100,[(.tmp 4)]):=by kernel_rfl
def c82:CCode :=
 (.seq (.region [oo 1 (.box 26 (T 0)),oo 2 (.mov (.const (.slice none 0 0)))])
 (.seq (.region [oo 3 (.mov (.const (.slice none 0 0)))])
 (.seq (.region [vv 7 3,oo 8 (.fieldAddr 1 (T 1)),oo 9 (.load false 1 (T 8)),oo 10 (.append 4 1 1 (T 7) (T 9)),vv 3 10])
 (.seq (.seq (.region [oo 4 (.mov (.const (.bool true)))])
 (.block 0 (.loop
 (.seq (.seq (.region [vv 11 4])
 (.cond (T 11)
 .skip
 (.exit 0)))
 (.block 1 (.seq (.region [oo 4 (.mov (.const (.bool false)))])
 (.seq (.region [oo 5 (.mov (kk 0))])
 (.block 2 (.loop
 (.seq (.seq (.region [vv 12 5,oo 13 (.fieldAddr 2 (T 1)),oo 14 (.load false 1 (T 13)),oo 15 (.len (T 14)),oo 16 (.ibin .lss (T 12) (T 15))])
 (.cond (T 16)
 .skip
 (.exit 2)))
 (.seq (.block 3 (.seq (.region [oo 19 (.fieldAddr 2 (T 1)),oo 20 (.load false 1 (T 19)),vv 21 5,oo 22 (.idxS 3 (T 20) (T 21)),oo 23 (.load true 3 (T 22)),oo 6 (.alloc 71 (.agg [(.val (.int .i64 0)),(.val (.int .i64 0)),(.val (.int .i64 0))])),nn (.store 3 (T 6) (T 23))])
 (.seq (.region [vv 24 3,oo 25 (.fieldAddr 2 (T 6)),oo 26 (.load false 1 (T 25)),oo 27 (.idxS 1 (T 24) (T 26)),oo 28 (.load false 1 (T 27)),vv 29 28,vt 30 29 3,gt 31 29 (.fieldAddr 0 (T 6)),gt 32 29 (.load false 1 (T 31)),gt 33 29 (.idxS 1 (T 30) (T 32)),gt 34 29 (.load false 1 (T 33)),gt 35 29 (.lnot (T 34)),oo 36 (.pick (T 29) (T 35) (.const (.bool false)))])
 (.cond (T 36)
 (.seq (.region [vv 37 3,oo 38 (.fieldAddr 0 (T 6)),oo 39 (.load false 1 (T 38)),oo 40 (.idxS 1 (T 37) (T 39)),nn (.store 1 (T 40) (.const (.bool true)))])
 (.region [oo 4 (.mov (.const (.bool true)))]))
 .skip))))
 (.region [vv 17 5,oo 18 (.ibin .add (T 17) (kk 1)),vv 5 18]))))))))))))
 (.seq (.region [vv 41 3,vv 2 41])
 .ret)))))
theorem f82:fnC Try.prog 82=some (c82,42,[(.tmp 2)]):=by kernel_rfl
def c83:CCode :=
 (.seq (.region [oo 8 (.mov (.const (.bool false)))])
 (.seq (.seq (.drawn [vv 12 0,vv 13 2,oo 14 (.idxS 1 (T 12) (T 13)),oo 15 (.load false 1 (T 14)),vv 16 0,vv 17 3,oo 18 (.idxS 1 (T 16) (T 17)),oo 19 (.load false 1 (T 18)),oo 20 (.ibin .neq (T 15) (T 19))] [])
 (.cond (T 20)
 (.seq (.region [oo 8 (.mov (.const (.bool false)))])
 .ret)
 .skip))
 (.seq (.seq (.region [oo 9 (.mov (kk 0))])
 (.block 0 (.loop
 (.seq (.seq (.region [vv 21 9,vv 22 1,vv 23 2,oo 24 (.idxS 1 (T 22) (T 23)),oo 25 (.load false 1 (T 24)),oo 26 (.len (T 25)),oo 27 (.ibin .lss (T 21) (T 26))])
 (.cond (T 27)
 .skip
 (.exit 0)))
 (.seq (.block 1 (.seq (.region [oo 10 (.mov (kk (-1)))])
 (.seq (.seq (.region [vv 30 1,vv 31 2,oo 32 (.idxS 1 (T 30) (T 31)),oo 33 (.load false 1 (T 32)),vv 34 9,oo 35 (.idxS 1 (T 33) (T 34)),oo 36 (.load false 1 (T 35)),oo 37 (.ibin .geq (T 36) (kk 0))])
 (.cond (T 37)
 (.region [vv 38 0,vv 39 1,vv 40 2,oo 41 (.idxS 1 (T 39) (T 40)),oo 42 (.load false 1 (T 41)),vv 43 9,oo 44 (.idxS 1 (T 42) (T 43)),oo 45 (.load false 1 (T 44)),oo 46 (.idxS 1 (T 38) (T 45)),oo 47 (.load false 1 (T 46)),vv 10 47])
 .skip))
 (.seq (.region [oo 11 (.mov (kk (-1)))])
 (.seq (.seq (.region [vv 48 1,vv 49 3,oo 50 (.idxS 1 (T 48) (T 49)),oo 51 (.load false 1 (T 50)),vv 52 9,oo 53 (.idxS 1 (T 51) (T 52)),oo 54 (.load false 1 (T 53)),oo 55 (.ibin .geq (T 54) (kk 0))])
 (.cond (T 55)
 (.region [vv 56 0,vv 57 1,vv 58 3,oo 59 (.idxS 1 (T 57) (T 58)),oo 60 (.load false 1 (T 59)),vv 61 9,oo 62 (.idxS 1 (T 60) (T 61)),oo 63 (.load false 1 (T 62)),oo 64 (.idxS 1 (T 56) (T 63)),oo 65 (.load false 1 (T 64)),vv 11 65])
 .skip))
 (.seq (.region [vv 66 10,vv 67 11,oo 68 (.ibin .neq (T 66) (T 67))])
 (.cond (T 68)
 (.seq (.region [oo 8 (.mov (.const (.bool false)))])
 .ret)
 .skip)))))))
 (.region [vv 28 9,oo 29 (.ibin .add (T 28) (kk 1)),vv 9 29]))))))
 (.seq (.region [oo 8 (.mov (.const (.bool true)))])
 .ret))))
theorem f83:fnC Try.prog 83=some (c83,69,[(.tmp 8)]):=by kernel_rfl
end Go.Proofs.Ytjilachpkjlhdaa
namespace Go.Proofs.Ytjilachpkjlhdaa
open Go.RowKit Dak P5
open Nat (reduceEqDiff reduceLT reduceAdd)
abbrev vsets (l:List (List Bool)):AV:=.list 1 (l.map vbools)
end Go.Proofs.Ytjilachpkjlhdaa
namespace Go.Proofs.Ytjilachpkjlhdaa
open Go.RowKit Dak P5
open Nat (reduceEqDiff reduceLT reduceAdd)
set_option maxHeartbeats 2000000 in
theorem alive_s (gr:Gr) (h0:GrOk gr) (hn2:gr.acc.length<=257) (hm:(auOf gr).ed.length<=100000):Ctr Try.prog 82 [vau (auOf gr)] (vbools (liveM gr)):=by
 obtain ⟨a,ha⟩:∃ a,auOf gr=a:=⟨_,rfl⟩
 have hacc:gr.acc=a.acc:=by rw [<-ha];rfl
 obtain ⟨s,hsa⟩:∃ s,s=a.acc:=⟨_,rfl⟩
 have hs:s.length=a.acc.length:=by rw [hsa]
 have hcs:=live_is gr
 rw [hacc,<-hsa,hs] at hcs
 have hn1:=h0.n
 rw [hacc] at hn1 hn2
 have hmem:∀ {e:Edg},e ∈ a.ed ↔ ∃ i x:Nat,i<a.acc.length/\x<gr.sy/\¬ gto gr i x<0/\e=((i:Int),(x:Int),gto gr i x):=fun {e}=>by rw [<-ha,mem_auOf h0];exact Iff.rfl
 have hed:∀ e ∈ a.ed,(0<=e.1/\e.1<a.acc.length)/\(0<=e.2.2/\e.2.2<a.acc.length):=fun e he=>by
  obtain ⟨i,x,hi,_,hx,rfl⟩:=hmem.1 he
  have:=h0.hi i x
  rw [hacc] at this
  exact ⟨⟨by simp,by simpa using hi⟩,by simp only;omega,by simp only;omega⟩
 have hrr:∀ e ∈ a.ed,rrel gr e.2.2.toNat e.1.toNat=true:=fun e he=>by
  obtain ⟨i,x,hi,_,hx,rfl⟩:=hmem.1 he
  exact rrel_iff.2 ⟨x,by simp only [Int.toNat_natCast];omega⟩
 have closed:∀ t:List Bool,t.length=a.acc.length->(∀ i,bt s i=true->bt t i=true)->(∀ i,bt t i=true->bt (liveM gr) i=true)->(∀ e ∈ a.ed,bt t e.2.2.toNat=true->bt t e.1.toNat=true)->t=liveM gr:=fun t htl hsub hsnd hcl=>by
  refine bt_ext (by rw [htl,hcs.len]) fun j _=>⟨hsnd j,fun hj=>?_⟩
  refine hcs.least (fun j=>bt t j=true) hsub (fun i j hi hr _ hjn=>?_) j hj
  obtain ⟨x,hx⟩:=rrel_iff.1 hr
  have h2:x<gr.sy:=by
   by_cases h3:x<gr.sy
   ·exact h3
   ·exfalso
    have h4:=rowAt_len h0 (i:=j) (by rw [hacc];exact hjn)
    rw [gto_row,List.getD_eq_getElem?_getD,List.getElem?_eq_none (by omega)] at hx
    simp only [Option.getD_none] at hx
    omega
  have:=hcl ((j:Int),(x:Int),gto gr j x) (hmem.2 ⟨j,x,hjn,h2,by omega,rfl⟩) (by simp only [hx,Int.toNat_natCast];exact hi)
  simpa using this
 have hsl:s.length=a.acc.length:=hs
 rw [ha] at hm ⊢
 refine specC f82 (by simp) fun F0 w0=>?_
 obtain ⟨n,hn⟩:∃ n,a.acc.length=n:=⟨_,rfl⟩
 unfold c82
 refine CwpE.cut (st:=⟨[(1,.ref 0 1 0 0)],[oB a]⟩) ?_ ?_
 ·simp only [go_sem,↓reduceIte,reduceLT,reduceAdd]
  exact ⟨_,WkE.kp,rfl⟩
 refine CwpE.cut (st:=⟨[(1,.ref 0 1 0 0),(3,.own 1 0 0 0)],[oB a,.arr 0 1 4 []]⟩) ?_ ?_
 ·simp only [go_sem,↓reduceIte,reduceLT]
  exact ⟨_,(WkE.nil 3 1 4 (by omega) rfl).trans (WkE.kp),rfl⟩
 refine CwpE.cut (st:=⟨[(1,.ref 0 1 0 0),(3,.own 1 n 0 n)],[oB a,.arr n 1 4 (s.map vb)]⟩) ?_ ?_
 ·have q1:n*1<=140737488355328:=by omega
  have q2:(0+n)*1<=140737488355328:=by omega
  rw [hn] at hs
  simp only [go_sem,↓reduceIte,reduceLT,reduceEqDiff,reduceAdd,<-hsa,List.length_map,hs,q1,Nat.zero_add]
  exact ⟨_,WkE.kp,rfl⟩
 refine CwpE.step (fun z=>z=⟨[(3,.own 1 n 0 n)],[oB a,.arr n 1 4 ((liveM gr).map vb)]⟩) ?_ ?_
 rotate_left
 ·rintro _ rfl
  refine CwpE.vc ?_
  simp only [go_sem,↓reduceIte,reduceLT]
  refine .own 1 n 0 n 1 4 _ _ rfl (by rw [List.length_map,hcs.len];omega) (by rw [List.length_map,hcs.len,hn]) fun i hi=>?_
  simp only [Nat.zero_add,List.getElem_map]
  exact .tree _ rfl
 simp only [go_sem,↓reduceIte,reduceLT]
 refine loopX 0 (fun m z=>∃ (t:List Bool) (g:Bool),m=2*(n-cnt t)+g.toNat/\t.length=n/\(∀ i,bt s i=true->bt t i=true)/\(∀ i,bt t i=true->bt (liveM gr) i=true)/\(g=false->t=liveM gr)/\z=⟨[(1,.ref 0 1 0 0),(3,.own 1 n 0 n),(4,vb g)],[oB a,.arr n 1 4 (t.map vb)]⟩)
  (fun z=>z=⟨[(3,.own 1 n 0 n)],[oB a,.arr n 1 4 ((liveM gr).map vb)]⟩) (2*(n-cnt s)+1)
  ⟨[(1,.ref 0 1 0 0),(3,.own 1 n 0 n),(4,vb true)],[oB a,.arr n 1 4 (s.map vb)]⟩ (WkE.kp)
  ⟨s,true,rfl,by omega,fun _ h=>h,hcs.sub,fun h=>(by cases h),rfl⟩ ?_ ?_
 rotate_left
 ·rintro z rfl
  simp only [go_sem,↓reduceIte]
  exact ⟨_,.refl _ _,rfl⟩
 rintro m z ⟨t,g,rfl,htl,hsub,hsnd,hg,rfl⟩
 cases g with
 | false =>
  rw [hg rfl]
  simp only [go_sem,↓reduceIte,reduceLT,reduceEqDiff]
  exact ⟨_,WkE.kp,rfl⟩
 | true =>
  simp only [go_sem,↓reduceIte,reduceLT,reduceEqDiff]
  have hct:cnt t<=n:=by have:=cnt_le t;omega
  refine loopX 2 (fun m z=>∃ (k:Nat) (u:List Bool) (g:Bool),m=a.ed.length-k/\k<=a.ed.length/\u.length=n/\(∀ i,bt t i=true->bt u i=true)/\(∀ i,bt u i=true->bt (liveM gr) i=true) /\
   (g=true->cnt t<cnt u)/\(g=false->u=t/\∀ e ∈ a.ed.take k,bt t e.2.2.toNat=true->bt t e.1.toNat=true) /\
   z=⟨[(1,.ref 0 1 0 0),(3,.own 1 n 0 n),(4,vb g),(5,vi k)],[oB a,.arr n 1 4 (u.map vb)]⟩)
   (fun z=>∃ (u:List Bool) (g:Bool),u.length=n/\(∀ i,bt t i=true->bt u i=true)/\(∀ i,bt u i=true->bt (liveM gr) i=true)/\(g=true->cnt t<cnt u)/\(g=false->u=t/\u=liveM gr) /\
    z=⟨[(1,.ref 0 1 0 0),(3,.own 1 n 0 n),(4,vb g)],[oB a,.arr n 1 4 (u.map vb)]⟩) a.ed.length
   ⟨[(1,.ref 0 1 0 0),(3,.own 1 n 0 n),(4,vb false),(5,vi (0:Nat))],[oB a,.arr n 1 4 (t.map vb)]⟩ (WkE.kp)
   ⟨0,t,false,by omega,by omega,htl,fun _ h=>h,hsnd,fun h=>(by cases h),fun _=>⟨rfl,fun e he=>(by simp at he)⟩,rfl⟩ ?_ ?_
  rotate_left
  ·rintro z ⟨u,g,hul,h1,h2,h3,h4,rfl⟩
   simp only [go_sem,↓reduceIte]
   have hcu:cnt u<=n:=by have:=cnt_le u;omega
   refine ⟨2*(n-cnt u)+g.toNat,_,?_,.refl _ _,u,g,rfl,hul,fun i hi=>h1 i (hsub i hi),h2,fun e=>(h4 e).2,rfl⟩
   cases g with
   | true=>have:=h3 rfl;simp only [Bool.toNat_true];omega
   | false=>rw [(h4 rfl).1];simp only [Bool.toNat_false,Bool.toNat_true];omega
  rintro m z ⟨k,u,g,rfl,hk,hul,h1,h2,h3,h4,rfl⟩
  by_cases hlt:k<a.ed.length
  rotate_left
  ·have gk:¬ (k:Int)<(a.ed.length:Int):=by omega
   simp only [go_sem,↓reduceIte,reduceLT,reduceEqDiff,gk,List.length_map]
   refine ⟨_,WkE.kp,u,g,hul,h1,h2,h3,fun e=>?_,rfl⟩
   obtain ⟨e1,e2⟩:=h4 e
   refine ⟨e1,closed u (by omega) (by rw [e1];exact hsub) h2 ?_⟩
   rw [List.take_of_length_le (by omega)] at e2
   rw [e1];exact e2
  have g1:(k:Int)<(a.ed.length:Int):=by omega
  have g0:(0:Int)<=(k:Int):=by omega
  have w1:=wrap_s k (by omega)
  have hmeme:a.ed[k] ∈ a.ed:=List.getElem_mem hlt
  have hee:=hed _ hmeme
  have hrre:=hrr _ hmeme
  have heg:=edge_get hlt
  have htk:=List.take_succ_eq_append_getElem hlt
  generalize a.ed[k]=e at hmeme hee hrre heg htk
  obtain ⟨e1,e2,e3⟩:=e
  simp only at hee hrre
  obtain ⟨p,rfl⟩:∃ p:Nat,e1=(p:Int):=⟨e1.toNat,by omega⟩
  obtain ⟨r,rfl⟩:∃ r:Nat,e3=(r:Int):=⟨e3.toNat,by omega⟩
  have p0:(0:Int)<=(p:Int):=by omega
  have p1:(p:Int)<(n:Int):=by omega
  have r0:(0:Int)<=(r:Int):=by omega
  have r1:(r:Int)<(n:Int):=by omega
  have hup:=bt_get (s:=u) (k:=p) (by omega)
  have hur:=bt_get (s:=u) (k:=r) (by omega)
  have same:¬ (bt u r=true/\bt u p=false)->∀ st,WkE 42 st ⟨[(1,.ref 0 1 0 0),(3,.own 1 n 0 n),(4,vb g),(5,vi (k+1:Nat))],[oB a,.arr n 1 4 (u.map vb)]⟩ ->
   ∃ m z,m<a.ed.length-k/\WkE 42 st z/\∃ (k':Nat) (u:List Bool) (g:Bool),m=a.ed.length-k'/\k'<=a.ed.length/\u.length=n/\(∀ i,bt t i=true->bt u i=true)/\(∀ i,bt u i=true->bt (liveM gr) i=true) /\
   (g=true->cnt t<cnt u)/\(g=false->u=t/\∀ e ∈ a.ed.take k',bt t e.2.2.toNat=true->bt t e.1.toNat=true) /\
   z=⟨[(1,.ref 0 1 0 0),(3,.own 1 n 0 n),(4,vb g),(5,vi k')],[oB a,.arr n 1 4 (u.map vb)]⟩:=by
   intro hno st hst
   refine ⟨a.ed.length-(k+1),_,by omega,hst,k+1,u,g,rfl,by omega,hul,h1,h2,h3,fun e=>⟨(h4 e).1,fun x hx hx2=>?_⟩,rfl⟩
   rw [htk] at hx
   rcases List.mem_append.1 hx with hx | hx
   ·exact (h4 e).2 x hx hx2
   ·rw [List.mem_singleton] at hx
    subst hx
    rw [<- (h4 e).1] at hx2 ⊢
    simp only [Int.toNat_natCast] at hx2 ⊢
    cases hr:bt u p with
    | true=>rfl
    | false=>exact absurd ⟨hx2,hr⟩ hno
  have inn:([oB a,AObj.arr n 1 4 (u.map vb)].all fun o=>o.innO 2)=true:=Bool.and_eq_true_iff.2 ⟨rfl,Bool.and_eq_true_iff.2 ⟨inn_map (fun _=>rfl),rfl⟩⟩
  cases b2:bt u r with
  | false =>
   rw [b2] at hur
   have hs1:=same fun h=>by rw [b2] at h;cases h.1
   simp only [go_sem,↓reduceIte,reduceLT,reduceEqDiff,reduceAdd,g1,g0,heg,hur,r0,r1,w1,List.length_map,Int.toNat_natCast]
   exact hs1 _ (WkE.round (by simp only [go_sem,↓reduceIte,reduceEqDiff]) rfl inn rfl)
  | true =>
   rw [b2] at hur
   cases b3:bt u p with
   | true =>
    rw [b3] at hup
    have hs1:=same fun h=>by rw [b3] at h;cases h.2
    simp only [go_sem,↓reduceIte,reduceLT,reduceEqDiff,reduceAdd,g1,g0,heg,hup,hur,p0,p1,r0,r1,w1,List.length_map,Int.toNat_natCast]
    exact hs1 _ (WkE.round (by simp only [go_sem,↓reduceIte,reduceEqDiff]) rfl inn rfl)
   | false =>
    rw [b3] at hup
    have hpb:∀ j,bt (putS u p) j=(decide (j=p) || bt u j):=fun j=>putS_bt (by omega)
    have hc:=cnt_put (s:=u) (k:=p) (by omega) b3
    have hct':cnt t<=cnt u:=cnt_sub (by omega) h1
    simp only [go_sem,↓reduceIte,reduceLT,reduceEqDiff,reduceAdd,g1,g0,heg,hup,hur,p0,p1,r0,r1,w1,bt_set,List.length_map,Int.toNat_natCast]
    refine ⟨a.ed.length-(k+1),⟨[(1,.ref 0 1 0 0),(3,.own 1 n 0 n),(4,vb true),(5,vi (k+1:Nat))],[oB a,.arr n 1 4 ((putS u p).map vb)]⟩,by omega,WkE.round (by simp only [go_sem,↓reduceIte,reduceEqDiff]) rfl (Bool.and_eq_true_iff.2 ⟨rfl,Bool.and_eq_true_iff.2 ⟨inn_map (fun _=>rfl),rfl⟩⟩) rfl,k+1,putS u p,true,rfl,by omega,by rw [putS_len,hul],fun i hi=>by rw [hpb,h1 i hi,Bool.or_true],fun i hi=>?_,fun _=>by omega,fun h=>(by cases h),rfl⟩
    rw [hpb] at hi
    simp only [Bool.or_eq_true,decide_eq_true_eq] at hi
    rcases hi with rfl | hi
    ·simp only [Int.toNat_natCast] at hrre
     exact hcs.clo r i (h2 r b2) hrre (by omega)
    ·exact h2 i hi
end Go.Proofs.Ytjilachpkjlhdaa
namespace Go.Proofs.Ytjilachpkjlhdaa
open Go.RowKit Dak P5
open Nat (reduceEqDiff reduceLT reduceAdd)
theorem set_get {l:List (List Bool)} {k:Nat} (h:k<l.length):(l.map vbools)[k]? = some (vbools l[k]):=by rw [List.getElem?_map,List.getElem?_eq_getElem h];rfl
def findM (L:List (List Bool)) (s:List Bool):Int:=if posF L s<L.length then (posF L s:Int) else -1
theorem findM_at {L:List (List Bool)} {s:List Bool} {i:Nat} (hi:i<L.length) (h:L[i]=s) (hb:∀ j (hj:j<i),L[j]'(by omega) ≠ s):findM L s=i:=by
 have h1:posF L s<L.length:=posF_mem.2 (by rw [<-h];exact List.getElem_mem hi)
 have h2:=posF_get h1
 have h3:posF L s=i:=by
  rcases Nat.lt_trichotomy (posF L s) i with h4 | h4 | h4
  ·exact absurd h2 (hb _ h4)
  ·exact h4
  ·exfalso
   have:∀ (L:List (List Bool)) (i:Nat) (hi:i<L.length),L[i]=s->posF L s<=i:=by
    intro L
    induction L with
    | nil=>intro i hi;simp at hi
    | cons x L ih =>
     intro i hi h
     rw [posF]
     split
     ·omega
     ·cases i with
      | zero=>rename_i hx;exact absurd h hx
      | succ i=>have:=ih i (by simpa using hi) (by simpa using h);omega
   have:=this L i hi h
   omega
 rw [findM,if_pos h1,h3]
theorem findM_no {L:List (List Bool)} {s:List Bool} (h:∀ j (hj:j<L.length),L[j] ≠ s):findM L s = -1:=by
 rw [findM,if_neg]
 intro h1
 exact h _ h1 (posF_get h1)
theorem take_bt {s t:List Bool} {k:Nat} (hs:k<s.length) (ht:k<t.length) (h:s.take k=t.take k) (hb:bt s k=bt t k):s.take (k+1)=t.take (k+1):=by
 refine takeS_eq h hs ht ?_
 rw [bt,bt,List.getD_eq_getElem?_getD,List.getD_eq_getElem?_getD,List.getElem?_eq_getElem hs,List.getElem?_eq_getElem ht] at hb
 exact hb
set_option maxHeartbeats 2000000 in
theorem find_s (L:List (List Bool)) (s:List Bool) (hl:L.length<=100000) (hs:s.length<=100000) (hL:∀ t ∈ L,t.length=s.length):Ctr Try.prog 64 [vsets L,vbools s] (vi (findM L s)):=by
 refine specC f64 (by simp) fun F0 w0=>?_
 unfold c64
 refine CwpE.cut (st:=⟨[(0,vsets L),(1,vbools s)],[]⟩) ?_ ?_
 ·simp only [go_sem,↓reduceIte,reduceLT]
  exact ⟨_,WkE.kq,rfl⟩
 refine CwpE.vc ?_
 simp only [go_sem,↓reduceIte,reduceLT]
 refine loopX 0 (fun m z=>∃ i:Nat,m=L.length-i/\i<=L.length/\(∀ j (hj:j<L.length),j<i->L[j] ≠ s)/\z=⟨[(0,vsets L),(1,vbools s),(5,vi i)],[]⟩)
  (fun z=>findM L s = -1/\z=⟨[],[]⟩) L.length
  ⟨[(0,vsets L),(1,vbools s),(5,vi (0:Nat))],[]⟩ (WkE.kq) ⟨0,by omega,by omega,fun j _ h=>absurd h (by omega),rfl⟩ ?_ ?_
 rotate_left
 ·rintro z ⟨h,rfl⟩
  rw [h]
  simp only [go_sem,↓reduceIte,reduceLT]
  exact .tree _ rfl
 rintro m z ⟨i,rfl,hi,hne,rfl⟩
 by_cases hlt:i<L.length
 rotate_left
 ·have gk:¬ (i:Int)<(L.length:Int):=by omega
  simp only [go_sem,↓reduceIte,reduceCtorEq,reduceLT,reduceEqDiff,gk,List.length_map]
  exact ⟨⟨[],[]⟩,WkE.keep trivial,findM_no fun j hj=>hne j hj (by omega),rfl⟩
 have g1:(i:Int)<(L.length:Int):=by omega
 have g0:(0:Int)<=(i:Int):=by omega
 have w1:=wrap_s i (by omega)
 have hg:=set_get hlt
 have htl:=hL _ (List.getElem_mem hlt)
 obtain ⟨t,ht⟩:∃ t,L[i]=t:=⟨_,rfl⟩
 rw [ht] at hg htl
 simp only [go_sem,↓reduceIte,reduceCtorEq,reduceLT,reduceEqDiff,g1,List.length_map]
 refine loopX 2 (fun m z=>∃ (k:Nat) (b:Bool),m=s.length-k/\k<=s.length/\(b=true->t.take k=s.take k)/\(b=false->t ≠ s)/\z=⟨[(0,vsets L),(1,vbools s),(5,vi i),(6,vb b),(7,vi k)],[]⟩)
  (fun z=>z=⟨[(0,vsets L),(1,vbools s),(5,vi i),(6,vb (decide (t=s)))],[]⟩) s.length
  ⟨[(0,vsets L),(1,vbools s),(5,vi i),(6,vb true),(7,vi (0:Nat))],[]⟩ (WkE.kq) ⟨0,true,by omega,by omega,fun _=>rfl,fun h=>(by cases h),rfl⟩ ?_ ?_
 rotate_left
 ·rintro z rfl
  by_cases e:t=s
  ·rw [findM_at hlt (by rw [ht,e]) (fun j hj=>hne j (by omega) hj)]
   simp only [go_sem,↓reduceIte,reduceCtorEq,reduceLT,reduceEqDiff,e]
   exact .tree _ rfl
  ·simp only [go_sem,↓reduceIte,reduceCtorEq,reduceLT,reduceEqDiff,e,w1]
   refine ⟨L.length-(i+1),⟨[(0,vsets L),(1,vbools s),(5,vi (i+1:Nat))],[]⟩,by omega,WkE.kq,i+1,rfl,by omega,fun j hj hji=>?_,rfl⟩
   by_cases e2:j=i
   ·subst e2;rw [ht];exact e
   ·exact hne j hj (by omega)
 rintro m z ⟨k,b,rfl,hk,hb1,hb2,rfl⟩
 by_cases hlk:k<s.length
 rotate_left
 ·have gk:¬ (k:Int)<(s.length:Int):=by omega
  have hd:decide (t=s)=b:=by
   cases b with
   | false=>exact decide_eq_false (hb2 rfl)
   | true =>
    have:=hb1 rfl
    rw [List.take_of_length_le (by omega),List.take_of_length_le (by omega)] at this
    exact decide_eq_true this
  simp only [go_sem,↓reduceIte,reduceCtorEq,reduceLT,reduceEqDiff,gk,List.length_map]
  exact ⟨⟨[(0,vsets L),(1,vbools s),(5,vi i),(6,vb b)],[]⟩,WkE.kq,by rw [hd]⟩
 have k1:(k:Int)<(s.length:Int):=by omega
 have k0:(0:Int)<=(k:Int):=by omega
 have w2:=wrap_s k (by omega)
 cases b with
 | false =>
  have hd:decide (t=s)=false:=decide_eq_false (hb2 rfl)
  simp only [go_sem,↓reduceIte,reduceCtorEq,reduceLT,reduceEqDiff,k1,List.length_map]
  exact ⟨⟨[(0,vsets L),(1,vbools s),(5,vi i),(6,vb false)],[]⟩,WkE.kq,by rw [hd]⟩
 | true =>
  have h1:=bt_get (s:=s) (k:=k) hlk
  have h2:=bt_get (s:=t) (k:=k) (by omega)
  simp only [go_sem,↓reduceIte,reduceCtorEq,reduceLT,reduceEqDiff,g0,k1,k0,hg,h1,h2,w2,List.length_map,Int.toNat_natCast]
  refine ⟨s.length-(k+1),⟨[(0,vsets L),(1,vbools s),(5,vi i),(6,vb (bt t k == bt s k)),(7,vi (k+1:Nat))],[]⟩,by omega,WkE.kq,k+1,_,rfl,by omega,fun h=>take_bt (by omega) hlk (hb1 rfl) (by simpa using h),fun h e=>?_,rfl⟩
  rw [e] at h
  simp at h
end Go.Proofs.Ytjilachpkjlhdaa
namespace P5
section
variable {K : Type} [DecidableEq K]
theorem rowGo_all (next:Nat->Option K) (p:K->Prop) (hn:∀ x t,next x=some t->p t):∀ (xs:List Nat) (l:List K),(∀ k ∈ l,p k)->∀ k ∈ (rowGo next xs l).2,p k
 | [],_,h=>h
 | x::xs,l,h=>by
  rw [rowGo]
  cases hx:next x with
  | none=>exact rowGo_all next p hn xs l h
  | some t =>
   refine rowGo_all next p hn xs _ fun k hk=>?_
   unfold addK at hk
   split at hk
   ·exact h k hk
   ·rcases List.mem_append.1 hk with hk | hk
    ·exact h k hk
    ·rw [List.mem_singleton.1 hk];exact hn x t hx
end
end P5
namespace Go.Proofs.Ytjilachpkjlhdaa
open Go.RowKit Dak P5
open Nat (reduceEqDiff reduceLT reduceAdd)
def resB {K:Type} (y:Nat) (acc:K->Bool):Option (List K × List (List Int))->Au × Int
 | none=>(nilA,4)
 | some r=>(⟨y,r.1.map acc,edAll 0 r.2⟩,0)
theorem findM_pos (L:List (List Bool)) (t:List Bool):(findM L t<0/\t ∉ L/\posF L t=L.length) \/ (findM L t=posF L t/\posF L t<L.length):=by
 unfold findM
 by_cases h:posF L t<L.length
 ·rw [if_pos h];exact .inr ⟨rfl,h⟩
 ·rw [if_neg h]
  have h1:t ∉ L:=fun h'=>h (posF_mem.2 h')
  exact .inl ⟨by omega,h1,posF_new h1⟩
def objsS (o0:AObj) (et sz:Nat) (sy:Int) (L:List AV) (A:List Bool) (E:List Edg):List AObj :=
 [o0,.arr 1 3 26 [.agg [vi 0,.val (.slice none 0 0),.val (.slice none 0 0)]],.arr L.length sz et L,.arr 1 3 26 [.agg [vi sy,.own 4 A.length 0 A.length,.own 5 E.length 0 E.length]],.arr A.length 1 4 (A.map vb),.arr E.length 3 71 (E.map vedge)]
theorem objsS_eq (o0:AObj) (et sz:Nat) (sy:Int) (L:List AV) (A:List Bool) (E:List Edg):objsS o0 et sz sy L A E =
 [o0,.arr 1 3 26 [.agg [vi 0,.val (.slice none 0 0),.val (.slice none 0 0)]],.arr L.length sz et L,.arr 1 3 26 [.agg [vi sy,.own 4 A.length 0 A.length,.own 5 E.length 0 E.length]],.arr A.length 1 4 (A.map vb),.arr E.length 3 71 (E.map vedge)]:=rfl
theorem objsS_snap (sy:Int) (A:List Bool) (E:List Edg) (objs:List AObj) (p q:Nat) (hp:p=A.length) (hq:q=E.length) (h4:objs[4]? = some (.arr p 1 4 (A.map vb))) (h5:objs[5]? = some (.arr q 3 71 (E.map vedge))) :
 Snap objs (.agg [vi sy,.own 4 p 0 p,.own 5 q 0 q]) (vau ⟨sy,A,E⟩):=by
 subst hp hq
 refine .agg _ _ rfl fun i h1 h2=>?_
 match i,h1,h2 with
 | 0,_,_=>exact .tree _ rfl
 | 1,_,_ =>
  refine .own 4 A.length 0 A.length 1 4 _ _ h4 (by simp) (by simp) fun q hq=>?_
  simp only [Nat.zero_add]
  exact .tree _ (List.all_eq_true.1 (isT_map (fun _=>rfl) _) _ (List.getElem_mem _))
 | 2,_,_ =>
  refine .own 5 E.length 0 E.length 3 71 _ _ h5 (by simp) (by simp) fun q hq=>?_
  simp only [Nat.zero_add]
  exact .tree _ (List.all_eq_true.1 (isT_map (fun _=>rfl) _) _ (List.getElem_mem _))
set_option maxHeartbeats 4000000 in
theorem Sets_s (a:Au) (hv:VA a):Ctr Try.prog 51 [vau a] (vae (resB a.sy.toNat (fun s=>meets s a.acc) (bfs 256 (nextA a) a.sy.toNat (firstA a)))):=by
 obtain ⟨⟨hsy1,hsy2⟩,⟨hn1,hn2⟩,hm,hed⟩:=id hv
 refine specC f51 (by simp) fun F0 w0=>?_
 obtain ⟨n,hn⟩:∃ n,a.acc.length=n:=⟨_,rfl⟩
 obtain ⟨y,hy⟩:∃ y:Nat,a.sy=(y:Int):=⟨a.sy.toNat,by omega⟩
 have hyT:a.sy.toNat=y:=by omega
 obtain ⟨B,hB⟩:∃ B,bfs 256 (nextA a) y (firstA a)=B:=⟨_,rfl⟩
 rw [hyT,hB]
 unfold c51
 refine CwpE.cut (st:=⟨[(1,.ref 0 1 0 0),(2,.ref 1 1 0 0)],[oB a,.arr 1 3 26 [.agg [vi 0,.val (.slice none 0 0),.val (.slice none 0 0)]]]⟩) ?_ ?_
 ·simp only [go_sem,↓reduceIte,reduceLT,reduceAdd]
  exact ⟨_,WkE.kp,rfl⟩
 refine CwpE.seqJ (fun st=>st=⟨[(1,.ref 0 1 0 0),(2,.ref 1 1 0 0),(4,.own 2 1 0 1)],[oB a,.arr 1 3 26 [.agg [vi 0,.val (.slice none 0 0),.val (.slice none 0 0)]],.arr 1 1 23 [vbools (firstA a)]]⟩) ?_ ?_
 ·refine CwpE.regionC (csa:=[⟨some 11,none,.load true 3 (T 1)⟩,⟨some 12,none,.call (.func 44) [T 11]⟩]) (csb:=[⟨some 4,none,.mov (T 13)⟩]) (by omega) (by decide) ?_
  simp only [go_sem,↓reduceIte,reduceLT,reduceAdd]
  refine callT (First_s a hv) rfl ?_
  simp only [go_sem,↓reduceIte,reduceAdd]
  refine ⟨_,WkE.keep (env':=[(1,.ref 0 1 0 0),(2,.ref 1 1 0 0),(13,.own 2 1 0 1)]) (by simp only [go_sem,↓reduceIte,reduceEqDiff];try rfl),?_⟩
  simp only [go_sem,↓reduceIte,reduceEqDiff]
  exact ⟨_,WkE.kp,rfl⟩
 rintro _ rfl
 refine CwpE.cut (st:=⟨[(1,.ref 0 1 0 0),(2,.ref 1 1 0 0),(4,.own 2 1 0 1),(5,.ref 3 1 0 0)],objsS (oB a) 23 1 a.sy ([firstA a].map vbools) [] []⟩) ?_ ?_
 ·simp only [go_sem,Nat.reduceLeDiff,↓reduceIte,reduceLT,reduceEqDiff,reduceAdd]
  refine ⟨_,(WkE.nilCell 3 1 3 0 1 1 4 26 _ (.agg [vi a.sy,.val (.slice none 0 0),.val (.slice none 0 0)]) rfl rfl rfl).trans ((WkE.nilCell 3 1 3 0 2 3 71 26 _ (.agg [vi a.sy,.own 4 0 0 0,.val (.slice none 0 0)]) rfl rfl rfl).trans (WkE.kp)),rfl⟩
 refine CwpE.step (fun z=>∃ (L:List (List Bool)) (rows:List (List Int)),B=some (L,rows)/\z=⟨[(2,.ref 1 1 0 0),(5,.ref 3 1 0 0)],objsS (oB a) 23 1 a.sy (L.map vbools) (L.map fun s=>meets s a.acc) (edAll 0 rows)⟩) ?_ ?_
 rotate_left
 ·rintro _ ⟨L,rows,hBs,rfl⟩
  rw [hBs]
  refine CwpE.vc ?_
  have hres:resB y (fun s=>meets s a.acc) (some (L,rows))=(⟨a.sy,L.map fun s=>meets s a.acc,edAll 0 rows⟩,0):=by rw [hy];rfl
  rw [hres]
  rw [objsS_eq]
  simp only [go_sem,↓reduceIte,reduceLT,reduceEqDiff,reduceAdd]
  exact snap_tup2 (objsS_snap a.sy _ _ _ L.length (edAll 0 rows).length (by simp) rfl rfl rfl) (.tree _ rfl)
 simp only [go_sem,↓reduceIte,reduceLT]
 have hB0:B=bfsGo 256 (nextA a) y 257 [firstA a] []:=by rw [<-hB];rfl
 have ha3:∀ L:List (List Bool),(∀ t ∈ L,t.length=n)->∀ k ∈ L,k.length=a.acc.length:=fun L h k hk=>by rw [hn];exact h k hk
 refine loopX 0 (fun m z=>∃ (i:Nat) (L:List (List Bool)) (rows:List (List Int)),m=257-i/\rows.length=i/\i<=L.length/\L.length<=256/\(∀ t ∈ L,t.length=n)/\(∀ r ∈ rows,r.length=y)/\B=bfsGo 256 (nextA a) y (257-i) L rows /\
  z=⟨[(1,.ref 0 1 0 0),(2,.ref 1 1 0 0),(4,.own 2 L.length 0 L.length),(5,.ref 3 1 0 0),(6,vi i)],objsS (oB a) 23 1 a.sy (L.map vbools) ((L.take i).map fun s=>meets s a.acc) (edAll 0 rows)⟩)
  (fun z=>∃ (L:List (List Bool)) (rows:List (List Int)),B=some (L,rows)/\z=⟨[(2,.ref 1 1 0 0),(5,.ref 3 1 0 0)],objsS (oB a) 23 1 a.sy (L.map vbools) (L.map fun s=>meets s a.acc) (edAll 0 rows)⟩) 257
  ⟨[(1,.ref 0 1 0 0),(2,.ref 1 1 0 0),(4,.own 2 1 0 1),(5,.ref 3 1 0 0),(6,vi (0:Nat))],objsS (oB a) 23 1 a.sy ([firstA a].map vbools) [] []⟩ (WkE.kp)
  ⟨0,[firstA a],[],rfl,rfl,by simp,by simp,fun t ht=>by rw [List.mem_singleton.1 ht,firstA_len,hn],fun r hr=>by simp at hr,hB0,rfl⟩ ?_ ?_
 rotate_left
 ·rintro z ⟨L,rows,h1,rfl⟩
  simp only [go_sem,↓reduceIte]
  exact ⟨_,.refl _ _,L,rows,h1,rfl⟩
 rintro m z ⟨i,L,rows,rfl,hri,hiL,hL,hLn,hrl,hBi,rfl⟩
 by_cases hlt:i<L.length
 rotate_left
 ·have gk:¬ (i:Int)<(L.length:Int):=by omega
  rw [bfsGo_end (by omega)] at hBi
  rw [objsS_eq]
  simp only [go_sem,↓reduceIte,reduceLT,reduceEqDiff,gk,List.length_map]
  refine ⟨⟨[(2,.ref 1 1 0 0),(5,.ref 3 1 0 0)],objsS (oB a) 23 1 a.sy (L.map vbools) (L.map fun s=>meets s a.acc) (edAll 0 rows)⟩,?_,L,rows,hBi,rfl⟩
  rw [List.take_of_length_le (by omega),objsS_eq]
  simp only [List.length_map]
  exact WkE.kp
 have hf:257-i=(257-(i+1))+1:=by omega
 rw [hf,bfsGo_step (by omega)] at hBi
 have hnx:nextA a L[rows.length]=nextA a L[i]:=by simp only [hri]
 rw [hnx] at hBi
 have g1:(i:Int)<(L.length:Int):=by omega
 have g0:(0:Int)<=(i:Int):=by omega
 have wi:=wrap_s i (by omega)
 have hLi:=set_get hlt
 have hLin:=hLn _ (List.getElem_mem hlt)
 have hedl:=edAll_len rows 0 (m:=y) (fun r hr=>Nat.le_of_eq (hrl r hr))
 have hedb:(edAll 0 rows).length<=16384:=Nat.le_trans hedl (Nat.le_trans (Nat.mul_le_mul (show rows.length<=256 by omega) (show y<=64 by omega)) (by omega))
 have hacc:=accepting_s a L[i] (by omega) (by omega)
 have hAl:((L.take i).map fun s=>meets s a.acc).length=i:=by simp;omega
 have hA1:((L.take i).map fun s=>meets s a.acc)++[meets L[i] a.acc]=(L.take (i+1)).map fun s=>meets s a.acc:=by
  rw [List.take_succ_eq_append_getElem hlt,List.map_append];rfl
 have qa:(i+1)*1<=140737488355328:=by omega
 obtain ⟨nx,hnxe⟩:∃ nx,nextA a L[i]=nx:=⟨_,rfl⟩
 rw [hnxe] at hBi
 have nxv:∀ x,nx x=if anyA a L[i] (x:Int) then some (afterA a L[i] (x:Int)) else none:=fun x=>by rw [<-hnxe];rfl
 have nxn:∀ x t,nx x=some t->t.length=n:=fun x t h=>by
  rw [nxv] at h
  split at h
  ·rw [<-Option.some.inj h,afterA_len,hn]
  ·cases h
 have hpart:∀ x,x<=y->((rowGo nx (List.range x) L).2).length<=((rowGo nx (List.range y) L).2).length:=fun x hx=>(rowGo_part nx hx L).length_le
 have hkeep:∀ x (h:i<((rowGo nx (List.range x) L).2).length),((rowGo nx (List.range x) L).2)[i]=L[i]:=fun x h=>((rowGo_pre nx (List.range x) L).getElem hlt).symm
 have hLxn:∀ x,∀ t ∈ (rowGo nx (List.range x) L).2,t.length=n:=fun x=>rowGo_all nx (fun t=>t.length=n) nxn _ _ hLn
 generalize hq:L[i]=q at hLi hLin hacc hA1 nxv hkeep
 rw [objsS_eq]
 simp only [go_sem,↓reduceIte,reduceLT,reduceEqDiff,reduceAdd,g1,g0,hLi,List.length_map,hAl,Int.toNat_natCast]
 refine callT hacc rfl ?_
 simp only [go_sem,Nat.reducePow,Nat.reduceLeDiff,↓reduceIte,reduceLT,reduceEqDiff,reduceAdd,Nat.reduceMul,hAl,qa]
 have hAe:((L.take i).map fun s=>meets s a.acc).map vb++[vb (meets q a.acc)]=((L.take (i+1)).map fun s=>meets s a.acc).map vb:=by
  rw [<-hA1,List.map_append];rfl
 have hAl1:((L.take (i+1)).map fun s=>meets s a.acc).length=i+1:=by simp;omega
 rw [hAe]
 obtain ⟨A1,hA1e⟩:∃ A1,((L.take (i+1)).map fun s=>meets s a.acc)=A1:=⟨_,rfl⟩
 rw [hA1e] at hAl1 ⊢
 obtain ⟨E0,hE0⟩:∃ E0,edAll 0 rows=E0:=⟨_,rfl⟩
 rw [hE0] at hedb ⊢
 refine loopX 2 (fun m z=>∃ x:Nat,m=y-x/\x<=y/\((rowGo nx (List.range x) L).2).length<=256 /\
  z=⟨[(1,.ref 0 1 0 0),(2,.ref 1 1 0 0),(4,.own 2 ((rowGo nx (List.range x) L).2).length 0 ((rowGo nx (List.range x) L).2).length),(5,.ref 3 1 0 0),(6,vi i),(7,vi x)],objsS (oB a) 23 1 a.sy (((rowGo nx (List.range x) L).2).map vbools) A1 (E0++edRow (i:Int) 0 (rowGo nx (List.range x) L).1)⟩)
  (fun z=>((rowGo nx (List.range y) L).2).length<=256 /\
   z=⟨[(1,.ref 0 1 0 0),(2,.ref 1 1 0 0),(4,.own 2 ((rowGo nx (List.range y) L).2).length 0 ((rowGo nx (List.range y) L).2).length),(5,.ref 3 1 0 0),(6,vi i)],objsS (oB a) 23 1 a.sy (((rowGo nx (List.range y) L).2).map vbools) A1 (E0++edRow (i:Int) 0 (rowGo nx (List.range y) L).1)⟩) y
  ⟨[(1,.ref 0 1 0 0),(2,.ref 1 1 0 0),(4,.own 2 L.length 0 L.length),(5,.ref 3 1 0 0),(6,vi i),(7,vi (0:Nat))],objsS (oB a) 23 1 a.sy (L.map vbools) A1 (E0++edRow (i:Int) 0 [])⟩ ?_ ⟨0,by omega,by omega,hL,rfl⟩ ?_ ?_
 ·have e0:E0++edRow (i:Int) 0 []=E0:=by rw [edRow,List.append_nil]
  rw [e0,objsS_eq]
  simp only [List.length_map,hAl1]
  exact WkE.kp
 rotate_left
 ·rintro z ⟨h256,rfl⟩
  simp only [go_sem,↓reduceIte,reduceLT,reduceEqDiff,wi]
  refine ⟨257-(i+1),⟨[(1,.ref 0 1 0 0),(2,.ref 1 1 0 0),(4,.own 2 ((rowGo nx (List.range y) L).2).length 0 ((rowGo nx (List.range y) L).2).length),(5,.ref 3 1 0 0),(6,vi (i+1:Nat))],objsS (oB a) 23 1 a.sy (((rowGo nx (List.range y) L).2).map vbools) A1 (E0++edRow (i:Int) 0 (rowGo nx (List.range y) L).1)⟩,by omega,WkE.kp,i+1,(rowGo nx (List.range y) L).2,rows++[(rowGo nx (List.range y) L).1],rfl,by simp [hri],?_,h256,hLxn y,?_,?_,?_⟩
  ·have:=(rowGo_pre nx (List.range y) L).length_le;omega
  ·intro r hr
   rcases List.mem_append.1 hr with hr | hr
   ·exact hrl r hr
   ·rw [List.mem_singleton.1 hr,rowGo_len,List.length_range]
  ·rw [hBi,if_neg (by omega)]
  ·have e1:edAll 0 (rows++[(rowGo nx (List.range y) L).1])=E0++edRow (i:Int) 0 (rowGo nx (List.range y) L).1:=by rw [edAll_snoc,hE0,hri,Nat.zero_add]
   have e2:((rowGo nx (List.range y) L).2.take (i+1)).map (fun s=>meets s a.acc)=A1:=by
    obtain ⟨r,hr⟩:=rowGo_pre nx (List.range y) L
    rw [<-hr,List.take_append_of_le_length (by omega),hA1e]
   rw [e1,e2]
 rintro m z ⟨x,rfl,hx,hL256,rfl⟩
 by_cases hxy:x<y
 rotate_left
 ·obtain rfl:x=y:=by omega
  have gk:¬ (x:Int)<a.sy:=by omega
  rw [objsS_eq]
  simp only [go_sem,↓reduceIte,reduceLT,reduceEqDiff,gk]
  refine ⟨⟨[(1,.ref 0 1 0 0),(2,.ref 1 1 0 0),(4,.own 2 ((rowGo nx (List.range x) L).2).length 0 ((rowGo nx (List.range x) L).2).length),(5,.ref 3 1 0 0),(6,vi i)],objsS (oB a) 23 1 a.sy (((rowGo nx (List.range x) L).2).map vbools) A1 (E0++edRow (i:Int) 0 (rowGo nx (List.range x) L).1)⟩,?_,hL256,by rw [objsS_eq];simp only [List.length_map,List.length_append]⟩
  rw [objsS_eq]
  simp only [List.length_map,List.length_append]
  exact WkE.kp
 have hp1:=hpart (x+1) (by omega)
 have hlenx:L.length<=((rowGo nx (List.range x) L).2).length:=(rowGo_pre nx (List.range x) L).length_le
 have hrx:((rowGo nx (List.range x) L).1).length=x:=by rw [rowGo_len,List.length_range]
 have hee:=edRow_len (i:Int) (rowGo nx (List.range x) L).1 0
 have hrr:=rowGo_range nx x L
 have hkx:=hkeep x (by omega)
 have hnx':=hLxn x
 obtain ⟨Lx,hLx⟩:∃ Lx,(rowGo nx (List.range x) L).2=Lx:=⟨_,rfl⟩
 obtain ⟨rx,hrxe⟩:∃ rx,(rowGo nx (List.range x) L).1=rx:=⟨_,rfl⟩
 have hnx2:=nxv x
 obtain ⟨L1,hL1⟩:∃ L1,(rowGo nx (List.range (x+1)) L).2=L1:=⟨_,rfl⟩
 obtain ⟨r1,hr1⟩:∃ r1,(rowGo nx (List.range (x+1)) L).1=r1:=⟨_,rfl⟩
 simp only [hLx,hrxe,hL1] at hp1 hlenx hrx hee hrr hkx hnx' hL256 ⊢
 have gx:(x:Int)<a.sy:=by omega
 have wx:=wrap_s x (by omega)
 have gi:(i:Int)<(Lx.length:Int):=by omega
 have hLxi:(Lx.map vbools)[i]? = some (vbools q):=by rw [set_get (by omega),hkx]
 have hAf:=After_s a hv q (by omega) (x:Int)
 have hel:(E0++edRow (i:Int) 0 rx).length<=16384+64:=by rw [List.length_append];omega
 obtain ⟨E1,hE1⟩:∃ E1,E0++edRow (i:Int) 0 rx=E1:=⟨_,rfl⟩
 rw [hE1] at hel
 rw [hE1,objsS_eq (oB a) 23 1 a.sy (Lx.map vbools) A1 E1]
 simp only [go_sem,↓reduceIte,reduceLT,reduceEqDiff,reduceAdd,gx,gi,g0,hLxi,List.length_map,Int.toNat_natCast]
 refine callT hAf rfl ?_
 have fin:∀ (st:Est) (L2:List (List Bool)) (r2:List Int),L1=L2->r1=r2->L2.length<=256->WkE 77 st ⟨[(1,.ref 0 1 0 0),(2,.ref 1 1 0 0),(4,.own 2 L2.length 0 L2.length),(5,.ref 3 1 0 0),(6,vi i),(7,vi (x+1:Nat))],objsS (oB a) 23 1 a.sy (L2.map vbools) A1 (E0++edRow (i:Int) 0 r2)⟩ ->
  ∃ m s',m<y-x/\WkE 77 st s'/\∃ x:Nat,m=y-x/\x<=y/\((rowGo nx (List.range x) L).2).length<=256 /\
  s'=⟨[(1,.ref 0 1 0 0),(2,.ref 1 1 0 0),(4,.own 2 ((rowGo nx (List.range x) L).2).length 0 ((rowGo nx (List.range x) L).2).length),(5,.ref 3 1 0 0),(6,vi i),(7,vi x)],objsS (oB a) 23 1 a.sy (((rowGo nx (List.range x) L).2).map vbools) A1 (E0++edRow (i:Int) 0 (rowGo nx (List.range x) L).1)⟩:=by
  rintro st L2 r2 rfl rfl h256 hst
  exact ⟨y-(x+1),_,by omega,hst,x+1,rfl,by omega,by rw [hL1];exact h256,by rw [hL1,hr1]⟩
 cases hany:anyA a q (x:Int) with
 | false =>
  rw [hany] at hnx2
  simp only [Bool.false_eq_true,if_false] at hnx2
  rw [hnx2] at hrr
  simp only [hL1,hr1,Prod.ext_iff] at hrr
  simp only [go_sem,↓reduceIte,reduceLT,reduceEqDiff,wx]
  have e1:edRow (i:Int) 0 (rx++[-1])=edRow (i:Int) 0 rx:=by rw [edRow_snoc,if_pos (by omega),List.append_nil]
  refine fin _ Lx (rx++[-1]) hrr.2 hrr.1 hL256 ?_
  rw [e1,hE1,objsS_eq]
  simp only [List.length_map]
  exact WkE.kp
 | true =>
  rw [hany] at hnx2
  simp only [if_true] at hnx2
  obtain ⟨t,ht⟩:∃ t,afterA a q (x:Int)=t:=⟨_,rfl⟩
  have htl:t.length=n:=by rw [<-ht,afterA_len,hn]
  rw [ht] at hnx2 ⊢
  rw [hnx2] at hrr
  simp only [hL1,hr1,Prod.ext_iff] at hrr
  have e1:∀ p:Nat,edRow (i:Int) 0 (rx++[(p:Int)])=edRow (i:Int) 0 rx++[((i:Int),(x:Int),(p:Int))]:=fun p=>by
   rw [edRow_snoc,if_neg (by omega),Nat.zero_add,hrx]
  have hfd:=find_s Lx t (by omega) (by omega) (fun s hs=>by rw [hnx' s hs,htl])
  have qe:(E1.length+1)*24<=140737488355328:=by omega
  have hE2:∀ p:Nat,E0++edRow (i:Int) 0 (rx++[(p:Int)])=E1++[((i:Int),(x:Int),(p:Int))]:=fun p=>by rw [e1,<-List.append_assoc,hE1]
  simp only [go_sem,↓reduceIte,reduceLT,reduceEqDiff]
  refine callF hfd (.cons (.own 2 Lx.length 0 Lx.length 1 23 (Lx.map vbools) (Lx.map vbools) rfl (by simp) (by simp) fun q hq=>by
   simp only [Nat.zero_add]
   exact .tree _ (List.all_eq_true.1 (isT_map (fun _=>rfl) _) _ (List.getElem_mem _))) (.cons (.tree _ rfl) .nil)) rfl ?_
  rcases findM_pos Lx t with ⟨hf1,hf2,hf3⟩ | ⟨hf1,hf2⟩
  ·have hk1:addK Lx t=Lx++[t]:=by rw [addK,if_neg (by omega)]
   rw [hk1,hf3] at hrr
   have ql:(Lx.length+1)*24<=140737488355328:=by omega
   have hm1:Lx.map vbools++[vbools t]=(Lx++[t]).map vbools:=by rw [List.map_append];rfl
   by_cases h256:256<(Lx.length+1)
   ·have hBn:B=none:=by
     rw [hBi,if_pos]
     rw [hrr.2] at hp1
     simp only [List.length_append,List.length_singleton] at hp1
     omega
    have g256:(256:Int)<((Lx.length+1:Nat):Int):=by omega
    rw [hBn]
    simp only [go_sem,Nat.reducePow,Nat.reduceLeDiff,↓reduceIte,reduceCtorEq,reduceLT,reduceEqDiff,reduceAdd,Nat.reduceMul,hf1,ql,g256]
    exact snap_tup2 nil_snap (.tree _ rfl)
   ·have g256:¬ (256:Int)<((Lx.length+1:Nat):Int):=by omega
    simp only [go_sem,Nat.reducePow,Nat.reduceLeDiff,↓reduceIte,reduceLT,reduceEqDiff,reduceAdd,Nat.reduceMul,hf1,ql,g256,qe,wx]
    refine fin _ (Lx++[t]) (rx++[(Lx.length:Int)]) hrr.2 hrr.1 (by simp;omega) ?_
    rw [hE2,objsS_eq]
    simp only [List.length_map,List.length_append,List.length_singleton,List.map_append,List.map_cons,List.map_nil]
    exact WkE.kp
  ·have hk1:addK Lx t=Lx:=by rw [addK,if_pos hf2]
   rw [hk1] at hrr
   have hnl:¬ ((posF Lx t:Nat):Int)<0:=by omega
   have g256:¬ (256:Int)<(Lx.length:Int):=by omega
   rw [hf1]
   simp only [go_sem,Nat.reducePow,Nat.reduceLeDiff,↓reduceIte,reduceLT,reduceEqDiff,reduceAdd,Nat.reduceMul,hnl,g256,qe,wx]
   refine fin _ Lx (rx++[(posF Lx t:Int)]) hrr.2 hrr.1 hL256 ?_
   rw [hE2,objsS_eq]
   simp only [List.length_map,List.length_append,List.length_singleton,List.map_append,List.map_cons,List.map_nil]
   exact WkE.kp
end Go.Proofs.Ytjilachpkjlhdaa
namespace Go.Proofs.Ytjilachpkjlhdaa
open Go.RowKit Dak P5
open Nat (reduceEqDiff reduceLT reduceAdd)
structure DetA (a:Au) (n y:Nat):Prop where
 hn:a.acc.length=n
 hy:a.sy=(y:Int)
 nb:n<=1000
 yb:y<=1000
 m:a.ed.length<=100000
 ed:∀ e ∈ a.ed,(0<=e.1/\e.1<n)/\(0<=e.2.1/\e.2.1<y)
abbrev objsT (a:Au) (n:Nat) (M:List AV) (R:List AObj):List AObj:=[oB a,.arr n 1 22 M]++R
theorem map_rep (y:Nat) (v:Int):(List.replicate y v).map vi=rg y fun _=>vi v:=by rw [List.map_replicate,rg_rep]
set_option maxHeartbeats 4000000 in
theorem table_s (a:Au) (n y:Nat) (h:DetA a n y):Ctr Try.prog 71 [vau a] (vrows (tabM a)):=by
 obtain ⟨hn,hy,hnb,hyb,hm,hed⟩:=h
 refine specC f71 (by simp) fun F0 w0=>?_
 have hyT:a.sy.toNat=y:=by omega
 have htab:tabM a=tabGo (tab0 n y) a.ed:=by rw [tabM,hn,hyT]
 rw [htab]
 unfold c71
 refine CwpE.cut (st:=⟨[(1,.ref 0 1 0 0)],[oB a]⟩) ?_ ?_
 ·simp only [go_sem,↓reduceIte,reduceLT,reduceAdd]
  exact ⟨_,WkE.kp,rfl⟩
 have q0:(0:Int)<=(n:Int):=by omega
 have q2:((24:Nat):Int)*(n:Int)<=281474976710656:=by omega
 have q3:(n:Int)<=9223372036854775807:=by omega
 have y0:(0:Int)<=a.sy:=by omega
 have y2:((8:Nat):Int)*a.sy<=281474976710656:=by omega
 have y3:a.sy<=9223372036854775807:=by omega
 obtain ⟨Mk,hMk⟩:∃ Mk:Nat->List AV,Mk=fun k=>rg n fun q=>if q<k then .own (q+2) y 0 y else nilV:=⟨_,rfl⟩
 obtain ⟨Rk,hRk⟩:∃ Rk:Nat->List AObj,Rk=fun k=>rg k fun _=>orow y (List.replicate y (-1)):=⟨_,rfl⟩
 have hM0:(rg n fun _=>nilV)=Mk 0:=by rw [hMk];exact rg_congr fun q _=>by rw [if_neg (by omega)]
 have hR0:([]:List AObj)=Rk 0:=by rw [hRk];rfl
 refine CwpE.cut (st:=⟨[(1,.ref 0 1 0 0),(3,.own 1 n 0 n)],objsT a n (Mk 0) (Rk 0)⟩) ?_ ?_
 ·rw [<-hM0,<-hR0]
  simp only [go_sem,↓reduceIte,reduceLT,List.length_map,hn,q0,q2,q3,Int.le_refl,Int.toNat_natCast,rg_rep]
  exact ⟨_,WkE.kp,rfl⟩
 refine CwpE.step (fun z=>z=⟨[(1,.ref 0 1 0 0),(3,.own 1 n 0 n)],objsT a n (Mk n) (Rk n)⟩) ?_ ?_
 ·simp only [go_sem,↓reduceIte,reduceLT]
  refine loopX 0 (fun m z=>∃ i:Nat,m=n-i/\i<=n/\z=⟨[(1,.ref 0 1 0 0),(3,.own 1 n 0 n),(4,vi i)],objsT a n (Mk i) (Rk i)⟩)
   (fun z=>z=⟨[(1,.ref 0 1 0 0),(3,.own 1 n 0 n)],objsT a n (Mk n) (Rk n)⟩) n
   ⟨[(1,.ref 0 1 0 0),(3,.own 1 n 0 n),(4,vi (0:Nat))],objsT a n (Mk 0) (Rk 0)⟩ (WkE.kp) ⟨0,by omega,by omega,rfl⟩ ?_ ?_
  rotate_left
  ·rintro z rfl
   simp only [go_sem,↓reduceIte]
   exact ⟨_,.refl _ _,rfl⟩
  rintro m z ⟨i,rfl,hi,rfl⟩
  by_cases hlt:i<n
  rotate_left
  ·obtain rfl:i=n:=by omega
   simp only [go_sem,↓reduceIte,reduceLT,reduceEqDiff,Int.lt_irrefl]
   exact ⟨_,WkE.kp,rfl⟩
  have g1:(i:Int)<(n:Int):=by omega
  have g0:(0:Int)<=(i:Int):=by omega
  have wi:=wrap_s i (by omega)
  have hMg:(Mk i)[i]? = some nilV:=by rw [hMk];simp only;rw [rg_get hlt,if_neg (by omega)]
  have hMn:(Mk i).set i (.own (i+2) y 0 y)=Mk (i+1):=by
   rw [hMk]
   simp only
   rw [rg_set]
   refine rg_congr fun p _=>?_
   by_cases h:p=i
   ·rw [if_pos h,if_pos (by omega),h]
   ·rw [if_neg h]
    by_cases h2:p<i
    ·rw [if_pos h2,if_pos (by omega)]
    ·rw [if_neg h2,if_neg (by omega)]
  have hRn:Rk i++[orow y (List.replicate y (-1))]=Rk (i+1):=by
   rw [hRk]
   simp only
   rw [rg_succ]
  have hRl:(Rk i).length=i:=by rw [hRk];exact rg_len _ _
  obtain ⟨M1,hM1⟩:∃ M1,Mk (i+1)=M1:=⟨_,rfl⟩
  obtain ⟨R1,hR1⟩:∃ R1,Rk (i+1)=R1:=⟨_,rfl⟩
  rw [hM1] at hMn
  rw [hR1] at hRn
  have hM1g:M1[i]? = some (.own (i+2) y 0 y):=by rw [<-hMn,List.getElem?_set_self];have:=(List.getElem?_eq_some_iff.1 hMg).1;exact this
  generalize Mk i=M at hMg hMn ⊢
  generalize Rk i=R at hRn hRl ⊢
  have hR2:∀ o,(R++[o])[i]? = some o:=fun o=>by rw [<-hRl];simp
  have hRs:∀ o x,(R++[o]).set i x=R++[x]:=fun o x=>by rw [<-hRl];simp
  simp only [go_sem,↓reduceIte,reduceLT,reduceEqDiff,g1,g0,hMg,y0,y2,y3,hyT,hRl,hR2,Int.le_refl,Int.toNat_natCast,rg_rep]
  obtain ⟨D,hD⟩:∃ D:Nat->Nat->AV,D=fun x p=>if p<x then vi (-1) else vi 0:=⟨_,rfl⟩
  refine loopX 2 (fun m z=>∃ x:Nat,m=y-x/\x<=y/\z=⟨[(1,.ref 0 1 0 0),(3,.own 1 n 0 n),(4,vi i),(5,vi x)],objsT a n M1 (R++[.arr y 1 3 (rg y (D x))])⟩)
   (fun z=>z=⟨[(1,.ref 0 1 0 0),(3,.own 1 n 0 n),(4,vi i)],objsT a n M1 (R++[.arr y 1 3 (rg y (D y))])⟩) y
   ⟨[(1,.ref 0 1 0 0),(3,.own 1 n 0 n),(4,vi i),(5,vi (0:Nat))],objsT a n M1 (R++[.arr y 1 3 (rg y (D 0))])⟩ ?_ ⟨0,by omega,by omega,rfl⟩ ?_ ?_
  ·have e:rg y (D 0)=rg y fun _=>vi 0:=rg_congr fun p _=>by rw [hD];simp only;rw [if_neg (by omega)]
   rw [e,<-hMn]
   exact WkE.kp
  rotate_left
  ·rintro z rfl
   have e:(.arr y 1 3 (rg y (D y)):AObj)=orow y (List.replicate y (-1)):=by
    rw [orow,map_rep]
    congr 1
    exact rg_congr fun p hp=>by rw [hD];simp only;rw [if_pos hp]
   rw [e,hRn]
   simp only [go_sem,↓reduceIte,reduceLT,reduceEqDiff,wi]
   exact ⟨n-(i+1),⟨[(1,.ref 0 1 0 0),(3,.own 1 n 0 n),(4,vi (i+1:Nat))],objsT a n M1 R1⟩,by omega,WkE.kp,i+1,rfl,by omega,by rw [hM1,hR1];rfl⟩
  rintro m z ⟨x,rfl,hx,rfl⟩
  by_cases hxy:x<y
  rotate_left
  ·obtain rfl:x=y:=by omega
   have gk:¬ (x:Int)<a.sy:=by omega
   simp only [go_sem,↓reduceIte,reduceLT,reduceEqDiff,gk]
   exact ⟨_,WkE.kp,rfl⟩
  have gx:(x:Int)<a.sy:=by omega
  have gx0:(0:Int)<=(x:Int):=by omega
  have gx1:(x:Int)<(y:Int):=by omega
  have wx:=wrap_s x (by omega)
  have hDx:(rg y (D x))[x]? = some (D x x):=rg_get hxy _
  have hDv:D x x=vi 0:=by rw [hD];simp
  rw [hDv] at hDx
  have hDs:(rg y (D x)).set x (vi (-1))=rg y (D (x+1)):=by
   rw [rg_set]
   refine rg_congr fun p _=>?_
   rw [hD]
   simp only
   by_cases h:p=x
   ·rw [if_pos h,if_pos (by omega)]
   ·rw [if_neg h]
    by_cases h2:p<x
    ·rw [if_pos h2,if_pos (by omega)]
    ·rw [if_neg h2,if_neg (by omega)]
  simp only [go_sem,↓reduceIte,reduceLT,reduceEqDiff,gx,gx0,gx1,g0,g1,hM1g,hR2,hRs,hDx,hDs,wx,Int.toNat_natCast]
  exact ⟨y-(x+1),⟨[(1,.ref 0 1 0 0),(3,.own 1 n 0 n),(4,vi i),(5,vi (x+1:Nat))],objsT a n M1 (R++[.arr y 1 3 (rg y (D (x+1)))])⟩,by omega,WkE.kp,x+1,rfl,by omega,rfl⟩
 rintro _ rfl
 obtain ⟨Mf,hMf⟩:∃ Mf,(rg n fun q=>AV.own (q+2) y 0 y)=Mf:=⟨_,rfl⟩
 have hMe:Mk n=Mf:=by rw [hMk,<-hMf];exact rg_congr fun q hq=>by rw [if_pos hq]
 have hMq:∀ q,q<n->Mf[q]? = some (.own (q+2) y 0 y):=fun q hq=>by rw [<-hMf,rg_get hq]
 have hMl:Mf.length=n:=by rw [<-hMf,rg_len]
 obtain ⟨T,hT⟩:∃ T:Nat->List (List Int),T=fun k=>tabGo (tab0 n y) (a.ed.take k):=⟨_,rfl⟩
 have hTok:∀ k,TabOk (T k) n y:=fun k=>by
  rw [hT]
  exact tabGo_ok (tab0_ok n y) fun e he=>by have:=hed e (List.mem_of_mem_take he);omega
 have hRe:Rk n=(T 0).map (orow y):=by
  rw [hRk,hT]
  simp only [List.take_zero,tabGo,tab0,List.map_replicate]
  exact (rg_rep n _).symm
 rw [hMe,hRe]
 have hTn:∀ k (hk:k<a.ed.length),T (k+1)=setT (T k) a.ed[k].1.toNat a.ed[k].2.1.toNat a.ed[k].2.2:=fun k hk=>by
  rw [hT]
  simp only
  rw [List.take_succ_eq_append_getElem hk]
  have:∀ (l:List Edg) (t:List (List Int)) (e:Edg),tabGo t (l++[e])=setT (tabGo t l) e.1.toNat e.2.1.toNat e.2.2:=by
   intro l
   induction l with
   | nil=>intro t e;rfl
   | cons x l ih=>intro t e;exact ih _ _
  exact this _ _ _
 refine CwpE.step (fun z=>z=⟨[(3,.own 1 n 0 n)],objsT a n Mf ((T a.ed.length).map (orow y))⟩) ?_ ?_
 ·simp only [go_sem,↓reduceIte,reduceLT]
  refine loopX 4 (fun m z=>∃ k:Nat,m=a.ed.length-k/\k<=a.ed.length/\z=⟨[(1,.ref 0 1 0 0),(3,.own 1 n 0 n),(6,vi k)],objsT a n Mf ((T k).map (orow y))⟩)
   (fun z=>z=⟨[(3,.own 1 n 0 n)],objsT a n Mf ((T a.ed.length).map (orow y))⟩) a.ed.length
   ⟨[(1,.ref 0 1 0 0),(3,.own 1 n 0 n),(6,vi (0:Nat))],objsT a n Mf ((T 0).map (orow y))⟩ (WkE.kp) ⟨0,by omega,by omega,rfl⟩ ?_ ?_
  rotate_left
  ·rintro z rfl
   simp only [go_sem,↓reduceIte]
   exact ⟨_,.refl _ _,rfl⟩
  rintro m z ⟨k,rfl,hk,rfl⟩
  by_cases hlt:k<a.ed.length
  rotate_left
  ·obtain rfl:k=a.ed.length:=by omega
   simp only [go_sem,↓reduceIte,reduceLT,reduceEqDiff,Int.lt_irrefl,List.length_map]
   exact ⟨_,WkE.kp,rfl⟩
  have g1:(k:Int)<(a.ed.length:Int):=by omega
  have g0:(0:Int)<=(k:Int):=by omega
  have w1:=wrap_s k (by omega)
  have hee:=hed _ (List.getElem_mem hlt)
  have heg:=edge_get hlt
  have htn:=hTn k hlt
  generalize a.ed[k]=e at hee heg htn
  obtain ⟨e1,e2,e3⟩:=e
  simp only at hee htn
  obtain ⟨p,rfl⟩:∃ p:Nat,e1=(p:Int):=⟨e1.toNat,by omega⟩
  obtain ⟨x,rfl⟩:∃ x:Nat,e2=(x:Int):=⟨e2.toNat,by omega⟩
  simp only [Int.toNat_natCast] at htn
  have hpn:p<n:=by omega
  have hxy:x<y:=by omega
  have p0:(0:Int)<=(p:Int):=by omega
  have p1:(p:Int)<(n:Int):=by omega
  have x0:(0:Int)<=(x:Int):=by omega
  have x1:(x:Int)<(y:Int):=by omega
  have hok:=hTok k
  obtain ⟨t1,ht1⟩:∃ t1,T (k+1)=t1:=⟨_,rfl⟩
  rw [ht1] at htn
  generalize T k=t at htn hok ⊢
  have hrow:t[p]? = some (t.getD p []):=by
   rw [List.getD_eq_getElem?_getD,List.getElem?_eq_getElem (by rw [hok.len];exact hpn)];rfl
  have hrl:=hok.getD hpn
  obtain ⟨row,hrw⟩:∃ row,t.getD p []=row:=⟨_,rfl⟩
  rw [hrw] at hrow hrl
  have htn':t1=t.set p (row.set x e3):=by rw [htn,setT,hrw]
  have hRp:(t.map (orow y))[p]? = some (orow y row):=by rw [List.getElem?_map,hrow];rfl
  have hrx:∃ v,(row.map vi)[x]? = some (vi v):=⟨_,int_get (by omega)⟩
  obtain ⟨v,hrx⟩:=hrx
  have hRs:(t.map (orow y)).set p (.arr y 1 3 ((row.map vi).set x (vi e3)))=t1.map (orow y):=by
   rw [htn',List.map_set,orow,List.map_set]
  simp only [go_sem,↓reduceIte,reduceLT,reduceEqDiff,g1,g0,heg,hMq p hpn,hRp,hrx,hRs,p0,p1,x0,x1,w1,List.length_map,Int.toNat_natCast]
  exact ⟨a.ed.length-(k+1),⟨[(1,.ref 0 1 0 0),(3,.own 1 n 0 n),(6,vi (k+1:Nat))],objsT a n Mf (t1.map (orow y))⟩,by omega,WkE.kp,k+1,rfl,by omega,by rw [ht1];rfl⟩
 rintro _ rfl
 have hfin:T a.ed.length=tabGo (tab0 n y) a.ed:=by rw [hT];simp only;rw [List.take_length]
 have hok:=hTok a.ed.length
 rw [<-hfin]
 generalize T a.ed.length=t at hok ⊢
 refine CwpE.vc ?_
 simp only [go_sem,↓reduceIte,reduceLT]
 refine .own 1 n 0 n 1 22 Mf _ rfl (by omega) (by rw [List.length_map,hok.len]) fun q hq=>?_
 rw [List.length_map,hok.len] at hq
 have e1:Mf[0+q]'(by omega) = .own (q+2) y 0 y:=by
  have:=hMq q hq
  rw [List.getElem?_eq_getElem (by omega)] at this
  simpa using Option.some.inj this
 have hqt:q<t.length:=by rw [hok.len];exact hq
 have hrl:=hok.row _ (List.getElem_mem hqt)
 rw [e1,List.getElem_map]
 refine .own (q+2) y 0 y 1 3 (t[q].map vi) _ ?_ (by simp [hrl]) (by simp [hrl]) fun x hx=>?_
 ·simp only [List.getElem?_cons_succ]
  rw [List.getElem?_map,List.getElem?_eq_getElem hqt];rfl
 ·simp only [Nat.zero_add]
  exact .tree _ (List.all_eq_true.1 (isT_map (fun _=>rfl) _) _ (List.getElem_mem _))
theorem key_eq {g:Gr} (h:GrOk g) {c:List Int} {i j:Nat} (hi:i<g.acc.length) (hj:j<g.acc.length):keyM g c i=keyM g c j ↔ cg c i=cg c j/\∀ x,x<g.sy->kx g c i x=kx g c j x:=by
 unfold keyM
 rw [List.cons_eq_cons]
 constructor
 ·rintro ⟨h1,h2⟩
  refine ⟨h1,fun x hx=>?_⟩
  have e:∀ i,i<g.acc.length->((P5.rowAt g i).map fun t=>if t<0 then -1 else cg c t.toNat)[x]? = some (kx g c i x):=fun i hi=>by
   have hl:=rowAt_len h hi
   rw [List.getElem?_map,List.getElem?_eq_getElem (by omega),rowAt_get];rfl
  have:=e i hi
  rw [h2,e j hj] at this
  exact (Option.some.inj this).symm
 ·rintro ⟨h1,h2⟩
  refine ⟨h1,List.ext_getElem (by simp [rowAt_len h hi,rowAt_len h hj]) fun x hx hx2=>?_⟩
  rw [List.length_map,rowAt_len h hi] at hx
  simp only [List.getElem_map,rowAt_get]
  exact h2 x hx
set_option maxHeartbeats 4000000 in
theorem alike_s (g:Gr) (h:GrOk g) (hyb:g.sy<=1000) (c:List Int) (hc:c.length=g.acc.length) (hcb:g.acc.length<=1000) (i j:Nat) (hi:i<g.acc.length) (hj:j<g.acc.length):Ctr Try.prog 83 [vints c,vrows g.to,vi i,vi j] (vb (decide (keyM g c i=keyM g c j))):=by
 refine specC f83 (by simp) fun F0 w0=>?_
 have hk:=key_eq h (c:=c) hi hj
 have i0:(0:Int)<=(i:Int):=by omega
 have j0:(0:Int)<=(j:Int):=by omega
 have hci:=cg_get (c:=c) (i:=i) (by omega)
 have hcj:=cg_get (c:=c) (i:=j) (by omega)
 have hri:=row_get h hi
 have hrj:=row_get h hj
 have hli:=rowAt_len h hi
 unfold c83
 refine CwpE.cut (st:=⟨[(0,vints c),(1,vrows g.to),(2,vi i),(3,vi j)],[]⟩) ?_ ?_
 ·simp only [go_sem,↓reduceIte,reduceLT,reduceAdd]
  exact ⟨_,WkE.kq,rfl⟩
 by_cases he:cg c i=cg c j
 rotate_left
 ·refine CwpE.step (fun _=>False) ?_ (fun _ h=>h.elim)
  have:decide (keyM g c i=keyM g c j)=false:=decide_eq_false fun e=>he (hk.1 e).1
  rw [this]
  simp only [go_sem,↓reduceIte,reduceCtorEq,reduceLT,reduceEqDiff,i0,j0,hci,hcj,he,Int.toNat_natCast]
  exact .tree _ rfl
 refine CwpE.cut (st:=⟨[(0,vints c),(1,vrows g.to),(2,vi i),(3,vi j)],[]⟩) ?_ ?_
 ·simp only [go_sem,↓reduceIte,reduceCtorEq,reduceLT,reduceEqDiff,i0,j0,hci,hcj,he,Int.toNat_natCast]
  exact ⟨_,WkE.kq,rfl⟩
 refine CwpE.vc ?_
 simp only [go_sem,↓reduceIte,reduceLT]
 refine loopX 0 (fun m z=>∃ x:Nat,m=g.sy-x/\x<=g.sy/\(∀ p,p<x->kx g c i p=kx g c j p)/\z=⟨[(0,vints c),(1,vrows g.to),(2,vi i),(3,vi j),(9,vi x)],[]⟩)
  (fun z=>keyM g c i=keyM g c j/\z=⟨[],[]⟩) g.sy
  ⟨[(0,vints c),(1,vrows g.to),(2,vi i),(3,vi j),(9,vi (0:Nat))],[]⟩ (WkE.kq) ⟨0,by omega,by omega,fun p hp=>absurd hp (by omega),rfl⟩ ?_ ?_
 rotate_left
 ·rintro z ⟨h1,rfl⟩
  have:decide (keyM g c i=keyM g c j)=true:=decide_eq_true h1
  rw [this]
  simp only [go_sem,↓reduceIte,reduceLT]
  exact .tree _ rfl
 rintro m z ⟨x,rfl,hx,hp,rfl⟩
 by_cases hlt:x<g.sy
 rotate_left
 ·have gk:¬ (x:Int)<(g.sy:Int):=by omega
  simp only [go_sem,↓reduceIte,reduceCtorEq,reduceLT,reduceEqDiff,i0,hri,gk,hli,List.length_map,Int.toNat_natCast]
  exact ⟨⟨[],[]⟩,WkE.keep trivial,hk.2 ⟨he,fun p hpy=>hp p (by omega)⟩,rfl⟩
 have g1:(x:Int)<(g.sy:Int):=by omega
 have x0:(0:Int)<=(x:Int):=by omega
 have wx:=wrap_s x (by omega)
 have hgi:=gto_get h hi hlt
 have hgj:=gto_get h hj hlt
 have hbi:=h.lo i x
 have hbj:=h.lo j x
 have hui:=h.hi i x
 have huj:=h.hi j x
 have next:kx g c i x=kx g c j x->∀ p,p<x+1->kx g c i p=kx g c j p:=fun e p hp1=>by
  by_cases h2:p=x
  ·subst h2;exact e
  ·exact hp p (by omega)
 have no:kx g c i x ≠ kx g c j x->decide (keyM g c i=keyM g c j)=false:=fun e=>decide_eq_false fun e2=>e ((hk.1 e2).2 x hlt)
 by_cases b1:0<=gto g i x
 ·by_cases b2:0<=gto g j x
  ·have ki:kx g c i x=cg c (gto g i x).toNat:=by rw [kx,if_neg (by omega)]
   have kj:kx g c j x=cg c (gto g j x).toNat:=by rw [kx,if_neg (by omega)]
   have ci:=cg_get (c:=c) (i:=(gto g i x).toNat) (by omega)
   have cj:=cg_get (c:=c) (i:=(gto g j x).toNat) (by omega)
   by_cases e:(cg c (gto g i x).toNat:Int)=cg c (gto g j x).toNat
   ·simp only [go_sem,↓reduceIte,reduceCtorEq,reduceLT,reduceEqDiff,g1,x0,i0,j0,hri,hrj,hli,hgi,hgj,b1,b2,ci,cj,e,wx,List.length_map,Int.toNat_natCast]
    exact ⟨g.sy-(x+1),⟨[(0,vints c),(1,vrows g.to),(2,vi i),(3,vi j),(9,vi (x+1:Nat))],[]⟩,by omega,WkE.kq,x+1,rfl,by omega,next (by rw [ki,kj,e]),rfl⟩
   ·rw [no (by rw [ki,kj];exact e)]
    simp only [go_sem,↓reduceIte,reduceCtorEq,reduceLT,reduceEqDiff,g1,x0,i0,j0,hri,hrj,hli,hgi,hgj,b1,b2,ci,cj,e,List.length_map,Int.toNat_natCast]
    exact .tree _ rfl
  ·have ki:kx g c i x=cg c (gto g i x).toNat:=by rw [kx,if_neg (by omega)]
   have kj:kx g c j x = -1:=by rw [kx,if_pos (by omega)]
   have ci:=cg_get (c:=c) (i:=(gto g i x).toNat) (by omega)
   by_cases e:(cg c (gto g i x).toNat:Int) = -1
   ·simp only [go_sem,↓reduceIte,reduceCtorEq,reduceLT,reduceEqDiff,g1,x0,i0,j0,hri,hrj,hli,hgi,hgj,b1,b2,ci,e,wx,List.length_map,Int.toNat_natCast]
    exact ⟨g.sy-(x+1),⟨[(0,vints c),(1,vrows g.to),(2,vi i),(3,vi j),(9,vi (x+1:Nat))],[]⟩,by omega,WkE.kq,x+1,rfl,by omega,next (by rw [ki,kj,e]),rfl⟩
   ·rw [no (by rw [ki,kj];exact e)]
    simp only [go_sem,↓reduceIte,reduceCtorEq,reduceLT,reduceEqDiff,g1,x0,i0,j0,hri,hrj,hli,hgi,hgj,b1,b2,ci,e,List.length_map,Int.toNat_natCast]
    exact .tree _ rfl
 ·by_cases b2:0<=gto g j x
  ·have ki:kx g c i x = -1:=by rw [kx,if_pos (by omega)]
   have kj:kx g c j x=cg c (gto g j x).toNat:=by rw [kx,if_neg (by omega)]
   have cj:=cg_get (c:=c) (i:=(gto g j x).toNat) (by omega)
   by_cases e:(-1:Int)=cg c (gto g j x).toNat
   ·simp only [go_sem,↓reduceIte,reduceCtorEq,reduceLT,reduceEqDiff,g1,x0,i0,j0,hri,hrj,hli,hgi,hgj,b1,b2,cj,e,wx,List.length_map,Int.toNat_natCast]
    exact ⟨g.sy-(x+1),⟨[(0,vints c),(1,vrows g.to),(2,vi i),(3,vi j),(9,vi (x+1:Nat))],[]⟩,by omega,WkE.kq,x+1,rfl,by omega,next (by rw [ki,kj,e]),rfl⟩
   ·rw [no (by rw [ki,kj];exact e)]
    simp only [go_sem,↓reduceIte,reduceCtorEq,reduceLT,reduceEqDiff,g1,x0,i0,j0,hri,hrj,hli,hgi,hgj,b1,b2,cj,e,List.length_map,Int.toNat_natCast]
    exact .tree _ rfl
  ·have ki:kx g c i x = -1:=by rw [kx,if_pos (by omega)]
   have kj:kx g c j x = -1:=by rw [kx,if_pos (by omega)]
   simp only [go_sem,↓reduceIte,reduceCtorEq,reduceLT,reduceEqDiff,Int.reduceNeg,g1,x0,i0,j0,hri,hrj,hli,hgi,hgj,b1,b2,wx,List.length_map,Int.toNat_natCast]
   exact ⟨g.sy-(x+1),⟨[(0,vints c),(1,vrows g.to),(2,vi i),(3,vi j),(9,vi (x+1:Nat))],[]⟩,by omega,WkE.kq,x+1,rfl,by omega,next (by rw [ki,kj]),rfl⟩
end Go.Proofs.Ytjilachpkjlhdaa
namespace Go.Proofs.Ytjilachpkjlhdaa
open Go.RowKit Dak P5
open Nat (reduceEqDiff reduceLT reduceAdd)
abbrev lmask (g:Gr) (i:Nat):Bool:=bt (liveM g) i
theorem accI_list (g:Gr) (m:Nat->Bool) (k:Nat) (hk:k<=g.acc.length):((accI g m).take (k+1))=(accI g m).take k++(if k<g.acc.length then [if m k then (if bt g.acc k then 1 else 0) else -1] else []):=by
 by_cases h:k<g.acc.length
 ·have hl:k<(accI g m).length:=by simp [accI];exact h
  rw [if_pos h,List.take_succ_eq_append_getElem hl]
  congr 2
  have:=accI_get (m:=m) h
  rw [cg,List.getD_eq_getElem?_getD,List.getElem?_eq_getElem hl] at this
  exact this
 ·rw [if_neg h,List.append_nil,List.take_of_length_le (by simp [accI];omega),List.take_of_length_le (by simp [accI];omega)]
theorem wk_list3 {m n:Nat} {env env':List (Nat × AV)} {objs:List AObj} (o:AObj) (k:Nat) (l:List Int) (hkn:k<m) (h:lk env k = .own 1 n 0 n) (hid:objs[1]? = some (.arr n 1 3 (l.map vi))) (hl:l.length=n) (hO:objs.take 1=[o]) (ho:o.innO 1=true) (hA:Agree ((k,vints l)::env) env') (he:(env'.all fun p=>p.2.inn 1)=true):WkE m ⟨env,objs⟩ ⟨env',[o]⟩:=by
 have e1:((l.map vi).drop 0).take n=l.map vi:=by rw [List.drop_zero,List.take_of_length_le (by simp [hl])]
 have h2:=WkE.freeze (n:=m) (env:=env) (objs:=objs) k 1 n 0 n 1 3 (l.map vi) hkn h hid (by simp [hl]) (isT_map (fun _=>rfl) _)
 rw [e1] at h2
 refine h2.trans (WkE.round hA he ?_ ?_)
 ·simp only [List.all_cons,List.all_nil,Bool.and_true,List.length_cons,List.length_nil];exact ho
 ·simp only [List.length_cons,List.length_nil]
  rw [List.take_set_of_le (by omega),hO]
set_option maxHeartbeats 4000000 in
theorem rclasses_s (g:Gr) (h:GrOk g) (hnb:g.acc.length<=257) (hyb:g.sy<=1000) (hm:(auOf g).ed.length<=100000):Ctr Try.prog 77 [vau (auOf g),vrows g.to] (vints (classesR g)):=by
 refine specC f77 (by simp) fun F0 w0=>?_
 obtain ⟨n,hn⟩:∃ n,g.acc.length=n:=⟨_,rfl⟩
 obtain ⟨a,ha⟩:∃ a,auOf g=a:=⟨_,rfl⟩
 have hacc:a.acc=g.acc:=by rw [<-ha];rfl
 have hal:=alive_s g h hnb hm
 rw [ha] at hal ⊢
 have hll:=live_len g
 have q0:(0:Int)<=(n:Int):=by omega
 have q2:((8:Nat):Int)*(n:Int)<=281474976710656:=by omega
 have q3:(n:Int)<=9223372036854775807:=by omega
 have hal1:a.acc.length=n:=by rw [hacc,hn]
 unfold c77
 refine CwpE.cut (st:=⟨[(1,vrows g.to),(2,.ref 0 1 0 0)],[oB a]⟩) ?_ ?_
 ·simp only [go_sem,↓reduceIte,reduceLT,reduceAdd]
  exact ⟨_,WkE.kq,rfl⟩
 refine CwpE.cut (st:=⟨[(1,vrows g.to),(2,.ref 0 1 0 0),(5,vbools (liveM g))],[oB a]⟩) ?_ ?_
 ·simp only [go_sem,↓reduceIte,reduceLT,reduceEqDiff,reduceAdd]
  refine callT hal rfl ?_
  simp only [go_sem,↓reduceIte,reduceLT]
  exact ⟨_,WkE.kp,rfl⟩
 refine CwpE.cut (st:=⟨[(1,vrows g.to),(2,.ref 0 1 0 0),(5,vbools (liveM g)),(6,.own 1 n 0 n)],[oB a,.arr n 1 3 (nums n ((accI g (lmask g)).take 0) 0 0)]⟩) ?_ ?_
 ·rw [List.take_zero,nums_zero]
  simp only [go_sem,↓reduceIte,reduceLT,reduceEqDiff,List.length_map,hal1,q0,q2,q3,Int.le_refl,Int.toNat_natCast,rg_rep]
  exact ⟨_,WkE.kp,rfl⟩
 refine CwpE.step (fun z=>z=⟨[(1,vrows g.to),(2,.ref 0 1 0 0),(5,vbools (liveM g)),(6,vints (accI g (lmask g)))],[oB a]⟩) ?_ ?_
 ·simp only [go_sem,↓reduceIte,reduceLT]
  refine loopX 0 (fun m z=>∃ k:Nat,m=n-k/\k<=n/\z=⟨[(1,vrows g.to),(2,.ref 0 1 0 0),(5,vbools (liveM g)),(6,.own 1 n 0 n),(7,vi k)],[oB a,.arr n 1 3 (nums n ((accI g (lmask g)).take k) k 0)]⟩)
   (fun z=>z=⟨[(1,vrows g.to),(2,.ref 0 1 0 0),(5,vbools (liveM g)),(6,vints (accI g (lmask g)))],[oB a]⟩) n
   ⟨[(1,vrows g.to),(2,.ref 0 1 0 0),(5,vbools (liveM g)),(6,.own 1 n 0 n),(7,vi (0:Nat))],[oB a,.arr n 1 3 (nums n ((accI g (lmask g)).take 0) 0 0)]⟩ (WkE.kp) ⟨0,by omega,by omega,rfl⟩ ?_ ?_
  rotate_left
  ·rintro z rfl
   simp only [go_sem,↓reduceIte]
   exact ⟨_,.refl _ _,rfl⟩
  rintro m z ⟨k,rfl,hk,rfl⟩
  have hil:(accI g (lmask g)).length=n:=by simp [accI,hn]
  by_cases hlt:k<n
  rotate_left
  ·obtain rfl:k=n:=by omega
   rw [List.take_of_length_le (by omega),nums_all hil]
   simp only [go_sem,↓reduceIte,reduceLT,reduceEqDiff,Int.lt_irrefl]
   exact ⟨_,wk_list3 (oB a) 6 (accI g (lmask g)) (by omega) rfl rfl hil rfl rfl (by simp only [go_sem,↓reduceIte,reduceEqDiff];try rfl) rfl,rfl⟩
  have g1:(k:Int)<(n:Int):=by omega
  have g0:(0:Int)<=(k:Int):=by omega
  have w1:=wrap_s k (by omega)
  have hlg:=bt_get (s:=liveM g) (k:=k) (by omega)
  have hag:=bt_get (s:=a.acc) (k:=k) (by omega)
  have hst:=accI_list g (lmask g) k (by omega)
  rw [if_pos (by omega)] at hst
  have htl:((accI g (lmask g)).take k).length=k:=by rw [List.length_take,hil];omega
  have hgo:∀ v,v=(if lmask g k then (if bt g.acc k then 1 else 0) else -1:Int)->nums n ((accI g (lmask g)).take k) k v=nums n ((accI g (lmask g)).take (k+1)) (k+1) 0:=fun v hv=>by
   rw [hst,<-hv,nums_snoc htl]
  have hng:∀ v,(nums n ((accI g (lmask g)).take k) k v)[k]? = some (vi v):=fun v=>nums_get hlt
  have hns:∀ v w,(nums n ((accI g (lmask g)).take k) k v).set k (vi w)=nums n ((accI g (lmask g)).take k) k w:=fun v w=>nums_set
  have fin:∀ st v,v=(if lmask g k then (if bt g.acc k then 1 else 0) else -1:Int)->WkE 100 st ⟨[(1,vrows g.to),(2,.ref 0 1 0 0),(5,vbools (liveM g)),(6,.own 1 n 0 n),(7,vi (k+1:Nat))],[oB a,.arr n 1 3 (nums n ((accI g (lmask g)).take k) k v)]⟩ ->
   ∃ m z,m<n-k/\WkE 100 st z/\∃ k:Nat,m=n-k/\k<=n/\z=⟨[(1,vrows g.to),(2,.ref 0 1 0 0),(5,vbools (liveM g)),(6,.own 1 n 0 n),(7,vi k)],[oB a,.arr n 1 3 (nums n ((accI g (lmask g)).take k) k 0)]⟩:=fun st v hv hst=>by
   rw [hgo v hv] at hst
   exact ⟨n-(k+1),_,by omega,hst,k+1,rfl,by omega,rfl⟩
  generalize nums n ((accI g (lmask g)).take k) k=N at hng hns fin ⊢
  cases hb:bt (liveM g) k with
  | false =>
   rw [hb] at hlg
   simp only [go_sem,↓reduceIte,reduceLT,reduceEqDiff,g1,g0,hlg,hng,hns,w1,Int.toNat_natCast]
   exact fin _ (-1) (by rw [lmask,hb];rfl) (WkE.kp)
  | true =>
   rw [hb] at hlg
   cases hc:bt a.acc k with
   | false =>
    rw [hc] at hag
    rw [hacc] at hc
    simp only [go_sem,↓reduceIte,reduceLT,reduceEqDiff,g1,g0,hlg,hag,hng,hns,w1,Int.toNat_natCast]
    exact fin _ 0 (by rw [lmask,hb,hc];rfl) (WkE.kp)
   | true =>
    rw [hc] at hag
    rw [hacc] at hc
    simp only [go_sem,↓reduceIte,reduceLT,reduceEqDiff,g1,g0,hlg,hag,hng,hns,w1,Int.toNat_natCast]
    exact fin _ 1 (by rw [lmask,hb,hc];rfl) (WkE.kp)
 rintro _ rfl
 have hcl:classesR g=clsR g (lmask g) (n+1) (accI g (lmask g)) 0:=by rw [classesR,hn]
 rw [hcl]
 have hR0:=accI_ref g (lmask g)
 have hmask:Mask g (lmask g):=⟨fun i w hw=>lang_live h w i hw,fun i x _ _ _ ht=>live_lang ht⟩
 generalize accI g (lmask g)=c0 at hR0 ⊢
 obtain ⟨RS,hRS⟩:∃ RS,clsR g (lmask g) (n+1) c0 0=RS:=⟨_,rfl⟩
 rw [hRS]
 refine CwpE.vc ?_
 simp only [go_sem,↓reduceIte,reduceLT]
 refine loopX 2 (fun m z=>∃ (c:List Int) (many:Nat),Ref g (lmask g) c many/\n-many<m/\clsR g (lmask g) m c many=RS/\z=⟨[(1,vrows g.to),(5,vbools (liveM g)),(6,vints c),(8,vi many)],[oB a]⟩)
  (fun _=>False) (n+1) ⟨[(1,vrows g.to),(5,vbools (liveM g)),(6,vints c0),(8,vi (0:Nat))],[oB a]⟩ (WkE.kp) ⟨c0,0,hR0,by omega,hRS,rfl⟩ ?_ (fun _ h=>h.elim)
 rintro m z ⟨c,many,hRef,hmn,hRc,rfl⟩
 obtain ⟨f,rfl⟩:∃ f,m=f+1:=⟨m-1,by omega⟩
 have hcl:=hRef.len
 rw [hn] at hcl
 have hle:=step_le hRef
 rw [clsR] at hRc
 obtain ⟨nx,hnx⟩:∃ nx,maskO g (lmask g) c=nx:=⟨_,rfl⟩
 have hnxv:∀ i,nx i=if lmask g i then some (keyM g c i) else none:=fun i=>by rw [<-hnx];rfl
 have hstep:clsStep g (lmask g) c=rowGo nx (List.range n) []:=by rw [clsStep,hnx,hn]
 have hsr:=step_ref h hmask hRef
 rw [hstep] at hRc hle hsr
 obtain ⟨RR,hRR⟩:∃ RR:Nat->List Int,RR=fun i=>(rowGo nx (List.range i) []).1:=⟨_,rfl⟩
 obtain ⟨KS,hKS⟩:∃ KS:Nat->List (List Int),KS=fun i=>(rowGo nx (List.range i) []).2:=⟨_,rfl⟩
 have hRRl:∀ i,(RR i).length=i:=fun i=>by rw [hRR];simp only;rw [rowGo_len,List.length_range]
 have hKn:∀ i,(KS i).Nodup:=fun i=>by rw [hKS];exact rowGo_nodup _ _ _ (by simp)
 have hKle:∀ i,i<=n->(KS i).length<=257:=fun i hi=>by
  have h1:=(rowGo_part nx hi ([]:List (List Int))).length_le
  rw [hKS]
  simp only
  omega
 have hnone:∀ i,lmask g i=false->RR (i+1)=RR i++[-1]/\KS (i+1)=KS i:=fun i hi=>by
  have:=rowGo_range nx i ([]:List (List Int))
  rw [hnxv,hi] at this
  simp only [Bool.false_eq_true,if_false] at this
  rw [hRR,hKS]
  simp only
  rw [this]
  exact ⟨rfl,rfl⟩
 have hsome:∀ i,lmask g i=true->RR (i+1)=RR i++[((posF (KS i) (keyM g c i):Nat):Int)]/\KS (i+1)=addK (KS i) (keyM g c i):=fun i hi=>by
  have:=rowGo_range nx i ([]:List (List Int))
  rw [hnxv,hi] at this
  simp only [if_true] at this
  rw [hRR,hKS]
  simp only
  rw [this]
  exact ⟨rfl,rfl⟩
 have hRn:RR n=(rowGo nx (List.range n) []).1:=by rw [hRR]
 have hKn':KS n=(rowGo nx (List.range n) []).2:=by rw [hKS]
 have hK0:KS 0=[]:=by rw [hKS];rfl
 have hR0':RR 0=[]:=by rw [hRR];rfl
 rw [<-hRn,<-hKn'] at hRc hsr
 rw [<-hKn'] at hle
 clear hRR hKS hstep
 simp only [go_sem,↓reduceIte,reduceLT,reduceEqDiff,List.length_map,hcl,q0,q2,q3,Int.le_refl,Int.toNat_natCast,rg_rep]
 refine loopX 4 (fun m z=>∃ (i:Nat) (F:List Nat),m=n-i/\i<=n/\F.map (keyM g c)=KS i/\(∀ p ∈ F,p<n) /\
  z=⟨[(1,vrows g.to),(5,vbools (liveM g)),(6,vints c),(8,vi many),(9,.own 1 n 0 n),(10,.own 2 F.length 0 F.length),(11,vi i)],[oB a,.arr n 1 3 (nums n (RR i) i 0),.arr F.length 1 3 (F.map fun (p:Nat)=>vi p)]⟩)
  (fun z=>∃ F:List Nat,F.map (keyM g c)=KS n/\z=⟨[(1,vrows g.to),(5,vbools (liveM g)),(8,vi many),(9,.own 1 n 0 n),(10,.own 2 F.length 0 F.length)],[oB a,.arr n 1 3 ((RR n).map vi),.arr F.length 1 3 (F.map fun (p:Nat)=>vi p)]⟩) n
  ⟨[(1,vrows g.to),(5,vbools (liveM g)),(6,vints c),(8,vi many),(9,.own 1 n 0 n),(10,.own 2 0 0 0),(11,vi (0:Nat))],[oB a,.arr n 1 3 (nums n (RR 0) 0 0),.arr 0 1 3 []]⟩ ?_ ⟨0,[],by omega,by omega,by rw [hK0];rfl,fun p hp=>by simp at hp,rfl⟩ ?_ ?_
 ·rw [hR0',nums_zero]
  exact (WkE.nil 10 1 3 (by omega) rfl).trans (WkE.keep (by simp only [go_sem,↓reduceIte,reduceEqDiff,reduceAdd];try rfl))
 rotate_left
 ·rintro z ⟨F,hF,rfl⟩
  have hFl:F.length=(KS n).length:=by rw [<-hF,List.length_map]
  by_cases he:(KS n).length=many
  ·rw [if_pos he] at hRc
   have heI:(F.length:Int)=(many:Int):=by omega
   rw [<-hRc]
   simp only [go_sem,↓reduceIte,reduceLT,reduceEqDiff,heI]
   refine .own 1 n 0 n 1 3 _ _ rfl (by simp [hRRl]) (by simp [hRRl]) fun q hq=>?_
   simp only [Nat.zero_add]
   exact .tree _ (List.all_eq_true.1 (isT_map (fun _=>rfl) _) _ (List.getElem_mem _))
  ·rw [if_neg he] at hRc
   have heI:¬ (F.length:Int)=(many:Int):=by omega
   simp only [go_sem,↓reduceIte,reduceLT,reduceEqDiff,heI]
   refine ⟨f,⟨[(1,vrows g.to),(5,vbools (liveM g)),(6,vints (RR n)),(8,vi (KS n).length)],[oB a]⟩,by omega,?_,RR n,(KS n).length,hsr,by omega,hRc,rfl⟩
   rw [<-hFl]
   exact wk_list3 (oB a) 6 (RR n) (by omega) rfl rfl (hRRl n) rfl rfl (by simp only [go_sem,↓reduceIte,reduceEqDiff];try rfl) rfl
 rintro m z ⟨i,F,rfl,hi,hF,hFb,rfl⟩
 by_cases hlt:i<n
 rotate_left
 ·obtain rfl:i=n:=by omega
  rw [nums_all (hRRl i)]
  simp only [go_sem,↓reduceIte,reduceLT,reduceEqDiff,hcl,Int.lt_irrefl,List.length_map]
  exact ⟨_,WkE.kp,F,hF,rfl⟩
 have g1:(i:Int)<(n:Int):=by omega
 have g0:(0:Int)<=(i:Int):=by omega
 have w1:=wrap_s i (by omega)
 have hlg:=bt_get (s:=liveM g) (k:=i) (by omega)
 have hFl:F.length=(KS i).length:=by rw [<-hF,List.length_map]
 have hFb2:=hKle i (by omega)
 have hng:∀ v,(nums n (RR i) i v)[i]? = some (vi v):=fun v=>nums_get hlt
 have hns:∀ v w,(nums n (RR i) i v).set i (vi w)=nums n (RR i) i w:=fun v w=>nums_set
 have hsn:∀ v,RR (i+1)=RR i++[v]->nums n (RR i) i v=nums n (RR (i+1)) (i+1) 0:=fun v hv=>by rw [hv,nums_snoc (hRRl i)]
 obtain ⟨N,hN⟩:∃ N,nums n (RR i) i=N:=⟨_,rfl⟩
 rw [hN] at hng hns hsn ⊢
 cases hb:bt (liveM g) i with
 | false =>
  rw [hb] at hlg
  obtain ⟨h1,h2⟩:=hnone i hb
  simp only [go_sem,↓reduceIte,reduceLT,reduceEqDiff,g1,g0,hcl,hlg,hng,hns,w1,List.length_map,Int.toNat_natCast]
  exact ⟨n-(i+1),⟨[(1,vrows g.to),(5,vbools (liveM g)),(6,vints c),(8,vi many),(9,.own 1 n 0 n),(10,.own 2 F.length 0 F.length),(11,vi (i+1:Nat))],[oB a,.arr n 1 3 (N (-1)),.arr F.length 1 3 (F.map fun (p:Nat)=>vi p)]⟩,by omega,WkE.kp,i+1,F,rfl,by omega,by rw [h2,hF],hFb,by rw [hsn _ h1]⟩
 | true =>
  rw [hb] at hlg
  obtain ⟨h1,h2⟩:=hsome i hb
  have hKi:=hKn i
  obtain ⟨pos,hpos⟩:∃ pos,posF (KS i) (keyM g c i)=pos:=⟨_,rfl⟩
  rw [hpos] at h1
  simp only [go_sem,↓reduceIte,reduceLT,reduceEqDiff,g1,g0,hcl,hlg,hng,hns,List.length_map,Int.toNat_natCast]
  refine loopX 6 (fun m z=>∃ k:Nat,m=F.length-k/\k<=F.length /\
   z=⟨[(1,vrows g.to),(5,vbools (liveM g)),(6,vints c),(8,vi many),(9,.own 1 n 0 n),(10,.own 2 F.length 0 F.length),(11,vi i),(12,vi k)],[oB a,.arr n 1 3 (N (if pos<k then pos else -1)),.arr F.length 1 3 (F.map fun (p:Nat)=>vi p)]⟩)
   (fun z=>z=⟨[(1,vrows g.to),(5,vbools (liveM g)),(6,vints c),(8,vi many),(9,.own 1 n 0 n),(10,.own 2 F.length 0 F.length),(11,vi i)],[oB a,.arr n 1 3 (N (if pos<F.length then pos else -1)),.arr F.length 1 3 (F.map fun (p:Nat)=>vi p)]⟩) F.length
   ⟨[(1,vrows g.to),(5,vbools (liveM g)),(6,vints c),(8,vi many),(9,.own 1 n 0 n),(10,.own 2 F.length 0 F.length),(11,vi i),(12,vi (0:Nat))],[oB a,.arr n 1 3 (N (-1)),.arr F.length 1 3 (F.map fun (p:Nat)=>vi p)]⟩ (WkE.kp) ⟨0,by omega,by omega,by rw [if_neg (by omega)]⟩ ?_ ?_
  rotate_left
  ·rintro z rfl
   have hpl:=posF_le (KS i) (keyM g c i)
   rw [hpos] at hpl
   by_cases hk:pos<F.length
   ·rw [if_pos hk]
    have hnl:¬ ((pos:Nat):Int)<0:=by omega
    simp only [go_sem,↓reduceIte,reduceLT,reduceEqDiff,g1,g0,hng,hnl,w1,Int.toNat_natCast]
    refine ⟨n-(i+1),⟨[(1,vrows g.to),(5,vbools (liveM g)),(6,vints c),(8,vi many),(9,.own 1 n 0 n),(10,.own 2 F.length 0 F.length),(11,vi (i+1:Nat))],[oB a,.arr n 1 3 (N pos),.arr F.length 1 3 (F.map fun (p:Nat)=>vi p)]⟩,by omega,WkE.kp,i+1,F,rfl,by omega,?_,hFb,by rw [hsn _ h1]⟩
    rw [h2,addK,hpos,if_pos (by omega),hF]
   ·rw [if_neg hk]
    have hpe:pos=F.length:=by omega
    have hneg:(-1:Int)<0:=by omega
    have qf:(F.length+1)*8<=140737488355328:=by omega
    simp only [go_sem,Nat.reducePow,Nat.reduceLeDiff,↓reduceIte,reduceLT,reduceEqDiff,reduceAdd,Nat.reduceMul,g1,g0,hng,hns,hneg,w1,qf,Int.toNat_natCast]
    have hm1:(F.map fun (p:Nat)=>vi p)++[vi i]=(F++[i]).map fun (p:Nat)=>vi p:=by rw [List.map_append];rfl
    refine ⟨n-(i+1),⟨[(1,vrows g.to),(5,vbools (liveM g)),(6,vints c),(8,vi many),(9,.own 1 n 0 n),(10,.own 2 (F++[i]).length 0 (F++[i]).length),(11,vi (i+1:Nat))],[oB a,.arr n 1 3 (N pos),.arr (F++[i]).length 1 3 ((F++[i]).map fun (p:Nat)=>vi p)]⟩,by omega,?_,i+1,F++[i],rfl,by omega,?_,?_,by rw [hsn _ h1]⟩
    ·rw [hpe]
     simp only [List.length_append,List.length_singleton,List.map_append,List.map_cons,List.map_nil]
     exact WkE.kp
    ·rw [h2,addK,hpos,if_neg (by omega),List.map_append,hF];rfl
    ·intro p hp
     rcases List.mem_append.1 hp with hp | hp
     ·exact hFb p hp
     ·rw [List.mem_singleton.1 hp];exact hlt
  rintro m z ⟨k,rfl,hk,rfl⟩
  by_cases hkF:k<F.length
  rotate_left
  ·obtain rfl:k=F.length:=by omega
   simp only [go_sem,↓reduceIte,reduceLT,reduceEqDiff,Int.lt_irrefl]
   exact ⟨_,WkE.kp,rfl⟩
  have k1:(k:Int)<(F.length:Int):=by omega
  have k0:(0:Int)<=(k:Int):=by omega
  have wk:=wrap_s k (by omega)
  have hFg:(F.map fun (p:Nat)=>vi p)[k]? = some (vi (F[k]:Nat)):=by rw [List.getElem?_map,List.getElem?_eq_getElem hkF];rfl
  have hFk:=hFb _ (List.getElem_mem hkF)
  have hkey:keyM g c F[k]=(KS i)[k]'(by omega):=by simp only [<-hF,List.getElem_map]
  have hak:=alike_s g h hyb c (by omega) (by omega) i F[k] (by omega) (by omega)
  have hdec:decide (keyM g c i=keyM g c F[k])=decide (pos=k):=by
   rw [decide_eq_decide,hkey,<-hpos]
   constructor
   ·intro e
    rw [e];exact posF_nodup hKi k (by omega)
   ·intro e
    have hlt2:posF (KS i) (keyM g c i)<(KS i).length:=by omega
    rw [<-posF_get hlt2]
    simp only [e]
  rw [hdec] at hak
  generalize F[k]=p at hFg hak
  simp only [go_sem,↓reduceIte,reduceLT,reduceEqDiff,k1,k0,hFg,Int.toNat_natCast]
  refine callT hak rfl ?_
  by_cases hpk:pos=k
  ·simp only [go_sem,↓reduceIte,reduceLT,reduceEqDiff,hpk,g1,g0,hng,hns,wk,Int.toNat_natCast]
   refine ⟨F.length-(k+1),⟨[(1,vrows g.to),(5,vbools (liveM g)),(6,vints c),(8,vi many),(9,.own 1 n 0 n),(10,.own 2 F.length 0 F.length),(11,vi i),(12,vi (k+1:Nat))],[oB a,.arr n 1 3 (N k),.arr F.length 1 3 (F.map fun (p:Nat)=>vi p)]⟩,by omega,WkE.kp,k+1,rfl,by omega,by rw [if_pos (by omega)]⟩
  ·simp only [go_sem,↓reduceIte,reduceLT,reduceEqDiff,hpk,wk]
   refine ⟨F.length-(k+1),⟨[(1,vrows g.to),(5,vbools (liveM g)),(6,vints c),(8,vi many),(9,.own 1 n 0 n),(10,.own 2 F.length 0 F.length),(11,vi i),(12,vi (k+1:Nat))],[oB a,.arr n 1 3 (N (if pos<k then pos else -1)),.arr F.length 1 3 (F.map fun (p:Nat)=>vi p)]⟩,by omega,WkE.kp,k+1,rfl,by omega,?_⟩
   have:(pos<k+1) ↔ (pos<k):=by omega
   simp only [this]
end Go.Proofs.Ytjilachpkjlhdaa
namespace Go.Proofs.Ytjilachpkjlhdaa
open Go.RowKit Dak P5
open Nat (reduceEqDiff reduceLT reduceAdd)
def objsL (o0:AObj) (sy:Int) (L:List Nat) (A:List Bool) (E:List Edg):List AObj :=
 [o0,.arr 1 3 26 [.agg [vi 0,.val (.slice none 0 0),.val (.slice none 0 0)]],.arr 1 3 26 [.agg [vi sy,.own 4 A.length 0 A.length,.own 5 E.length 0 E.length]],.arr L.length 1 3 (L.map vn),.arr A.length 1 4 (A.map vb),.arr E.length 3 71 (E.map vedge)]
theorem objsL_eq (o0:AObj) (sy:Int) (L:List Nat) (A:List Bool) (E:List Edg):objsL o0 sy L A E =
 [o0,.arr 1 3 26 [.agg [vi 0,.val (.slice none 0 0),.val (.slice none 0 0)]],.arr 1 3 26 [.agg [vi sy,.own 4 A.length 0 A.length,.own 5 E.length 0 E.length]],.arr L.length 1 3 (L.map vn),.arr A.length 1 4 (A.map vb),.arr E.length 3 71 (E.map vedge)]:=rfl
set_option maxHeartbeats 4000000 in
theorem rLeast_s (g:Gr) (h:GrOk g) (hnb:g.acc.length<=257) (hyb:g.sy<=64):Ctr Try.prog 53 [vau (auOf g)] (vau (auOf (leastR g))):=by
 have hml:(auOf g).ed.length<=100000:=Nat.le_trans (edl g h) (Nat.le_trans (Nat.mul_le_mul hnb hyb) (by omega))
 have htb:=table_s (auOf g) g.acc.length g.sy ⟨rfl,rfl,by omega,by omega,hml,fun e he=>by
  obtain ⟨i,x,hi,hx,_,rfl⟩:=(mem_auOf h).1 he
  simp only
  omega⟩
 have htg:tabM (auOf g)=g.to:=congrArg Gr.to (tab_auOf h)
 rw [htg] at htb
 have hcs:=rclasses_s g h hnb (by omega) hml
 refine specC f53 (by simp) fun F0 w0=>?_
 obtain ⟨n,hn⟩:∃ n,g.acc.length=n:=⟨_,rfl⟩
 obtain ⟨y,hy⟩:∃ y,g.sy=y:=⟨_,rfl⟩
 obtain ⟨a,ha⟩:∃ a,auOf g=a:=⟨_,rfl⟩
 have hacc:a.acc=g.acc:=by rw [<-ha];rfl
 have hasy:a.sy=(y:Int):=by rw [<-ha,<-hy];rfl
 have hcl:(classesR g).length=n:=by rw [(classesR_is h).len,hn]
 obtain ⟨LG,hLG⟩:∃ LG,lgo g (classesR g) 258 [0] []=LG:=⟨_,rfl⟩
 have hres:auOf (leastR g)=⟨(y:Int),LG.1.map (bt g.acc),edAll 0 LG.2⟩:=by rw [leastR,leastG,hLG,auOf,hy]
 have hrep0:Reps g (classesR g) [0]:=⟨by simp,fun p hp=>by rw [List.mem_singleton.1 hp];have:=h.n;omega⟩
 rw [hres]
 rw [ha] at htb hcs ⊢
 generalize classesR g=c at hcs hcl hLG hrep0
 unfold c53
 refine CwpE.cut (st:=⟨[(1,.ref 0 1 0 0),(2,.ref 1 1 0 0)],[oB a,.arr 1 3 26 [.agg [vi 0,.val (.slice none 0 0),.val (.slice none 0 0)]]]⟩) ?_ ?_
 ·simp only [go_sem,↓reduceIte,reduceLT,reduceAdd]
  exact ⟨_,WkE.kp,rfl⟩
 refine CwpE.cut (st:=⟨[(1,.ref 0 1 0 0),(2,.ref 1 1 0 0),(3,vrows g.to)],[oB a,.arr 1 3 26 [.agg [vi 0,.val (.slice none 0 0),.val (.slice none 0 0)]]]⟩) ?_ ?_
 ·simp only [go_sem,↓reduceIte,reduceLT,reduceAdd]
  refine callT htb rfl ?_
  simp only [go_sem,↓reduceIte,reduceLT]
  exact ⟨_,WkE.kp,rfl⟩
 refine CwpE.cut (st:=⟨[(1,.ref 0 1 0 0),(2,.ref 1 1 0 0),(3,vrows g.to),(4,vints c)],[oB a,.arr 1 3 26 [.agg [vi 0,.val (.slice none 0 0),.val (.slice none 0 0)]]]⟩) ?_ ?_
 ·simp only [go_sem,↓reduceIte,reduceLT,reduceEqDiff,reduceAdd]
  refine callT hcs rfl ?_
  simp only [go_sem,↓reduceIte,reduceLT]
  exact ⟨_,WkE.kp,rfl⟩
 refine CwpE.cut (st:=⟨[(1,.ref 0 1 0 0),(2,.ref 1 1 0 0),(3,vrows g.to),(4,vints c),(5,.ref 2 1 0 0)],[oB a,.arr 1 3 26 [.agg [vi 0,.val (.slice none 0 0),.val (.slice none 0 0)]],.arr 1 3 26 [.agg [vi y,.val (.slice none 0 0),.val (.slice none 0 0)]]]⟩) ?_ ?_
 ·simp only [go_sem,Nat.reduceLeDiff,↓reduceIte,reduceLT,reduceEqDiff,reduceAdd,hasy]
  exact ⟨_,WkE.kp,rfl⟩
 refine CwpE.seqJ (fun st=>st=⟨[(1,.ref 0 1 0 0),(2,.ref 1 1 0 0),(3,vrows g.to),(4,vints c),(5,.ref 2 1 0 0),(6,.own 3 1 0 1)],objsL (oB a) y [0] [] []⟩) ?_ ?_
 ·refine CwpE.regionB 1 (by omega) rfl (by decide) ?_
  simp only [go_sem,↓reduceIte,reduceLT,reduceAdd]
  refine ⟨_,(WkE.nilCell 2 1 3 0 1 1 4 26 _ (.agg [vi y,.val (.slice none 0 0),.val (.slice none 0 0)]) rfl rfl rfl).trans ((WkE.nilCell 2 1 3 0 2 3 71 26 _ (.agg [vi y,.own 4 0 0 0,.val (.slice none 0 0)]) rfl rfl rfl).trans (WkE.keep (env':=[(1,.ref 0 1 0 0),(2,.ref 1 1 0 0),(3,vrows g.to),(4,vints c),(5,.ref 2 1 0 0),(6,.own 3 1 0 1)]) (by simp only [go_sem,↓reduceIte,reduceEqDiff];try rfl))),?_⟩
  simp only [go_sem,reduceAdd]
  exact ⟨_,WkE.kp,rfl⟩
 rintro _ rfl
 refine CwpE.step (fun z=>∃ L rows,LG=(L,rows)/\z=⟨[(2,.ref 1 1 0 0),(5,.ref 2 1 0 0)],objsL (oB a) y L (L.map (bt g.acc)) (edAll 0 rows)⟩) ?_ ?_
 rotate_left
 ·rintro _ ⟨L,rows,hBs,rfl⟩
  rw [hBs]
  refine CwpE.vc ?_
  rw [objsL_eq]
  simp only [go_sem,↓reduceIte,reduceLT,reduceEqDiff,reduceAdd]
  exact objsS_snap y _ _ _ L.length (edAll 0 rows).length (by simp) rfl rfl rfl
 simp only [go_sem,↓reduceIte,reduceLT]
 refine loopX 0 (fun m z=>∃ (i:Nat) (L:List Nat) (rows:List (List Int)),m=258-i/\rows.length=i/\i<=L.length/\Reps g c L/\(∀ r ∈ rows,r.length=y)/\LG=lgo g c (258-i) L rows /\
  z=⟨[(1,.ref 0 1 0 0),(2,.ref 1 1 0 0),(3,vrows g.to),(4,vints c),(5,.ref 2 1 0 0),(6,.own 3 L.length 0 L.length),(7,vi i)],objsL (oB a) y L ((L.take i).map (bt g.acc)) (edAll 0 rows)⟩)
  (fun z=>∃ L rows,LG=(L,rows)/\z=⟨[(2,.ref 1 1 0 0),(5,.ref 2 1 0 0)],objsL (oB a) y L (L.map (bt g.acc)) (edAll 0 rows)⟩) 258
  ⟨[(1,.ref 0 1 0 0),(2,.ref 1 1 0 0),(3,vrows g.to),(4,vints c),(5,.ref 2 1 0 0),(6,.own 3 1 0 1),(7,vi (0:Nat))],objsL (oB a) y [0] [] []⟩ (WkE.kp)
  ⟨0,[0],[],rfl,rfl,by simp,hrep0,fun r hr=>by simp at hr,hLG.symm,rfl⟩ ?_ ?_
 rotate_left
 ·rintro z ⟨L,rows,h1,rfl⟩
  simp only [go_sem,↓reduceIte]
  exact ⟨_,.refl _ _,L,rows,h1,rfl⟩
 rintro m z ⟨i,L,rows,rfl,hri,hiL,hrep,hrl,hBi,rfl⟩
 have hLle:=hrep.le
 by_cases hlt:i<L.length
 rotate_left
 ·have gk:¬ (i:Int)<(L.length:Int):=by omega
  rw [lgo_end (by omega)] at hBi
  rw [objsL_eq]
  simp only [go_sem,↓reduceIte,reduceLT,reduceEqDiff,gk,List.length_map]
  refine ⟨⟨[(2,.ref 1 1 0 0),(5,.ref 2 1 0 0)],objsL (oB a) y L (L.map (bt g.acc)) (edAll 0 rows)⟩,?_,L,rows,hBi,rfl⟩
  rw [List.take_of_length_le (by omega),objsL_eq]
  simp only [List.length_map]
  exact WkE.kp
 have hf:258-i=(258-(i+1))+1:=by omega
 rw [hf,lgo_step (by omega)] at hBi
 have hnx:L[rows.length]=L[i]:=by simp only [hri]
 rw [hnx,hy] at hBi
 have g1:(i:Int)<(L.length:Int):=by omega
 have g0:(0:Int)<=(i:Int):=by omega
 have wi:=wrap_s i (by omega)
 have hLi:=vn_get hlt
 have hLin:=hrep.lt _ (List.getElem_mem hlt)
 have hedl:=edAll_len rows 0 (m:=y) (fun r hr=>Nat.le_of_eq (hrl r hr))
 have hedb:(edAll 0 rows).length<=16448:=Nat.le_trans hedl (Nat.le_trans (Nat.mul_le_mul (show rows.length<=257 by omega) (show y<=64 by omega)) (by omega))
 have hAl:((L.take i).map (bt g.acc)).length=i:=by simp;omega
 have hA1:((L.take i).map (bt g.acc))++[bt g.acc L[i]]=(L.take (i+1)).map (bt g.acc):=by
  rw [List.take_succ_eq_append_getElem hlt,List.map_append];rfl
 have qa:(i+1)*1<=140737488355328:=by omega
 have hkeep:∀ x (h:i<((lrow g c L[i] (List.range x) L).2).length),((lrow g c L[i] (List.range x) L).2)[i]=L[i]:=fun x h=>((lrow_pre g c L[i] (List.range x) L).getElem hlt).symm
 have hLxr:∀ x,Reps g c (lrow g c L[i] (List.range x) L).2:=fun x=>lrow_reps h _ hrep
 obtain ⟨s,hs⟩:∃ s,L[i]=s:=⟨_,rfl⟩
 rw [hs] at hBi hLi hLin hA1
 simp only [hs] at hkeep hLxr
 have s0:(0:Int)<=(s:Int):=by omega
 have hsa:=bt_get (s:=a.acc) (k:=s) (by rw [hacc];exact hLin)
 rw [hacc] at hsa
 rw [objsL_eq]
 have hAe:((L.take i).map (bt g.acc)).map vb++[vb (bt g.acc s)]=((L.take (i+1)).map (bt g.acc)).map vb:=by
  rw [<-hA1,List.map_append];rfl
 have hAl1:((L.take (i+1)).map (bt g.acc)).length=i+1:=by simp;omega
 obtain ⟨A0,hA0⟩:∃ A0,((L.take i).map (bt g.acc))=A0:=⟨_,rfl⟩
 obtain ⟨A1,hA1e⟩:∃ A1,((L.take (i+1)).map (bt g.acc))=A1:=⟨_,rfl⟩
 rw [hA0] at hAl hAe
 rw [hA1e] at hAl1 hAe
 rw [hA0]
 obtain ⟨E0,hE0⟩:∃ E0,edAll 0 rows=E0:=⟨_,rfl⟩
 rw [hE0] at hedb ⊢
 simp only [go_sem,Nat.reducePow,Nat.reduceLeDiff,↓reduceIte,reduceLT,reduceEqDiff,reduceAdd,Nat.reduceMul,g1,g0,hLi,s0,hacc,hsa,hAl,qa,hAe,List.length_map,Int.toNat_natCast]
 obtain ⟨LX,hLX⟩:∃ LX:Nat->List Nat,LX=fun x=>(lrow g c s (List.range x) L).2:=⟨_,rfl⟩
 obtain ⟨RX,hRX⟩:∃ RX:Nat->List Int,RX=fun x=>(lrow g c s (List.range x) L).1:=⟨_,rfl⟩
 have hRXl:∀ x,(RX x).length=x:=fun x=>by rw [hRX];simp only;rw [lrow_len,List.length_range]
 have hLX0:LX 0=L:=by rw [hLX];rfl
 have hRX0:RX 0=[]:=by rw [hRX];rfl
 have hLXr:∀ x,Reps g c (LX x):=fun x=>by rw [hLX];exact hLxr x
 have hLXp:∀ x,L <+: LX x:=fun x=>by rw [hLX];exact lrow_pre g c s _ L
 have hLXk:∀ x (h:i<(LX x).length),(LX x)[i]=s:=fun x h=>by
  have:=((hLXp x).getElem hlt)
  rw [<-this,hs]
 have hskip:∀ x,(gto g s x<0 \/ cg c (gto g s x).toNat<0)->LX (x+1)=LX x/\RX (x+1)=RX x++[-1]:=fun x hx=>by
  rw [hLX,hRX]
  dsimp only
  rw [lrow_range]
  dsimp only
  rw [if_pos hx]
  exact ⟨rfl,rfl⟩
 have htake:∀ x,¬ (gto g s x<0 \/ cg c (gto g s x).toNat<0)->LX (x+1)=(if posF ((LX x).map (cg c)) (cg c (gto g s x).toNat)<(LX x).length then LX x else LX x++[(gto g s x).toNat])/\RX (x+1)=RX x++[((posF ((LX x).map (cg c)) (cg c (gto g s x).toNat):Nat):Int)]:=fun x hx=>by
  rw [hLX,hRX]
  dsimp only
  rw [lrow_range]
  dsimp only
  rw [if_neg hx]
  exact ⟨rfl,rfl⟩
 have hLXy:(lrow g c s (List.range y) L).2=LX y:=by rw [hLX]
 have hRXy:(lrow g c s (List.range y) L).1=RX y:=by rw [hRX]
 rw [hLXy,hRXy] at hBi
 clear hLX hRX hkeep hLxr
 refine loopX 2 (fun m z=>∃ x:Nat,m=y-x/\x<=y /\
  z=⟨[(1,.ref 0 1 0 0),(2,.ref 1 1 0 0),(3,vrows g.to),(4,vints c),(5,.ref 2 1 0 0),(6,.own 3 (LX x).length 0 (LX x).length),(7,vi i),(8,vi s),(9,vi x)],objsL (oB a) y (LX x) A1 (E0++edRow (i:Int) 0 (RX x))⟩)
  (fun z=>z=⟨[(1,.ref 0 1 0 0),(2,.ref 1 1 0 0),(3,vrows g.to),(4,vints c),(5,.ref 2 1 0 0),(6,.own 3 (LX y).length 0 (LX y).length),(7,vi i)],objsL (oB a) y (LX y) A1 (E0++edRow (i:Int) 0 (RX y))⟩) y
  ⟨[(1,.ref 0 1 0 0),(2,.ref 1 1 0 0),(3,vrows g.to),(4,vints c),(5,.ref 2 1 0 0),(6,.own 3 (LX 0).length 0 (LX 0).length),(7,vi i),(8,vi s),(9,vi (0:Nat))],objsL (oB a) y (LX 0) A1 (E0++edRow (i:Int) 0 (RX 0))⟩ ?_ ⟨0,by omega,by omega,rfl⟩ ?_ ?_
 ·rw [hLX0,hRX0,edRow,List.append_nil,objsL_eq,hAl1]
  exact WkE.kp
 rotate_left
 ·rintro z rfl
  simp only [go_sem,↓reduceIte,reduceLT,reduceEqDiff,wi]
  refine ⟨258-(i+1),⟨[(1,.ref 0 1 0 0),(2,.ref 1 1 0 0),(3,vrows g.to),(4,vints c),(5,.ref 2 1 0 0),(6,.own 3 (LX y).length 0 (LX y).length),(7,vi (i+1:Nat))],objsL (oB a) y (LX y) A1 (E0++edRow (i:Int) 0 (RX y))⟩,by omega,WkE.kp,i+1,LX y,rows++[RX y],rfl,by simp [hri],?_,hLXr y,?_,hBi,?_⟩
  ·have:=(hLXp y).length_le;omega
  ·intro r hr
   rcases List.mem_append.1 hr with hr | hr
   ·exact hrl r hr
   ·rw [List.mem_singleton.1 hr,hRXl]
  ·have e1:edAll 0 (rows++[RX y])=E0++edRow (i:Int) 0 (RX y):=by rw [edAll_snoc,hE0,hri,Nat.zero_add]
   have e2:((LX y).take (i+1)).map (bt g.acc)=A1:=by
    obtain ⟨r,hr⟩:=hLXp y
    rw [<-hr,List.take_append_of_le_length (by omega),hA1e]
   rw [e1,e2]
 rintro m z ⟨x,rfl,hx,rfl⟩
 by_cases hxy:x<y
 rotate_left
 ·obtain rfl:x=y:=by omega
  rw [objsL_eq]
  simp only [go_sem,↓reduceIte,reduceLT,reduceEqDiff,hasy,Int.lt_irrefl]
  refine ⟨⟨[(1,.ref 0 1 0 0),(2,.ref 1 1 0 0),(3,vrows g.to),(4,vints c),(5,.ref 2 1 0 0),(6,.own 3 (LX x).length 0 (LX x).length),(7,vi i)],objsL (oB a) x (LX x) A1 (E0++edRow (i:Int) 0 (RX x))⟩,?_,by rw [objsL_eq];simp only [List.length_append]⟩
  rw [objsL_eq]
  simp only [List.length_append]
  exact WkE.kp
 have gx:(x:Int)<(y:Int):=by omega
 have x0:(0:Int)<=(x:Int):=by omega
 have wx:=wrap_s x (by omega)
 have hrow:=row_get h hLin
 have hgt:=gto_get h hLin (show x<g.sy by omega)
 have hrl:=rowAt_len h hLin
 have hee:=edRow_len (i:Int) (RX x) 0
 rw [hRXl] at hee
 have hel:(E0++edRow (i:Int) 0 (RX x)).length<=16448+64:=by rw [List.length_append];omega
 have e1:∀ p:Nat,edRow (i:Int) 0 (RX x++[(p:Int)])=edRow (i:Int) 0 (RX x)++[((i:Int),(x:Int),(p:Int))]:=fun p=>by
  rw [edRow_snoc,if_neg (by omega),Nat.zero_add,hRXl]
 have e0:edRow (i:Int) 0 (RX x++[-1])=edRow (i:Int) 0 (RX x):=by rw [edRow_snoc,if_pos (by omega),List.append_nil]
 have hsk:=hskip x
 have htk:=htake x
 have hhi:=h.hi s x
 have hrepx:=hLXr x
 have hlex:=hrepx.le
 obtain ⟨E1,hE1⟩:∃ E1,E0++edRow (i:Int) 0 (RX x)=E1:=⟨_,rfl⟩
 rw [hE1] at hel ⊢
 obtain ⟨Lx,hLx⟩:∃ Lx,LX x=Lx:=⟨_,rfl⟩
 rw [hLx] at hsk htk hrepx hlex ⊢
 have hLxi:i<Lx.length:=by rw [<-hLx];have:=(hLXp x).length_le;omega
 have fin:∀ (st:Est) (L2:List Nat) (E2:List Edg),LX (x+1)=L2->E0++edRow (i:Int) 0 (RX (x+1))=E2->WkE 102 st ⟨[(1,.ref 0 1 0 0),(2,.ref 1 1 0 0),(3,vrows g.to),(4,vints c),(5,.ref 2 1 0 0),(6,.own 3 L2.length 0 L2.length),(7,vi i),(8,vi s),(9,vi (x+1:Nat))],objsL (oB a) y L2 A1 E2⟩ ->
  ∃ m s',m<y-x/\WkE 102 st s'/\∃ x:Nat,m=y-x/\x<=y /\
  s'=⟨[(1,.ref 0 1 0 0),(2,.ref 1 1 0 0),(3,vrows g.to),(4,vints c),(5,.ref 2 1 0 0),(6,.own 3 (LX x).length 0 (LX x).length),(7,vi i),(8,vi s),(9,vi x)],objsL (oB a) y (LX x) A1 (E0++edRow (i:Int) 0 (RX x))⟩:=by
  rintro st L2 E2 rfl rfl hst
  exact ⟨y-(x+1),_,by omega,hst,x+1,rfl,by omega,rfl⟩
 obtain ⟨t,ht⟩:∃ t,gto g s x=t:=⟨_,rfl⟩
 rw [ht] at hsk htk hhi hgt
 rw [objsL_eq (oB a) y Lx A1 E1]
 by_cases b1:t<0
 ·obtain ⟨h1,h2⟩:=hsk (.inl b1)
  simp only [go_sem,↓reduceIte,reduceLT,reduceEqDiff,hasy,gx,s0,x0,hrow,hgt,b1,wx,Int.toNat_natCast]
  refine fin _ Lx E1 h1 (by rw [h2,e0,hE1]) ?_
  rw [objsL_eq]
  exact WkE.kp
 have b0:0<=t:=by omega
 have hct:=cg_get (c:=c) (i:=t.toNat) (by omega)
 by_cases b2:cg c t.toNat<0
 ·obtain ⟨h1,h2⟩:=hsk (.inr b2)
  simp only [go_sem,↓reduceIte,reduceLT,reduceEqDiff,hasy,gx,s0,x0,hrow,hgt,b1,b0,hct,b2,wx,Int.toNat_natCast]
  refine fin _ Lx E1 h1 (by rw [h2,e0,hE1]) ?_
  rw [objsL_eq]
  exact WkE.kp
 obtain ⟨h1,h2⟩:=htk (fun e=>e.elim b1 b2)
 obtain ⟨pos,hpos⟩:∃ pos,posF (Lx.map (cg c)) (cg c t.toNat)=pos:=⟨_,rfl⟩
 rw [hpos] at h1 h2
 have hple:=posF_le (Lx.map (cg c)) (cg c t.toNat)
 rw [hpos,List.length_map] at hple
 have qe:(E1.length+1)*24<=140737488355328:=by omega
 have ql:(Lx.length+1)*8<=140737488355328:=by omega
 have tcast:((t.toNat:Nat):Int)=t:=by omega
 simp only [go_sem,↓reduceIte,reduceLT,reduceEqDiff,hasy,gx,s0,x0,hrow,hgt,b1,b0,hct,b2,Int.toNat_natCast]
 refine loopX 4 (fun m z=>∃ k:Nat,m=Lx.length-k/\k<=Lx.length /\
  z=⟨[(1,.ref 0 1 0 0),(2,.ref 1 1 0 0),(3,vrows g.to),(4,vints c),(5,.ref 2 1 0 0),(6,.own 3 Lx.length 0 Lx.length),(7,vi i),(8,vi s),(9,vi x),(10,vi t),(11,vi (if pos<k then pos else -1)),(12,vi k)],objsL (oB a) y Lx A1 E1⟩)
  (fun z=>z=⟨[(1,.ref 0 1 0 0),(2,.ref 1 1 0 0),(3,vrows g.to),(4,vints c),(5,.ref 2 1 0 0),(6,.own 3 Lx.length 0 Lx.length),(7,vi i),(8,vi s),(9,vi x),(10,vi t),(11,vi (if pos<Lx.length then pos else -1))],objsL (oB a) y Lx A1 E1⟩) Lx.length
  ⟨[(1,.ref 0 1 0 0),(2,.ref 1 1 0 0),(3,vrows g.to),(4,vints c),(5,.ref 2 1 0 0),(6,.own 3 Lx.length 0 Lx.length),(7,vi i),(8,vi s),(9,vi x),(10,vi t),(11,vi (-1)),(12,vi (0:Nat))],objsL (oB a) y Lx A1 E1⟩ ?_ ⟨0,by omega,by omega,by rw [if_neg (by omega)]⟩ ?_ ?_
 ·rw [objsL_eq]
  exact WkE.kp
 rotate_left
 ·rintro z rfl
  rw [objsL_eq (oB a) y Lx A1 E1]
  by_cases hk:pos<Lx.length
  ·rw [if_pos hk] at h1 ⊢
   have hnl:¬ ((pos:Nat):Int)<0:=by omega
   simp only [go_sem,Nat.reducePow,Nat.reduceLeDiff,↓reduceIte,reduceLT,reduceEqDiff,reduceAdd,Nat.reduceMul,hnl,qe,wx]
   refine fin _ Lx (E1++[((i:Int),(x:Int),(pos:Int))]) h1 (by rw [h2,e1,<-List.append_assoc,hE1]) ?_
   rw [objsL_eq]
   simp only [List.length_append,List.length_singleton,List.map_append,List.map_cons,List.map_nil]
   exact WkE.kp
  ·have hpe:pos=Lx.length:=by omega
   rw [if_neg hk] at h1 ⊢
   have hneg:(-1:Int)<0:=by omega
   simp only [go_sem,Nat.reducePow,Nat.reduceLeDiff,↓reduceIte,reduceLT,reduceEqDiff,reduceAdd,Nat.reduceMul,hneg,qe,ql,wx]
   refine fin _ (Lx++[t.toNat]) (E1++[((i:Int),(x:Int),(pos:Int))]) h1 (by rw [h2,e1,<-List.append_assoc,hE1]) ?_
   rw [objsL_eq,hpe]
   simp only [List.length_append,List.length_singleton,List.map_append,List.map_cons,List.map_nil,vn,tcast]
   exact WkE.kp
 rintro m z ⟨k,rfl,hk,rfl⟩
 by_cases hkF:k<Lx.length
 rotate_left
 ·obtain rfl:k=Lx.length:=by omega
  rw [objsL_eq (oB a) y Lx A1 E1]
  simp only [go_sem,↓reduceIte,reduceLT,reduceEqDiff,Int.lt_irrefl]
  refine ⟨⟨[(1,.ref 0 1 0 0),(2,.ref 1 1 0 0),(3,vrows g.to),(4,vints c),(5,.ref 2 1 0 0),(6,.own 3 Lx.length 0 Lx.length),(7,vi i),(8,vi s),(9,vi x),(10,vi t),(11,vi (if pos<Lx.length then pos else -1))],objsL (oB a) y Lx A1 E1⟩,?_,?_⟩
  ·rw [objsL_eq]
   exact WkE.kp
  ·rw [objsL_eq]
 have k1:(k:Int)<(Lx.length:Int):=by omega
 have k0:(0:Int)<=(k:Int):=by omega
 have wk:=wrap_s k (by omega)
 have hFg:=vn_get hkF
 have hFk:=hrepx.lt _ (List.getElem_mem hkF)
 have hdec:(cg c Lx[k]=cg c t.toNat) ↔ pos=k:=by
  rw [<-hpos]
  constructor
  ·intro e
   rw [<-e]
   have:=posF_nodup hrepx.nodup k (by simpa using hkF)
   rw [List.getElem_map] at this
   exact this
  ·intro e
   have hlt2:posF (Lx.map (cg c)) (cg c t.toNat)<(Lx.map (cg c)).length:=by rw [List.length_map];omega
   have:=posF_get hlt2
   simp only [e,List.getElem_map] at this
   exact this
 have hcp:=cg_get (c:=c) (i:=Lx[k]) (by omega)
 generalize Lx[k]=p at hFg hdec hcp
 have p0:(0:Int)<=(p:Int):=by omega
 rw [objsL_eq (oB a) y Lx A1 E1]
 by_cases hpk:pos=k
 ·have he:=hdec.2 hpk
  simp only [go_sem,↓reduceIte,reduceLT,reduceEqDiff,k1,k0,p0,b0,hFg,hcp,hct,he,wk,Int.toNat_natCast]
  refine ⟨Lx.length-(k+1),⟨[(1,.ref 0 1 0 0),(2,.ref 1 1 0 0),(3,vrows g.to),(4,vints c),(5,.ref 2 1 0 0),(6,.own 3 Lx.length 0 Lx.length),(7,vi i),(8,vi s),(9,vi x),(10,vi t),(11,vi k),(12,vi (k+1:Nat))],objsL (oB a) y Lx A1 E1⟩,by omega,?_,k+1,rfl,by omega,by rw [hpk,if_pos (by omega)];rfl⟩
  rw [objsL_eq]
  exact WkE.kp
 ·have he:=mt hdec.1 hpk
  simp only [go_sem,↓reduceIte,reduceLT,reduceEqDiff,k1,k0,p0,b0,hFg,hcp,hct,he,wk,Int.toNat_natCast]
  have hiff:(pos<k+1) ↔ (pos<k):=by omega
  refine ⟨Lx.length-(k+1),⟨[(1,.ref 0 1 0 0),(2,.ref 1 1 0 0),(3,vrows g.to),(4,vints c),(5,.ref 2 1 0 0),(6,.own 3 Lx.length 0 Lx.length),(7,vi i),(8,vi s),(9,vi x),(10,vi t),(11,vi (if pos<k then pos else -1)),(12,vi (k+1:Nat))],objsL (oB a) y Lx A1 E1⟩,by omega,?_,k+1,rfl,by omega,by simp only [hiff];rfl⟩
  rw [objsL_eq]
  exact WkE.kp
end Go.Proofs.Ytjilachpkjlhdaa
namespace Go.Proofs.Ytjilachpkjlhdaa
open Go.RowKit Dak P5
open Nat (reduceEqDiff reduceLT reduceAdd)
set_option maxHeartbeats 1000000 in
theorem checked_s (a:Au) (hz:SzA a):Ctr Try.prog 52 [vau a] (vae (if validM a=0 then (a,0) else (nilA,4))):=by
 refine specC f52 (by simp) fun F0 w0=>?_
 have hv:=rValid_s a hz
 unfold c52
 refine CwpE.cut (st:=⟨[(1,.ref 0 1 0 0),(2,.ref 1 1 0 0),(3,vi 0)],[oB a,.arr 1 3 26 [nil3]]⟩) ?_ ?_
 ·simp only [go_sem,↓reduceIte,reduceLT,reduceAdd]
  exact ⟨_,WkE.kp,rfl⟩
 by_cases h0:validM a=0
 ·rw [if_pos h0]
  rw [h0] at hv
  refine CwpE.vc ?_
  simp only [go_sem,↓reduceIte,reduceLT,reduceAdd]
  refine callT hv rfl ?_
  simp only [go_sem,↓reduceIte,reduceLT,reduceEqDiff,reduceAdd]
  exact snap_tup2 (.tree _ rfl) (.tree _ rfl)
 ·rw [if_neg h0]
  refine CwpE.vc ?_
  simp only [go_sem,↓reduceIte,reduceLT,reduceAdd]
  refine callT hv rfl ?_
  simp only [go_sem,↓reduceIte,reduceLT,reduceEqDiff,reduceAdd,h0]
  exact snap_tup2 nil_snap (.tree _ rfl)
set_option maxHeartbeats 1000000 in
theorem rFixed_s (a:Au) (hz:SzA a):Ctr Try.prog 23 [vau a] (vae (fixedM a)):=by
 refine specC f23 (by simp) fun F0 w0=>?_
 have hval:=rValid_s a hz
 unfold c23
 refine CwpE.cut (st:=⟨[(1,.ref 0 1 0 0),(2,.ref 1 1 0 0),(3,vi 0)],[oB a,.arr 1 3 26 [nil3]]⟩) ?_ ?_
 ·simp only [go_sem,↓reduceIte,reduceLT,reduceAdd]
  exact ⟨_,WkE.kp,rfl⟩
 refine CwpE.cut (st:=⟨[(1,.ref 0 1 0 0),(2,.ref 1 1 0 0),(3,vi 0),(4,vi (validM a))],[oB a,.arr 1 3 26 [nil3]]⟩) ?_ ?_
 ·simp only [go_sem,↓reduceIte,reduceLT,reduceAdd]
  refine callT hval rfl ?_
  simp only [go_sem,↓reduceIte,reduceLT]
  exact ⟨_,WkE.kp,rfl⟩
 by_cases h0:validM a=0
 rotate_left
 ·refine CwpE.step (fun _=>False) ?_ (fun _ h=>h.elim)
  have:fixedM a=(nilA,validM a):=by rw [fixedM,if_neg h0]
  rw [this]
  simp only [go_sem,↓reduceIte,reduceLT,reduceEqDiff,reduceAdd,h0]
  exact snap_tup2 nil_snap (.tree _ rfl)
 have hV:=valid_VA.1 h0
 have hS:=Sets_s a hV
 refine CwpE.cut (st:=⟨[(1,.ref 0 1 0 0),(2,.ref 1 1 0 0),(3,vi 0)],[oB a,.arr 1 3 26 [nil3]]⟩) ?_ ?_
 ·simp only [go_sem,↓reduceIte,reduceLT,reduceEqDiff,h0]
  exact ⟨_,WkE.kp,rfl⟩
 have hfix:fixedM a=match setsM a with | none=>(nilA,4) | some g=>checkedM (leastR g):=by rw [fixedM,if_pos h0];rfl
 rw [hfix]
 cases hs:setsM a with
 | none =>
  have hb:bfs 256 (nextA a) a.sy.toNat (firstA a)=none:=by
   rw [setsM] at hs
   exact Option.map_eq_none_iff.1 hs
  rw [hb] at hS
  refine CwpE.vc ?_
  simp only [go_sem,↓reduceIte,reduceLT,reduceAdd]
  refine callT hS rfl ?_
  simp only [resB,go_sem,↓reduceIte,reduceLT,reduceEqDiff,reduceAdd,Int.reduceEq]
  exact snap_tup2 nil_snap (.tree _ rfl)
 | some g =>
  obtain ⟨r,hb,hg⟩:∃ r,bfs 256 (nextA a) a.sy.toNat (firstA a)=some r/\grOf a.sy.toNat (fun s=>meets s a.acc) r.1 r.2=g:=by
   rw [setsM] at hs
   exact Option.map_eq_some_iff.1 hs
  obtain ⟨hok,hn,hsy,_⟩:=setsM_ok hs
  have hy:=hV.sy
  rw [hb] at hS
  have hr:resB a.sy.toNat (fun s=>meets s a.acc) (some r)=(auOf g,0):=by rw [<-hg];rfl
  rw [hr] at hS
  obtain ⟨l1,l2,_⟩:=leastR_lang hok (by omega)
  have hL:=rLeast_s g hok (by omega) (by omega)
  have hsl:(leastR g).sy=g.sy:=rfl
  have hC:=checked_s (auOf (leastR g)) (szA_of l1 (by omega) (by omega))
  have hck:(if validM (auOf (leastR g))=0 then (auOf (leastR g),0) else (nilA,4))=checkedM (leastR g):=rfl
  rw [hck] at hC
  dsimp only
  generalize checkedM (leastR g)=R at hC ⊢
  refine CwpE.vc ?_
  simp only [go_sem,↓reduceIte,reduceLT,reduceAdd]
  refine callT hS rfl ?_
  simp only [go_sem,↓reduceIte,reduceLT,reduceEqDiff,reduceAdd]
  refine callT hL rfl ?_
  simp only [go_sem,↓reduceIte]
  refine callT hC rfl ?_
  simp only [go_sem,↓reduceIte,reduceLT,reduceEqDiff,reduceAdd]
  exact snap_tup2 (.tree _ rfl) (.tree _ rfl)
end Go.Proofs.Ytjilachpkjlhdaa
