/- Lemmas used by Aligned, Reads. -/
import Derived.Test.YtnncijjkbonokaaDoorKa
import Derived.Test.YtnncijjkbonokaaDoorKb
import Derived.Test.YtnncijjkbonokaaDoorKc
import Derived.Test.YtnncijjkbonokaaDoorKd
import Derived.Test.YtnncijjkbonokaaDoorKe
import Derived.Test.YtnncijjkbonokaaDoorKf
import Derived.Test.YtnncijjkbonokaaDoorKi
import Derived.Test.YtnncijjkbonokaaDoorProg
import Derived.WalkKit
import Derived.WalkSpells
import Derived.WalkLawsBesides
import Derived.Orders
import Derived.Laws.MakeOwn
import Derived.Deep.AppendSrc
import Derived.Lib.AppendZerosOnto
import Derived.Defers
import Derived.Laws.StructEq
import Derived.Scope
import Derived.Deep.LoopGhost
import Derived.OrdersIn
import Derived.ControlIn
import Derived.Sort.LoopGhostIn
import Derived.RangeFuncLeaves
import Derived.RangeFuncRecord
import Derived.RangeFuncFrom
set_option linter.unusedSimpArgs false
set_option linter.unusedVariables false
set_option linter.unusedSectionVars false
namespace Go.Proofs.YtnncijjkbonokaaDoor
open Dak
def c6 : CCode :=
 (.seq (.region [oo 4 (.mov (.const (.bool false)))])
 (.seq (.region [oo 15 (.bslice 3 1 [(kk 1)]), vv 16 0, oo 17 (.append 3 1 8 (T 15) (T 16)), oo 18 (.call (.func 10) [(T 17)]), oo 5 (.alloc 25 (.agg [(.val (.slice none 0 0))])), nn (.store 1 (T 5) (T 18))])
 (.seq (.drawn [oo 20 (.load true 1 (T 5)), vv 21 1] [(oo 22 (.call (.func 12) [(T 21), (kk 29)]), [oo 20 (.load true 1 (T 5))]), (oo 23 (.ibin .add (kk 12) (T 22)), [oo 20 (.load true 1 (T 5))]), (oo 24 (.call (.func 17) [(T 20), (T 23)]), []), (vv 19 24, []), (oo 25 (.extract (T 19) 0), []), (oo 26 (.extract (T 19) 1), []), (vv 6 25, []), (vv 7 26, [])])
 (.seq (.seq (.region [vv 27 7, oo 28 (.ibin .neq (T 27) (kk 0))])
 (.cond (T 28)
 (.seq (.region [vv 29 7, oo 30 (.ibin .eql (T 29) (kk 14)), vv 31 30, gt 32 31 (.call (.func 16) []), oo 33 (.pick (T 31) (T 32) (.const (.bool false))), vv 4 33])
 .ret)
 .skip))
 (.seq (.seq (.region [oo 34 (.fieldAddr 0 (T 5)), oo 35 (.load false 1 (T 34)), oo 36 (.len (T 35)), oo 37 (.ibin .neq (T 36) (kk 2)), vv 38 37, vf 39 38 6, gf 40 38 (.len (T 39)), gf 41 38 (.ibin .rem (T 40) (kk 2)), gf 42 38 (.ibin .neq (T 41) (kk 0)), oo 43 (.pick (T 38) (.const (.bool true)) (T 42))])
 (.cond (T 43)
 (.seq (.region [oo 4 (.mov (.const (.bool false)))])
 .ret)
 .skip))
 (.seq (.region [oo 8 (.mov (kk 0))])
 (.seq (.seq (.region [oo 9 (.mov (kk 0))])
 (.block 0 (.loop
 (.seq (.seq (.region [vv 44 9, oo 45 (.ibin .add (T 44) (kk 1)), vv 46 6, oo 47 (.len (T 46)), oo 48 (.ibin .lss (T 45) (T 47))])
 (.cond (T 48)
 .skip
 (.exit 0)))
 (.seq (.block 1 (.seq (.region [vv 51 6, vv 52 9, oo 53 (.idxS 1 (T 51) (T 52)), oo 54 (.load false 1 (T 53)), vv 10 54])
 (.seq (.region [vv 55 6, vv 56 9, oo 57 (.ibin .add (T 56) (kk 1)), oo 58 (.idxS 1 (T 55) (T 57)), oo 59 (.load false 1 (T 58)), vv 11 59])
 (.seq (.seq (.region [vv 60 10, oo 61 (.len (T 60)), oo 62 (.ibin .lss (T 61) (kk 2)), vv 63 62, vf 64 63 11, gf 65 63 (.len (T 64)), gf 66 63 (.ibin .lss (T 65) (kk 2)), oo 67 (.pick (T 63) (.const (.bool true)) (T 66)), vv 68 67, vf 69 68 10, gf 70 68 (.idxS 1 (T 69) (kk 0)), gf 71 68 (.load false 1 (T 70)), gf 72 68 (.ibin .neq (T 71) (.const (.int .u8 60))), oo 73 (.pick (T 68) (.const (.bool true)) (T 72)), vv 74 73, vf 75 74 11, gf 76 74 (.idxS 1 (T 75) (kk 0)), gf 77 74 (.load false 1 (T 76)), gf 78 74 (.ibin .neq (T 77) (.const (.int .u8 28))), oo 79 (.pick (T 74) (.const (.bool true)) (T 78))])
 (.cond (T 79)
 (.seq (.region [oo 4 (.mov (.const (.bool false)))])
 .ret)
 .skip))
 (.seq (.region [vv 80 8, oo 81 (.ibin .add (T 80) (kk 1)), vv 8 81])
 (.seq (.region [oo 12 (.mov (kk 1))])
 (.block 2 (.loop
 (.seq (.seq (.region [vv 82 12, vv 83 10, oo 84 (.len (T 83)), vv 85 11, oo 86 (.len (T 85)), oo 87 (.imax (T 84) (T 86)), oo 88 (.ibin .lss (T 82) (T 87))])
 (.cond (T 88)
 .skip
 (.exit 2)))
 (.seq (.block 3 (.seq (.region [vv 91 12, vv 92 10, oo 93 (.len (T 92)), oo 94 (.ibin .geq (T 91) (T 93)), vv 95 94, vf 96 95 10, vf 97 95 12, vf 98 95 10, gf 99 95 (.len (T 98)), gf 100 95 (.ibin .sub (T 99) (kk 1)), gf 101 95 (.imin (T 97) (T 100)), gf 102 95 (.idxS 1 (T 96) (T 101)), gf 103 95 (.load false 1 (T 102)), gf 104 95 (.ibin .eql (T 103) (.const (.int .u8 0))), oo 105 (.pick (T 95) (.const (.bool true)) (T 104)), vv 13 105])
 (.seq (.region [vv 106 12, vv 107 11, oo 108 (.len (T 107)), oo 109 (.ibin .geq (T 106) (T 108)), vv 110 109, vf 111 110 11, vf 112 110 12, vf 113 110 11, gf 114 110 (.len (T 113)), gf 115 110 (.ibin .sub (T 114) (kk 1)), gf 116 110 (.imin (T 112) (T 115)), gf 117 110 (.idxS 1 (T 111) (T 116)), gf 118 110 (.load false 1 (T 117)), gf 119 110 (.ibin .eql (T 118) (.const (.int .u8 0))), oo 120 (.pick (T 110) (.const (.bool true)) (T 119)), vv 14 120])
 (.seq (.seq (.region [vv 121 13, oo 122 (.lnot (T 121)), vv 123 122, vf 124 123 14, gf 125 123 (.lnot (T 124)), oo 126 (.pick (T 123) (.const (.bool true)) (T 125))])
 (.cond (T 126)
 (.exit 3)
 .skip))
 (.seq (.seq (.region [vv 127 12, oo 128 (.ibin .add (T 127) (kk 1)), vv 129 10, oo 130 (.len (T 129)), oo 131 (.ibin .geq (T 128) (T 130)), vv 132 131, vf 133 132 12, gf 134 132 (.ibin .add (T 133) (kk 1)), vf 135 132 11, gf 136 132 (.len (T 135)), gf 137 132 (.ibin .geq (T 134) (T 136)), oo 138 (.pick (T 132) (.const (.bool true)) (T 137))])
 (.cond (T 138)
 (.seq (.region [oo 4 (.mov (.const (.bool false)))])
 .ret)
 .skip))
 (.seq (.seq (.region [vv 139 10, vv 140 12, oo 141 (.ibin .add (T 140) (kk 1)), oo 142 (.idxS 1 (T 139) (T 141)), oo 143 (.load false 1 (T 142)), oo 144 (.ibin .eql (T 143) (.const (.int .u8 0))), vv 145 144, vf 146 145 11, vf 147 145 12, gf 148 145 (.ibin .add (T 147) (kk 1)), gf 149 145 (.idxS 1 (T 146) (T 148)), gf 150 145 (.load false 1 (T 149)), gf 151 145 (.ibin .eql (T 150) (.const (.int .u8 0))), oo 152 (.pick (T 145) (.const (.bool true)) (T 151))])
 (.cond (T 152)
 (.seq (.region [oo 4 (.mov (.const (.bool false)))])
 .ret)
 .skip))
 (.region [vv 153 8, oo 154 (.ibin .add (T 153) (kk 1)), vv 8 154])))))))
 (.region [vv 89 12, oo 90 (.ibin .add (T 89) (kk 1)), vv 12 90])))))))))))
 (.region [vv 49 9, oo 50 (.ibin .add (T 49) (kk 2)), vv 9 50]))))))
 (.seq (.region [vv 155 8, oo 156 (.fieldAddr 0 (T 5)), oo 157 (.load false 1 (T 156)), oo 158 (.idxS 1 (T 157) (kk 0)), oo 159 (.load false 1 (T 158)), oo 160 (.len (T 159)), oo 161 (.ibin .eql (T 155) (T 160)), vv 162 161, gt 163 162 (.call (.func 16) []), oo 164 (.pick (T 162) (T 163) (.const (.bool false))), vv 4 164])
 .ret))))))))
end Go.Proofs.YtnncijjkbonokaaDoor
