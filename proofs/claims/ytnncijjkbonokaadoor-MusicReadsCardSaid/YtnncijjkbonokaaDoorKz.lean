/- Lemmas used by Reads. -/
import Derived.Test.YtnncijjkbonokaaDoorKa
import Derived.Test.YtnncijjkbonokaaDoorKb
import Derived.Test.YtnncijjkbonokaaDoorKc
import Derived.Test.YtnncijjkbonokaaDoorKd
import Derived.Test.YtnncijjkbonokaaDoorKe
import Derived.Test.YtnncijjkbonokaaDoorKf
import Derived.Test.YtnncijjkbonokaaDoorKi
import Derived.Test.YtnncijjkbonokaaDoorKj
import Derived.Test.YtnncijjkbonokaaDoorKk
import Derived.Test.YtnncijjkbonokaaDoorKl
import Derived.Test.YtnncijjkbonokaaDoorKm
import Derived.Test.YtnncijjkbonokaaDoorKn
import Derived.Test.YtnncijjkbonokaaDoorKo
import Derived.Test.YtnncijjkbonokaaDoorKp
import Derived.Test.YtnncijjkbonokaaDoorKr
import Derived.Test.YtnncijjkbonokaaDoorKt
import Derived.WalkKit
import Derived.WalkSpells
import Derived.WalkLawsBesides
import Derived.Orders
import Derived.Laws.MakeOwn
import Derived.Deep.AppendSrc
import Derived.Lib.AppendZerosOnto
import Derived.Defers
import Derived.Laws.StructEq
import Derived.Scope
import Derived.Deep.LoopGhost
import Derived.OrdersIn
import Derived.ControlIn
import Derived.Sort.LoopGhostIn
import Derived.RangeFuncLeaves
import Derived.RangeFuncRecord
import Derived.Test.YtnncijjkbonokaaDoorProg
import Derived.RangeFuncFrom
import Derived.RangeFuncBox
import Derived.OwnWalkIn
import Derived.TacticsInMore
import Derived.LoopNIn
import Derived.LoopIn
import Derived.Sort.QuietTacIn
import Derived.DataReads
import Derived.Test.YtnncijjkbonokaaDoorTie
import Derived.ProofKit
import Derived.OpenShut
import Derived.ShutString
import Derived.ChangeOld
import Derived.Below
import Derived.LaidMore
import Derived.LaidHandle
import Derived.FnData
set_option linter.unusedSimpArgs false
set_option linter.unusedVariables false
set_option linter.unusedSectionVars false
namespace Dak
open Go Go.RowKit
variable [Globs]
variable {P : Program} {F0 : FD} {w0 : World} {n : Nat} {Q : Exit -> Est -> Prop} {s : Est}
variable {K : Est -> Prop} {rest : List COper} {d : Option Nat} {g : Option (Nat × Bool)}
variable {objs0 : List AObj} {KQ : List (Nat × AV) -> List AObj -> Prop} {env : List (Nat × AV)} {cr : List AObj}
theorem Q_gpick {c a b : Operand} {t : Nat} {w : Bool} : QopsE P n objs0 (⟨d, some (t, w), .pick c a b⟩ :: rest) KQ env cr = guardE (gdB (lk env t)) w (qK (qstepK (objs0 ++ cr) objs0 (evE env) (objs0.length + cr.length) (.pick c a b)) n d env cr (QopsE P n objs0 rest KQ)) (okD n d /\ QopsE P n objs0 rest KQ (putE env d nov) cr) := nrfl rfl
theorem Q_imin {x y : Operand} : QopsE P n objs0 (⟨d, none, .imin x y⟩ :: rest) KQ env cr = (qK (qstepK (objs0 ++ cr) objs0 (evE env) (objs0.length + cr.length) (.imin x y)) n d env cr (QopsE P n objs0 rest KQ)) := nrfl rfl
theorem Q_gimin {x y : Operand} {t : Nat} {w : Bool} : QopsE P n objs0 (⟨d, some (t, w), .imin x y⟩ :: rest) KQ env cr = guardE (gdB (lk env t)) w (qK (qstepK (objs0 ++ cr) objs0 (evE env) (objs0.length + cr.length) (.imin x y)) n d env cr (QopsE P n objs0 rest KQ)) (okD n d /\ QopsE P n objs0 rest KQ (putE env d nov) cr) := nrfl rfl
attribute [go_sem] Q_gpick Q_imin Q_gimin
end Dak
namespace Go.Proofs.YtnncijjkbonokaaDoor
open Dak
def c22 : CCode :=
 (.seq (.region [oo 8 (.mov (.const (.slice none 0 0)))])
 (.seq (.region [oo 9 (.mov (.const (.slice none 0 0)))])
 (.seq (.seq (.region [oo 10 (.mov (kk 0))])
 (.block 0 (.loop
 (.seq (.seq (.region [vv 15 10, vv 16 0, oo 17 (.len (T 16)), oo 18 (.ibin .lss (T 15) (T 17))])
 (.cond (T 18)
 .skip
 (.exit 0)))
 (.seq (.block 1 (.region [vv 21 9, oo 22 (.bslice 5 1 []), vv 23 0, vv 24 10, oo 25 (.idxS 1 (T 23) (T 24)), oo 26 (.load false 1 (T 25)), oo 27 (.append 5 1 1 (T 22) (T 26)), oo 28 (.bslice 30 1 [(T 27)]), oo 29 (.append 30 1 24 (T 21) (T 28)), vv 9 29]))
 (.region [vv 19 10, oo 20 (.ibin .add (T 19) (kk 1)), vv 10 20]))))))
 (.seq (.seq (.region [vv 30 9, oo 31 (.len (T 30)), oo 32 (.ibin .eql (T 31) (kk 0))])
 (.cond (T 32)
 (.seq (.region [vv 33 3, oo 34 (.call (.func 12) [(T 33), (kk 64)]), oo 35 (.conv .u8 (T 34)), oo 36 (.bslice 5 1 [(T 35)]), oo 37 (.bslice 30 1 [(T 36)]), vv 8 37])
 .ret)
 .skip))
 (.seq (.region [vv 38 1, vv 39 9, oo 40 (.len (T 39)), oo 41 (.call (.func 12) [(T 38), (T 40)]), vv 11 41])
 (.seq (.region [vv 42 1, oo 43 (.ibin .quo (T 42) (kk 3)), vv 44 9, vv 45 11, oo 46 (.idxS 1 (T 44) (T 45)), oo 47 (.load false 1 (T 46)), oo 48 (.len (T 47)), oo 49 (.ibin .add (T 48) (kk 1)), oo 50 (.call (.func 12) [(T 43), (T 49)]), vv 12 50])
 (.seq (.region [vv 51 3, oo 52 (.call (.func 12) [(T 51), (kk 64)]), oo 53 (.conv .u8 (T 52)), oo 54 (.bslice 5 1 [(.const (.int .u8 0)), (.const (.int .u8 33)), (.const (.int .u8 8)), (.const (.int .u8 32)), (.const (.int .u8 3)), (.const (.int .u8 57)), (.const (.int .u8 45)), (.const (.int .u8 60)), (.const (.int .u8 28)), (T 53)]), vv 55 3, oo 56 (.call (.func 12) [(T 55), (kk 10)]), oo 57 (.idxS 1 (T 54) (T 56)), oo 58 (.load false 1 (T 57)), vv 13 58])
 (.seq (.region [oo 14 (.mov (.const (.slice none 0 0)))])
 (.seq (.region [vv 59 14, vv 60 9, vv 61 11, oo 62 (.idxS 1 (T 60) (T 61)), oo 63 (.load false 1 (T 62)), vv 64 12, oo 65 (.slice 1 (T 63) (some (T 64)) none), oo 66 (.append 5 1 1 (T 59) (T 65)), vv 14 66])
 (.seq (.seq (.region [vv 67 2, oo 68 (.call (.func 12) [(T 67), (kk 5)])])
 (.block 2 (.seq (.region [oo 79 (.ibin .eql (T 68) (kk 0)), vv 78 79])
 (.cond (T 78)
 (.region [vv 80 9, vv 81 11, vv 82 9, vv 83 11, oo 84 (.idxS 1 (T 82) (T 83)), oo 85 (.load false 1 (T 84)), vv 86 12, oo 87 (.slice 1 (T 85) none (some (T 86))), vv 88 13, oo 89 (.bslice 5 1 [(T 88)]), oo 90 (.append 5 1 1 (T 87) (T 89)), vv 91 14, oo 92 (.append 5 1 1 (T 90) (T 91)), oo 93 (.idxS 1 (T 80) (T 81)), nn (.store 1 (T 93) (T 92))])
 (.seq (.region [oo 95 (.ibin .eql (T 68) (kk 1)), vv 94 95])
 (.cond (T 94)
 (.seq (.region [vv 96 14, oo 97 (.len (T 96)), oo 98 (.ibin .gtr (T 97) (kk 0))])
 (.cond (T 98)
 (.region [vv 99 9, vv 100 11, oo 101 (.idxS 1 (T 99) (T 100)), oo 102 (.load false 1 (T 101)), vv 103 12, vv 104 13, oo 105 (.idxS 1 (T 102) (T 103)), nn (.store 1 (T 105) (T 104))])
 .skip))
 (.seq (.region [oo 107 (.ibin .eql (T 68) (kk 2)), vv 106 107])
 (.cond (T 106)
 (.seq (.region [vv 108 14, oo 109 (.len (T 108)), oo 110 (.ibin .gtr (T 109) (kk 0))])
 (.cond (T 110)
 (.drawn [vv 111 9, vv 112 11, vv 113 9, vv 114 11, oo 115 (.idxS 1 (T 113) (T 114)), oo 116 (.load false 1 (T 115)), vv 117 12, oo 118 (.slice 1 (T 116) none (some (T 117))), vv 119 14, oo 120 (.slice 1 (T 119) (some (kk 1)) none)] [(oo 121 (.append 5 1 1 (T 118) (T 120)), [vv 111 9, vv 112 11]), (oo 122 (.idxS 1 (T 111) (T 112)), []), (nn (.store 1 (T 122) (T 121)), [])])
 .skip))
 (.seq (.region [oo 124 (.ibin .eql (T 68) (kk 3)), vv 123 124])
 (.cond (T 123)
 (.drawn [vv 125 9, vv 126 11, oo 127 (.slice 1 (T 125) none (some (T 126))), vv 128 9, vv 129 11, oo 130 (.ibin .add (T 129) (kk 1)), oo 131 (.slice 1 (T 128) (some (T 130)) none)] [(oo 132 (.append 30 1 24 (T 127) (T 131)), []), (vv 9 132, [])])
 (.region [vv 69 9, vv 70 11, vv 71 9, vv 72 11, oo 73 (.idxS 1 (T 71) (T 72)), oo 74 (.load false 1 (T 73)), oo 75 (.bslice 5 1 [(.const (.int .u8 0))]), oo 76 (.append 5 1 1 (T 74) (T 75)), oo 77 (.idxS 1 (T 69) (T 70)), nn (.store 1 (T 77) (T 76))])))))))))))
 (.seq (.region [vv 133 9, vv 8 133])
 .ret)))))))))))
theorem f22 : fnC Tryd.prog 22 = some (c22, 134, [(.tmp 8)]) := by kernel_rfl
def c23 : CCode :=
 (.seq (.region [oo 4 (.mov (.const (.slice none 0 0)))])
 (.seq (.region [oo 5 (.mov (.const (.slice none 0 0)))])
 (.seq (.region [vv 6 5, vv 7 0, vv 8 0, oo 9 (.len (T 8)), vv 10 1, oo 11 (.imin (T 9) (T 10)), oo 12 (.slice 1 (T 7) none (some (T 11))), oo 13 (.append 5 1 1 (T 6) (T 12)), vv 4 13])
 .ret)))
theorem f23 : fnC Tryd.prog 23 = some (c23, 14, [(.tmp 4)]) := by kernel_rfl
def c24 : CCode :=
 (.seq (.region [oo 2 (.alloc 25 (.agg [(.val (.slice none 0 0))])), oo 3 (.mov (kk 0))])
 (.seq (.seq (.region [oo 4 (.mov (kk 1))])
 (.block 0 (.loop
 (.seq (.seq (.region [vv 10 4, oo 11 (.ibin .leq (T 10) (kk 2))])
 (.cond (T 11)
 .skip
 (.exit 0)))
 (.seq (.block 1 (.seq (.region [vv 15 0, vv 16 4, oo 17 (.call (.func 48) [(T 15), (T 16)]), vv 14 17, oo 18 (.extract (T 14) 0), oo 19 (.extract (T 14) 1), oo 5 (.alloc 25 (.agg [(.val (.slice none 0 0))])), nn (.store 1 (T 5) (T 18)), vv 6 19])
 (.seq (.region [oo 7 (.mov (kk 1))])
 (.block 2 (.loop
 (.seq (.seq (.region [vv 20 7, oo 21 (.ibin .leq (T 20) (kk 40)), vv 22 21, vt 23 22 6, oo 24 (.pick (T 22) (T 23) (.const (.bool false)))])
 (.cond (T 24)
 .skip
 (.exit 2)))
 (.seq (.block 3 (.seq (.region [oo 28 (.load true 1 (T 5)), vv 29 7, oo 30 (.call (.func 18) [(T 28), (T 29)]), vv 27 30, oo 31 (.extract (T 27) 0), oo 32 (.extract (T 27) 1), vv 8 31, vv 9 32])
 (.seq (.region [vv 33 9, oo 34 (.ibin .eql (T 33) (kk 0)), vv 35 34, vt 36 35 0, vt 37 35 8, gt 38 35 (.call (.func 19) [(T 36), (T 37)]), oo 39 (.pick (T 35) (T 38) (.const (.bool false)))])
 (.cond (T 39)
 (.seq (.region [oo 40 (.load true 1 (T 5)), nn (.store 1 (T 2) (T 40)), oo 3 (.mov (kk 0))])
 .ret)
 .skip))))
 (.region [vv 25 7, oo 26 (.ibin .add (T 25) (kk 1)), vv 7 26]))))))))
 (.region [vv 12 4, oo 13 (.ibin .add (T 12) (kk 1)), vv 4 13]))))))
 (.seq (.region [oo 41 (.build [(.val (.slice none 0 0))] []), nn (.store 1 (T 2) (T 41)), oo 3 (.mov (kk 2))])
 .ret)))
theorem f24 : fnC Tryd.prog 24 = some (c24, 42, [(.cell 2 true 1), (.tmp 3)]) := by kernel_rfl
end Go.Proofs.YtnncijjkbonokaaDoor
namespace Go.Proofs.YtnncijjkbonokaaDoor
open Dak
def c48 : CCode :=
 (.seq (.region [oo 4 (.alloc 25 (.agg [(.val (.slice none 0 0))])), oo 5 (.mov (.const (.bool false)))])
 (.seq (.region [vv 18 1, oo 19 (.mkslice 28 1 24 (.val (.slice none 0 0)) (T 18) (T 18)), oo 20 (.build [(.val (.slice none 0 0))] [(0, (1, (T 19)))]), oo 6 (.alloc 25 (.agg [(.val (.slice none 0 0))])), nn (.store 1 (T 6) (T 20))])
 (.seq (.seq (.region [vv 21 0, oo 22 (.len (T 21)), oo 23 (.ibin .eql (T 22) (kk 0)), vv 24 23, vf 25 24 0, gf 26 24 (.len (T 25)), vf 27 24 1, gf 28 24 (.ibin .rem (T 26) (T 27)), gf 29 24 (.ibin .neq (T 28) (kk 0)), oo 30 (.pick (T 24) (.const (.bool true)) (T 29)), vv 31 30, vf 32 31 0, gf 33 31 (.len (T 32)), gf 34 31 (.ibin .gtr (T 33) (kk 64)), oo 35 (.pick (T 31) (.const (.bool true)) (T 34))])
 (.cond (T 35)
 (.seq (.region [oo 36 (.build [(.val (.slice none 0 0))] []), nn (.store 1 (T 4) (T 36)), oo 5 (.mov (.const (.bool false)))])
 .ret)
 .skip))
 (.seq (.seq (.region [oo 7 (.mov (kk 0))])
 (.block 0 (.loop
 (.seq (.seq (.region [vv 37 7, vv 38 0, oo 39 (.len (T 38)), oo 40 (.ibin .lss (T 37) (T 39))])
 (.cond (T 40)
 .skip
 (.exit 0)))
 (.seq (.block 1 (.seq (.region [oo 8 (.mov (.const (.slice none 0 0)))])
 (.seq (.seq (.region [oo 9 (.mov (kk 0))])
 (.block 2 (.loop
 (.seq (.seq (.region [vv 44 9, vv 45 1, oo 46 (.ibin .lss (T 44) (T 45))])
 (.cond (T 46)
 .skip
 (.exit 2)))
 (.seq (.block 3 (.seq (.region [vv 49 0, vv 50 7, vv 51 9, oo 52 (.ibin .add (T 50) (T 51)), oo 53 (.idxS 1 (T 49) (T 52)), oo 54 (.load false 1 (T 53)), vv 10 54])
 (.seq (.seq (.region [vv 55 10, oo 56 (.len (T 55)), oo 57 (.ibin .gtr (T 56) (kk 40))])
 (.cond (T 57)
 (.seq (.region [oo 58 (.build [(.val (.slice none 0 0))] []), nn (.store 1 (T 4) (T 58)), oo 5 (.mov (.const (.bool false)))])
 .ret)
 .skip))
 (.seq (.seq (.region [vv 59 1, oo 60 (.ibin .eql (T 59) (kk 2))])
 (.cond (T 60)
 (.seq (.seq (.region [vv 61 10, oo 62 (.len (T 61)), oo 63 (.ibin .eql (T 62) (kk 0))])
 (.cond (T 63)
 (.seq (.region [oo 64 (.build [(.val (.slice none 0 0))] []), nn (.store 1 (T 4) (T 64)), oo 5 (.mov (.const (.bool false)))])
 .ret)
 .skip))
 (.region [vv 65 10, oo 66 (.slice 1 (T 65) (some (kk 1)) none), vv 10 66]))
 .skip))
 (.region [vv 67 8, vv 68 10, oo 69 (.bslice 30 1 [(T 68)]), oo 70 (.append 30 1 24 (T 67) (T 69)), vv 8 70])))))
 (.region [vv 47 9, oo 48 (.ibin .add (T 47) (kk 1)), vv 9 48]))))))
 (.seq (.region [vv 71 8, oo 72 (.call (.func 77) [(T 71)]), vv 11 72])
 (.seq (.region [oo 12 (.mov (kk 0))])
 (.block 4 (.loop
 (.seq (.seq (.region [vv 73 12, vv 74 1, oo 75 (.ibin .lss (T 73) (T 74))])
 (.cond (T 75)
 .skip
 (.exit 4)))
 (.seq (.block 5 (.seq (.region [oo 13 (.mov (kk (-1)))])
 (.seq (.region [oo 14 (.mov (kk 0))])
 (.block 6 (.loop
 (.seq (.seq (.region [vv 78 14, vv 79 11, vv 80 12, oo 81 (.idxS 1 (T 79) (T 80)), oo 82 (.load false 1 (T 81)), oo 83 (.len (T 82)), oo 84 (.ibin .lss (T 78) (T 83))])
 (.cond (T 84)
 .skip
 (.exit 6)))
 (.seq (.block 7 (.seq (.region [vv 88 11, vv 89 12, oo 90 (.idxS 1 (T 88) (T 89)), oo 91 (.load false 1 (T 90)), vv 92 14, oo 93 (.idxS 1 (T 91) (T 92)), oo 94 (.load false 1 (T 93)), vv 95 13, oo 96 (.call (.func 78) [(T 94), (T 95)]), vv 87 96, oo 97 (.extract (T 87) 0), oo 98 (.extract (T 87) 1), oo 99 (.extract (T 87) 2), vv 15 97, vv 16 98, vv 17 99])
 (.seq (.seq (.region [vv 100 17, oo 101 (.lnot (T 100))])
 (.cond (T 101)
 (.seq (.region [oo 102 (.build [(.val (.slice none 0 0))] []), nn (.store 1 (T 4) (T 102)), oo 5 (.mov (.const (.bool false)))])
 .ret)
 .skip))
 (.seq (.region [vv 103 16, vv 13 103])
 (.drawn [oo 104 (.fieldAddr 0 (T 6)), oo 105 (.load false 1 (T 104)), vv 106 12, oo 107 (.fieldAddr 0 (T 6)), oo 108 (.load false 1 (T 107)), vv 109 12, oo 110 (.idxS 1 (T 108) (T 109)), oo 111 (.load false 1 (T 110)), vv 112 15, oo 113 (.bslice 34 1 [(T 112)])] [(oo 114 (.append 34 1 24 (T 111) (T 113)), [oo 104 (.fieldAddr 0 (T 6)), oo 105 (.load false 1 (T 104)), vv 106 12]), (oo 115 (.idxS 1 (T 105) (T 106)), []), (nn (.store 1 (T 115) (T 114)), [])])))))
 (.region [vv 85 14, oo 86 (.ibin .add (T 85) (kk 1)), vv 14 86]))))))))
 (.region [vv 76 12, oo 77 (.ibin .add (T 76) (kk 1)), vv 12 77]))))))))))
 (.region [vv 41 7, vv 42 1, oo 43 (.ibin .add (T 41) (T 42)), vv 7 43]))))))
 (.seq (.drawn [oo 116 (.load true 1 (T 6)), oo 117 (.load true 1 (T 6)), oo 118 (.call (.func 29) [(T 117)]), oo 119 (.ibin .eql (T 118) (kk 0))] [(nn (.store 1 (T 4) (T 116)), [oo 119 (.ibin .eql (T 118) (kk 0))]), (vv 5 119, [])])
 .ret)))))
theorem f48 : fnC Tryd.prog 48 = some (c48, 120, [(.cell 4 true 1), (.tmp 5)]) := by kernel_rfl
end Go.Proofs.YtnncijjkbonokaaDoor
namespace Go.Proofs.YtnncijjkbonokaaDoor
open Dak
def c77 : CCode :=
 (.seq (.region [oo 2 (.mov (.const (.slice none 0 0)))])
 (.seq (.region [vv 12 0, oo 13 (.call (.func 42) [(T 12)]), vv 3 13])
 (.seq (.region [vv 14 0, oo 15 (.len (T 14)), oo 16 (.mkslice 39 1 24 (.val (.slice none 0 0)) (T 15) (T 15)), vv 4 16])
 (.seq (.region [oo 5 (.mov (kk 0))])
 (.seq (.seq (.region [oo 6 (.mov (kk 0))])
 (.block 0 (.loop
 (.seq (.seq (.region [vv 17 6, vv 18 3, oo 19 (.ibin .leq (T 17) (T 18))])
 (.cond (T 19)
 .skip
 (.exit 0)))
 (.seq (.block 1 (.seq (.region [oo 7 (.mov (.const (.bool true)))])
 (.seq (.seq (.region [oo 8 (.mov (kk 0))])
 (.block 2 (.loop
 (.seq (.seq (.region [vv 22 8, vv 23 0, oo 24 (.len (T 23)), oo 25 (.ibin .lss (T 22) (T 24))])
 (.cond (T 25)
 .skip
 (.exit 2)))
 (.seq (.block 3 (.drawn [vv 28 7, vv 29 28, vt 30 29 6, vt 31 29 0, vt 32 29 8, gt 33 29 (.idxS 1 (T 31) (T 32)), gt 34 29 (.load false 1 (T 33)), gt 35 29 (.len (T 34)), gt 36 29 (.ibin .geq (T 30) (T 35)), vt 37 29 36, vf 38 37 0, vf 39 37 8, gf 40 37 (.idxS 1 (T 38) (T 39)), gf 41 37 (.load false 1 (T 40)), vf 42 37 6, vf 43 37 0, vf 44 37 8, gf 45 37 (.idxS 1 (T 43) (T 44)), gf 46 37 (.load false 1 (T 45)), gf 47 37 (.len (T 46)), gf 48 37 (.ibin .sub (T 47) (kk 1)), gf 49 37 (.imin (T 42) (T 48)), gf 50 37 (.idxS 1 (T 41) (T 49)), gf 51 37 (.load false 1 (T 50)), gf 52 37 (.ibin .eql (T 51) (.const (.int .u8 0))), gt 53 29 (.pick (T 37) (.const (.bool true)) (T 52)), oo 54 (.pick (T 29) (T 53) (.const (.bool false))), vv 7 54] []))
 (.region [vv 26 8, oo 27 (.ibin .add (T 26) (kk 1)), vv 8 27]))))))
 (.seq (.seq (.region [vv 55 7, oo 56 (.lnot (T 55))])
 (.cond (T 56)
 (.exit 1)
 .skip))
 (.seq (.seq (.region [oo 9 (.mov (kk 0))])
 (.block 4 (.loop
 (.seq (.seq (.region [vv 57 9, vv 58 0, oo 59 (.len (T 58)), oo 60 (.ibin .lss (T 57) (T 59))])
 (.cond (T 60)
 .skip
 (.exit 4)))
 (.seq (.block 5 (.seq (.region [oo 10 (.mov (.const (.slice none 0 0)))])
 (.seq (.seq (.region [vv 63 5, vv 11 63])
 (.block 6 (.loop
 (.seq (.seq (.region [vv 64 11, vv 65 6, oo 66 (.ibin .lss (T 64) (T 65)), vv 67 66, vt 68 67 11, vt 69 67 0, vt 70 67 9, gt 71 67 (.idxS 1 (T 69) (T 70)), gt 72 67 (.load false 1 (T 71)), gt 73 67 (.len (T 72)), gt 74 67 (.ibin .lss (T 68) (T 73)), oo 75 (.pick (T 67) (T 74) (.const (.bool false)))])
 (.cond (T 75)
 .skip
 (.exit 6)))
 (.seq (.block 7 (.region [vv 78 10, vv 79 0, vv 80 9, oo 81 (.idxS 1 (T 79) (T 80)), oo 82 (.load false 1 (T 81)), vv 83 11, oo 84 (.idxS 1 (T 82) (T 83)), oo 85 (.load false 1 (T 84)), oo 86 (.bslice 5 1 [(T 85)]), oo 87 (.append 5 1 1 (T 78) (T 86)), vv 10 87]))
 (.region [vv 76 11, oo 77 (.ibin .add (T 76) (kk 1)), vv 11 77]))))))
 (.seq (.block 8 (.loop
 (.seq (.seq (.region [vv 88 10, oo 89 (.len (T 88)), oo 90 (.ibin .gtr (T 89) (kk 0)), vv 91 90, vt 92 91 10, vt 93 91 10, gt 94 91 (.len (T 93)), gt 95 91 (.ibin .sub (T 94) (kk 1)), gt 96 91 (.imax (T 95) (kk 0)), gt 97 91 (.idxS 1 (T 92) (T 96)), gt 98 91 (.load false 1 (T 97)), gt 99 91 (.ibin .eql (T 98) (.const (.int .u8 0))), oo 100 (.pick (T 91) (T 99) (.const (.bool false)))])
 (.cond (T 100)
 .skip
 (.exit 8)))
 (.block 9 (.region [vv 101 10, vv 102 10, oo 103 (.len (T 102)), oo 104 (.ibin .sub (T 103) (kk 1)), oo 105 (.slice 1 (T 101) none (some (T 104))), vv 10 105])))))
 (.region [vv 106 4, vv 107 9, vv 108 4, vv 109 9, oo 110 (.idxS 1 (T 108) (T 109)), oo 111 (.load false 1 (T 110)), vv 112 10, oo 113 (.bslice 30 1 [(T 112)]), oo 114 (.append 30 1 24 (T 111) (T 113)), oo 115 (.idxS 1 (T 106) (T 107)), nn (.store 1 (T 115) (T 114))])))))
 (.region [vv 61 9, oo 62 (.ibin .add (T 61) (kk 1)), vv 9 62]))))))
 (.region [vv 116 6, oo 117 (.ibin .add (T 116) (kk 1)), vv 5 117]))))))
 (.region [vv 20 6, oo 21 (.ibin .add (T 20) (kk 1)), vv 6 21]))))))
 (.seq (.region [vv 118 4, vv 2 118])
 .ret))))))
theorem f77 : fnC Tryd.prog 77 = some (c77, 119, [(.tmp 2)]) := by kernel_rfl
def c78 : CCode :=
 (.seq (.region [oo 4 (.mov (.const (.slice none 0 0))), oo 5 (.mov (kk 0)), oo 6 (.mov (.const (.bool false)))])
 (.seq (.region [oo 7 (.mov (.const (.slice none 0 0)))])
 (.seq (.region [oo 8 (.mov (kk 0))])
 (.seq (.block 0 (.loop
 (.seq (.seq (.region [vv 16 8, vv 17 0, oo 18 (.len (T 17)), oo 19 (.ibin .lss (T 16) (T 18))])
 (.cond (T 19)
 .skip
 (.exit 0)))
 (.block 1 (.seq (.region [oo 20 (.build [(.val (.int .i64 0)), (.val (.int .i64 0)), (.val (.int .i64 0))] []), oo 9 (.alloc 64 (.agg [(.val (.int .i64 0)), (.val (.int .i64 0)), (.val (.int .i64 0))])), nn (.store 3 (T 9) (T 20))])
 (.seq (.seq (.region [vv 21 0, vv 22 8, oo 23 (.idxS 1 (T 21) (T 22)), oo 24 (.load false 1 (T 23)), oo 25 (.ibin .eql (T 24) (.const (.int .u8 33))), vv 26 25, vf 27 26 0, vf 28 26 8, gf 29 26 (.idxS 1 (T 27) (T 28)), gf 30 26 (.load false 1 (T 29)), gf 31 26 (.ibin .eql (T 30) (.const (.int .u8 34))), oo 32 (.pick (T 26) (.const (.bool true)) (T 31))])
 (.cond (T 32)
 (.seq (.region [vv 33 0, vv 34 8, oo 35 (.idxS 1 (T 33) (T 34)), oo 36 (.load false 1 (T 35)), oo 37 (.conv .i64 (T 36)), oo 38 (.ibin .mul (kk 2) (T 37)), oo 39 (.ibin .sub (kk 67) (T 38)), oo 40 (.fieldAddr 2 (T 9)), nn (.store 1 (T 40) (T 39))])
 (.region [vv 41 8, oo 42 (.ibin .add (T 41) (kk 1)), vv 8 42]))
 .skip))
 (.seq (.region [oo 10 (.mov (kk (-1)))])
 (.seq (.region [oo 43 (.bslice 5 1 [(.const (.int .u8 8)), (.const (.int .u8 24)), (.const (.int .u8 56)), (.const (.int .u8 16)), (.const (.int .u8 40)), (.const (.int .u8 48)), (.const (.int .u8 32))]), vv 11 43])
 (.seq (.seq (.region [oo 12 (.mov (kk 0))])
 (.block 2 (.loop
 (.seq (.seq (.region [vv 44 12, oo 45 (.ibin .lss (T 44) (kk 7)), vv 46 45, vt 47 46 8, vt 48 46 0, gt 49 46 (.len (T 48)), gt 50 46 (.ibin .lss (T 47) (T 49)), oo 51 (.pick (T 46) (T 50) (.const (.bool false)))])
 (.cond (T 51)
 .skip
 (.exit 2)))
 (.seq (.block 3 (.seq (.drawn [vv 54 0, vv 55 8, vv 56 0, oo 57 (.len (T 56)), oo 58 (.ibin .sub (T 57) (kk 1)), oo 59 (.imin (T 55) (T 58)), oo 60 (.idxS 1 (T 54) (T 59)), oo 61 (.load false 1 (T 60)), vv 62 11, vv 63 12, oo 64 (.idxS 1 (T 62) (T 63)), oo 65 (.load false 1 (T 64)), oo 66 (.ibin .eql (T 61) (T 65)), vv 67 66, vt 68 67 10, gt 69 67 (.ibin .lss (T 68) (kk 0)), oo 70 (.pick (T 67) (T 69) (.const (.bool false)))] [])
 (.cond (T 70)
 (.seq (.region [vv 71 12, vv 10 71])
 (.region [vv 72 8, oo 73 (.ibin .add (T 72) (kk 1)), vv 8 73]))
 .skip)))
 (.region [vv 52 12, oo 53 (.ibin .add (T 52) (kk 1)), vv 12 53]))))))
 (.seq (.region [vv 74 8, vv 75 0, oo 76 (.len (T 75)), oo 77 (.ibin .lss (T 74) (T 76)), vv 78 77, vt 79 78 0, vt 80 78 8, vt 81 78 0, gt 82 78 (.len (T 81)), gt 83 78 (.ibin .sub (T 82) (kk 1)), gt 84 78 (.imin (T 80) (T 83)), gt 85 78 (.idxS 1 (T 79) (T 84)), gt 86 78 (.load false 1 (T 85)), gt 87 78 (.ibin .eql (T 86) (.const (.int .u8 3))), oo 88 (.pick (T 78) (T 87) (.const (.bool false))), vv 13 88])
 (.seq (.seq (.region [vv 89 13])
 (.cond (T 89)
 (.region [vv 90 8, oo 91 (.ibin .add (T 90) (kk 1)), vv 8 91])
 .skip))
 (.seq (.seq (.region [vv 92 8, vv 93 0, oo 94 (.len (T 93)), oo 95 (.ibin .geq (T 92) (T 94))])
 (.cond (T 95)
 (.seq (.region [oo 4 (.mov (.const (.slice none 0 0))), oo 5 (.mov (kk 0)), oo 6 (.mov (.const (.bool false)))])
 .ret)
 .skip))
 (.seq (.region [vv 97 0, vv 98 8, oo 99 (.idxS 1 (T 97) (T 98)), oo 100 (.load false 1 (T 99)), oo 101 (.call (.func 96) [(T 100)]), vv 96 101, oo 102 (.extract (T 96) 0), oo 103 (.extract (T 96) 1), vv 14 102, vv 15 103])
 (.seq (.seq (.region [vv 104 14, oo 105 (.ibin .lss (T 104) (kk 0)), vv 106 105, vf 107 106 13, vf 108 106 107, vt 109 108 15, gt 110 108 (.ibin .neq (T 109) (kk 0)), gf 111 106 (.pick (T 108) (T 110) (.const (.bool false))), oo 112 (.pick (T 106) (.const (.bool true)) (T 111))])
 (.cond (T 112)
 (.seq (.region [oo 4 (.mov (.const (.slice none 0 0))), oo 5 (.mov (kk 0)), oo 6 (.mov (.const (.bool false)))])
 .ret)
 .skip))
 (.seq (.seq (.region [vv 113 13])
 (.cond (T 113)
 (.region [oo 15 (.mov (kk 4))])
 .skip))
 (.seq (.region [vv 114 8, oo 115 (.ibin .add (T 114) (kk 1)), vv 8 115])
 (.seq (.region [vv 116 15, oo 117 (.fieldAddr 1 (T 9)), nn (.store 1 (T 117) (T 116))])
 (.seq (.region [vv 118 14, vv 119 10, vv 120 1, oo 121 (.call (.func 97) [(T 118), (T 119), (T 120)]), oo 122 (.fieldAddr 0 (T 9)), nn (.store 1 (T 122) (T 121))])
 (.seq (.seq (.region [oo 123 (.fieldAddr 0 (T 9)), oo 124 (.load false 1 (T 123)), oo 125 (.ibin .lss (T 124) (kk (-1)))])
 (.cond (T 125)
 (.seq (.region [oo 4 (.mov (.const (.slice none 0 0))), oo 5 (.mov (kk 0)), oo 6 (.mov (.const (.bool false)))])
 .ret)
 .skip))
 (.seq (.seq (.region [oo 126 (.fieldAddr 0 (T 9)), oo 127 (.load false 1 (T 126)), oo 128 (.ibin .geq (T 127) (kk 0))])
 (.cond (T 128)
 (.region [oo 129 (.fieldAddr 0 (T 9)), oo 130 (.load false 1 (T 129)), vv 1 130])
 .skip))
 (.region [vv 131 7, oo 132 (.load true 3 (T 9)), oo 133 (.bslice 64 3 [(T 132)]), oo 134 (.append 64 3 24 (T 131) (T 133)), vv 7 134])))))))))))))))))))))
 (.seq (.region [vv 135 7, vv 136 1, vv 4 135, vv 5 136, oo 6 (.mov (.const (.bool true)))])
 .ret)))))
theorem f78 : fnC Tryd.prog 78 = some (c78, 137, [(.tmp 4), (.tmp 5), (.tmp 6)]) := by kernel_rfl
def c96 : CCode :=
 (.seq (.region [oo 2 (.mov (kk 0)), oo 3 (.mov (kk 0))])
 (.seq (.region [oo 8 (.bslice 5 1 [(.const (.int .u8 25)), (.const (.int .u8 17)), (.const (.int .u8 11)), (.const (.int .u8 27)), (.const (.int .u8 19)), (.const (.int .u8 10)), (.const (.int .u8 26)), (.const (.int .u8 9))]), vv 4 8])
 (.seq (.region [oo 9 (.bslice 5 1 [(.const (.int .u8 36)), (.const (.int .u8 4)), (.const (.int .u8 32)), (.const (.int .u8 0))]), vv 5 9])
 (.seq (.seq (.region [oo 6 (.mov (kk 0))])
 (.block 0 (.loop
 (.seq (.seq (.region [vv 10 6, oo 11 (.ibin .lss (T 10) (kk 8))])
 (.cond (T 11)
 .skip
 (.exit 0)))
 (.seq (.block 1 (.seq (.region [oo 7 (.mov (kk 0))])
 (.block 2 (.loop
 (.seq (.seq (.region [vv 14 7, oo 15 (.ibin .lss (T 14) (kk 4))])
 (.cond (T 15)
 .skip
 (.exit 2)))
 (.seq (.block 3 (.seq (.drawn [vv 18 0, vv 19 4, vv 20 6, oo 21 (.idxS 1 (T 19) (T 20)), oo 22 (.load false 1 (T 21)), vv 23 5, vv 24 7, oo 25 (.idxS 1 (T 23) (T 24)), oo 26 (.load false 1 (T 25)), oo 27 (.ibin .add (T 22) (T 26)), oo 28 (.ibin .eql (T 18) (T 27))] [])
 (.cond (T 28)
 (.seq (.region [vv 29 6, vv 30 7, vv 2 29, vv 3 30])
 .ret)
 .skip)))
 (.region [vv 16 7, oo 17 (.ibin .add (T 16) (kk 1)), vv 7 17])))))))
 (.region [vv 12 6, oo 13 (.ibin .add (T 12) (kk 1)), vv 6 13]))))))
 (.seq (.region [oo 2 (.mov (kk (-1))), oo 3 (.mov (kk 0))])
 .ret)))))
theorem f96 : fnC Tryd.prog 96 = some (c96, 31, [(.tmp 2), (.tmp 3)]) := by kernel_rfl
def c97 : CCode :=
 (.seq (.region [oo 6 (.mov (kk 0))])
 (.seq (.seq (.region [vv 8 0, oo 9 (.ibin .eql (T 8) (kk 7))])
 (.cond (T 9)
 (.seq (.seq (.region [vv 10 1, oo 11 (.ibin .geq (T 10) (kk 0))])
 (.cond (T 11)
 (.seq (.region [oo 6 (.mov (kk (-2)))])
 .ret)
 .skip))
 (.seq (.region [oo 6 (.mov (kk (-1)))])
 .ret))
 .skip))
 (.seq (.seq (.region [vv 12 1, oo 13 (.ibin .geq (T 12) (kk 0))])
 (.cond (T 13)
 (.seq (.region [vv 14 1, oo 15 (.ibin .mul (kk 7) (T 14)), vv 16 0, oo 17 (.ibin .add (T 15) (T 16)), vv 6 17])
 .ret)
 .skip))
 (.seq (.seq (.region [vv 18 0, vv 7 18])
 (.block 0 (.loop
 (.seq (.seq (.region [vv 19 7, oo 20 (.ibin .leq (T 19) (kk 48))])
 (.cond (T 20)
 .skip
 (.exit 0)))
 (.seq (.block 1 (.seq (.region [vv 23 7, vv 24 2, oo 25 (.call (.func 60) [(T 23), (T 24)]), oo 26 (.lnot (T 25))])
 (.cond (T 26)
 (.seq (.region [vv 27 7, vv 6 27])
 .ret)
 .skip)))
 (.region [vv 21 7, oo 22 (.ibin .add (T 21) (kk 7)), vv 7 22]))))))
 (.seq (.region [oo 6 (.mov (kk (-2)))])
 .ret)))))
theorem f97 : fnC Tryd.prog 97 = some (c97, 28, [(.tmp 6)]) := by kernel_rfl
end Go.Proofs.YtnncijjkbonokaaDoor
namespace Go.Proofs.YtnncijjkbonokaaDoor
open Go.RowKit Dak
def stepR (name octave last : Int) : Int := match findP name octave last with
 | some s => s
 | none => -2
set_option maxRecDepth 100000 in
theorem step_s (name octave last : Int) (hn : 0 <= name /\ name <= 7) (ho : -1 <= octave /\ octave <= 6) (hl : small last) : Ctr Tryd.prog 97 [vi name, vi octave, vi last] (vi (stepR name octave last)) := by
 refine specE f97 (by simp) fun F0 w0 => ?_
 by_cases a : name = 7
 ·by_cases b : 0 <= octave
  ·have e : stepR name octave last = -2 := by simp only [stepR, findP, a, show ¬ octave < 0 from by omega, if_true, if_false]
   simp only [c97, go_sem, ↓reduceIte, reduceCtorEq, Nat.reduceLT, Nat.reduceEqDiff, Nat.reduceAdd, Int.reduceNeg, a, b]
   rw [a] at e; rw [e]; exact .tree _ rfl
  ·have e : stepR name octave last = -1 := by simp only [stepR, findP, a, show octave < 0 from by omega, if_true]
   simp only [c97, go_sem, ↓reduceIte, reduceCtorEq, Nat.reduceLT, Nat.reduceEqDiff, Nat.reduceAdd, Int.reduceNeg, a, b]
   rw [a] at e; rw [e]; exact .tree _ rfl
 by_cases b : 0 <= octave
 ·have w1 : IntKind.i64.wrap (7 * octave) = 7 * octave := wrap_id (by omega) (by omega)
  have w2 : IntKind.i64.wrap (7 * octave + name) = 7 * octave + name := wrap_id (by omega) (by omega)
  have e : stepR name octave last = 7 * octave + name := by simp only [stepR, findP, a, b, if_true, if_false]
  simp only [c97, go_sem, ↓reduceIte, reduceCtorEq, Nat.reduceLT, Nat.reduceEqDiff, Nat.reduceAdd, Int.reduceNeg, a, b, w1, w2]
  rw [e]; exact .tree _ rfl
 have e0 : stepR name octave last = (match findGo last 8 name with | some s => s | none => -2) := by
  simp only [stepR, findP, a, b, if_false]
 rw [e0]
 simp only [c97, go_sem, ↓reduceIte, reduceCtorEq, Nat.reduceLT, Nat.reduceEqDiff, Nat.reduceAdd, Int.reduceNeg, a, b]
 refine loopX 0 (fun m s => ∃ x : Nat, 48 < (x : Int) + 7 * m /\ x <= 56 /\ findGo last m x = findGo last 8 name /\ s = ⟨[(2, vi last), (7, vi x)], []⟩) (fun s => findGo last 8 name = none /\ s = ⟨[], []⟩) 8 ⟨[(2, vi last), (7, vi name)], []⟩ (WkE.keep (by simp only [go_sem, ↓reduceIte, reduceCtorEq, Nat.reduceEqDiff])) ⟨name.toNat, by omega, by omega, by rw [Int.toNat_of_nonneg hn.1], by rw [Int.toNat_of_nonneg hn.1]⟩ ?_ ?_
 rotate_left
 ·rintro s ⟨e, rfl⟩
  rw [e]
  simp only [go_sem, ↓reduceIte, Nat.reduceLT]
  exact .tree _ rfl
 rintro f s ⟨x, hf, hx, hg, rfl⟩
 by_cases c : (x : Int) <= 48
 ·cases f with
  | zero => omega
  | succ f =>
   have w1 : IntKind.i64.wrap ((x : Int) + 7) = ((x + 7 : Nat) : Int) := by rw [wrap_id (by omega) (by omega)]; omega
   rw [findGo, if_pos c] at hg
   simp only [go_sem, ↓reduceIte, Nat.reduceLT, Nat.reduceEqDiff, Int.reduceNeg, c]
   refine callT (marked_s x last ⟨by omega, by omega⟩ hl) rfl ?_
   have hmk : markP x last = needP x last := by simp only [markP, show (0 : Int) <= (x : Int) from by omega, decide_true, Bool.true_and]
   rw [hmk]
   cases hb : needP x last with
   | true =>
    rw [if_pos hb] at hg
    simp only [go_sem, ↓reduceIte, Nat.reduceLT, Nat.reduceEqDiff, Int.reduceNeg, w1]
    exact ⟨f, _, by omega, WkE.keep (by simp only [go_sem, ↓reduceIte, Nat.reduceEqDiff]), x + 7, by omega, by omega, by rw [<- hg]; rfl, rfl⟩
   | false =>
    rw [if_neg (by rw [hb]; simp)] at hg
    rw [<- hg]
    simp only [go_sem, ↓reduceIte, reduceCtorEq, Nat.reduceLT, Nat.reduceEqDiff, Int.reduceNeg]
    exact .tree _ rfl
 ·simp only [go_sem, ↓reduceIte, Nat.reduceLT, Nat.reduceEqDiff, Int.reduceNeg, c]
  refine ⟨⟨[], []⟩, WkE.keep trivial, ?_, rfl⟩
  rw [<- hg]
  cases f with
  | zero => rfl
  | succ f => rw [findGo, if_neg c]
end Go.Proofs.YtnncijjkbonokaaDoor
namespace Go.Proofs.YtnncijjkbonokaaDoor
open Go.RowKit Dak
abbrev names8L : AV := .list 1 [vu 25, vu 17, vu 11, vu 27, vu 19, vu 10, vu 26, vu 9]
abbrev lens4L : AV := .list 1 [vu 36, vu 4, vu 32, vu 0]
set_option maxRecDepth 100000 in
theorem plain_s (x : Int) : Ctr Tryd.prog 96 [vu x] (.tup [vi (gotK (plainP x)), vi (gotL (plainP x))]) := by
 refine specE f96 (by simp) fun F0 w0 => ?_
 simp only [c96, go_sem, Nat.reducePow, Nat.reduceLeDiff, ↓reduceIte, reduceCtorEq, Nat.reduceLT, Nat.reduceAdd, Nat.reduceMul, Int.reduceNeg]
 refine loopX 0 (fun z s => ∃ k : Nat, k + z = 8 /\ plainK x z k = plainP x /\ s = ⟨[(0, vu x), (4, names8L), (5, lens4L), (6, vi k)], []⟩) (fun s => plainP x = none /\ s = ⟨[], []⟩) 8 ⟨[(0, vu x), (4, names8L), (5, lens4L), (6, vi (0 : Nat))], []⟩ (WkE.keep (by simp only [go_sem, ↓reduceIte, reduceCtorEq, Nat.reduceEqDiff]; rfl)) ⟨0, rfl, rfl, rfl⟩ ?_ ?_
 rotate_left
 ·rintro s ⟨e, rfl⟩
  rw [e]
  simp only [go_sem, ↓reduceIte, Nat.reduceLT, Nat.reduceEqDiff, Int.reduceNeg]
  exact .tree _ rfl
 rintro z s ⟨k, hk, hp, rfl⟩
 have k8 : ((8 : Nat) : Int) = 8 := rfl
 have k4 : ((4 : Nat) : Int) = 4 := rfl
 cases z with
 | zero =>
  obtain rfl : k = 8 := by omega
  simp only [go_sem, ↓reduceIte, reduceCtorEq, Nat.reduceLT, Nat.reduceEqDiff, Int.reduceNeg, Int.lt_irrefl, k8]
  exact ⟨⟨[], []⟩, WkE.keep trivial, hp.symm, rfl⟩
 | succ z =>
  have h8 : k < 8 := by omega
  have h8' : (k : Int) < 8 := by omega
  have h0' : (0 : Int) <= (k : Int) := by omega
  have hw : IntKind.i64.wrap ((k : Int) + 1) = ((k + 1 : Nat) : Int) := by rw [wrap_id (by omega) (by omega)]; omega
  have nk := names8 h8
  have hp' : (match plainL x k 4 0 with
   | some r => some r
   | none => plainK x z (k + 1)) = plainP x := hp
  simp only [go_sem, ↓reduceIte, reduceCtorEq, Nat.reduceLT, Nat.reduceEqDiff, Int.reduceNeg, h8']
  refine loopX 2 (fun y s => ∃ l : Nat, l + y = 4 /\ (match plainL x k y l with
   | some r => some r
   | none => plainK x z (k + 1)) = plainP x /\ s = ⟨[(0, vu x), (4, names8L), (5, lens4L), (6, vi k), (7, vi l)], []⟩)
   (fun s => plainK x z (k + 1) = plainP x /\ s = ⟨[(0, vu x), (4, names8L), (5, lens4L), (6, vi k)], []⟩) 4 ⟨[(0, vu x), (4, names8L), (5, lens4L), (6, vi k), (7, vi (0 : Nat))], []⟩ (WkE.keep (by simp only [go_sem, ↓reduceIte, reduceCtorEq, Nat.reduceEqDiff]; rfl)) ⟨0, rfl, hp', rfl⟩ ?_ ?_
  rotate_left
  ·rintro s ⟨hq, rfl⟩
   simp only [go_sem, ↓reduceIte, reduceCtorEq, Nat.reduceLT, Nat.reduceEqDiff, Int.reduceNeg, hw]
   exact ⟨z, _, by omega, WkE.keep (by simp only [go_sem, ↓reduceIte, reduceCtorEq, Nat.reduceEqDiff]), k + 1, by omega, hq, rfl⟩
  rintro y s ⟨l, hl, hq, rfl⟩
  cases y with
  | zero =>
   obtain rfl : l = 4 := by omega
   simp only [go_sem, ↓reduceIte, reduceCtorEq, Nat.reduceLT, Nat.reduceEqDiff, Int.reduceNeg, Int.lt_irrefl, k4]
   exact ⟨_, WkE.keep (by simp only [go_sem, ↓reduceIte, reduceCtorEq, Nat.reduceEqDiff]), hq, rfl⟩
  | succ y =>
   have l4 : l < 4 := by omega
   have l4' : (l : Int) < 4 := by omega
   have l0' : (0 : Int) <= (l : Int) := by omega
   have lw : IntKind.i64.wrap ((l : Int) + 1) = ((l + 1 : Nat) : Int) := by rw [wrap_id (by omega) (by omega)]; omega
   have ll := lens4 l4
   have hsum : IntKind.u8.wrap (names.getD k 0 + lens.getD l 0) = sumP k l := rfl
   have hq' : (match (if x = sumP k l then some (k, l) else plainL x k y (l + 1)) with
    | some r => some r
    | none => plainK x z (k + 1)) = plainP x := hq
   by_cases he : x = sumP k l
   ·rw [if_pos he] at hq'
    rw [<- hq']
    have he' : (x = sumP k l) = True := eq_true he
    simp only [go_sem, ↓reduceIte, reduceCtorEq, Nat.reduceLT, Nat.reduceEqDiff, Int.reduceNeg, l4', l0', h0', nk, ll, hsum, he']
    exact .tree _ rfl
   ·rw [if_neg he] at hq'
    simp only [go_sem, ↓reduceIte, reduceCtorEq, Nat.reduceLT, Nat.reduceEqDiff, Int.reduceNeg, l4', l0', h0', nk, ll, hsum, he, lw]
    exact ⟨y, _, by omega, WkE.keep (by simp only [go_sem, ↓reduceIte, reduceCtorEq, Nat.reduceEqDiff]), l + 1, by omega, hq', rfl⟩
end Go.Proofs.YtnncijjkbonokaaDoor
namespace Go.Proofs.YtnncijjkbonokaaDoor
open Go.RowKit Dak
abbrev rdE (c : List Int) (last : Int) (n i : Nat) : List (Nat × AV) := [(0, vbytes c), (1, vi last), (7, .own 0 n 0 n), (8, vi i)]
abbrev rdO (acc : List Nt) (n : Nt) : List AObj := [.arr acc.length 3 64 (acc.map vnote), .arr 1 3 64 [vnote n]]
abbrev octsL : AV := .list 1 [vu 8, vu 24, vu 56, vu 16, vu 40, vu 48, vu 32]
theorem octs_drop {k : Nat} (h : k < 7) : octs.drop k = octs.getD k 0 :: octs.drop (k + 1) := by
 match k, h with
 | 0, _ | 1, _ | 2, _ | 3, _ | 4, _ | 5, _ | 6, _ => rfl
def octJ (c : List Int) (i : Nat) : Int × Nat := (octT c i (-1), tookN isOct c i)
theorem octJ_some {c : List Int} {i : Nat} {x : Int} (h : c[i]? = some x) : octJ c i = (octI x, if 0 <= octI x then i + 1 else i) := by
 simp only [octJ, octT, tookN, tookB, isOct, h, decide_eq_true_eq]
theorem octJ_none {c : List Int} {i : Nat} (h : c[i]? = none) : octJ c i = (-1, i) := by
 simp [octJ, octT, tookN, tookB, h]
abbrev octB : CCode := match c78 with | .seq _ (.seq _ (.seq _ (.seq (.block _ (.loop (.seq _ (.block _ (.seq _ (.seq _ (.seq _ (.seq _ (.seq b _))))))))) _))) => b | _ => .skip
def OctInv (c : List Int) (i : Nat) (last : Int) (acc : List Nt) (n : Nt) (k : Nat) (s : Est) : Prop :=
 (∃ x, c[i]? = some x /\ octI x = idxGo (fun y => decide (x = y)) (octs.drop k) k /\ s = ⟨[(9, .ref 1 1 0 0), (10, vi (-1)), (11, octsL), (12, vi k)] ++ rdE c last acc.length i, rdO acc n⟩) \/
 (c[i]? = none /\ s = ⟨[(9, .ref 1 1 0 0), (10, vi (-1)), (11, octsL), (12, vi k)] ++ rdE c last acc.length i, rdO acc n⟩) \/
 (0 <= (octJ c i).1 /\ (octJ c i).2 = i + 1 /\ i < c.length /\ s = ⟨[(9, .ref 1 1 0 0), (10, vi (octJ c i).1), (11, octsL), (12, vi k)] ++ rdE c last acc.length (octJ c i).2, rdO acc n⟩)
set_option maxRecDepth 100000 in
theorem octB_s (F0 : FD) (w0 : World) (last : Int) (c : List Int) (i : Nat) (acc : List Nt) (n : Nt) (hi : i <= c.length) (hc : c.length <= 100000)
 {Q : Exit -> Est -> Prop} (hQ : Q .normal ⟨[(9, .ref 1 1 0 0), (10, vi (octJ c i).1)] ++ rdE c last acc.length (octJ c i).2, rdO acc n⟩) : CwpE Tryd.prog F0 w0 137 octB Q ⟨[(9, .ref 1 1 0 0), (10, vi (-1)), (11, octsL)] ++ rdE c last acc.length i, rdO acc n⟩ := by
 unfold octB c78
 refine CwpE.cut (st := ⟨[(9, .ref 1 1 0 0), (10, vi (-1)), (11, octsL), (12, vi (0 : Nat))] ++ rdE c last acc.length i, rdO acc n⟩) ?_ ?_
 ·simp only [go_sem, ↓reduceIte, Nat.reduceLT, Int.reduceNeg, List.cons_append, List.nil_append]
  exact ⟨_, WkE.keep (by simp only [go_sem, ↓reduceIte, reduceCtorEq, Nat.reduceEqDiff]; rfl), rfl⟩
 refine CwpE.block ?_
 refine loopX 2 (fun z s => ∃ k : Nat, k + z = 7 /\ OctInv c i last acc n k s)
  (fun s => s = ⟨[(9, .ref 1 1 0 0), (10, vi (octJ c i).1)] ++ rdE c last acc.length (octJ c i).2, rdO acc n⟩) 7 _ (.refl _ _) ⟨0, rfl, ?_⟩ ?_ ?_
 ·cases hx : c[i]? with
  | none => exact .inr (.inl ⟨hx, rfl⟩)
  | some x => exact .inl ⟨x, hx, rfl, rfl⟩
 rotate_left
 ·rintro s rfl
  simp only [inBlockE, if_true]
  exact hQ
 have k7 : ((7 : Nat) : Int) = 7 := rfl
 rintro z s ⟨k, hk, hI⟩
 rcases hI with ⟨x, hx, hs, rfl⟩ | ⟨hx, rfl⟩ | ⟨ho, hj, hlt, rfl⟩
 ·have hlt := (List.getElem?_eq_some_iff.1 hx).1
  have hlt' : (i : Int) < (c.length : Int) := by omega
  cases z with
  | zero =>
   obtain rfl : k = 7 := by omega
   have e : octJ c i = (-1, i) := by
    have : octI x = -1 := hs
    rw [octJ_some hx, this]; rfl
   simp only [go_sem, ↓reduceIte, Nat.reduceLT, Nat.reduceEqDiff, Int.reduceNeg, Int.lt_irrefl, k7, List.cons_append, List.nil_append]
   rw [e]
   exact ⟨_, WkE.keep (by simp only [go_sem, ↓reduceIte, reduceCtorEq, Nat.reduceEqDiff]), rfl⟩
  | succ z =>
   have h7 : k < 7 := by omega
   have h7' : (k : Int) < 7 := by omega
   have h0' : (0 : Int) <= (k : Int) := by omega
   have i0' : (0 : Int) <= (i : Int) := by omega
   have hw : IntKind.i64.wrap ((k : Int) + 1) = ((k + 1 : Nat) : Int) := by rw [wrap_id (by omega) (by omega)]; omega
   have hwi : IntKind.i64.wrap ((i : Int) + 1) = ((i + 1 : Nat) : Int) := by rw [wrap_id (by omega) (by omega)]; omega
   have hwl : IntKind.i64.wrap ((c.length : Int) - 1) = (c.length : Int) - 1 := wrap_id (by omega) (by omega)
   have nk := octs7 h7
   have hmin : (if (c.length : Int) - 1 < (i : Int) then (c.length : Int) - 1 else (i : Int)) = (i : Int) := by rw [if_neg (by omega)]
   rw [octs_drop h7, idxGo] at hs
   by_cases he : x = octs.getD k 0
   ·rw [if_pos (by rw [decide_eq_true_eq]; exact he)] at hs
    have e : octJ c i = ((k : Int), i + 1) := by rw [octJ_some hx, hs, if_pos (by omega)]
    have he' : (x = octs.getD k 0) = True := eq_true he
    simp only [go_sem, ↓reduceIte, reduceCtorEq, Nat.reduceLT, Nat.reduceEqDiff, Int.reduceLT, Int.reduceNeg, h7', h0', i0', hlt', hwl, hmin, nk, List.getElem?_map, hx, Option.map_some, he', hw, hwi, List.cons_append, List.nil_append]
    refine ⟨z, ⟨[(9, .ref 1 1 0 0), (10, vi (octJ c i).1), (11, octsL), (12, vi (k + 1 : Nat))] ++ rdE c last acc.length (octJ c i).2, rdO acc n⟩, by omega, ?_, k + 1, by omega, .inr (.inr ⟨by rw [e]; exact h0', by rw [e], hlt, rfl⟩)⟩
    rw [e]
    exact WkE.keep (by simp only [go_sem, ↓reduceIte, reduceCtorEq, Nat.reduceEqDiff, List.cons_append, List.nil_append])
   ·rw [if_neg (by rw [decide_eq_true_eq]; exact he)] at hs
    simp only [go_sem, ↓reduceIte, reduceCtorEq, Nat.reduceLT, Nat.reduceEqDiff, Int.reduceNeg, h7', h0', i0', hlt', hwl, hmin, nk, List.getElem?_map, hx, Option.map_some, he, hw, List.cons_append, List.nil_append]
    exact ⟨z, ⟨[(9, .ref 1 1 0 0), (10, vi (-1)), (11, octsL), (12, vi (k + 1 : Nat))] ++ rdE c last acc.length i, rdO acc n⟩, by omega, WkE.keep (by simp only [go_sem, ↓reduceIte, reduceCtorEq, Nat.reduceEqDiff, List.cons_append, List.nil_append]), k + 1, by omega, .inl ⟨x, hx, hs, rfl⟩⟩
 ·have hge : ¬ i < c.length := fun h => by rw [List.getElem?_eq_getElem h] at hx; cases hx
  have hge' : ¬ (i : Int) < (c.length : Int) := by omega
  rw [octJ_none hx]
  by_cases h7' : (k : Int) < 7
  ·simp only [go_sem, ↓reduceIte, reduceCtorEq, Nat.reduceLT, Nat.reduceEqDiff, Int.reduceNeg, h7', hge', List.cons_append, List.nil_append]
   exact ⟨_, WkE.keep (by simp only [go_sem, ↓reduceIte, reduceCtorEq, Nat.reduceEqDiff]), rfl⟩
  ·simp only [go_sem, ↓reduceIte, Nat.reduceLT, Nat.reduceEqDiff, Int.reduceNeg, h7', List.cons_append, List.nil_append]
   exact ⟨_, WkE.keep (by simp only [go_sem, ↓reduceIte, reduceCtorEq, Nat.reduceEqDiff]), rfl⟩
 ·obtain ⟨o, ho2⟩ : ∃ o, (octJ c i).1 = o := ⟨_, rfl⟩
  rw [ho2] at ho
  rw [ho2, hj]
  have ho' : ¬ o < 0 := by omega
  by_cases h7' : (k : Int) < 7
  ·have h7 : k < 7 := by omega
   have h0' : (0 : Int) <= (k : Int) := by omega
   have i0' : (0 : Int) <= ((i + 1 : Nat) : Int) := by omega
   have hw : IntKind.i64.wrap ((k : Int) + 1) = ((k + 1 : Nat) : Int) := by rw [wrap_id (by omega) (by omega)]; omega
   have hwl : IntKind.i64.wrap ((c.length : Int) - 1) = (c.length : Int) - 1 := wrap_id (by omega) (by omega)
   have nk := octs7 h7
   by_cases hi3 : i + 1 < c.length
   ·have hi3' : ((i + 1 : Nat) : Int) < (c.length : Int) := by omega
    have hmin : (if (c.length : Int) - 1 < ((i + 1 : Nat) : Int) then (c.length : Int) - 1 else ((i + 1 : Nat) : Int)) = ((i + 1 : Nat) : Int) := by rw [if_neg (by omega)]
    have hx3 := List.getElem?_eq_getElem hi3
    by_cases he : c[i + 1] = octs.getD k 0
    ·have he' : (c[i + 1] = octs.getD k 0) = True := eq_true he
     simp only [go_sem, ↓reduceIte, reduceCtorEq, Nat.reduceLT, Nat.reduceEqDiff, h7', h0', i0', hi3', hwl, hmin, nk, List.getElem?_map, hx3, Option.map_some, he', ho', hw, List.cons_append, List.nil_append]
     exact ⟨6 - k, ⟨[(9, .ref 1 1 0 0), (10, vi o), (11, octsL), (12, vi (k + 1 : Nat))] ++ rdE c last acc.length (i + 1), rdO acc n⟩, by omega, WkE.keep (by simp only [go_sem, ↓reduceIte, reduceCtorEq, Nat.reduceEqDiff, List.cons_append, List.nil_append]), k + 1, by omega, .inr (.inr ⟨by rw [ho2]; exact ho, hj, hlt, by rw [ho2, hj]⟩)⟩
    ·simp only [go_sem, ↓reduceIte, reduceCtorEq, Nat.reduceLT, Nat.reduceEqDiff, h7', h0', i0', hi3', hwl, hmin, nk, List.getElem?_map, hx3, Option.map_some, he, hw, List.cons_append, List.nil_append]
     exact ⟨6 - k, ⟨[(9, .ref 1 1 0 0), (10, vi o), (11, octsL), (12, vi (k + 1 : Nat))] ++ rdE c last acc.length (i + 1), rdO acc n⟩, by omega, WkE.keep (by simp only [go_sem, ↓reduceIte, reduceCtorEq, Nat.reduceEqDiff, List.cons_append, List.nil_append]), k + 1, by omega, .inr (.inr ⟨by rw [ho2]; exact ho, hj, hlt, by rw [ho2, hj]⟩)⟩
   ·have hi3' : ¬ ((i + 1 : Nat) : Int) < (c.length : Int) := by omega
    simp only [go_sem, ↓reduceIte, reduceCtorEq, Nat.reduceLT, Nat.reduceEqDiff, h7', hi3', List.cons_append, List.nil_append]
    exact ⟨_, WkE.keep (by simp only [go_sem, ↓reduceIte, reduceCtorEq, Nat.reduceEqDiff]), rfl⟩
  ·simp only [go_sem, ↓reduceIte, Nat.reduceLT, Nat.reduceEqDiff, h7', List.cons_append, List.nil_append]
   exact ⟨_, WkE.keep (by simp only [go_sem, ↓reduceIte, reduceCtorEq, Nat.reduceEqDiff]), rfl⟩
end Go.Proofs.YtnncijjkbonokaaDoor
namespace Go.Proofs.YtnncijjkbonokaaDoor
open Go.RowKit Dak
theorem wrap_u8i (x : Int) (h : x = 33 \/ x = 34) : IntKind.i64.wrap (67 - IntKind.i64.wrap (2 * IntKind.i64.wrap x)) = if x = 33 then 1 else -1 := by
 rcases h with rfl | rfl <;> decide
set_option maxRecDepth 100000 in
theorem read_s (c : List Int) (last : Int) (hc : c.length <= 100000) (hl : small last) : Ctr Tryd.prog 78 [vbytes c, vi last] (parR (parseP c last)) := by
 refine specC f78 (by simp) fun F0 w0 => ?_
 unfold c78
 refine CwpE.cut (st := ⟨[(0, vbytes c), (1, vi last)], []⟩) ?_ ?_
 ·simp only [go_sem, ↓reduceIte, Nat.reduceLT]
  exact ⟨_, WkE.keep (by simp only [go_sem, ↓reduceIte, reduceCtorEq, Nat.reduceEqDiff]), rfl⟩
 refine CwpE.cut (st := ⟨[(0, vbytes c), (1, vi last), (7, .own 0 0 0 0)], [.arr 0 3 64 []]⟩) ?_ ?_
 ·simp only [go_sem, ↓reduceIte, Nat.reduceLT]
  exact ⟨_, (WkE.nil 7 3 64 (by omega) rfl).trans (WkE.keep (by simp only [go_sem, ↓reduceIte, reduceCtorEq, Nat.reduceEqDiff])), rfl⟩
 refine CwpE.cut (st := ⟨rdE c last 0 0, [.arr 0 3 64 []]⟩) ?_ ?_
 ·simp only [go_sem, ↓reduceIte, Nat.reduceLT]
  exact ⟨_, WkE.keep (by simp only [go_sem, ↓reduceIte, reduceCtorEq, Nat.reduceEqDiff]; rfl), rfl⟩
 refine CwpE.seqJ (fun s => ∃ l2 acc i, parseP c last = some (acc, l2) /\ s = ⟨rdE c l2 acc.length i, [.arr acc.length 3 64 (acc.map vnote)]⟩) (CwpE.block ?_) ?_
 rotate_left
 ·rintro _ ⟨l2, acc, i, e, rfl⟩
  rw [e]
  refine CwpE.vc ?_
  simp only [go_sem, ↓reduceIte, reduceCtorEq, Nat.reduceLT, Nat.reduceEqDiff]
  refine .tup _ _ rfl fun j h1 h2 => ?_
  match j, h1 with
  | 0, _ => exact snap_all acc acc.length rfl rfl fun _ => rfl
  | 1, _ => exact .tree _ rfl
  | 2, _ => exact .tree _ rfl
 refine loopXC 0 (fun f s => ∃ (i : Nat) (l2 : Int) (acc : List Nt), c.length <= i + f /\ i <= c.length /\ acc.length <= i /\ small l2 /\ parseGo c f i l2 acc = parseP c last /\ s = ⟨rdE c l2 acc.length i, [.arr acc.length 3 64 (acc.map vnote)]⟩)
  (fun s => ∃ l2 acc i, parseP c last = some (acc, l2) /\ s = ⟨rdE c l2 acc.length i, [.arr acc.length 3 64 (acc.map vnote)]⟩) c.length ⟨rdE c last 0 0, [.arr 0 3 64 []]⟩ (.refl _ _) ⟨0, last, [], by omega, by omega, Nat.le_refl _, hl, rfl, rfl⟩ ?_ ?_
 rotate_left
 ·rintro s h
  simp only [inBlockE, if_true, thenE]
  exact ⟨_, .refl _ _, h⟩
 rintro f s ⟨i, l2, acc, hf, hi, hacc, hsm, hg, rfl⟩
 by_cases hlt : i < c.length
 rotate_left
 ·have hlt' : ¬ (i : Int) < (c.length : Int) := by omega
  refine CwpE.vc ?_
  simp only [go_sem, ↓reduceIte, reduceCtorEq, Nat.reduceLT, Nat.reduceEqDiff, Int.reduceNeg, hlt']
  refine ⟨_, WkE.keep (by simp only [go_sem, ↓reduceIte, reduceCtorEq, Nat.reduceEqDiff]), l2, acc, i, ?_, rfl⟩
  rw [<- hg]
  cases f with
  | zero => rfl
  | succ f => rw [parseGo, if_pos (by omega)]
 cases f with
 | zero => omega
 | succ f =>
 have hlt' : (i : Int) < (c.length : Int) := by omega
 have i0' : (0 : Int) <= (i : Int) := by omega
 rw [parseGo, if_neg (by omega)] at hg
 refine CwpE.cut (st := ⟨rdE c l2 acc.length i, [.arr acc.length 3 64 (acc.map vnote)]⟩) ?_ ?_
 ·simp only [go_sem, ↓reduceIte, reduceCtorEq, Nat.reduceLT, Nat.reduceEqDiff, hlt']
  exact ⟨_, WkE.keep (by simp only [go_sem, ↓reduceIte, reduceCtorEq, Nat.reduceEqDiff]), rfl⟩
 refine CwpE.block ?_
 have b1 := alt_le hi
 have b2 := took_le (p := isOct) b1.1
 have b3 := took_le (p := fun x => decide (x = 3)) b2.1
 refine CwpE.cut (st := ⟨(9, .ref 1 1 0 0) :: rdE c l2 acc.length i, rdO acc ⟨0, 0, 0⟩⟩) ?_ ?_
 ·simp only [go_sem, ↓reduceIte, Nat.reduceLT, Nat.reduceEqDiff, Nat.reduceAdd]
  exact ⟨_, WkE.keep (by simp only [go_sem, ↓reduceIte, reduceCtorEq, Nat.reduceEqDiff]), rfl⟩
 refine CwpE.seqJ (fun s => s = ⟨(9, .ref 1 1 0 0) :: rdE c l2 acc.length (altI c i), rdO acc ⟨0, 0, altA c i⟩⟩) ?_ ?_
 ·refine CwpE.vc ?_
  have hx := List.getElem?_eq_getElem hlt
  have hwi : IntKind.i64.wrap ((i : Int) + 1) = ((i + 1 : Nat) : Int) := by rw [wrap_id (by omega) (by omega)]; omega
  have t33 : tookB (fun x => decide (x = 33)) c i = decide (c[i] = 33) := by simp only [tookB, hx]
  have t34 : tookB (fun x => decide (x = 34)) c i = decide (c[i] = 34) := by simp only [tookB, hx]
  by_cases h33 : c[i] = 33
  ·have e1 : altI c i = i + 1 := by simp only [altI, t33, h33, decide_true, if_true]
   have e2 : altA c i = 1 := by simp only [altA, t33, h33, decide_true, if_true]
   rw [e1, e2]
   have h33' : (c[i] = 33) = True := eq_true h33
   have hw := wrap_u8i 33 (.inl rfl)
   rw [if_pos rfl] at hw
   simp only [go_sem, ↓reduceIte, reduceCtorEq, Nat.reduceLT, Nat.reduceEqDiff, Nat.reduceAdd, i0', List.getElem?_map, hx, Option.map_some, h33, hwi, hw]
   exact ⟨_, WkE.keep (by simp only [go_sem, ↓reduceIte, reduceCtorEq, Nat.reduceEqDiff]), rfl⟩
  by_cases h34 : c[i] = 34
  ·have e1 : altI c i = i + 1 := by simp only [altI, t33, tookN, t34, h34, decide_true, if_true]; rfl
   have e2 : altA c i = -1 := by simp only [altA, t33, t34, h34, decide_true, if_true]; rfl
   rw [e1, e2]
   have hw := wrap_u8i 34 (.inr rfl)
   rw [if_neg (by decide)] at hw
   simp only [go_sem, ↓reduceIte, reduceCtorEq, Nat.reduceLT, Nat.reduceEqDiff, Nat.reduceAdd, Int.reduceEq, Int.reduceNeg, i0', List.getElem?_map, hx, Option.map_some, h34, hwi, hw]
   exact ⟨_, WkE.keep (by simp only [go_sem, ↓reduceIte, reduceCtorEq, Nat.reduceEqDiff]), rfl⟩
  ·have e1 : altI c i = i := by simp [altI, t33, h33, tookN, t34, h34]
   have e2 : altA c i = 0 := by simp [altA, t33, h33, t34, h34]
   rw [e1, e2]
   simp only [go_sem, ↓reduceIte, reduceCtorEq, Nat.reduceLT, Nat.reduceEqDiff, i0', List.getElem?_map, hx, Option.map_some, h33, h34]
   exact ⟨_, WkE.keep (by simp only [go_sem, ↓reduceIte, reduceCtorEq, Nat.reduceEqDiff]), rfl⟩
 rintro _ rfl
 refine CwpE.cut (st := ⟨[(9, .ref 1 1 0 0), (10, vi (-1))] ++ rdE c l2 acc.length (altI c i), rdO acc ⟨0, 0, altA c i⟩⟩) ?_ ?_
 ·simp only [go_sem, ↓reduceIte, Nat.reduceLT, Int.reduceNeg, List.cons_append, List.nil_append]
  exact ⟨_, WkE.keep (by simp only [go_sem, ↓reduceIte, reduceCtorEq, Nat.reduceEqDiff]), rfl⟩
 refine CwpE.cut (st := ⟨[(9, .ref 1 1 0 0), (10, vi (-1)), (11, octsL)] ++ rdE c l2 acc.length (altI c i), rdO acc ⟨0, 0, altA c i⟩⟩) ?_ ?_
 ·simp only [go_sem, Nat.reducePow, Nat.reduceLeDiff, ↓reduceIte, reduceCtorEq, Nat.reduceLT, Nat.reduceAdd, Nat.reduceMul, Int.reduceNeg, List.cons_append, List.nil_append]
  exact ⟨_, WkE.keep (by simp only [go_sem, ↓reduceIte, reduceCtorEq, Nat.reduceEqDiff]), rfl⟩
 refine CwpE.seqJ (fun s => s = ⟨[(9, .ref 1 1 0 0), (10, vi (octJ c (altI c i)).1)] ++ rdE c l2 acc.length (octJ c (altI c i)).2, rdO acc ⟨0, 0, altA c i⟩⟩) ?_ ?_
 ·exact octB_s F0 w0 l2 c (altI c i) acc ⟨0, 0, altA c i⟩ b1.1 hc ⟨_, .refl _ _, rfl⟩
 rintro _ rfl
 obtain ⟨o, ho⟩ : ∃ o, octT c (altI c i) (-1) = o := ⟨_, rfl⟩
 have hob := octT_lt c (altI c i)
 obtain ⟨i3, hi3⟩ : ∃ i3, tookN isOct c (altI c i) = i3 := ⟨_, rfl⟩
 rw [show (octJ c (altI c i)).1 = o from ho, show (octJ c (altI c i)).2 = i3 from hi3]
 rw [ho] at hob
 rw [hi3] at b2 b3
 obtain ⟨i4, hi4⟩ : ∃ i4, tookN (fun x => decide (x = 3)) c i3 = i4 := ⟨_, rfl⟩
 rw [hi4] at b3
 obtain ⟨sm, hsm3⟩ : ∃ sm, tookB (fun x => decide (x = 3)) c i3 = sm := ⟨_, rfl⟩
 have w3 : IntKind.i64.wrap ((c.length : Int) - 1) = (c.length : Int) - 1 := wrap_id (by omega) (by omega)
 refine CwpE.cut (st := ⟨[(9, .ref 1 1 0 0), (10, vi o), (13, vb sm)] ++ rdE c l2 acc.length i3, rdO acc ⟨0, 0, altA c i⟩⟩) ?_ ?_
 ·by_cases hlt3 : i3 < c.length
  ·have hx3 := List.getElem?_eq_getElem hlt3
   have hlt3' : (i3 : Int) < (c.length : Int) := by omega
   have i30 : (0 : Int) <= (i3 : Int) := by omega
   have hmin : (if (c.length : Int) - 1 < (i3 : Int) then (c.length : Int) - 1 else (i3 : Int)) = (i3 : Int) := by rw [if_neg (by omega)]
   have hb : sm = decide (c[i3] = 3) := by rw [<- hsm3]; simp only [tookB, hx3]
   simp only [go_sem, ↓reduceIte, reduceCtorEq, Nat.reduceLT, Nat.reduceEqDiff, List.cons_append, List.nil_append, hlt3', i30, w3, hmin, List.getElem?_map, hx3, Option.map_some]
   rw [hb]
   exact ⟨_, WkE.keep (by simp only [go_sem, ↓reduceIte, reduceCtorEq, Nat.reduceEqDiff]), rfl⟩
  ·have hlt3' : ¬ (i3 : Int) < (c.length : Int) := by omega
   have hb : sm = false := by rw [<- hsm3]; simp only [tookB, List.getElem?_eq_none (show c.length <= i3 by omega)]
   simp only [go_sem, ↓reduceIte, reduceCtorEq, Nat.reduceLT, Nat.reduceEqDiff, List.cons_append, List.nil_append, hlt3']
   rw [hb]
   exact ⟨_, WkE.keep (by simp only [go_sem, ↓reduceIte, reduceCtorEq, Nat.reduceEqDiff]), rfl⟩
 refine CwpE.cut (st := ⟨[(9, .ref 1 1 0 0), (10, vi o), (13, vb sm)] ++ rdE c l2 acc.length i4, rdO acc ⟨0, 0, altA c i⟩⟩) ?_ ?_
 ·have hw3 : IntKind.i64.wrap ((i3 : Int) + 1) = ((i3 + 1 : Nat) : Int) := by rw [wrap_id (by omega) (by omega)]; omega
  cases sm with
  | true =>
   have e : i4 = i3 + 1 := by rw [<- hi4]; simp only [tookN, hsm3, if_true]
   rw [e]
   simp only [go_sem, ↓reduceIte, reduceCtorEq, Nat.reduceLT, Nat.reduceEqDiff, List.cons_append, List.nil_append, hw3]
   exact ⟨_, WkE.keep (by simp only [go_sem, ↓reduceIte, reduceCtorEq, Nat.reduceEqDiff]), rfl⟩
  | false =>
   have e : i4 = i3 := by rw [<- hi4]; simp [tookN, hsm3]
   rw [e]
   simp only [go_sem, ↓reduceIte, Nat.reduceLT, Nat.reduceEqDiff, List.cons_append, List.nil_append]
   exact ⟨_, WkE.keep (by simp only [go_sem, ↓reduceIte, reduceCtorEq, Nat.reduceEqDiff]), rfl⟩
 have hnote : noteAt c i l2 = (match plainAt c i4 with
  | none => none
  | some r => if sm = true /\ r.2 ≠ 0 then none else match findP r.1 o l2 with
   | none => none
   | some s => some (⟨s, if sm = true then 4 else r.2, altA c i⟩, i4 + 1)) := by
  unfold noteAt; rw [hi3, hi4, hsm3, ho]; rfl
 refine CwpE.vc ?_
 by_cases hlt4 : i4 < c.length
 rotate_left
 ·have hlt4' : (c.length : Int) <= (i4 : Int) := by omega
  have hn : noteAt c i l2 = none := by rw [hnote]; simp only [plainAt, List.getElem?_eq_none (show c.length <= i4 by omega), Option.bind_none]
  rw [hn] at hg
  rw [<- hg]
  simp only [go_sem, ↓reduceIte, reduceCtorEq, Nat.reduceLT, Nat.reduceEqDiff, Int.reduceNeg, hlt4', List.cons_append, List.nil_append]
  exact snap_par0
 have hlt4' : ¬ (c.length : Int) <= (i4 : Int) := by omega
 have hlt4'' : (i4 : Int) < (c.length : Int) := by omega
 have i40 : (0 : Int) <= (i4 : Int) := by omega
 have hx4 := List.getElem?_eq_getElem hlt4
 have hpa : plainAt c i4 = plainP c[i4] := by simp only [plainAt, hx4, Option.bind_some]
 simp only [go_sem, ↓reduceIte, reduceCtorEq, Nat.reduceLT, Nat.reduceEqDiff, Int.reduceNeg, hlt4', i40, List.getElem?_map, hx4, Option.map_some, List.cons_append, List.nil_append]
 refine callT (plain_s c[i4]) rfl ?_
 rw [<- hpa]
 have hw4 : IntKind.i64.wrap ((i4 : Int) + 1) = ((i4 + 1 : Nat) : Int) := by rw [wrap_id (by omega) (by omega)]; omega
 cases hr : plainAt c i4 with
 | none =>
  have hn : noteAt c i l2 = none := by rw [hnote, hr]
  rw [hn] at hg
  rw [<- hg]
  simp only [go_sem, ↓reduceIte, reduceCtorEq, Nat.reduceLT, Nat.reduceEqDiff, Int.reduceLT, Int.reduceNeg, gotK, gotL]
  exact snap_par0
 | some r =>
  obtain ⟨k, l⟩ := r
  have hkl := plainAt_lt hr
  simp only at hkl
  rw [hr] at hnote
  simp only at hnote
  have hk0 : ¬ (k : Int) < 0 := by omega
  simp only [gotK, gotL]
  cases sm with
  | true =>
   by_cases hl0 : l = 0
   rotate_left
   ·have hl0' : ¬ (l : Int) = 0 := by omega
    have hn : noteAt c i l2 = none := by rw [hnote, if_pos ⟨rfl, hl0⟩]
    rw [hn] at hg
    rw [<- hg]
    simp only [go_sem, ↓reduceIte, reduceCtorEq, Nat.reduceLT, Nat.reduceEqDiff, Int.reduceNeg, hk0, hl0']
    exact snap_par0
   have hl0' : (l : Int) = 0 := by omega
   have hbad : ¬ (true = true /\ l ≠ 0) := by simp [hl0]
   simp only [go_sem, Nat.reduceLeDiff, ↓reduceIte, reduceCtorEq, Nat.reduceLT, Nat.reduceEqDiff, Nat.reduceAdd, Int.reduceNeg, hk0, hl0', hw4]
   refine callT (step_s k o l2 ⟨by omega, by omega⟩ ⟨by omega, by omega⟩ hsm) rfl ?_
   cases hs : findP k o l2 with
   | none =>
    have hn : noteAt c i l2 = none := by rw [hnote, if_neg hbad, hs]
    rw [hn] at hg
    rw [<- hg]
    have e : stepR k o l2 = -2 := by unfold stepR; rw [hs]
    rw [e]
    simp only [go_sem, Nat.reduceLeDiff, ↓reduceIte, reduceCtorEq, Nat.reduceLT, Nat.reduceEqDiff, Nat.reduceAdd, Int.reduceLT, Int.reduceNeg]
    exact snap_par0
   | some s =>
    have hbd := findP_bd ⟨by omega, by omega⟩ hob hs
    have hn : noteAt c i l2 = some (⟨s, 4, altA c i⟩, i4 + 1) := by rw [hnote, if_neg hbad, hs]; rfl
    rw [hn] at hg
    simp only at hg
    have e : stepR k o l2 = s := by unfold stepR; rw [hs]
    rw [e]
    have q1 : (acc.length + 1) * 24 <= 140737488355328 := by omega
    have htk : List.take acc.length (acc.map vnote) = acc.map vnote := List.take_of_length_le (by simp)
    have hsn : small s := ⟨by omega, by omega⟩
    have e2 : (acc ++ [(⟨s, 4, altA c i⟩ : Nt)]).length = acc.length + 1 := by simp
    have e3 : (acc ++ [(⟨s, 4, altA c i⟩ : Nt)]).map vnote = acc.map vnote ++ [vnote ⟨s, 4, altA c i⟩] := by simp
    have s1' : ¬ s < -1 := by omega
    by_cases s0' : 0 <= s
    ·rw [show stepP ⟨s, 4, altA c i⟩ l2 = s by simp only [stepP, s0', if_true]] at hg
     simp only [go_sem, Nat.reducePow, Nat.reduceLeDiff, ↓reduceIte, reduceCtorEq, Nat.reduceLT, Nat.reduceEqDiff, Nat.reduceAdd, Nat.reduceMul, Int.reduceNeg, s1', s0', q1, htk]
     refine ⟨f, ⟨rdE c s (acc.length + 1) (i4 + 1), [.arr (acc ++ [(⟨s, 4, altA c i⟩ : Nt)]).length 3 64 ((acc ++ [(⟨s, 4, altA c i⟩ : Nt)]).map vnote)]⟩, by omega, ?_, i4 + 1, s, acc ++ [⟨s, 4, altA c i⟩], by omega, by omega, by omega, hsn, hg, by rw [e2]⟩
     simp only [e2, e3]
     refine WkE.round ?_ ?_ ?_ ?_
     ·simp only [go_sem, ↓reduceIte, reduceCtorEq, Nat.reduceEqDiff]
     ·rfl
     ·simp only [List.all_cons, List.all_nil, AObj.innO, List.all_append, inn_map (f := vnote) (fun _ => rfl), Bool.and_true, Bool.true_and]
      rfl
     ·rfl
    ·rw [show stepP ⟨s, 4, altA c i⟩ l2 = l2 by simp only [stepP, s0', if_false]] at hg
     simp only [go_sem, Nat.reducePow, Nat.reduceLeDiff, ↓reduceIte, reduceCtorEq, Nat.reduceLT, Nat.reduceEqDiff, Nat.reduceAdd, Nat.reduceMul, Int.reduceNeg, s1', s0', q1, htk]
     refine ⟨f, ⟨rdE c l2 (acc.length + 1) (i4 + 1), [.arr (acc ++ [(⟨s, 4, altA c i⟩ : Nt)]).length 3 64 ((acc ++ [(⟨s, 4, altA c i⟩ : Nt)]).map vnote)]⟩, by omega, ?_, i4 + 1, l2, acc ++ [⟨s, 4, altA c i⟩], by omega, by omega, by omega, hsm, hg, by rw [e2]⟩
     simp only [e2, e3]
     refine WkE.round ?_ ?_ ?_ ?_
     ·simp only [go_sem, ↓reduceIte, reduceCtorEq, Nat.reduceEqDiff]
     ·rfl
     ·simp only [List.all_cons, List.all_nil, AObj.innO, List.all_append, inn_map (f := vnote) (fun _ => rfl), Bool.and_true, Bool.true_and]
      rfl
     ·rfl
  | false =>
   have hbad : ¬ (false = true /\ l ≠ 0) := by simp
   simp only [go_sem, Nat.reduceLeDiff, ↓reduceIte, reduceCtorEq, Nat.reduceLT, Nat.reduceEqDiff, Nat.reduceAdd, Int.reduceNeg, hk0, hw4]
   refine callT (step_s k o l2 ⟨by omega, by omega⟩ ⟨by omega, by omega⟩ hsm) rfl ?_
   cases hs : findP k o l2 with
   | none =>
    have hn : noteAt c i l2 = none := by rw [hnote, if_neg hbad, hs]
    rw [hn] at hg
    rw [<- hg]
    have e : stepR k o l2 = -2 := by unfold stepR; rw [hs]
    rw [e]
    simp only [go_sem, Nat.reduceLeDiff, ↓reduceIte, reduceCtorEq, Nat.reduceLT, Nat.reduceEqDiff, Nat.reduceAdd, Int.reduceLT, Int.reduceNeg]
    exact snap_par0
   | some s =>
    have hbd := findP_bd ⟨by omega, by omega⟩ hob hs
    have hn : noteAt c i l2 = some (⟨s, l, altA c i⟩, i4 + 1) := by rw [hnote, if_neg hbad, hs]; rfl
    rw [hn] at hg
    simp only at hg
    have e : stepR k o l2 = s := by unfold stepR; rw [hs]
    rw [e]
    have q1 : (acc.length + 1) * 24 <= 140737488355328 := by omega
    have htk : List.take acc.length (acc.map vnote) = acc.map vnote := List.take_of_length_le (by simp)
    have hsn : small s := ⟨by omega, by omega⟩
    have e2 : (acc ++ [(⟨s, l, altA c i⟩ : Nt)]).length = acc.length + 1 := by simp
    have e3 : (acc ++ [(⟨s, l, altA c i⟩ : Nt)]).map vnote = acc.map vnote ++ [vnote ⟨s, l, altA c i⟩] := by simp
    have s1' : ¬ s < -1 := by omega
    by_cases s0' : 0 <= s
    ·rw [show stepP ⟨s, l, altA c i⟩ l2 = s by simp only [stepP, s0', if_true]] at hg
     simp only [go_sem, Nat.reducePow, Nat.reduceLeDiff, ↓reduceIte, reduceCtorEq, Nat.reduceLT, Nat.reduceEqDiff, Nat.reduceAdd, Nat.reduceMul, Int.reduceNeg, s1', s0', q1, htk]
     refine ⟨f, ⟨rdE c s (acc.length + 1) (i4 + 1), [.arr (acc ++ [(⟨s, l, altA c i⟩ : Nt)]).length 3 64 ((acc ++ [(⟨s, l, altA c i⟩ : Nt)]).map vnote)]⟩, by omega, ?_, i4 + 1, s, acc ++ [⟨s, l, altA c i⟩], by omega, by omega, by omega, hsn, hg, by rw [e2]⟩
     simp only [e2, e3]
     refine WkE.round ?_ ?_ ?_ ?_
     ·simp only [go_sem, ↓reduceIte, reduceCtorEq, Nat.reduceEqDiff]
     ·rfl
     ·simp only [List.all_cons, List.all_nil, AObj.innO, List.all_append, inn_map (f := vnote) (fun _ => rfl), Bool.and_true, Bool.true_and]
      rfl
     ·rfl
    ·rw [show stepP ⟨s, l, altA c i⟩ l2 = l2 by simp only [stepP, s0', if_false]] at hg
     simp only [go_sem, Nat.reducePow, Nat.reduceLeDiff, ↓reduceIte, reduceCtorEq, Nat.reduceLT, Nat.reduceEqDiff, Nat.reduceAdd, Nat.reduceMul, Int.reduceNeg, s1', s0', q1, htk]
     refine ⟨f, ⟨rdE c l2 (acc.length + 1) (i4 + 1), [.arr (acc ++ [(⟨s, l, altA c i⟩ : Nt)]).length 3 64 ((acc ++ [(⟨s, l, altA c i⟩ : Nt)]).map vnote)]⟩, by omega, ?_, i4 + 1, l2, acc ++ [⟨s, l, altA c i⟩], by omega, by omega, by omega, hsm, hg, by rw [e2]⟩
     simp only [e2, e3]
     refine WkE.round ?_ ?_ ?_ ?_
     ·simp only [go_sem, ↓reduceIte, reduceCtorEq, Nat.reduceEqDiff]
     ·rfl
     ·simp only [List.all_cons, List.all_nil, AObj.innO, List.all_append, inn_map (f := vnote) (fun _ => rfl), Bool.and_true, Bool.true_and]
      rfl
     ·rfl
end Go.Proofs.YtnncijjkbonokaaDoor
namespace Go.Proofs.YtnncijjkbonokaaDoor
open Go.RowKit Dak
abbrev colsB : CCode := match c77 with | .seq _ (.seq _ (.seq _ (.seq _ (.seq (.seq _ (.block _ (.loop b))) _)))) => b | _ => .skip
abbrev colsI : CCode := match colsB with | .seq _ (.seq (.block _ b) _) => b | _ => .skip
abbrev anyLoop : CCode := match colsI with | .seq _ (.seq (.seq _ b) _) => b | _ => .skip
abbrev takeLoop : CCode := match colsI with | .seq _ (.seq _ (.seq _ (.seq (.seq _ (.block _ (.loop (.seq _ (.seq (.block _ (.seq _ (.seq (.seq _ b) _))) _))))) _))) => b | _ => .skip
abbrev trimR : CCode := match colsI with | .seq _ (.seq _ (.seq _ (.seq (.seq _ (.block _ (.loop (.seq _ (.seq (.block _ (.seq _ (.seq _ (.seq b _)))) _))))) _))) => b | _ => .skip
abbrev putR : CCode := match colsI with | .seq _ (.seq _ (.seq _ (.seq (.seq _ (.block _ (.loop (.seq _ (.seq (.block _ (.seq _ (.seq _ (.seq _ b)))) _))))) _))) => b | _ => .skip
abbrev clE (l : List (List Int)) (n w fr x : Nat) : List (Nat × AV) := [(0, vpage l), (3, vi w), (4, .own 0 n 0 n), (5, vi fr), (6, vi x)]
abbrev clH (l : List (List Int)) (n w fr x h : Nat) : List (Nat × AV) := (9, vi h) :: clE l n w fr x
set_option maxRecDepth 100000 in
theorem any_loop (F0 : FD) (w0 : World) (l : List (List Int)) (n w fr x : Nat) (objs : List AObj) (hx : x <= 1000000) (hn : l.length <= 1000000) (hc : ∀ c ∈ l, c.length <= 1000000)
 {Q : Exit -> Est -> Prop} (hQ : Q .normal ⟨(7, vb (!l.any (filledAt x))) :: clE l n w fr x, objs⟩) : CwpE Tryd.prog F0 w0 119 anyLoop Q ⟨[(8, vi 0), (7, vb true)] ++ clE l n w fr x, objs⟩ := by
 unfold anyLoop colsI colsB c77
 refine CwpE.block ?_
 refine loopX 2 (fun z s => ∃ k : Nat, z = l.length - k /\ k <= l.length /\ s = ⟨[(8, vi k), (7, vb (!(l.take k).any (filledAt x)))] ++ clE l n w fr x, objs⟩) (fun s => s = ⟨(7, vb (!l.any (filledAt x))) :: clE l n w fr x, objs⟩) l.length ⟨[(8, vi (0 : Nat)), (7, vb true)] ++ clE l n w fr x, objs⟩ (WkE.keep (by simp only [go_sem, ↓reduceIte, reduceCtorEq, Nat.reduceEqDiff, List.cons_append, List.nil_append]; rfl)) ⟨0, by omega, by omega, rfl⟩ ?_ ?_
 rotate_left
 ·rintro s rfl
  simp only [inBlockE, if_true]
  exact hQ
 rintro z s ⟨k, rfl, hk, rfl⟩
 by_cases hlt : k < l.length
 rotate_left
 ·have h1 : ¬ (k : Int) < (l.length : Int) := by omega
  simp only [go_sem, ↓reduceIte, reduceCtorEq, Nat.reduceLT, Nat.reduceEqDiff, h1, List.cons_append, List.nil_append]
  rw [List.take_of_length_le (by omega)]
  exact ⟨_, WkE.keep (by simp only [go_sem, ↓reduceIte, reduceCtorEq, Nat.reduceEqDiff]), rfl⟩
 have h1 : (k : Int) < (l.length : Int) := by omega
 have h0 : (0 : Int) <= (k : Int) := by omega
 have x0 : (0 : Int) <= (x : Int) := by omega
 have hw : IntKind.i64.wrap ((k : Int) + 1) = ((k + 1 : Nat) : Int) := by rw [wrap_id (by omega) (by omega)]; omega
 have hc' := hc _ (List.getElem_mem hlt)
 have e : (l.take (k + 1)).any (filledAt x) = ((l.take k).any (filledAt x) || filledAt x l[k]) := by rw [List.take_succ_eq_append_getElem hlt, List.any_append]; simp
 obtain ⟨c, hcc⟩ : ∃ c, l[k] = c := ⟨_, rfl⟩
 have hgl : l[k]? = some c := by rw [List.getElem?_eq_getElem hlt, hcc]
 rw [hcc] at e hc'
 have fin : ∀ b, (!(l.take (k + 1)).any (filledAt x)) = b -> ∀ s, WkE 119 s ⟨[(8, vi (k + 1 : Nat)), (7, vb b)] ++ clE l n w fr x, objs⟩ -> RoundX 119 (fun z s => ∃ k : Nat, z = l.length - k /\ k <= l.length /\ s = ⟨[(8, vi k), (7, vb (!(l.take k).any (filledAt x)))] ++ clE l n w fr x, objs⟩) (l.length - k) 2 (fun s => s = ⟨(7, vb (!l.any (filledAt x))) :: clE l n w fr x, objs⟩) (inBlockE 2 Q) .normal s :=
  fun b hb s hs => ⟨l.length - (k + 1), _, by omega, hs, k + 1, rfl, by omega, by rw [hb]⟩
 cases ha : (l.take k).any (filledAt x) with
 | true =>
  simp only [go_sem, ↓reduceIte, reduceCtorEq, Nat.reduceLT, Nat.reduceEqDiff, h1, hw, List.cons_append, List.nil_append]
  exact fin false (by rw [e, ha]; rfl) _ (WkE.keep (by simp only [go_sem, ↓reduceIte, reduceCtorEq, Nat.reduceEqDiff, List.cons_append, List.nil_append]))
 | false =>
  rw [ha] at e
  by_cases hxl : x < c.length
  ·have hxl' : ¬ (c.length : Int) <= (x : Int) := by omega
   have hxl'' : (x : Int) < (c.length : Int) := by omega
   have w3 : IntKind.i64.wrap ((c.length : Int) - 1) = (c.length : Int) - 1 := wrap_id (by omega) (by omega)
   have hmin : (if (c.length : Int) - 1 < (x : Int) then (c.length : Int) - 1 else (x : Int)) = (x : Int) := by rw [if_neg (by omega)]
   have hcx := List.getElem?_eq_getElem hxl
   have hf : filledAt x c = decide (c[x] ≠ 0) := by simp only [filledAt, hcx]
   by_cases hz : c[x] = 0
   ·have hz' : (c[x] = 0) = True := eq_true hz
    simp only [go_sem, ↓reduceIte, reduceCtorEq, Nat.reduceLT, Nat.reduceEqDiff, h1, h0, x0, hxl', w3, hmin, List.getElem?_map, hgl, hcx, Option.map_some, hz, hw, List.cons_append, List.nil_append]
    exact fin true (by rw [e, hf]; simp [hz]) _ (WkE.keep (by simp only [go_sem, ↓reduceIte, reduceCtorEq, Nat.reduceEqDiff, List.cons_append, List.nil_append]))
   ·simp only [go_sem, ↓reduceIte, reduceCtorEq, Nat.reduceLT, Nat.reduceEqDiff, h1, h0, x0, hxl', w3, hmin, List.getElem?_map, hgl, hcx, Option.map_some, hz, hw, List.cons_append, List.nil_append]
    exact fin false (by rw [e, hf]; simp [hz]) _ (WkE.keep (by simp only [go_sem, ↓reduceIte, reduceCtorEq, Nat.reduceEqDiff, List.cons_append, List.nil_append]))
  ·have hxl' : (c.length : Int) <= (x : Int) := by omega
   have hf : filledAt x c = false := by simp only [filledAt, List.getElem?_eq_none (show c.length <= x by omega)]
   simp only [go_sem, ↓reduceIte, reduceCtorEq, Nat.reduceLT, Nat.reduceEqDiff, h1, h0, hxl', List.getElem?_map, hgl, Option.map_some, hw, List.cons_append, List.nil_append]
   exact fin true (by rw [e, hf]; rfl) _ (WkE.keep (by simp only [go_sem, ↓reduceIte, reduceCtorEq, Nat.reduceEqDiff, List.cons_append, List.nil_append]))
set_option maxRecDepth 100000 in
theorem trimR_s (F0 : FD) (w0 : World) (l : List (List Int)) (n w fr x h : Nat) (objs : List AObj) (b : List Int) (hb : b.length <= 1000000)
 {Q : Exit -> Est -> Prop} (hQ : Q .normal ⟨(10, vbytes (trimP b)) :: clH l n w fr x h, objs⟩) : CwpE Tryd.prog F0 w0 119 trimR Q ⟨(10, vbytes b) :: clH l n w fr x h, objs⟩ := by
 unfold trimR colsI colsB c77
 refine CwpE.block ?_
 refine loopX 8 (fun k s => k <= b.length /\ trimN b k = trimN b b.length /\ s = ⟨(10, vbytes (b.take k)) :: clH l n w fr x h, objs⟩) (fun s => s = ⟨(10, vbytes (trimP b)) :: clH l n w fr x h, objs⟩) b.length _ (.refl _ _) ⟨Nat.le_refl _, rfl, by rw [List.take_length]⟩ ?_ ?_
 rotate_left
 ·rintro s rfl
  simp only [inBlockE, if_true]
  exact hQ
 rintro k s ⟨hk, ht, rfl⟩
 have hl : (b.take k).length = k := by rw [List.length_take]; omega
 cases k with
 | zero =>
  have e : trimP b = b.take 0 := by rw [trimP, <- ht]; rfl
  rw [e]
  have k0 : ((0 : Nat) : Int) = 0 := rfl
  simp only [go_sem, ↓reduceIte, Nat.reduceLT, Nat.reduceEqDiff, Int.lt_irrefl, k0, List.take_zero, List.map_nil, List.length_nil]
  exact ⟨_, WkE.keep (by simp only [go_sem, ↓reduceIte, reduceCtorEq, Nat.reduceEqDiff]), rfl⟩
 | succ k =>
  have hkb : k < b.length := by omega
  have g1 : (0 : Int) < ((b.take (k + 1)).length : Int) := by omega
  have w1 : IntKind.i64.wrap (((b.take (k + 1)).length : Int) - 1) = (k : Int) := by rw [wrap_id (by omega) (by omega)]; omega
  have g0 : (0 : Int) <= (k : Int) := by omega
  have g2 : (k : Int) < ((b.take (k + 1)).length : Int) := by omega
  have g3 : (k : Int) <= ((b.take (k + 1)).length : Int) := by omega
  have g4 : (if (k : Int) < 0 then (0 : Int) else (k : Int)) = (k : Int) := by rw [if_neg (by omega)]
  have hx : (b.take (k + 1))[k]? = some b[k] := by rw [List.getElem?_take, if_pos (by omega), List.getElem?_eq_getElem hkb]
  have hx' := List.getElem?_eq_getElem hkb
  rw [trimN, hx'] at ht
  by_cases hz : b[k] = 0
  ·rw [if_pos (by rw [hz])] at ht
   obtain ⟨d, hd⟩ : ∃ d, b.take (k + 1) = d := ⟨_, rfl⟩
   have htk : List.take k (d.map vu) = (b.take k).map vu := by rw [<- hd, <- List.map_take, List.take_take, Nat.min_eq_left (by omega)]
   rw [hd] at g1 w1 g2 g3 hx ⊢
   have hz' : (b[k] = 0) = True := eq_true hz
   simp only [go_sem, ↓reduceIte, Nat.reduceLT, Nat.reduceEqDiff, g1, w1, g0, g3, g4, List.getElem?_map, hx, Option.map_some, hz', List.drop_zero, htk, Int.toNat_natCast]
   exact ⟨k, _, by omega, WkE.keep (by simp only [go_sem, ↓reduceIte, reduceCtorEq, Nat.reduceEqDiff]), by omega, ht, rfl⟩
  ·rw [if_neg (by simpa using hz)] at ht
   have e : trimP b = b.take (k + 1) := by rw [trimP, <- ht]
   rw [e]
   obtain ⟨d, hd⟩ : ∃ d, b.take (k + 1) = d := ⟨_, rfl⟩
   rw [hd] at g1 w1 g2 g3 hx ⊢
   simp only [go_sem, ↓reduceIte, Nat.reduceLT, Nat.reduceEqDiff, g1, w1, g0, g4, List.getElem?_map, hx, Option.map_some, hz]
   exact ⟨_, WkE.keep (by simp only [go_sem, ↓reduceIte, reduceCtorEq, Nat.reduceEqDiff]), rfl⟩
def gotC (c : List Int) (fr k : Nat) : List Int := (c.drop fr).take (k - fr)
theorem got_cut (c : List Int) (fr x k : Nat) (h1 : fr <= k) (h2 : k <= max fr (min x c.length)) (h3 : ¬ k < min x c.length) (h4 : fr <= x) : gotC c fr k = cutP c fr x := by
 unfold gotC cutP
 rw [List.drop_take]
 by_cases hf : fr <= c.length
 ·rw [Nat.min_eq_left hf]
  congr 1; omega
 ·rw [List.drop_eq_nil_of_le (show c.length <= fr by omega), List.drop_eq_nil_of_le (show c.length <= min fr c.length by omega)]
  simp
theorem got_succ (c : List Int) (fr k : Nat) (h1 : fr <= k) (h2 : k < c.length) : gotC c fr (k + 1) = gotC c fr k ++ [c[k]] := by
 unfold gotC
 have hlt : k - fr < (c.drop fr).length := by rw [List.length_drop]; omega
 rw [show k + 1 - fr = (k - fr) + 1 by omega, List.take_succ_eq_append_getElem hlt]
 congr 2
 rw [List.getElem_drop]; congr 1; omega
theorem got_len (c : List Int) (fr k : Nat) (h1 : fr <= k) (h2 : k <= max fr c.length) : (gotC c fr k).length = k - fr := by
 unfold gotC; rw [List.length_take, List.length_drop]; omega
abbrev col1O (r0 : List (List Int)) : List AObj := [.arr 1 1 39 [.own 1 r0.length 0 r0.length], .arr r0.length 1 30 (r0.map vbytes)]
set_option maxRecDepth 100000 in
theorem take_loop1 (F0 : FD) (w0 : World) (l : List (List Int)) (w fr x h : Nat) (r0 : List (List Int)) (c : List Int) (hh : h < l.length) (hgl : l[h]? = some c) (hfx : fr <= x) (hx : x <= 1000000) (hn : l.length <= 1000000) (hc : c.length <= 1000000)
 {Q : Exit -> Est -> Prop} (hQ : Q .normal ⟨(10, vbytes (cutP c fr x)) :: clH l 1 w fr x h, col1O r0⟩) : CwpE Tryd.prog F0 w0 119 takeLoop Q ⟨[(10, .own 2 0 0 0), (11, vi fr)] ++ clH l 1 w fr x h, col1O r0 ++ [.arr 0 1 5 []]⟩ := by
 unfold takeLoop colsI colsB c77
 refine CwpE.block ?_
 refine loopX 6 (fun z s => ∃ k : Nat, z = max fr (min x c.length) - k /\ fr <= k /\ k <= max fr (min x c.length) /\ s = ⟨[(10, .own 2 (gotC c fr k).length 0 (gotC c fr k).length), (11, vi k)] ++ clH l 1 w fr x h, col1O r0 ++ [.arr (gotC c fr k).length 1 5 ((gotC c fr k).map vu)]⟩)
  (fun s => s = ⟨(10, vbytes (cutP c fr x)) :: clH l 1 w fr x h, col1O r0⟩) (max fr (min x c.length) - fr) ⟨[(10, .own 2 0 0 0), (11, vi fr)] ++ clH l 1 w fr x h, col1O r0 ++ [.arr 0 1 5 []]⟩ (.refl _ _) ⟨fr, rfl, Nat.le_refl _, by omega, by simp [gotC]⟩ ?_ ?_
 rotate_left
 ·rintro s rfl
  simp only [inBlockE, if_true]
  exact hQ
 rintro z s ⟨k, rfl, hk1, hk2, rfl⟩
 have hlen := got_len c fr k hk1 (by omega)
 have hh' : (h : Int) < (l.length : Int) := by omega
 have h0 : (0 : Int) <= (h : Int) := by omega
 have k0 : (0 : Int) <= (k : Int) := by omega
 have hwk : IntKind.i64.wrap ((k : Int) + 1) = ((k + 1 : Nat) : Int) := by rw [wrap_id (by omega) (by omega)]; omega
 have frz : ∀ env : List (Nat × AV), Agree ((10, vbytes (gotC c fr k)) :: env) ((10, vbytes (gotC c fr k)) :: clH l 1 w fr x h) -> lk env 10 = .own 2 (gotC c fr k).length 0 (gotC c fr k).length -> WkE 119 ⟨env, col1O r0 ++ [.arr (gotC c fr k).length 1 5 ((gotC c fr k).map vu)]⟩ ⟨(10, vbytes (gotC c fr k)) :: clH l 1 w fr x h, col1O r0⟩ := by
  intro env ha he
  refine (WkE.freeze 10 2 (gotC c fr k).length 0 (gotC c fr k).length 1 5 ((gotC c fr k).map vu) (by omega) he rfl (by simp) (List.all_eq_true.2 fun y hy => by obtain ⟨v, _, rfl⟩ := List.mem_map.1 hy; rfl)).trans ?_
  have e : List.take (gotC c fr k).length (List.drop 0 ((gotC c fr k).map vu)) = (gotC c fr k).map vu := List.take_of_length_le (by simp)
  rw [e]
  refine WkE.round ha ?_ ?_ rfl
  ·rfl
  ·have hrow : ∀ r : List (List Int), (r.map vbytes).all (AV.inn 2) = true := fun r => inn_map fun _ => rfl
   simp only [List.all_cons, List.all_nil, AObj.innO, List.length_cons, List.length_nil, Nat.zero_add, Nat.reduceAdd, hrow, Bool.and_true]
   rfl
 by_cases hkx : k < x
 rotate_left
 ·have hkx' : ¬ (k : Int) < (x : Int) := by omega
  rw [<- got_cut c fr x k hk1 hk2 (by omega) hfx]
  simp only [go_sem, ↓reduceIte, reduceCtorEq, Nat.reduceLT, Nat.reduceEqDiff, hkx', List.cons_append, List.nil_append]
  exact ⟨_, frz _ (by simp only [go_sem, ↓reduceIte, reduceCtorEq, Nat.reduceEqDiff]) rfl, rfl⟩
 have hkx' : (k : Int) < (x : Int) := by omega
 by_cases hkl : k < c.length
 rotate_left
 ·have hkl' : ¬ (k : Int) < (c.length : Int) := by omega
  rw [<- got_cut c fr x k hk1 hk2 (by omega) hfx]
  simp only [go_sem, ↓reduceIte, reduceCtorEq, Nat.reduceLT, Nat.reduceEqDiff, hkx', hkl', h0, List.getElem?_map, hgl, Option.map_some, List.cons_append, List.nil_append]
  exact ⟨_, frz _ (by simp only [go_sem, ↓reduceIte, reduceCtorEq, Nat.reduceEqDiff]) rfl, rfl⟩
 have hkl' : (k : Int) < (c.length : Int) := by omega
 have hck := List.getElem?_eq_getElem hkl
 obtain ⟨g, hg⟩ : ∃ g, gotC c fr k = g := ⟨_, rfl⟩
 have e1 := got_succ c fr k hk1 hkl
 rw [hg] at e1 hlen frz ⊢
 have e2 : (g ++ [c[k]]).length = g.length + 1 := by simp
 have e3 : (g ++ [c[k]]).map vu = g.map vu ++ [vu c[k]] := by simp
 have q1 : g.length + 1 <= 140737488355328 := by omega
 have htk : List.take g.length (g.map vu) = g.map vu := List.take_of_length_le (by simp)
 simp only [go_sem, Nat.reducePow, Nat.reduceLeDiff, ↓reduceIte, reduceCtorEq, Nat.reduceLT, Nat.reduceEqDiff, Nat.reduceAdd, hkx', hkl', h0, k0, List.getElem?_map, hgl, hck, Option.map_some, q1, htk, hwk, Nat.mul_one, List.cons_append, List.nil_append]
 refine ⟨max fr (min x c.length) - (k + 1), ⟨[(10, .own 2 (g.length + 1) 0 (g.length + 1)), (11, vi (k + 1 : Nat))] ++ clH l 1 w fr x h, col1O r0 ++ [.arr (g.length + 1) 1 5 (g.map vu ++ [vu c[k]])]⟩, by omega, WkE.keep (by simp only [go_sem, ↓reduceIte, reduceCtorEq, Nat.reduceEqDiff, List.cons_append, List.nil_append]), k + 1, rfl, by omega, by omega, ?_⟩
 rw [e1, e2, e3]; rfl
set_option maxRecDepth 100000 in
theorem colput10 (F0 : FD) (w0 : World) (l : List (List Int)) (w fr x : Nat) (r0 : List (List Int)) (b : List Int) (hr : r0.length <= 1000000)
 {Q : Exit -> Est -> Prop} (hQ : ∀ s, WkE 119 s ⟨clH l 1 w fr x 0, col1O (r0 ++ [b])⟩ -> Q .normal s) : CwpE Tryd.prog F0 w0 119 putR Q ⟨(10, vbytes b) :: clH l 1 w fr x 0, col1O r0⟩ := by
 unfold putR colsI colsB c77
 have k0 : ((0 : Nat) : Int) = 0 := rfl
 have k1 : ((1 : Nat) : Int) = 1 := rfl
 have k2 : ((2 : Nat) : Int) = 2 := rfl
 have l01 : (0 : Int) < 1 := by decide
 have l02 : (0 : Int) < 2 := by decide
 have l12 : (1 : Int) < 2 := by decide
 have le01 : (0 : Int) <= 1 := by decide
 have htk : List.take r0.length (r0.map vbytes) = r0.map vbytes := List.take_of_length_le (by simp)
 have q1 : (r0.length + 1) * 24 <= 140737488355328 := by omega
 have e2 : (r0 ++ [b]).length = r0.length + 1 := by simp
 have e3 : (r0 ++ [b]).map vbytes = r0.map vbytes ++ [vbytes b] := by simp
 refine CwpE.vc ?_
 simp only [col1O, e2, e3] at hQ
 simp only [go_sem, Nat.reducePow, Nat.reduceLeDiff, ↓reduceIte, reduceCtorEq, Nat.reduceLT, Nat.reduceEqDiff, Nat.reduceAdd, Nat.reduceMul, Int.reduceToNat, Int.reduceToNat, Int.le_refl, k0, k1, l01, htk, q1]
 exact hQ _ (WkE.keep (by simp only [go_sem, ↓reduceIte, reduceCtorEq, Nat.reduceEqDiff, k0]))
abbrev col2O (r0 r1 : List (List Int)) : List AObj := [.arr 2 1 39 [.own 1 r0.length 0 r0.length, .own 2 r1.length 0 r1.length], .arr r0.length 1 30 (r0.map vbytes), .arr r1.length 1 30 (r1.map vbytes)]
set_option maxRecDepth 100000 in
theorem take_loop2 (F0 : FD) (w0 : World) (l : List (List Int)) (w fr x h : Nat) (r0 r1 : List (List Int)) (c : List Int) (hh : h < l.length) (hgl : l[h]? = some c) (hfx : fr <= x) (hx : x <= 1000000) (hn : l.length <= 1000000) (hc : c.length <= 1000000)
 {Q : Exit -> Est -> Prop} (hQ : Q .normal ⟨(10, vbytes (cutP c fr x)) :: clH l 2 w fr x h, col2O r0 r1⟩) : CwpE Tryd.prog F0 w0 119 takeLoop Q ⟨[(10, .own 3 0 0 0), (11, vi fr)] ++ clH l 2 w fr x h, col2O r0 r1 ++ [.arr 0 1 5 []]⟩ := by
 unfold takeLoop colsI colsB c77
 refine CwpE.block ?_
 refine loopX 6 (fun z s => ∃ k : Nat, z = max fr (min x c.length) - k /\ fr <= k /\ k <= max fr (min x c.length) /\ s = ⟨[(10, .own 3 (gotC c fr k).length 0 (gotC c fr k).length), (11, vi k)] ++ clH l 2 w fr x h, col2O r0 r1 ++ [.arr (gotC c fr k).length 1 5 ((gotC c fr k).map vu)]⟩)
  (fun s => s = ⟨(10, vbytes (cutP c fr x)) :: clH l 2 w fr x h, col2O r0 r1⟩) (max fr (min x c.length) - fr) ⟨[(10, .own 3 0 0 0), (11, vi fr)] ++ clH l 2 w fr x h, col2O r0 r1 ++ [.arr 0 1 5 []]⟩ (.refl _ _) ⟨fr, rfl, Nat.le_refl _, by omega, by simp [gotC]⟩ ?_ ?_
 rotate_left
 ·rintro s rfl
  simp only [inBlockE, if_true]
  exact hQ
 rintro z s ⟨k, rfl, hk1, hk2, rfl⟩
 have hlen := got_len c fr k hk1 (by omega)
 have hh' : (h : Int) < (l.length : Int) := by omega
 have h0 : (0 : Int) <= (h : Int) := by omega
 have k0 : (0 : Int) <= (k : Int) := by omega
 have hwk : IntKind.i64.wrap ((k : Int) + 1) = ((k + 1 : Nat) : Int) := by rw [wrap_id (by omega) (by omega)]; omega
 have frz : ∀ env : List (Nat × AV), Agree ((10, vbytes (gotC c fr k)) :: env) ((10, vbytes (gotC c fr k)) :: clH l 2 w fr x h) -> lk env 10 = .own 3 (gotC c fr k).length 0 (gotC c fr k).length -> WkE 119 ⟨env, col2O r0 r1 ++ [.arr (gotC c fr k).length 1 5 ((gotC c fr k).map vu)]⟩ ⟨(10, vbytes (gotC c fr k)) :: clH l 2 w fr x h, col2O r0 r1⟩ := by
  intro env ha he
  refine (WkE.freeze 10 3 (gotC c fr k).length 0 (gotC c fr k).length 1 5 ((gotC c fr k).map vu) (by omega) he rfl (by simp) (List.all_eq_true.2 fun y hy => by obtain ⟨v, _, rfl⟩ := List.mem_map.1 hy; rfl)).trans ?_
  have e : List.take (gotC c fr k).length (List.drop 0 ((gotC c fr k).map vu)) = (gotC c fr k).map vu := List.take_of_length_le (by simp)
  rw [e]
  refine WkE.round ha ?_ ?_ rfl
  ·rfl
  ·have hrow : ∀ r : List (List Int), (r.map vbytes).all (AV.inn 3) = true := fun r => inn_map fun _ => rfl
   simp only [List.all_cons, List.all_nil, AObj.innO, List.length_cons, List.length_nil, Nat.zero_add, Nat.reduceAdd, hrow, Bool.and_true]
   rfl
 by_cases hkx : k < x
 rotate_left
 ·have hkx' : ¬ (k : Int) < (x : Int) := by omega
  rw [<- got_cut c fr x k hk1 hk2 (by omega) hfx]
  simp only [go_sem, ↓reduceIte, reduceCtorEq, Nat.reduceLT, Nat.reduceEqDiff, hkx', List.cons_append, List.nil_append]
  exact ⟨_, frz _ (by simp only [go_sem, ↓reduceIte, reduceCtorEq, Nat.reduceEqDiff]) rfl, rfl⟩
 have hkx' : (k : Int) < (x : Int) := by omega
 by_cases hkl : k < c.length
 rotate_left
 ·have hkl' : ¬ (k : Int) < (c.length : Int) := by omega
  rw [<- got_cut c fr x k hk1 hk2 (by omega) hfx]
  simp only [go_sem, ↓reduceIte, reduceCtorEq, Nat.reduceLT, Nat.reduceEqDiff, hkx', hkl', h0, List.getElem?_map, hgl, Option.map_some, List.cons_append, List.nil_append]
  exact ⟨_, frz _ (by simp only [go_sem, ↓reduceIte, reduceCtorEq, Nat.reduceEqDiff]) rfl, rfl⟩
 have hkl' : (k : Int) < (c.length : Int) := by omega
 have hck := List.getElem?_eq_getElem hkl
 obtain ⟨g, hg⟩ : ∃ g, gotC c fr k = g := ⟨_, rfl⟩
 have e1 := got_succ c fr k hk1 hkl
 rw [hg] at e1 hlen frz ⊢
 have e2 : (g ++ [c[k]]).length = g.length + 1 := by simp
 have e3 : (g ++ [c[k]]).map vu = g.map vu ++ [vu c[k]] := by simp
 have q1 : g.length + 1 <= 140737488355328 := by omega
 have htk : List.take g.length (g.map vu) = g.map vu := List.take_of_length_le (by simp)
 simp only [go_sem, Nat.reducePow, Nat.reduceLeDiff, ↓reduceIte, reduceCtorEq, Nat.reduceLT, Nat.reduceEqDiff, Nat.reduceAdd, hkx', hkl', h0, k0, List.getElem?_map, hgl, hck, Option.map_some, q1, htk, hwk, Nat.mul_one, List.cons_append, List.nil_append]
 refine ⟨max fr (min x c.length) - (k + 1), ⟨[(10, .own 3 (g.length + 1) 0 (g.length + 1)), (11, vi (k + 1 : Nat))] ++ clH l 2 w fr x h, col2O r0 r1 ++ [.arr (g.length + 1) 1 5 (g.map vu ++ [vu c[k]])]⟩, by omega, WkE.keep (by simp only [go_sem, ↓reduceIte, reduceCtorEq, Nat.reduceEqDiff, List.cons_append, List.nil_append]), k + 1, rfl, by omega, by omega, ?_⟩
 rw [e1, e2, e3]; rfl
set_option maxRecDepth 100000 in
theorem colput20 (F0 : FD) (w0 : World) (l : List (List Int)) (w fr x : Nat) (r0 r1 : List (List Int)) (b : List Int) (hr : r0.length <= 1000000)
 {Q : Exit -> Est -> Prop} (hQ : ∀ s, WkE 119 s ⟨clH l 2 w fr x 0, col2O (r0 ++ [b]) r1⟩ -> Q .normal s) : CwpE Tryd.prog F0 w0 119 putR Q ⟨(10, vbytes b) :: clH l 2 w fr x 0, col2O r0 r1⟩ := by
 unfold putR colsI colsB c77
 have k0 : ((0 : Nat) : Int) = 0 := rfl
 have k1 : ((1 : Nat) : Int) = 1 := rfl
 have k2 : ((2 : Nat) : Int) = 2 := rfl
 have l01 : (0 : Int) < 1 := by decide
 have l02 : (0 : Int) < 2 := by decide
 have l12 : (1 : Int) < 2 := by decide
 have le01 : (0 : Int) <= 1 := by decide
 have htk : List.take r0.length (r0.map vbytes) = r0.map vbytes := List.take_of_length_le (by simp)
 have q1 : (r0.length + 1) * 24 <= 140737488355328 := by omega
 have e2 : (r0 ++ [b]).length = r0.length + 1 := by simp
 have e3 : (r0 ++ [b]).map vbytes = r0.map vbytes ++ [vbytes b] := by simp
 refine CwpE.vc ?_
 simp only [col2O, e2, e3] at hQ
 simp only [go_sem, Nat.reducePow, Nat.reduceLeDiff, ↓reduceIte, reduceCtorEq, Nat.reduceLT, Nat.reduceEqDiff, Nat.reduceAdd, Nat.reduceMul, Int.reduceToNat, Int.reduceToNat, Int.le_refl, k0, k2, l02, htk, q1]
 exact hQ _ (WkE.keep (by simp only [go_sem, ↓reduceIte, reduceCtorEq, Nat.reduceEqDiff, k0]))
set_option maxRecDepth 100000 in
theorem colput21 (F0 : FD) (w0 : World) (l : List (List Int)) (w fr x : Nat) (r0 r1 : List (List Int)) (b : List Int) (hr : r1.length <= 1000000)
 {Q : Exit -> Est -> Prop} (hQ : ∀ s, WkE 119 s ⟨clH l 2 w fr x 1, col2O r0 (r1 ++ [b])⟩ -> Q .normal s) : CwpE Tryd.prog F0 w0 119 putR Q ⟨(10, vbytes b) :: clH l 2 w fr x 1, col2O r0 r1⟩ := by
 unfold putR colsI colsB c77
 have k0 : ((0 : Nat) : Int) = 0 := rfl
 have k1 : ((1 : Nat) : Int) = 1 := rfl
 have k2 : ((2 : Nat) : Int) = 2 := rfl
 have l01 : (0 : Int) < 1 := by decide
 have l02 : (0 : Int) < 2 := by decide
 have l12 : (1 : Int) < 2 := by decide
 have le01 : (0 : Int) <= 1 := by decide
 have htk : List.take r1.length (r1.map vbytes) = r1.map vbytes := List.take_of_length_le (by simp)
 have q1 : (r1.length + 1) * 24 <= 140737488355328 := by omega
 have e2 : (r1 ++ [b]).length = r1.length + 1 := by simp
 have e3 : (r1 ++ [b]).map vbytes = r1.map vbytes ++ [vbytes b] := by simp
 refine CwpE.vc ?_
 simp only [col2O, e2, e3] at hQ
 simp only [go_sem, Nat.reducePow, Nat.reduceLeDiff, ↓reduceIte, reduceCtorEq, Nat.reduceLT, Nat.reduceEqDiff, Nat.reduceAdd, Nat.reduceMul, Int.reduceToNat, Int.reduceToNat, k1, k2, l12, le01, htk, q1]
 exact hQ _ (WkE.keep (by simp only [go_sem, ↓reduceIte, reduceCtorEq, Nat.reduceEqDiff, k1]))
end Go.Proofs.YtnncijjkbonokaaDoor
namespace Go.Proofs.YtnncijjkbonokaaDoor
open Go.RowKit Dak
set_option maxRecDepth 100000 in
theorem cols_1 (c0 : List Int) (hc0 : c0.length <= 1000) : Ctr Tryd.prog 77 [vpage [c0]] (vbars (barsP [c0])) := by
 have k0 : ((0 : Nat) : Int) = 0 := rfl
 have k1 : ((1 : Nat) : Int) = 1 := rfl
 have k2 : ((2 : Nat) : Int) = 2 := rfl
 have k24 : ((24 : Nat) : Int) = 24 := rfl
 have n2 : (24 : Int) * 1 <= 281474976710656 := by decide
 have l01 : (0 : Int) < 1 := by decide
 have l02 : (0 : Int) < 2 := by decide
 have l12 : (1 : Int) < 2 := by decide
 have le01 : (0 : Int) <= 1 := by decide
 have w01 : IntKind.i64.wrap (0 + 1) = 1 := by decide
 have w12 : IntKind.i64.wrap (1 + 1) = 2 := by decide
 obtain ⟨w, hw⟩ : ∃ w, wideP [c0] 0 = w := ⟨_, rfl⟩
 have hwb : w <= 1000 := by rw [<- hw]; exact wide_le _ _ _ (by omega) fun c hc => by simp only [List.mem_cons, List.not_mem_nil, or_false] at hc; subst hc <;> omega
 refine specC f77 (by simp) fun F0 w0 => ?_
 unfold c77
 refine CwpE.cut (st := ⟨[(0, vpage [c0])], []⟩) ?_ ?_
 ·simp only [go_sem, ↓reduceIte, Nat.reduceLT]
  exact ⟨_, WkE.keep (by simp only [go_sem, ↓reduceIte, reduceCtorEq]), rfl⟩
 refine CwpE.cut (st := ⟨[(0, vpage [c0]), (3, vi w)], []⟩) ?_ ?_
 ·simp only [go_sem, ↓reduceIte, Nat.reduceLT]
  refine callT (refWide_s [c0] (by simp)) rfl ?_
  rw [hw]
  simp only [go_sem, ↓reduceIte, Nat.reduceLT]
  exact ⟨_, WkE.keep (by simp only [go_sem, ↓reduceIte, reduceCtorEq]), rfl⟩
 refine CwpE.cut (st := ⟨[(0, vpage [c0]), (3, vi w), (4, .own 0 1 0 1)], [.arr 1 1 39 [.val (.slice none 0 0)]]⟩) ?_ ?_
 ·simp only [go_sem, List.replicate_succ, ↓reduceIte, Nat.reduceLT, Int.reduceToNat, Int.reduceLE, Int.reduceToNat, Int.le_refl, k1, k24, n2]
  exact ⟨_, WkE.keep (by simp only [go_sem, ↓reduceIte, reduceCtorEq, Nat.reduceEqDiff]), rfl⟩
 refine CwpE.cut (st := ⟨[(0, vpage [c0]), (3, vi w), (4, .own 0 1 0 1), (5, vi (0 : Nat))], col1O []⟩) ?_ ?_
 ·simp only [go_sem, ↓reduceIte, Nat.reduceLT]
  exact ⟨_, (WkE.nilCell 0 1 1 0 0 1 30 39 [.val (.slice none 0 0)] _ rfl rfl rfl).trans (WkE.keep (by simp only [go_sem, ↓reduceIte, reduceCtorEq, Nat.reduceEqDiff, k0])), rfl⟩
 refine CwpE.seqJ (fun s => ∃ (fr x : Nat) (r0 : List (List Int)), barsP [c0] = [r0] /\ s = ⟨clE [c0] 1 w fr x, col1O r0⟩) ?_ ?_
 rotate_left
 ·rintro _ ⟨fr, x, r0, e, rfl⟩
  rw [e]
  refine CwpE.vc ?_
  simp only [go_sem, ↓reduceIte, reduceCtorEq, Nat.reduceLT, Nat.reduceEqDiff]
  refine .own 0 1 0 1 1 39 _ _ rfl (by simp) (by simp) fun i hi => ?_
  match i, hi with
  | 0, _ => exact snap_all r0 _ rfl rfl fun _ => rfl
 refine CwpE.cut (st := ⟨clE [c0] 1 w 0 0, col1O []⟩) ?_ ?_
 ·simp only [go_sem, ↓reduceIte, Nat.reduceLT]
  exact ⟨_, WkE.keep (by simp only [go_sem, ↓reduceIte, reduceCtorEq, Nat.reduceEqDiff, k0]), rfl⟩
 refine CwpE.block ?_
 refine loopXC 0 (fun f s => ∃ (x fr : Nat) (r0 : List (List Int)), x + f = w + 1 /\ fr <= x /\ r0.length <= x /\ barsGo [c0] f x fr [r0] = barsP [c0] /\ s = ⟨clE [c0] 1 w fr x, col1O r0⟩)
  (fun s => ∃ (fr x : Nat) (r0 : List (List Int)), barsP [c0] = [r0] /\ s = ⟨clE [c0] 1 w fr x, col1O r0⟩) (w + 1) ⟨clE [c0] 1 w 0 0, col1O []⟩ (.refl _ _) ⟨0, 0, [], by omega, by omega, Nat.le_refl _, by rw [<- hw]; rfl, rfl⟩ ?_ ?_
 rotate_left
 ·rintro s h
  simp only [inBlockE, if_true]
  exact ⟨_, .refl _ _, h⟩
 rintro f s ⟨x, fr, r0, hf, hfr, qr0, hg, rfl⟩
 cases f with
 | zero =>
  have hx : ¬ (x : Int) <= (w : Int) := by omega
  refine CwpE.vc ?_
  simp only [go_sem, ↓reduceIte, reduceCtorEq, Nat.reduceLT, Nat.reduceEqDiff, hx]
  exact ⟨_, WkE.keep (by simp only [go_sem, ↓reduceIte, reduceCtorEq, Nat.reduceEqDiff]), fr, x, r0, hg.symm, rfl⟩
 | succ f =>
 have hx : (x : Int) <= (w : Int) := by omega
 have wx : IntKind.i64.wrap ((x : Int) + 1) = ((x + 1 : Nat) : Int) := by rw [wrap_id (by omega) (by omega)]; omega
 refine CwpE.cut (st := ⟨clE [c0] 1 w fr x, col1O r0⟩) ?_ ?_
 ·simp only [go_sem, ↓reduceIte, reduceCtorEq, Nat.reduceLT, Nat.reduceEqDiff, hx]
  exact ⟨_, WkE.keep (by simp only [go_sem, ↓reduceIte, reduceCtorEq, Nat.reduceEqDiff]), rfl⟩
 rw [barsGo] at hg
 refine CwpE.seqJ (fun s => ∃ (fr' : Nat) (r0' : List (List Int)), fr' <= x + 1 /\ r0'.length <= x + 1 /\ barsGo [c0] f (x + 1) fr' [r0'] = barsP [c0] /\ s = ⟨clE [c0] 1 w fr' x, col1O r0'⟩) (CwpE.block ?_) ?_
 rotate_left
 ·rintro _ ⟨fr', r0', h1, h2r0, h3, rfl⟩
  refine CwpE.vc ?_
  simp only [go_sem, ↓reduceIte, reduceCtorEq, Nat.reduceLT, Nat.reduceEqDiff, wx]
  exact ⟨f, _, by omega, WkE.keep (by simp only [go_sem, ↓reduceIte, reduceCtorEq, Nat.reduceEqDiff]), x + 1, fr', r0', by omega, by omega, by omega, h3, rfl⟩
 refine CwpE.cut (st := ⟨(7, vb true) :: clE [c0] 1 w fr x, col1O r0⟩) ?_ ?_
 ·simp only [go_sem, ↓reduceIte, Nat.reduceLT]
  exact ⟨_, WkE.keep (by simp only [go_sem, ↓reduceIte, reduceCtorEq, Nat.reduceEqDiff]), rfl⟩
 refine CwpE.seqJ (fun s => s = ⟨(7, vb (![c0].any (filledAt x))) :: clE [c0] 1 w fr x, col1O r0⟩) ?_ ?_
 ·refine CwpE.cut (st := ⟨[(8, vi 0), (7, vb true)] ++ clE [c0] 1 w fr x, col1O r0⟩) ?_ ?_
  ·simp only [go_sem, ↓reduceIte, Nat.reduceLT, List.cons_append, List.nil_append]
   exact ⟨_, WkE.keep (by simp only [go_sem, ↓reduceIte, reduceCtorEq, Nat.reduceEqDiff]), rfl⟩
  ·exact any_loop F0 w0 [c0] 1 w fr x _ (by omega) (by simp) (fun c hc => by simp only [List.mem_cons, List.not_mem_nil, or_false] at hc; subst hc <;> omega) ⟨_, .refl _ _, rfl⟩
 rintro _ rfl
 cases hfl : [c0].any (filledAt x) with
 | true =>
  rw [if_pos hfl] at hg
  refine CwpE.vc ?_
  simp only [go_sem, ↓reduceIte, Nat.reduceLT]
  exact ⟨_, WkE.keep (by simp only [go_sem, ↓reduceIte, reduceCtorEq, Nat.reduceEqDiff]), fr, r0, by omega, by omega, hg, rfl⟩
 | false =>
  rw [if_neg (by rw [hfl]; simp)] at hg
  have hadd : barsAdd [c0] fr x [r0] = [(r0 ++ [trimP (cutP c0 fr x)])] := rfl
  rw [hadd] at hg
  obtain ⟨y0, hy0⟩ : ∃ y, y = (r0 ++ [trimP (cutP c0 fr x)]) := ⟨_, rfl⟩
  rw [<- hy0] at hg
  have hyl0 : y0.length <= x + 1 := by rw [hy0]; simp; omega
  refine CwpE.cut (st := ⟨clE [c0] 1 w fr x, col1O r0⟩) ?_ ?_
  ·simp only [go_sem, ↓reduceIte, Nat.reduceLT]
   exact ⟨_, WkE.keep (by simp only [go_sem, ↓reduceIte, reduceCtorEq, Nat.reduceEqDiff]), rfl⟩
  refine CwpE.seqJ (fun s => s = ⟨clE [c0] 1 w fr x, col1O y0⟩) ?_ ?_
  rotate_left
  ·rintro _ rfl
   refine CwpE.vc ?_
   simp only [go_sem, ↓reduceIte, reduceCtorEq, Nat.reduceLT, Nat.reduceEqDiff, wx]
   exact ⟨_, WkE.keep (by simp only [go_sem, ↓reduceIte, reduceCtorEq, Nat.reduceEqDiff]), x + 1, y0, by omega, hyl0, hg, rfl⟩
  refine CwpE.cut (st := ⟨clH [c0] 1 w fr x 0, col1O r0⟩) ?_ ?_
  ·simp only [go_sem, ↓reduceIte, Nat.reduceLT]
   exact ⟨_, WkE.keep (by simp only [go_sem, ↓reduceIte, reduceCtorEq, Nat.reduceEqDiff, k0]), rfl⟩
  refine CwpE.block ?_
  refine loopXC 4 (fun u s => (u = 1 /\ s = ⟨clH [c0] 1 w fr x 0, col1O r0⟩) \/ (u = 0 /\ s = ⟨clH [c0] 1 w fr x 1, col1O y0⟩)) (fun s => s = ⟨clE [c0] 1 w fr x, col1O y0⟩) 1 ⟨clH [c0] 1 w fr x 0, col1O r0⟩ (.refl _ _) (.inl ⟨rfl, rfl⟩) ?_ ?_
  rotate_left
  ·rintro s rfl
   simp only [inBlockE, if_true]
   exact ⟨_, .refl _ _, rfl⟩
  rintro u s (⟨rfl, rfl⟩ | ⟨rfl, rfl⟩)
  ·refine CwpE.cut (st := ⟨clH [c0] 1 w fr x 0, col1O r0⟩) ?_ ?_
   ·simp only [go_sem, ↓reduceIte, reduceCtorEq, Nat.reduceLT, Nat.reduceEqDiff, k0, k1, l01]
    exact ⟨_, WkE.keep (by simp only [go_sem, ↓reduceIte, reduceCtorEq, Nat.reduceEqDiff, k0]), rfl⟩
   refine CwpE.seqJ (fun s => s = ⟨clH [c0] 1 w fr x 0, col1O y0⟩) (CwpE.block ?_) ?_
   rotate_left
   ·rintro _ rfl
    refine CwpE.vc ?_
    simp only [go_sem, ↓reduceIte, Nat.reduceLT, k0, w01]
    exact ⟨0, ⟨clH [c0] 1 w fr x 1, col1O y0⟩, by omega, WkE.keep (by simp only [go_sem, ↓reduceIte, reduceCtorEq, Nat.reduceEqDiff, k1]), .inr (⟨rfl, rfl⟩)⟩
   refine CwpE.cut (st := ⟨(10, .own 2 0 0 0) :: clH [c0] 1 w fr x 0, col1O r0 ++ [.arr 0 1 5 []]⟩) ?_ ?_
   ·simp only [go_sem, ↓reduceIte, Nat.reduceLT]
    refine ⟨⟨(10, .own 2 0 0 0) :: clH [c0] 1 w fr x 0, col1O r0 ++ [.arr 0 1 5 []]⟩, (WkE.nil 10 1 5 (by omega) rfl).trans (WkE.keep ?_), rfl⟩
    simp only [go_sem, ↓reduceIte, reduceCtorEq, Nat.reduceEqDiff, Nat.reduceAdd, k0]
   refine CwpE.seqJ (fun s => s = ⟨(10, vbytes (cutP c0 fr x)) :: clH [c0] 1 w fr x 0, col1O r0⟩) ?_ ?_
   ·refine CwpE.cut (st := ⟨[(10, .own 2 0 0 0), (11, vi fr)] ++ clH [c0] 1 w fr x 0, col1O r0 ++ [.arr 0 1 5 []]⟩) ?_ ?_
    ·simp only [go_sem, ↓reduceIte, reduceCtorEq, Nat.reduceLT, Nat.reduceEqDiff, List.cons_append, List.nil_append]
     exact ⟨_, WkE.keep (by simp only [go_sem, ↓reduceIte, reduceCtorEq, Nat.reduceEqDiff, k0]), rfl⟩
    ·exact take_loop1 F0 w0 [c0] w fr x 0 r0 c0 (by simp) rfl hfr (by omega) (by simp) (by omega) ⟨_, .refl _ _, rfl⟩
   rintro _ rfl
   refine CwpE.seqJ (fun s => s = ⟨(10, vbytes (trimP (cutP c0 fr x))) :: clH [c0] 1 w fr x 0, col1O r0⟩) ?_ ?_
   ·exact trimR_s F0 w0 [c0] 1 w fr x 0 _ _ (by have := cut_len c0 fr x; omega) ⟨_, .refl _ _, rfl⟩
   rintro _ rfl
   exact colput10 F0 w0 [c0] w fr x r0 _ (by omega) fun s hs => ⟨_, hs, by rw [hy0]⟩
  ·refine CwpE.vc ?_
   simp only [go_sem, ↓reduceIte, reduceCtorEq, Nat.reduceLT, Nat.reduceEqDiff, Int.lt_irrefl, k1]
   exact ⟨_, WkE.keep (by simp only [go_sem, ↓reduceIte, reduceCtorEq, Nat.reduceEqDiff]), rfl⟩
set_option maxRecDepth 100000 in
theorem cols_2 (c0 c1 : List Int) (hc0 : c0.length <= 1000) (hc1 : c1.length <= 1000) : Ctr Tryd.prog 77 [vpage [c0, c1]] (vbars (barsP [c0, c1])) := by
 have k0 : ((0 : Nat) : Int) = 0 := rfl
 have k1 : ((1 : Nat) : Int) = 1 := rfl
 have k2 : ((2 : Nat) : Int) = 2 := rfl
 have k24 : ((24 : Nat) : Int) = 24 := rfl
 have n2 : (24 : Int) * 2 <= 281474976710656 := by decide
 have l01 : (0 : Int) < 1 := by decide
 have l02 : (0 : Int) < 2 := by decide
 have l12 : (1 : Int) < 2 := by decide
 have le01 : (0 : Int) <= 1 := by decide
 have w01 : IntKind.i64.wrap (0 + 1) = 1 := by decide
 have w12 : IntKind.i64.wrap (1 + 1) = 2 := by decide
 obtain ⟨w, hw⟩ : ∃ w, wideP [c0, c1] 0 = w := ⟨_, rfl⟩
 have hwb : w <= 1000 := by rw [<- hw]; exact wide_le _ _ _ (by omega) fun c hc => by simp only [List.mem_cons, List.not_mem_nil, or_false] at hc; rcases hc with rfl | rfl <;> omega
 refine specC f77 (by simp) fun F0 w0 => ?_
 unfold c77
 refine CwpE.cut (st := ⟨[(0, vpage [c0, c1])], []⟩) ?_ ?_
 ·simp only [go_sem, ↓reduceIte, Nat.reduceLT]
  exact ⟨_, WkE.keep (by simp only [go_sem, ↓reduceIte, reduceCtorEq]), rfl⟩
 refine CwpE.cut (st := ⟨[(0, vpage [c0, c1]), (3, vi w)], []⟩) ?_ ?_
 ·simp only [go_sem, ↓reduceIte, Nat.reduceLT]
  refine callT (refWide_s [c0, c1] (by simp)) rfl ?_
  rw [hw]
  simp only [go_sem, ↓reduceIte, Nat.reduceLT]
  exact ⟨_, WkE.keep (by simp only [go_sem, ↓reduceIte, reduceCtorEq]), rfl⟩
 refine CwpE.cut (st := ⟨[(0, vpage [c0, c1]), (3, vi w), (4, .own 0 2 0 2)], [.arr 2 1 39 [.val (.slice none 0 0), .val (.slice none 0 0)]]⟩) ?_ ?_
 ·simp only [go_sem, List.replicate_succ, ↓reduceIte, Nat.reduceLT, Nat.reduceAdd, Int.reduceToNat, Int.reduceLE, Int.reduceToNat, Int.le_refl, k2, k24, n2]
  exact ⟨_, WkE.keep (by simp only [go_sem, ↓reduceIte, reduceCtorEq, Nat.reduceEqDiff]), rfl⟩
 refine CwpE.cut (st := ⟨[(0, vpage [c0, c1]), (3, vi w), (4, .own 0 2 0 2), (5, vi (0 : Nat))], col2O [] []⟩) ?_ ?_
 ·simp only [go_sem, ↓reduceIte, Nat.reduceLT]
  exact ⟨_, ((WkE.nilCell 0 2 1 0 0 1 30 39 [.val (.slice none 0 0), .val (.slice none 0 0)] _ rfl rfl rfl).trans (WkE.nilCell 0 2 1 1 0 1 30 39 [.own 1 0 0 0, .val (.slice none 0 0)] _ rfl rfl rfl)).trans (WkE.keep (by simp only [go_sem, ↓reduceIte, reduceCtorEq, Nat.reduceEqDiff, k0])), rfl⟩
 refine CwpE.seqJ (fun s => ∃ (fr x : Nat) (r0 r1 : List (List Int)), barsP [c0, c1] = [r0, r1] /\ s = ⟨clE [c0, c1] 2 w fr x, col2O r0 r1⟩) ?_ ?_
 rotate_left
 ·rintro _ ⟨fr, x, r0, r1, e, rfl⟩
  rw [e]
  refine CwpE.vc ?_
  simp only [go_sem, ↓reduceIte, reduceCtorEq, Nat.reduceLT, Nat.reduceEqDiff]
  refine .own 0 2 0 2 1 39 _ _ rfl (by simp) (by simp) fun i hi => ?_
  match i, hi with
  | 0, _ => exact snap_all r0 _ rfl rfl fun _ => rfl
  | 1, _ => exact snap_all r1 _ rfl rfl fun _ => rfl
 refine CwpE.cut (st := ⟨clE [c0, c1] 2 w 0 0, col2O [] []⟩) ?_ ?_
 ·simp only [go_sem, ↓reduceIte, Nat.reduceLT]
  exact ⟨_, WkE.keep (by simp only [go_sem, ↓reduceIte, reduceCtorEq, Nat.reduceEqDiff, k0]), rfl⟩
 refine CwpE.block ?_
 refine loopXC 0 (fun f s => ∃ (x fr : Nat) (r0 r1 : List (List Int)), x + f = w + 1 /\ fr <= x /\ r0.length <= x /\ r1.length <= x /\ barsGo [c0, c1] f x fr [r0, r1] = barsP [c0, c1] /\ s = ⟨clE [c0, c1] 2 w fr x, col2O r0 r1⟩)
  (fun s => ∃ (fr x : Nat) (r0 r1 : List (List Int)), barsP [c0, c1] = [r0, r1] /\ s = ⟨clE [c0, c1] 2 w fr x, col2O r0 r1⟩) (w + 1) ⟨clE [c0, c1] 2 w 0 0, col2O [] []⟩ (.refl _ _) ⟨0, 0, [], [], by omega, by omega, Nat.le_refl _, Nat.le_refl _, by rw [<- hw]; rfl, rfl⟩ ?_ ?_
 rotate_left
 ·rintro s h
  simp only [inBlockE, if_true]
  exact ⟨_, .refl _ _, h⟩
 rintro f s ⟨x, fr, r0, r1, hf, hfr, qr0, qr1, hg, rfl⟩
 cases f with
 | zero =>
  have hx : ¬ (x : Int) <= (w : Int) := by omega
  refine CwpE.vc ?_
  simp only [go_sem, ↓reduceIte, reduceCtorEq, Nat.reduceLT, Nat.reduceEqDiff, hx]
  exact ⟨_, WkE.keep (by simp only [go_sem, ↓reduceIte, reduceCtorEq, Nat.reduceEqDiff]), fr, x, r0, r1, hg.symm, rfl⟩
 | succ f =>
 have hx : (x : Int) <= (w : Int) := by omega
 have wx : IntKind.i64.wrap ((x : Int) + 1) = ((x + 1 : Nat) : Int) := by rw [wrap_id (by omega) (by omega)]; omega
 refine CwpE.cut (st := ⟨clE [c0, c1] 2 w fr x, col2O r0 r1⟩) ?_ ?_
 ·simp only [go_sem, ↓reduceIte, reduceCtorEq, Nat.reduceLT, Nat.reduceEqDiff, hx]
  exact ⟨_, WkE.keep (by simp only [go_sem, ↓reduceIte, reduceCtorEq, Nat.reduceEqDiff]), rfl⟩
 rw [barsGo] at hg
 refine CwpE.seqJ (fun s => ∃ (fr' : Nat) (r0' r1' : List (List Int)), fr' <= x + 1 /\ r0'.length <= x + 1 /\ r1'.length <= x + 1 /\ barsGo [c0, c1] f (x + 1) fr' [r0', r1'] = barsP [c0, c1] /\ s = ⟨clE [c0, c1] 2 w fr' x, col2O r0' r1'⟩) (CwpE.block ?_) ?_
 rotate_left
 ·rintro _ ⟨fr', r0', r1', h1, h2r0, h2r1, h3, rfl⟩
  refine CwpE.vc ?_
  simp only [go_sem, ↓reduceIte, reduceCtorEq, Nat.reduceLT, Nat.reduceEqDiff, wx]
  exact ⟨f, _, by omega, WkE.keep (by simp only [go_sem, ↓reduceIte, reduceCtorEq, Nat.reduceEqDiff]), x + 1, fr', r0', r1', by omega, by omega, by omega, by omega, h3, rfl⟩
 refine CwpE.cut (st := ⟨(7, vb true) :: clE [c0, c1] 2 w fr x, col2O r0 r1⟩) ?_ ?_
 ·simp only [go_sem, ↓reduceIte, Nat.reduceLT]
  exact ⟨_, WkE.keep (by simp only [go_sem, ↓reduceIte, reduceCtorEq, Nat.reduceEqDiff]), rfl⟩
 refine CwpE.seqJ (fun s => s = ⟨(7, vb (![c0, c1].any (filledAt x))) :: clE [c0, c1] 2 w fr x, col2O r0 r1⟩) ?_ ?_
 ·refine CwpE.cut (st := ⟨[(8, vi 0), (7, vb true)] ++ clE [c0, c1] 2 w fr x, col2O r0 r1⟩) ?_ ?_
  ·simp only [go_sem, ↓reduceIte, Nat.reduceLT, List.cons_append, List.nil_append]
   exact ⟨_, WkE.keep (by simp only [go_sem, ↓reduceIte, reduceCtorEq, Nat.reduceEqDiff]), rfl⟩
  ·exact any_loop F0 w0 [c0, c1] 2 w fr x _ (by omega) (by simp) (fun c hc => by simp only [List.mem_cons, List.not_mem_nil, or_false] at hc; rcases hc with rfl | rfl <;> omega) ⟨_, .refl _ _, rfl⟩
 rintro _ rfl
 cases hfl : [c0, c1].any (filledAt x) with
 | true =>
  rw [if_pos hfl] at hg
  refine CwpE.vc ?_
  simp only [go_sem, ↓reduceIte, Nat.reduceLT]
  exact ⟨_, WkE.keep (by simp only [go_sem, ↓reduceIte, reduceCtorEq, Nat.reduceEqDiff]), fr, r0, r1, by omega, by omega, by omega, hg, rfl⟩
 | false =>
  rw [if_neg (by rw [hfl]; simp)] at hg
  have hadd : barsAdd [c0, c1] fr x [r0, r1] = [(r0 ++ [trimP (cutP c0 fr x)]), (r1 ++ [trimP (cutP c1 fr x)])] := rfl
  rw [hadd] at hg
  obtain ⟨y0, hy0⟩ : ∃ y, y = (r0 ++ [trimP (cutP c0 fr x)]) := ⟨_, rfl⟩
  obtain ⟨y1, hy1⟩ : ∃ y, y = (r1 ++ [trimP (cutP c1 fr x)]) := ⟨_, rfl⟩
  rw [<- hy0] at hg
  rw [<- hy1] at hg
  have hyl0 : y0.length <= x + 1 := by rw [hy0]; simp; omega
  have hyl1 : y1.length <= x + 1 := by rw [hy1]; simp; omega
  refine CwpE.cut (st := ⟨clE [c0, c1] 2 w fr x, col2O r0 r1⟩) ?_ ?_
  ·simp only [go_sem, ↓reduceIte, Nat.reduceLT]
   exact ⟨_, WkE.keep (by simp only [go_sem, ↓reduceIte, reduceCtorEq, Nat.reduceEqDiff]), rfl⟩
  refine CwpE.seqJ (fun s => s = ⟨clE [c0, c1] 2 w fr x, col2O y0 y1⟩) ?_ ?_
  rotate_left
  ·rintro _ rfl
   refine CwpE.vc ?_
   simp only [go_sem, ↓reduceIte, reduceCtorEq, Nat.reduceLT, Nat.reduceEqDiff, wx]
   exact ⟨_, WkE.keep (by simp only [go_sem, ↓reduceIte, reduceCtorEq, Nat.reduceEqDiff]), x + 1, y0, y1, by omega, hyl0, hyl1, hg, rfl⟩
  refine CwpE.cut (st := ⟨clH [c0, c1] 2 w fr x 0, col2O r0 r1⟩) ?_ ?_
  ·simp only [go_sem, ↓reduceIte, Nat.reduceLT]
   exact ⟨_, WkE.keep (by simp only [go_sem, ↓reduceIte, reduceCtorEq, Nat.reduceEqDiff, k0]), rfl⟩
  refine CwpE.block ?_
  refine loopXC 4 (fun u s => (u = 2 /\ s = ⟨clH [c0, c1] 2 w fr x 0, col2O r0 r1⟩) \/ (u = 1 /\ s = ⟨clH [c0, c1] 2 w fr x 1, col2O y0 r1⟩) \/ (u = 0 /\ s = ⟨clH [c0, c1] 2 w fr x 2, col2O y0 y1⟩)) (fun s => s = ⟨clE [c0, c1] 2 w fr x, col2O y0 y1⟩) 2 ⟨clH [c0, c1] 2 w fr x 0, col2O r0 r1⟩ (.refl _ _) (.inl ⟨rfl, rfl⟩) ?_ ?_
  rotate_left
  ·rintro s rfl
   simp only [inBlockE, if_true]
   exact ⟨_, .refl _ _, rfl⟩
  rintro u s (⟨rfl, rfl⟩ | ⟨rfl, rfl⟩ | ⟨rfl, rfl⟩)
  ·refine CwpE.cut (st := ⟨clH [c0, c1] 2 w fr x 0, col2O r0 r1⟩) ?_ ?_
   ·simp only [go_sem, ↓reduceIte, reduceCtorEq, Nat.reduceLT, Nat.reduceEqDiff, Nat.reduceAdd, k0, k2, l02]
    exact ⟨_, WkE.keep (by simp only [go_sem, ↓reduceIte, reduceCtorEq, Nat.reduceEqDiff, k0]), rfl⟩
   refine CwpE.seqJ (fun s => s = ⟨clH [c0, c1] 2 w fr x 0, col2O y0 r1⟩) (CwpE.block ?_) ?_
   rotate_left
   ·rintro _ rfl
    refine CwpE.vc ?_
    simp only [go_sem, ↓reduceIte, Nat.reduceLT, k0, w01]
    exact ⟨1, ⟨clH [c0, c1] 2 w fr x 1, col2O y0 r1⟩, by omega, WkE.keep (by simp only [go_sem, ↓reduceIte, reduceCtorEq, Nat.reduceEqDiff, k1]), .inr (.inl ⟨rfl, rfl⟩)⟩
   refine CwpE.cut (st := ⟨(10, .own 3 0 0 0) :: clH [c0, c1] 2 w fr x 0, col2O r0 r1 ++ [.arr 0 1 5 []]⟩) ?_ ?_
   ·simp only [go_sem, ↓reduceIte, Nat.reduceLT]
    refine ⟨⟨(10, .own 3 0 0 0) :: clH [c0, c1] 2 w fr x 0, col2O r0 r1 ++ [.arr 0 1 5 []]⟩, (WkE.nil 10 1 5 (by omega) rfl).trans (WkE.keep ?_), rfl⟩
    simp only [go_sem, ↓reduceIte, reduceCtorEq, Nat.reduceEqDiff, Nat.reduceAdd, k0]
   refine CwpE.seqJ (fun s => s = ⟨(10, vbytes (cutP c0 fr x)) :: clH [c0, c1] 2 w fr x 0, col2O r0 r1⟩) ?_ ?_
   ·refine CwpE.cut (st := ⟨[(10, .own 3 0 0 0), (11, vi fr)] ++ clH [c0, c1] 2 w fr x 0, col2O r0 r1 ++ [.arr 0 1 5 []]⟩) ?_ ?_
    ·simp only [go_sem, ↓reduceIte, reduceCtorEq, Nat.reduceLT, Nat.reduceEqDiff, List.cons_append, List.nil_append]
     exact ⟨_, WkE.keep (by simp only [go_sem, ↓reduceIte, reduceCtorEq, Nat.reduceEqDiff, k0]), rfl⟩
    ·exact take_loop2 F0 w0 [c0, c1] w fr x 0 r0 r1 c0 (by simp) rfl hfr (by omega) (by simp) (by omega) ⟨_, .refl _ _, rfl⟩
   rintro _ rfl
   refine CwpE.seqJ (fun s => s = ⟨(10, vbytes (trimP (cutP c0 fr x))) :: clH [c0, c1] 2 w fr x 0, col2O r0 r1⟩) ?_ ?_
   ·exact trimR_s F0 w0 [c0, c1] 2 w fr x 0 _ _ (by have := cut_len c0 fr x; omega) ⟨_, .refl _ _, rfl⟩
   rintro _ rfl
   exact colput20 F0 w0 [c0, c1] w fr x r0 r1 _ (by omega) fun s hs => ⟨_, hs, by rw [hy0]⟩
  ·refine CwpE.cut (st := ⟨clH [c0, c1] 2 w fr x 1, col2O y0 r1⟩) ?_ ?_
   ·simp only [go_sem, ↓reduceIte, reduceCtorEq, Nat.reduceLT, Nat.reduceEqDiff, Nat.reduceAdd, k1, k2, l12]
    exact ⟨_, WkE.keep (by simp only [go_sem, ↓reduceIte, reduceCtorEq, Nat.reduceEqDiff, k1]), rfl⟩
   refine CwpE.seqJ (fun s => s = ⟨clH [c0, c1] 2 w fr x 1, col2O y0 y1⟩) (CwpE.block ?_) ?_
   rotate_left
   ·rintro _ rfl
    refine CwpE.vc ?_
    simp only [go_sem, ↓reduceIte, Nat.reduceLT, k1, w12]
    exact ⟨0, ⟨clH [c0, c1] 2 w fr x 2, col2O y0 y1⟩, by omega, WkE.keep (by simp only [go_sem, ↓reduceIte, reduceCtorEq, Nat.reduceEqDiff, k2]), .inr (.inr (⟨rfl, rfl⟩))⟩
   refine CwpE.cut (st := ⟨(10, .own 3 0 0 0) :: clH [c0, c1] 2 w fr x 1, col2O y0 r1 ++ [.arr 0 1 5 []]⟩) ?_ ?_
   ·simp only [go_sem, ↓reduceIte, Nat.reduceLT]
    refine ⟨⟨(10, .own 3 0 0 0) :: clH [c0, c1] 2 w fr x 1, col2O y0 r1 ++ [.arr 0 1 5 []]⟩, (WkE.nil 10 1 5 (by omega) rfl).trans (WkE.keep ?_), rfl⟩
    simp only [go_sem, ↓reduceIte, reduceCtorEq, Nat.reduceEqDiff, Nat.reduceAdd, k1]
   refine CwpE.seqJ (fun s => s = ⟨(10, vbytes (cutP c1 fr x)) :: clH [c0, c1] 2 w fr x 1, col2O y0 r1⟩) ?_ ?_
   ·refine CwpE.cut (st := ⟨[(10, .own 3 0 0 0), (11, vi fr)] ++ clH [c0, c1] 2 w fr x 1, col2O y0 r1 ++ [.arr 0 1 5 []]⟩) ?_ ?_
    ·simp only [go_sem, ↓reduceIte, reduceCtorEq, Nat.reduceLT, Nat.reduceEqDiff, List.cons_append, List.nil_append]
     exact ⟨_, WkE.keep (by simp only [go_sem, ↓reduceIte, reduceCtorEq, Nat.reduceEqDiff, k1]), rfl⟩
    ·exact take_loop2 F0 w0 [c0, c1] w fr x 1 y0 r1 c1 (by simp) rfl hfr (by omega) (by simp) (by omega) ⟨_, .refl _ _, rfl⟩
   rintro _ rfl
   refine CwpE.seqJ (fun s => s = ⟨(10, vbytes (trimP (cutP c1 fr x))) :: clH [c0, c1] 2 w fr x 1, col2O y0 r1⟩) ?_ ?_
   ·exact trimR_s F0 w0 [c0, c1] 2 w fr x 1 _ _ (by have := cut_len c1 fr x; omega) ⟨_, .refl _ _, rfl⟩
   rintro _ rfl
   exact colput21 F0 w0 [c0, c1] w fr x y0 r1 _ (by omega) fun s hs => ⟨_, hs, by rw [hy1]⟩
  ·refine CwpE.vc ?_
   simp only [go_sem, ↓reduceIte, reduceCtorEq, Nat.reduceLT, Nat.reduceEqDiff, Nat.reduceAdd, Int.lt_irrefl, k2]
   exact ⟨_, WkE.keep (by simp only [go_sem, ↓reduceIte, reduceCtorEq, Nat.reduceEqDiff]), rfl⟩
theorem columns_s (l : List (List Int)) (hn : l.length = 1 \/ l.length = 2) (hl : ∀ c ∈ l, c.length <= 1000) : Ctr Tryd.prog 77 [vpage l] (vbars (barsP l)) := by
 rcases hn with h | h
 ·obtain ⟨a, rfl⟩ := one_of h
  exact cols_1 a (hl a (by simp))
 ·obtain ⟨a, b, rfl⟩ := two_of h
  exact cols_2 a b (hl a (by simp)) (hl b (by simp))
end Go.Proofs.YtnncijjkbonokaaDoor
namespace Go.Proofs.YtnncijjkbonokaaDoor
open Go.RowKit Dak
def parsedP (p : List (List Int)) (hands : Nat) : List (List (List Nt)) × Bool :=
 if p.length = 0 \/ p.length % hands ≠ 0 \/ 64 < p.length then ([], false) else
 if (guessGo hands (pieces hands p) (List.replicate hands [])).2 = true then ((guessGo hands (pieces hands p) (List.replicate hands [])).1, decide (validE (guessGo hands (pieces hands p) (List.replicate hands [])).1 = 0))
 else ([], false)
end Go.Proofs.YtnncijjkbonokaaDoor
namespace Go.Proofs.YtnncijjkbonokaaDoor
open Go.RowKit Dak
abbrev pdB : CCode := match c48 with | .seq _ (.seq _ (.seq _ (.seq (.seq _ (.block _ (.loop (.seq _ (.seq (.block _ b) _))))) _))) => b | _ => .skip
abbrev pdH : CCode := match pdB with | .seq _ (.seq _ (.seq _ (.seq _ (.block _ (.loop (.seq _ (.seq (.block _ (.seq _ b)) _))))))) => b | _ => .skip
abbrev pdE (p : List (List Int)) (n i : Nat) : List (Nat × AV) := [(0, vpage p), (1, vi n), (4, .ref 0 1 0 0), (6, .ref 2 1 0 0), (7, vi i)]
abbrev pdL (p : List (List Int)) (n i : Nat) (B : List (List (List Int))) (h : Nat) : List (Nat × AV) := [(11, vbars B), (12, vi h)] ++ pdE p n i
abbrev phE (p : List (List Int)) (n i : Nat) (B : List (List (List Int))) (h : Nat) (last : Int) (j : Nat) : List (Nat × AV) := [(13, vi last), (14, vi j)] ++ pdL p n i B h
abbrev pd1O (h0 : List (List Nt)) : List AObj := [.arr 1 1 25 [nilT], .arr 1 1 28 [.own 3 h0.length 0 h0.length], .arr 1 1 25 [.agg [.own 1 1 0 1]], .arr h0.length 1 34 (h0.map vbar)]
abbrev pd2O (h0 h1 : List (List Nt)) : List AObj := [.arr 1 1 25 [nilT], .arr 2 1 28 [.own 3 h0.length 0 h0.length, .own 4 h1.length 0 h1.length], .arr 1 1 25 [.agg [.own 1 2 0 2]], .arr h0.length 1 34 (h0.map vbar), .arr h1.length 1 34 (h1.map vbar)]
def FailP (Q : Exit -> Est -> Prop) : Prop := ∀ env objs, lk env 4 = .ref 0 1 0 0 -> lk env 5 = vb false -> cellsAt objs (.ref 0 1 0 0) = some [.val (.slice none 0 0)] -> Q .ret ⟨env, objs⟩
set_option maxRecDepth 100000 in
theorem phand10 (F0 : FD) (w0 : World) (p : List (List Int)) (i : Nat) (b0 : List (List Int)) (h0 : List (List Nt)) (hb : b0.length <= 1000) (hbc : ∀ c ∈ b0, c.length <= 100000) (hh : h0.length <= 100000)
 {Q : Exit -> Est -> Prop} (hQ1 : (handGo b0 (-1) h0).2 = true -> Q .normal ⟨pdL p 1 i [b0] 0, pd1O (handGo b0 (-1) h0).1⟩)
 (hQ2 : (handGo b0 (-1) h0).2 = false -> FailP Q) :
 CwpE Tryd.prog F0 w0 120 pdH Q ⟨(13, vi (-1)) :: pdL p 1 i [b0] 0, pd1O h0⟩ := by
 have k0 : ((0 : Nat) : Int) = 0 := rfl
 have k1 : ((1 : Nat) : Int) = 1 := rfl
 have k2 : ((2 : Nat) : Int) = 2 := rfl
 have l01 : (0 : Int) < 1 := by decide
 have l02 : (0 : Int) < 2 := by decide
 have l12 : (1 : Int) < 2 := by decide
 have le01 : (0 : Int) <= 1 := by decide
 unfold pdH pdB c48
 refine CwpE.cut (st := ⟨phE p 1 i [b0] 0 (-1) 0, pd1O h0⟩) ?_ ?_
 ·simp only [go_sem, ↓reduceIte, Nat.reduceLT, Int.reduceNeg, List.cons_append, List.nil_append]
  exact ⟨_, WkE.keep (by simp only [go_sem, ↓reduceIte, reduceCtorEq, Nat.reduceEqDiff, k0]), rfl⟩
 refine CwpE.block ?_
 refine loopX 6 (fun z s => ∃ (j : Nat) (last : Int) (acc : List (List Nt)), z = b0.length - j /\ j <= b0.length /\ acc.length <= h0.length + j /\ small last /\ handGo (b0.drop j) last acc = handGo b0 (-1) h0 /\ s = ⟨phE p 1 i [b0] 0 last j, pd1O acc⟩)
  (fun s => (handGo b0 (-1) h0).2 = true /\ s = ⟨pdL p 1 i [b0] 0, pd1O (handGo b0 (-1) h0).1⟩) b0.length ⟨phE p 1 i [b0] 0 (-1) 0, pd1O h0⟩ (.refl _ _) ⟨0, -1, h0, by omega, by omega, by omega, ⟨by omega, by omega⟩, rfl, rfl⟩ ?_ ?_
 rotate_left
 ·rintro s ⟨e, rfl⟩
  simp only [inBlockE, if_true]
  exact hQ1 e
 rintro z s ⟨j, last, acc, rfl, hj, hacc, hsm, hg, rfl⟩
 by_cases hlt : j < b0.length
 rotate_left
 ·have hjl : ¬ (j : Int) < (b0.length : Int) := by omega
  rw [List.drop_eq_nil_of_le (by omega), handGo] at hg
  simp only [go_sem, ↓reduceIte, Nat.reduceLT, Nat.reduceEqDiff, Int.reduceToNat, Int.reduceNeg, Int.reduceToNat, Int.le_refl, k0, hjl, List.length_map, List.cons_append, List.nil_append]
  rw [<- hg]
  exact ⟨_, WkE.keep (by simp only [go_sem, ↓reduceIte, reduceCtorEq, Nat.reduceEqDiff, k1]), rfl, rfl⟩
 have hjl : (j : Int) < (b0.length : Int) := by omega
 have h0' : (0 : Int) <= (j : Int) := by omega
 have hw : IntKind.i64.wrap ((j : Int) + 1) = ((j + 1 : Nat) : Int) := by rw [wrap_id (by omega) (by omega)]; omega
 have hc := hbc _ (List.getElem_mem hlt)
 rw [List.drop_eq_getElem_cons hlt, handGo] at hg
 obtain ⟨c, hcc⟩ : ∃ c, b0[j] = c := ⟨_, rfl⟩
 have hgl : b0[j]? = some c := by rw [List.getElem?_eq_getElem hlt, hcc]
 rw [hcc] at hg hc
 simp only [go_sem, ↓reduceIte, Nat.reduceLT, Nat.reduceEqDiff, Int.reduceToNat, Int.reduceNeg, Int.reduceToNat, Int.le_refl, k0, hjl, h0', List.length_map, List.getElem?_map, hgl, Option.map_some, List.cons_append, List.nil_append]
 refine callT (read_s c last (by omega) hsm) rfl ?_
 cases hp : parseP c last with
 | none =>
  rw [hp] at hg
  simp only at hg
  have e2 : (handGo b0 (-1) h0).2 = false := by rw [<- hg]
  simp only [go_sem, ↓reduceIte, reduceCtorEq, Nat.reduceLT, Nat.reduceEqDiff, Int.reduceNeg, parR]
  exact hQ2 e2 _ _ rfl rfl rfl
 | some r =>
  obtain ⟨l, sp⟩ := r
  rw [hp] at hg
  simp only at hg
  have hok := parseP_ok hc hsm hp
  have q1 : (acc.length + 1) * 24 <= 140737488355328 := by omega
  have htk : List.take acc.length (acc.map vbar) = acc.map vbar := List.take_of_length_le (by simp)
  have e2 : (acc ++ [l]).length = acc.length + 1 := by simp
  have e3 : (acc ++ [l]).map vbar = acc.map vbar ++ [vbar l] := by simp
  simp only [go_sem, Nat.reducePow, Nat.reduceLeDiff, ↓reduceIte, reduceCtorEq, Nat.reduceLT, Nat.reduceEqDiff, Nat.reduceAdd, Nat.reduceMul, Int.reduceToNat, Int.reduceNeg, Int.reduceToNat, Int.le_refl, parR, k1, l01, q1, htk, hw, List.cons_append, List.nil_append]
  refine ⟨b0.length - (j + 1), ⟨phE p 1 i [b0] 0 sp (j + 1), pd1O (acc ++ [l])⟩, by omega, ?_, j + 1, sp, acc ++ [l], rfl, by omega, by simp; omega, hok.2, hg, rfl⟩
  simp only [pd1O, e2, e3]
  exact WkE.keep (by simp only [go_sem, ↓reduceIte, reduceCtorEq, Nat.reduceEqDiff, k0, k1, List.cons_append, List.nil_append])
set_option maxRecDepth 100000 in
theorem phand20 (F0 : FD) (w0 : World) (p : List (List Int)) (i : Nat) (b0 b1 : List (List Int)) (h0 h1 : List (List Nt)) (hb : b0.length <= 1000) (hbc : ∀ c ∈ b0, c.length <= 100000) (hh : h0.length <= 100000)
 {Q : Exit -> Est -> Prop} (hQ1 : (handGo b0 (-1) h0).2 = true -> Q .normal ⟨pdL p 2 i [b0, b1] 0, pd2O (handGo b0 (-1) h0).1 h1⟩)
 (hQ2 : (handGo b0 (-1) h0).2 = false -> FailP Q) :
 CwpE Tryd.prog F0 w0 120 pdH Q ⟨(13, vi (-1)) :: pdL p 2 i [b0, b1] 0, pd2O h0 h1⟩ := by
 have k0 : ((0 : Nat) : Int) = 0 := rfl
 have k1 : ((1 : Nat) : Int) = 1 := rfl
 have k2 : ((2 : Nat) : Int) = 2 := rfl
 have l01 : (0 : Int) < 1 := by decide
 have l02 : (0 : Int) < 2 := by decide
 have l12 : (1 : Int) < 2 := by decide
 have le01 : (0 : Int) <= 1 := by decide
 unfold pdH pdB c48
 refine CwpE.cut (st := ⟨phE p 2 i [b0, b1] 0 (-1) 0, pd2O h0 h1⟩) ?_ ?_
 ·simp only [go_sem, ↓reduceIte, Nat.reduceLT, Int.reduceNeg, List.cons_append, List.nil_append]
  exact ⟨_, WkE.keep (by simp only [go_sem, ↓reduceIte, reduceCtorEq, Nat.reduceEqDiff, k0]), rfl⟩
 refine CwpE.block ?_
 refine loopX 6 (fun z s => ∃ (j : Nat) (last : Int) (acc : List (List Nt)), z = b0.length - j /\ j <= b0.length /\ acc.length <= h0.length + j /\ small last /\ handGo (b0.drop j) last acc = handGo b0 (-1) h0 /\ s = ⟨phE p 2 i [b0, b1] 0 last j, pd2O acc h1⟩)
  (fun s => (handGo b0 (-1) h0).2 = true /\ s = ⟨pdL p 2 i [b0, b1] 0, pd2O (handGo b0 (-1) h0).1 h1⟩) b0.length ⟨phE p 2 i [b0, b1] 0 (-1) 0, pd2O h0 h1⟩ (.refl _ _) ⟨0, -1, h0, by omega, by omega, by omega, ⟨by omega, by omega⟩, rfl, rfl⟩ ?_ ?_
 rotate_left
 ·rintro s ⟨e, rfl⟩
  simp only [inBlockE, if_true]
  exact hQ1 e
 rintro z s ⟨j, last, acc, rfl, hj, hacc, hsm, hg, rfl⟩
 by_cases hlt : j < b0.length
 rotate_left
 ·have hjl : ¬ (j : Int) < (b0.length : Int) := by omega
  rw [List.drop_eq_nil_of_le (by omega), handGo] at hg
  simp only [go_sem, ↓reduceIte, Nat.reduceLT, Nat.reduceEqDiff, Int.reduceToNat, Int.reduceNeg, Int.reduceToNat, Int.le_refl, k0, hjl, List.length_map, List.cons_append, List.nil_append]
  rw [<- hg]
  exact ⟨_, WkE.keep (by simp only [go_sem, ↓reduceIte, reduceCtorEq, Nat.reduceEqDiff, k2]), rfl, rfl⟩
 have hjl : (j : Int) < (b0.length : Int) := by omega
 have h0' : (0 : Int) <= (j : Int) := by omega
 have hw : IntKind.i64.wrap ((j : Int) + 1) = ((j + 1 : Nat) : Int) := by rw [wrap_id (by omega) (by omega)]; omega
 have hc := hbc _ (List.getElem_mem hlt)
 rw [List.drop_eq_getElem_cons hlt, handGo] at hg
 obtain ⟨c, hcc⟩ : ∃ c, b0[j] = c := ⟨_, rfl⟩
 have hgl : b0[j]? = some c := by rw [List.getElem?_eq_getElem hlt, hcc]
 rw [hcc] at hg hc
 simp only [go_sem, ↓reduceIte, Nat.reduceLT, Nat.reduceEqDiff, Int.reduceToNat, Int.reduceNeg, Int.reduceToNat, Int.le_refl, k0, hjl, h0', List.length_map, List.getElem?_map, hgl, Option.map_some, List.cons_append, List.nil_append]
 refine callT (read_s c last (by omega) hsm) rfl ?_
 cases hp : parseP c last with
 | none =>
  rw [hp] at hg
  simp only at hg
  have e2 : (handGo b0 (-1) h0).2 = false := by rw [<- hg]
  simp only [go_sem, ↓reduceIte, reduceCtorEq, Nat.reduceLT, Nat.reduceEqDiff, Int.reduceNeg, parR]
  exact hQ2 e2 _ _ rfl rfl rfl
 | some r =>
  obtain ⟨l, sp⟩ := r
  rw [hp] at hg
  simp only at hg
  have hok := parseP_ok hc hsm hp
  have q1 : (acc.length + 1) * 24 <= 140737488355328 := by omega
  have htk : List.take acc.length (acc.map vbar) = acc.map vbar := List.take_of_length_le (by simp)
  have e2 : (acc ++ [l]).length = acc.length + 1 := by simp
  have e3 : (acc ++ [l]).map vbar = acc.map vbar ++ [vbar l] := by simp
  simp only [go_sem, Nat.reducePow, Nat.reduceLeDiff, ↓reduceIte, reduceCtorEq, Nat.reduceLT, Nat.reduceEqDiff, Nat.reduceAdd, Nat.reduceMul, Int.reduceToNat, Int.reduceNeg, Int.reduceToNat, Int.le_refl, parR, k2, l02, q1, htk, hw, List.cons_append, List.nil_append]
  refine ⟨b0.length - (j + 1), ⟨phE p 2 i [b0, b1] 0 sp (j + 1), pd2O (acc ++ [l]) h1⟩, by omega, ?_, j + 1, sp, acc ++ [l], rfl, by omega, by simp; omega, hok.2, hg, rfl⟩
  simp only [pd2O, e2, e3]
  exact WkE.keep (by simp only [go_sem, ↓reduceIte, reduceCtorEq, Nat.reduceEqDiff, k0, k2, List.cons_append, List.nil_append])
set_option maxRecDepth 100000 in
theorem phand21 (F0 : FD) (w0 : World) (p : List (List Int)) (i : Nat) (b0 b1 : List (List Int)) (h0 h1 : List (List Nt)) (hb : b1.length <= 1000) (hbc : ∀ c ∈ b1, c.length <= 100000) (hh : h1.length <= 100000)
 {Q : Exit -> Est -> Prop} (hQ1 : (handGo b1 (-1) h1).2 = true -> Q .normal ⟨pdL p 2 i [b0, b1] 1, pd2O h0 (handGo b1 (-1) h1).1⟩)
 (hQ2 : (handGo b1 (-1) h1).2 = false -> FailP Q) :
 CwpE Tryd.prog F0 w0 120 pdH Q ⟨(13, vi (-1)) :: pdL p 2 i [b0, b1] 1, pd2O h0 h1⟩ := by
 have k0 : ((0 : Nat) : Int) = 0 := rfl
 have k1 : ((1 : Nat) : Int) = 1 := rfl
 have k2 : ((2 : Nat) : Int) = 2 := rfl
 have l01 : (0 : Int) < 1 := by decide
 have l02 : (0 : Int) < 2 := by decide
 have l12 : (1 : Int) < 2 := by decide
 have le01 : (0 : Int) <= 1 := by decide
 unfold pdH pdB c48
 refine CwpE.cut (st := ⟨phE p 2 i [b0, b1] 1 (-1) 0, pd2O h0 h1⟩) ?_ ?_
 ·simp only [go_sem, ↓reduceIte, Nat.reduceLT, Int.reduceNeg, List.cons_append, List.nil_append]
  exact ⟨_, WkE.keep (by simp only [go_sem, ↓reduceIte, reduceCtorEq, Nat.reduceEqDiff, k0]), rfl⟩
 refine CwpE.block ?_
 refine loopX 6 (fun z s => ∃ (j : Nat) (last : Int) (acc : List (List Nt)), z = b1.length - j /\ j <= b1.length /\ acc.length <= h1.length + j /\ small last /\ handGo (b1.drop j) last acc = handGo b1 (-1) h1 /\ s = ⟨phE p 2 i [b0, b1] 1 last j, pd2O h0 acc⟩)
  (fun s => (handGo b1 (-1) h1).2 = true /\ s = ⟨pdL p 2 i [b0, b1] 1, pd2O h0 (handGo b1 (-1) h1).1⟩) b1.length ⟨phE p 2 i [b0, b1] 1 (-1) 0, pd2O h0 h1⟩ (.refl _ _) ⟨0, -1, h1, by omega, by omega, by omega, ⟨by omega, by omega⟩, rfl, rfl⟩ ?_ ?_
 rotate_left
 ·rintro s ⟨e, rfl⟩
  simp only [inBlockE, if_true]
  exact hQ1 e
 rintro z s ⟨j, last, acc, rfl, hj, hacc, hsm, hg, rfl⟩
 by_cases hlt : j < b1.length
 rotate_left
 ·have hjl : ¬ (j : Int) < (b1.length : Int) := by omega
  rw [List.drop_eq_nil_of_le (by omega), handGo] at hg
  simp only [go_sem, ↓reduceIte, Nat.reduceLT, Nat.reduceEqDiff, Int.reduceToNat, Int.reduceNeg, Int.reduceToNat, k1, le01, hjl, List.length_map, List.cons_append, List.nil_append]
  rw [<- hg]
  exact ⟨_, WkE.keep (by simp only [go_sem, ↓reduceIte, reduceCtorEq, Nat.reduceEqDiff, k2]), rfl, rfl⟩
 have hjl : (j : Int) < (b1.length : Int) := by omega
 have h0' : (0 : Int) <= (j : Int) := by omega
 have hw : IntKind.i64.wrap ((j : Int) + 1) = ((j + 1 : Nat) : Int) := by rw [wrap_id (by omega) (by omega)]; omega
 have hc := hbc _ (List.getElem_mem hlt)
 rw [List.drop_eq_getElem_cons hlt, handGo] at hg
 obtain ⟨c, hcc⟩ : ∃ c, b1[j] = c := ⟨_, rfl⟩
 have hgl : b1[j]? = some c := by rw [List.getElem?_eq_getElem hlt, hcc]
 rw [hcc] at hg hc
 simp only [go_sem, ↓reduceIte, Nat.reduceLT, Nat.reduceEqDiff, Int.reduceToNat, Int.reduceNeg, Int.reduceToNat, k1, le01, hjl, h0', List.length_map, List.getElem?_map, hgl, Option.map_some, List.cons_append, List.nil_append]
 refine callT (read_s c last (by omega) hsm) rfl ?_
 cases hp : parseP c last with
 | none =>
  rw [hp] at hg
  simp only at hg
  have e2 : (handGo b1 (-1) h1).2 = false := by rw [<- hg]
  simp only [go_sem, ↓reduceIte, reduceCtorEq, Nat.reduceLT, Nat.reduceEqDiff, Int.reduceNeg, parR]
  exact hQ2 e2 _ _ rfl rfl rfl
 | some r =>
  obtain ⟨l, sp⟩ := r
  rw [hp] at hg
  simp only at hg
  have hok := parseP_ok hc hsm hp
  have q1 : (acc.length + 1) * 24 <= 140737488355328 := by omega
  have htk : List.take acc.length (acc.map vbar) = acc.map vbar := List.take_of_length_le (by simp)
  have e2 : (acc ++ [l]).length = acc.length + 1 := by simp
  have e3 : (acc ++ [l]).map vbar = acc.map vbar ++ [vbar l] := by simp
  simp only [go_sem, Nat.reducePow, Nat.reduceLeDiff, ↓reduceIte, reduceCtorEq, Nat.reduceLT, Nat.reduceEqDiff, Nat.reduceAdd, Nat.reduceMul, Int.reduceToNat, Int.reduceNeg, Int.reduceToNat, parR, k2, l12, le01, q1, htk, hw, List.cons_append, List.nil_append]
  refine ⟨b1.length - (j + 1), ⟨phE p 2 i [b0, b1] 1 sp (j + 1), pd2O h0 (acc ++ [l])⟩, by omega, ?_, j + 1, sp, acc ++ [l], rfl, by omega, by simp; omega, hok.2, hg, rfl⟩
  simp only [pd2O, e2, e3]
  exact WkE.keep (by simp only [go_sem, ↓reduceIte, reduceCtorEq, Nat.reduceEqDiff, k1, k2, List.cons_append, List.nil_append])
set_option maxRecDepth 100000 in
theorem ppiece1 (F0 : FD) (w0 : World) (p : List (List Int)) (i : Nat) (h0 : List (List Nt)) (c0 : List Int) (hp0 : p[i]? = some c0) (hil : i + 1 <= p.length) (hpl : p.length <= 1000) (hh0 : h0.length <= 10000)
 {Q : Exit -> Est -> Prop} (hQ1 : ∀ x0, guessGo 1 [[c0]] [h0] = ([x0], true) -> x0.length <= h0.length + 50 -> Q .normal ⟨pdE p 1 i, pd1O x0⟩)
 (hQ2 : ∀ x0, guessGo 1 [[c0]] [h0] = ([x0], false) -> FailP Q) :
 CwpE Tryd.prog F0 w0 120 pdB Q ⟨pdE p 1 i, pd1O h0⟩ := by
 have k0 : ((0 : Nat) : Int) = 0 := rfl
 have k1 : ((1 : Nat) : Int) = 1 := rfl
 have k2 : ((2 : Nat) : Int) = 2 := rfl
 have l01 : (0 : Int) < 1 := by decide
 have l02 : (0 : Int) < 2 := by decide
 have l12 : (1 : Int) < 2 := by decide
 have le01 : (0 : Int) <= 1 := by decide
 have n12 : ¬ (1 : Int) = 2 := by decide
 have w01 : IntKind.i64.wrap (0 + 1) = 1 := by decide
 have w12 : IntKind.i64.wrap (1 + 1) = 2 := by decide
 have wi0 : IntKind.i64.wrap ((i : Int) + 0) = ((i : Nat) : Int) := by rw [wrap_id (by omega) (by omega)]; omega
 have li0 : ((i : Nat) : Int) < (p.length : Int) := by omega
 have zi0 : (0 : Int) <= ((i : Nat) : Int) := by omega
 have bad : [c0].any (badC 1) = true -> FailP Q := fun h => hQ2 h0 (by rw [guessGo, if_pos h])
 have hinr : ∀ (k : Nat) (r : List (List Nt)), (r.map vbar).all (AV.inn k) = true := fun k r => inn_map fun _ => rfl
 unfold pdB c48
 refine CwpE.cut (st := ⟨(8, .own 4 0 0 0) :: pdE p 1 i, pd1O h0 ++ [.arr 0 1 30 []]⟩) ?_ ?_
 ·simp only [go_sem, ↓reduceIte, Nat.reduceLT]
  refine ⟨⟨(8, .own 4 0 0 0) :: pdE p 1 i, pd1O h0 ++ [.arr 0 1 30 []]⟩, (WkE.nil 8 1 30 (by omega) rfl).trans (WkE.keep ?_), rfl⟩
  simp only [go_sem, ↓reduceIte, reduceCtorEq, Nat.reduceEqDiff, Nat.reduceAdd, k1]
 refine CwpE.seqJ (fun s => [c0].any (badC 1) = false /\ s = ⟨(8, vpage [c0]) :: pdE p 1 i, pd1O h0⟩) ?_ ?_
 ·refine CwpE.cut (st := ⟨[(8, .own 4 0 0 0), (9, vi 0)] ++ pdE p 1 i, pd1O h0 ++ [.arr 0 1 30 []]⟩) ?_ ?_
  ·simp only [go_sem, ↓reduceIte, Nat.reduceLT, List.cons_append, List.nil_append]
   exact ⟨_, WkE.keep (by simp only [go_sem, ↓reduceIte, reduceCtorEq, Nat.reduceEqDiff, k1]), rfl⟩
  refine CwpE.block ?_
  refine loopX 2 (fun u s => (u = 1 /\ s = ⟨[(8, .own 4 0 0 0), (9, vi 0)] ++ pdE p 1 i, pd1O h0 ++ [.arr 0 1 30 []]⟩) \/ (u = 0 /\ badC 1 c0 = false /\ s = ⟨[(8, .own 4 1 0 1), (9, vi 1)] ++ pdE p 1 i, pd1O h0 ++ [.arr 1 1 30 [vbytes c0]]⟩)) (fun s => [c0].any (badC 1) = false /\ s = ⟨(8, vpage [c0]) :: pdE p 1 i, pd1O h0⟩) 1 ⟨[(8, .own 4 0 0 0), (9, vi 0)] ++ pdE p 1 i, pd1O h0 ++ [.arr 0 1 30 []]⟩ (.refl _ _) (.inl ⟨rfl, rfl⟩) ?_ ?_
  rotate_left
  ·rintro s ⟨e, rfl⟩
   simp only [inBlockE, if_true]
   exact ⟨_, .refl _ _, e, rfl⟩
  rintro u s (⟨rfl, rfl⟩ | ⟨rfl, p0, rfl⟩)
  ·by_cases a1 : (40 : Int) < (c0.length : Int)
   ·have hbd : badC 1 c0 = true := by simp only [badC, show 40 < c0.length from by omega, decide_true, Bool.true_or]
    simp only [go_sem, ↓reduceIte, reduceCtorEq, Nat.reduceLT, Nat.reduceEqDiff, k1, l01, wi0, zi0, List.getElem?_map, hp0, Option.map_some, a1, List.cons_append, List.nil_append]
    exact bad (by simp only [List.any_cons, hbd, Bool.true_or]) _ _ rfl rfl rfl
   have a2 : True := trivial
   have hok : badC 1 c0 = false := by
    simp only [badC, show ¬ 40 < c0.length from by omega, show ¬ c0.length < 1 - 1 from by omega, decide_false, Bool.or_false]
   have a3 : (0 : Int) <= (c0.length : Int) := by omega
   have htl : List.take c0.length (c0.map vu) = c0.map vu := List.take_of_length_le (by simp)
   simp only [go_sem, Nat.reducePow, Nat.reduceLeDiff, ↓reduceIte, reduceCtorEq, Nat.reduceLT, Nat.reduceEqDiff, Nat.reduceAdd, Nat.reduceMul, k1, l01, n12, w01, wi0, zi0, List.getElem?_map, hp0, Option.map_some, a1, List.take_zero, List.cons_append, List.nil_append]
   exact ⟨0, ⟨[(8, .own 4 1 0 1), (9, vi 1)] ++ pdE p 1 i, pd1O h0 ++ [.arr 1 1 30 [vbytes c0]]⟩, by omega, WkE.keep (by simp only [go_sem, ↓reduceIte, reduceCtorEq, Nat.reduceEqDiff, k1, List.cons_append, List.nil_append]), .inr (⟨rfl, hok, rfl⟩)⟩
  ·simp only [go_sem, ↓reduceIte, reduceCtorEq, Nat.reduceLT, Nat.reduceEqDiff, Int.lt_irrefl, k1, List.cons_append, List.nil_append]
   refine ⟨⟨(8, vpage [c0]) :: pdE p 1 i, pd1O h0⟩, ?_, by simp only [List.any_cons, List.any_nil, p0, Bool.or_false], rfl⟩
   refine (WkE.freeze 8 4 1 0 1 1 30 _ (by omega) rfl rfl (by simp) rfl).trans (WkE.round ?_ ?_ ?_ ?_)
   ·simp only [go_sem, ↓reduceIte, reduceCtorEq, Nat.reduceEqDiff, k1, List.take_succ_cons, List.take_zero, List.drop_zero]
    rfl
   ·rfl
   ·simp only [List.all_cons, List.all_nil, AObj.innO, hinr, List.length_cons, List.length_nil, Nat.zero_add, Nat.reduceAdd, Bool.and_true]
    rfl
   ·rfl
 rintro _ ⟨hany, rfl⟩
 have h40 : ∀ c ∈ [c0], c.length <= 40 := fun c hc => by
  have := List.any_eq_false.1 hany c hc
  simp only [badC, Bool.or_eq_true, decide_eq_true_eq, not_or] at this
  omega
 have hbok2 := barsP_ok [c0] 40 (fun c hc => by
  simp only [List.mem_cons, List.not_mem_nil, or_false] at hc
  skip
  ·have := h40 c (by simp [hc]); omega)
 have hbar := columns_s [c0] (by simp) (fun c hc => by
  simp only [List.mem_cons, List.not_mem_nil, or_false] at hc
  skip
  ·have := h40 c (by simp [hc]); omega)
 have hg : ∀ m, handsGo (barsP [c0]) [h0] = (m, true) -> guessGo 1 [[c0]] [h0] = (m, true) := fun m h => by
  rw [guessGo, if_neg (by rw [hany]; simp)]
  rw [show List.map (List.drop (1 - 1)) [c0] = [c0] from rfl, h]
  rfl
 have hg2 : ∀ m, handsGo (barsP [c0]) [h0] = (m, false) -> guessGo 1 [[c0]] [h0] = (m, false) := fun m h => by
  rw [guessGo, if_neg (by rw [hany]; simp)]
  rw [show List.map (List.drop (1 - 1)) [c0] = [c0] from rfl, h]
  rfl
 refine CwpE.cut (st := ⟨(11, vbars (barsP [c0])) :: pdE p 1 i, pd1O h0⟩) ?_ ?_
 ·simp only [go_sem, ↓reduceIte, Nat.reduceLT]
  refine callT hbar rfl ?_
  simp only [go_sem, ↓reduceIte, Nat.reduceLT]
  exact ⟨_, WkE.keep (by simp only [go_sem, ↓reduceIte, reduceCtorEq, Nat.reduceEqDiff, k1]), rfl⟩
 obtain ⟨b0, hB⟩ := one_of hbok2.1
 rw [hB] at hbok2 hg hg2 ⊢
 clear hbar hB bad
 have q0 := hbok2.2 b0 (by simp)
 refine CwpE.cut (st := ⟨[(11, vbars [b0]), (12, vi 0)] ++ pdE p 1 i, pd1O h0⟩) ?_ ?_
 ·simp only [go_sem, ↓reduceIte, Nat.reduceLT, List.cons_append, List.nil_append]
  exact ⟨_, WkE.keep (by simp only [go_sem, ↓reduceIte, reduceCtorEq, Nat.reduceEqDiff, k1]), rfl⟩
 refine CwpE.block ?_
 refine loopXC 4 (fun u s => (u = 1 /\ s = ⟨[(11, vbars [b0]), (12, vi 0)] ++ pdE p 1 i, pd1O h0⟩) \/ (u = 0 /\ (handGo b0 (-1) h0).2 = true /\ s = ⟨[(11, vbars [b0]), (12, vi 1)] ++ pdE p 1 i, pd1O (handGo b0 (-1) h0).1⟩)) (fun s => (handGo b0 (-1) h0).2 = true /\ s = ⟨pdE p 1 i, pd1O (handGo b0 (-1) h0).1⟩) 1 ⟨[(11, vbars [b0]), (12, vi 0)] ++ pdE p 1 i, pd1O h0⟩ (.refl _ _) (.inl ⟨rfl, rfl⟩) ?_ ?_
 rotate_left
 ·rintro s ⟨p0, rfl⟩
  simp only [inBlockE, if_true]
  refine hQ1 (handGo b0 (-1) h0).1 (hg _ ?_) ?_
  ·simp only [handsGo, p0, if_true]
  ·have := hand_len b0 (-1) h0
   omega
 rintro u s (⟨rfl, rfl⟩ | ⟨rfl, p0, rfl⟩)
 ·refine CwpE.cut (st := ⟨[(11, vbars [b0]), (12, vi 0)] ++ pdE p 1 i, pd1O h0⟩) ?_ ?_
  ·simp only [go_sem, ↓reduceIte, reduceCtorEq, Nat.reduceLT, Nat.reduceEqDiff, Int.reduceNeg, k1, l01, List.cons_append, List.nil_append]
   exact ⟨_, WkE.keep (by simp only [go_sem, ↓reduceIte, reduceCtorEq, Nat.reduceEqDiff, k1]), rfl⟩
  refine CwpE.seqJ (fun s => (handGo b0 (-1) h0).2 = true /\ s = ⟨pdL p 1 i [b0] (0 : Nat), pd1O (handGo b0 (-1) h0).1⟩) (CwpE.block ?_) ?_
  rotate_left
  ·rintro _ ⟨hok, rfl⟩
   refine CwpE.vc ?_
   simp only [go_sem, ↓reduceIte, Nat.reduceLT, Nat.reduceEqDiff, Int.reduceNeg, k0, w01, List.cons_append, List.nil_append]
   exact ⟨0, ⟨[(11, vbars [b0]), (12, vi 1)] ++ pdE p 1 i, pd1O (handGo b0 (-1) h0).1⟩, by omega, WkE.keep (by simp only [go_sem, ↓reduceIte, reduceCtorEq, Nat.reduceEqDiff, k1, List.cons_append, List.nil_append]), .inr (⟨rfl, hok, rfl⟩)⟩
  refine CwpE.cut (st := ⟨(13, vi (-1)) :: pdL p 1 i [b0] (0 : Nat), pd1O h0⟩) ?_ ?_
  ·simp only [go_sem, ↓reduceIte, Nat.reduceLT, Int.reduceNeg, List.cons_append, List.nil_append]
   exact ⟨_, WkE.keep (by simp only [go_sem, ↓reduceIte, reduceCtorEq, Nat.reduceEqDiff, k0, k1]), rfl⟩
  refine phand10 F0 w0 p i b0 h0 (by omega) (fun c hc => by have := q0.2 c hc; omega) (by omega) (fun e => ⟨_, .refl _ _, e, rfl⟩) (fun e => ?_)
  have hf := hQ2 (handGo b0 (-1) h0).1 (hg2 _ (by simp only [handsGo, e, Bool.false_eq_true, if_false]))
  exact fun env objs e1 e2 e3 => hf env objs e1 e2 e3
 ·refine CwpE.vc ?_
  simp only [go_sem, ↓reduceIte, reduceCtorEq, Nat.reduceLT, Nat.reduceEqDiff, Int.reduceNeg, Int.lt_irrefl, k1, List.cons_append, List.nil_append]
  exact ⟨_, WkE.keep (by simp only [go_sem, ↓reduceIte, reduceCtorEq, Nat.reduceEqDiff, k1]), p0, rfl⟩
set_option maxRecDepth 100000 in
theorem ppiece2 (F0 : FD) (w0 : World) (p : List (List Int)) (i : Nat) (h0 h1 : List (List Nt)) (c0 c1 : List Int) (hp0 : p[i]? = some c0) (hp1 : p[i + 1]? = some c1) (hil : i + 2 <= p.length) (hpl : p.length <= 1000) (hh0 : h0.length <= 10000) (hh1 : h1.length <= 10000)
 {Q : Exit -> Est -> Prop} (hQ1 : ∀ x0 x1, guessGo 2 [[c0, c1]] [h0, h1] = ([x0, x1], true) -> x0.length <= h0.length + 50 -> x1.length <= h1.length + 50 -> Q .normal ⟨pdE p 2 i, pd2O x0 x1⟩)
 (hQ2 : ∀ x0 x1, guessGo 2 [[c0, c1]] [h0, h1] = ([x0, x1], false) -> FailP Q) :
 CwpE Tryd.prog F0 w0 120 pdB Q ⟨pdE p 2 i, pd2O h0 h1⟩ := by
 have k0 : ((0 : Nat) : Int) = 0 := rfl
 have k1 : ((1 : Nat) : Int) = 1 := rfl
 have k2 : ((2 : Nat) : Int) = 2 := rfl
 have l01 : (0 : Int) < 1 := by decide
 have l02 : (0 : Int) < 2 := by decide
 have l12 : (1 : Int) < 2 := by decide
 have le01 : (0 : Int) <= 1 := by decide
 have n12 : ¬ (1 : Int) = 2 := by decide
 have w01 : IntKind.i64.wrap (0 + 1) = 1 := by decide
 have w12 : IntKind.i64.wrap (1 + 1) = 2 := by decide
 have wi0 : IntKind.i64.wrap ((i : Int) + 0) = ((i : Nat) : Int) := by rw [wrap_id (by omega) (by omega)]; omega
 have wi1 : IntKind.i64.wrap ((i : Int) + 1) = ((i + 1 : Nat) : Int) := by rw [wrap_id (by omega) (by omega)]; omega
 have li0 : ((i : Nat) : Int) < (p.length : Int) := by omega
 have li1 : ((i + 1 : Nat) : Int) < (p.length : Int) := by omega
 have zi0 : (0 : Int) <= ((i : Nat) : Int) := by omega
 have zi1 : (0 : Int) <= ((i + 1 : Nat) : Int) := by omega
 have bad : [c0, c1].any (badC 2) = true -> FailP Q := fun h => hQ2 h0 h1 (by rw [guessGo, if_pos h])
 have hinr : ∀ (k : Nat) (r : List (List Nt)), (r.map vbar).all (AV.inn k) = true := fun k r => inn_map fun _ => rfl
 unfold pdB c48
 refine CwpE.cut (st := ⟨(8, .own 5 0 0 0) :: pdE p 2 i, pd2O h0 h1 ++ [.arr 0 1 30 []]⟩) ?_ ?_
 ·simp only [go_sem, ↓reduceIte, Nat.reduceLT]
  refine ⟨⟨(8, .own 5 0 0 0) :: pdE p 2 i, pd2O h0 h1 ++ [.arr 0 1 30 []]⟩, (WkE.nil 8 1 30 (by omega) rfl).trans (WkE.keep ?_), rfl⟩
  simp only [go_sem, ↓reduceIte, reduceCtorEq, Nat.reduceEqDiff, Nat.reduceAdd, k2]
 refine CwpE.seqJ (fun s => [c0, c1].any (badC 2) = false /\ s = ⟨(8, vpage [(List.drop 1 c0), (List.drop 1 c1)]) :: pdE p 2 i, pd2O h0 h1⟩) ?_ ?_
 ·refine CwpE.cut (st := ⟨[(8, .own 5 0 0 0), (9, vi 0)] ++ pdE p 2 i, pd2O h0 h1 ++ [.arr 0 1 30 []]⟩) ?_ ?_
  ·simp only [go_sem, ↓reduceIte, Nat.reduceLT, List.cons_append, List.nil_append]
   exact ⟨_, WkE.keep (by simp only [go_sem, ↓reduceIte, reduceCtorEq, Nat.reduceEqDiff, k2]), rfl⟩
  refine CwpE.block ?_
  refine loopX 2 (fun u s => (u = 2 /\ s = ⟨[(8, .own 5 0 0 0), (9, vi 0)] ++ pdE p 2 i, pd2O h0 h1 ++ [.arr 0 1 30 []]⟩) \/ (u = 1 /\ badC 2 c0 = false /\ s = ⟨[(8, .own 5 1 0 1), (9, vi 1)] ++ pdE p 2 i, pd2O h0 h1 ++ [.arr 1 1 30 [vbytes (List.drop 1 c0)]]⟩) \/ (u = 0 /\ badC 2 c0 = false /\ badC 2 c1 = false /\ s = ⟨[(8, .own 5 2 0 2), (9, vi 2)] ++ pdE p 2 i, pd2O h0 h1 ++ [.arr 2 1 30 [vbytes (List.drop 1 c0), vbytes (List.drop 1 c1)]]⟩)) (fun s => [c0, c1].any (badC 2) = false /\ s = ⟨(8, vpage [(List.drop 1 c0), (List.drop 1 c1)]) :: pdE p 2 i, pd2O h0 h1⟩) 2 ⟨[(8, .own 5 0 0 0), (9, vi 0)] ++ pdE p 2 i, pd2O h0 h1 ++ [.arr 0 1 30 []]⟩ (.refl _ _) (.inl ⟨rfl, rfl⟩) ?_ ?_
  rotate_left
  ·rintro s ⟨e, rfl⟩
   simp only [inBlockE, if_true]
   exact ⟨_, .refl _ _, e, rfl⟩
  rintro u s (⟨rfl, rfl⟩ | ⟨rfl, p0, rfl⟩ | ⟨rfl, p0, p1, rfl⟩)
  ·by_cases a1 : (40 : Int) < (c0.length : Int)
   ·have hbd : badC 2 c0 = true := by simp only [badC, show 40 < c0.length from by omega, decide_true, Bool.true_or]
    simp only [go_sem, ↓reduceIte, reduceCtorEq, Nat.reduceLT, Nat.reduceEqDiff, k2, l02, wi0, zi0, List.getElem?_map, hp0, Option.map_some, a1, List.cons_append, List.nil_append]
    exact bad (by simp only [List.any_cons, hbd, Bool.true_or]) _ _ rfl rfl rfl
   by_cases a2 : (c0.length : Int) = 0
   ·have hbd : badC 2 c0 = true := by simp only [badC, show c0.length < 2 - 1 from by omega, decide_true, Bool.or_true]
    simp only [go_sem, ↓reduceIte, reduceCtorEq, Nat.reduceLT, Nat.reduceEqDiff, Int.reduceLT, k2, l02, wi0, zi0, List.getElem?_map, hp0, Option.map_some, a2, List.cons_append, List.nil_append]
    exact bad (by simp only [List.any_cons, hbd, Bool.true_or]) _ _ rfl rfl rfl
   have hok : badC 2 c0 = false := by
    simp only [badC, show ¬ 40 < c0.length from by omega, show ¬ c0.length < 2 - 1 from by omega, decide_false, Bool.or_false]
   have a3 : (1 : Int) <= (c0.length : Int) := by omega
   have htl : List.take c0.length (c0.map vu) = c0.map vu := List.take_of_length_le (by simp)
   simp only [go_sem, Nat.reducePow, Nat.reduceLeDiff, ↓reduceIte, reduceCtorEq, Nat.reduceLT, Nat.reduceEqDiff, Nat.reduceAdd, Nat.reduceMul, Int.reduceToNat, Int.reduceToNat, k2, l02, le01, w01, wi0, zi0, List.getElem?_map, hp0, Option.map_some, a1, a2, a3, htl, <- List.map_drop, List.take_zero, List.cons_append, List.nil_append]
   exact ⟨1, ⟨[(8, .own 5 1 0 1), (9, vi 1)] ++ pdE p 2 i, pd2O h0 h1 ++ [.arr 1 1 30 [vbytes (List.drop 1 c0)]]⟩, by omega, WkE.keep (by simp only [go_sem, ↓reduceIte, reduceCtorEq, Nat.reduceEqDiff, k2, List.cons_append, List.nil_append]), .inr (.inl ⟨rfl, hok, rfl⟩)⟩
  ·by_cases a1 : (40 : Int) < (c1.length : Int)
   ·have hbd : badC 2 c1 = true := by simp only [badC, show 40 < c1.length from by omega, decide_true, Bool.true_or]
    simp only [go_sem, ↓reduceIte, reduceCtorEq, Nat.reduceLT, Nat.reduceEqDiff, k2, l12, wi1, zi1, List.getElem?_map, hp1, Option.map_some, a1, List.cons_append, List.nil_append]
    exact bad (by simp only [List.any_cons, hbd, Bool.true_or, Bool.or_true]) _ _ rfl rfl rfl
   by_cases a2 : (c1.length : Int) = 0
   ·have hbd : badC 2 c1 = true := by simp only [badC, show c1.length < 2 - 1 from by omega, decide_true, Bool.or_true]
    simp only [go_sem, ↓reduceIte, reduceCtorEq, Nat.reduceLT, Nat.reduceEqDiff, Int.reduceLT, k2, l12, wi1, zi1, List.getElem?_map, hp1, Option.map_some, a2, List.cons_append, List.nil_append]
    exact bad (by simp only [List.any_cons, hbd, Bool.true_or, Bool.or_true]) _ _ rfl rfl rfl
   have hok : badC 2 c1 = false := by
    simp only [badC, show ¬ 40 < c1.length from by omega, show ¬ c1.length < 2 - 1 from by omega, decide_false, Bool.or_false]
   have a3 : (1 : Int) <= (c1.length : Int) := by omega
   have htl : List.take c1.length (c1.map vu) = c1.map vu := List.take_of_length_le (by simp)
   simp only [go_sem, Nat.reducePow, Nat.reduceLeDiff, ↓reduceIte, reduceCtorEq, Nat.reduceLT, Nat.reduceEqDiff, Nat.reduceAdd, Nat.reduceMul, Int.reduceToNat, Int.reduceToNat, k2, l12, le01, w12, wi1, zi1, List.getElem?_map, hp1, Option.map_some, a1, a2, a3, htl, <- List.map_drop, List.take_succ_cons, List.take_zero, List.cons_append, List.nil_append]
   exact ⟨0, ⟨[(8, .own 5 2 0 2), (9, vi 2)] ++ pdE p 2 i, pd2O h0 h1 ++ [.arr 2 1 30 [vbytes (List.drop 1 c0), vbytes (List.drop 1 c1)]]⟩, by omega, WkE.keep (by simp only [go_sem, ↓reduceIte, reduceCtorEq, Nat.reduceEqDiff, k2, List.cons_append, List.nil_append]), .inr (.inr (⟨rfl, p0, hok, rfl⟩))⟩
  ·simp only [go_sem, ↓reduceIte, reduceCtorEq, Nat.reduceLT, Nat.reduceEqDiff, Int.lt_irrefl, k2, List.cons_append, List.nil_append]
   refine ⟨⟨(8, vpage [(List.drop 1 c0), (List.drop 1 c1)]) :: pdE p 2 i, pd2O h0 h1⟩, ?_, by simp only [List.any_cons, List.any_nil, p0, p1, Bool.or_false], rfl⟩
   refine (WkE.freeze 8 5 2 0 2 1 30 _ (by omega) rfl rfl (by simp) rfl).trans (WkE.round ?_ ?_ ?_ ?_)
   ·simp only [go_sem, ↓reduceIte, reduceCtorEq, Nat.reduceEqDiff, k2, List.take_succ_cons, List.take_zero, List.drop_zero]
    rfl
   ·rfl
   ·simp only [List.all_cons, List.all_nil, AObj.innO, hinr, List.length_cons, List.length_nil, Nat.zero_add, Nat.reduceAdd, Bool.and_true]
    rfl
   ·rfl
 rintro _ ⟨hany, rfl⟩
 have h40 : ∀ c ∈ [c0, c1], c.length <= 40 := fun c hc => by
  have := List.any_eq_false.1 hany c hc
  simp only [badC, Bool.or_eq_true, decide_eq_true_eq, not_or] at this
  omega
 have hbok2 := barsP_ok [(List.drop 1 c0), (List.drop 1 c1)] 40 (fun c hc => by
  simp only [List.mem_cons, List.not_mem_nil, or_false] at hc
  rcases hc with rfl | rfl
  ·have := h40 c0 (by simp); rw [List.length_drop]; omega
  ·have := h40 c1 (by simp); rw [List.length_drop]; omega)
 have hbar := columns_s [(List.drop 1 c0), (List.drop 1 c1)] (by simp) (fun c hc => by
  simp only [List.mem_cons, List.not_mem_nil, or_false] at hc
  rcases hc with rfl | rfl
  ·have := h40 c0 (by simp); rw [List.length_drop]; omega
  ·have := h40 c1 (by simp); rw [List.length_drop]; omega)
 have hg : ∀ m, handsGo (barsP [(List.drop 1 c0), (List.drop 1 c1)]) [h0, h1] = (m, true) -> guessGo 2 [[c0, c1]] [h0, h1] = (m, true) := fun m h => by
  rw [guessGo, if_neg (by rw [hany]; simp)]
  rw [show List.map (List.drop (2 - 1)) [c0, c1] = [(List.drop 1 c0), (List.drop 1 c1)] from rfl, h]
  rfl
 have hg2 : ∀ m, handsGo (barsP [(List.drop 1 c0), (List.drop 1 c1)]) [h0, h1] = (m, false) -> guessGo 2 [[c0, c1]] [h0, h1] = (m, false) := fun m h => by
  rw [guessGo, if_neg (by rw [hany]; simp)]
  rw [show List.map (List.drop (2 - 1)) [c0, c1] = [(List.drop 1 c0), (List.drop 1 c1)] from rfl, h]
  rfl
 refine CwpE.cut (st := ⟨(11, vbars (barsP [(List.drop 1 c0), (List.drop 1 c1)])) :: pdE p 2 i, pd2O h0 h1⟩) ?_ ?_
 ·simp only [go_sem, ↓reduceIte, Nat.reduceLT]
  refine callT hbar rfl ?_
  simp only [go_sem, ↓reduceIte, Nat.reduceLT]
  exact ⟨_, WkE.keep (by simp only [go_sem, ↓reduceIte, reduceCtorEq, Nat.reduceEqDiff, k2]), rfl⟩
 obtain ⟨b0, b1, hB⟩ := two_of hbok2.1
 rw [hB] at hbok2 hg hg2 ⊢
 clear hbar hB bad
 have q0 := hbok2.2 b0 (by simp)
 have q1 := hbok2.2 b1 (by simp)
 refine CwpE.cut (st := ⟨[(11, vbars [b0, b1]), (12, vi 0)] ++ pdE p 2 i, pd2O h0 h1⟩) ?_ ?_
 ·simp only [go_sem, ↓reduceIte, Nat.reduceLT, List.cons_append, List.nil_append]
  exact ⟨_, WkE.keep (by simp only [go_sem, ↓reduceIte, reduceCtorEq, Nat.reduceEqDiff, k2]), rfl⟩
 refine CwpE.block ?_
 refine loopXC 4 (fun u s => (u = 2 /\ s = ⟨[(11, vbars [b0, b1]), (12, vi 0)] ++ pdE p 2 i, pd2O h0 h1⟩) \/ (u = 1 /\ (handGo b0 (-1) h0).2 = true /\ s = ⟨[(11, vbars [b0, b1]), (12, vi 1)] ++ pdE p 2 i, pd2O (handGo b0 (-1) h0).1 h1⟩) \/ (u = 0 /\ (handGo b0 (-1) h0).2 = true /\ (handGo b1 (-1) h1).2 = true /\ s = ⟨[(11, vbars [b0, b1]), (12, vi 2)] ++ pdE p 2 i, pd2O (handGo b0 (-1) h0).1 (handGo b1 (-1) h1).1⟩)) (fun s => (handGo b0 (-1) h0).2 = true /\ (handGo b1 (-1) h1).2 = true /\ s = ⟨pdE p 2 i, pd2O (handGo b0 (-1) h0).1 (handGo b1 (-1) h1).1⟩) 2 ⟨[(11, vbars [b0, b1]), (12, vi 0)] ++ pdE p 2 i, pd2O h0 h1⟩ (.refl _ _) (.inl ⟨rfl, rfl⟩) ?_ ?_
 rotate_left
 ·rintro s ⟨p0, p1, rfl⟩
  simp only [inBlockE, if_true]
  refine hQ1 (handGo b0 (-1) h0).1 (handGo b1 (-1) h1).1 (hg _ ?_) ?_ ?_
  ·simp only [handsGo, p0, p1, if_true]
  ·have := hand_len b0 (-1) h0
   omega
  ·have := hand_len b1 (-1) h1
   omega
 rintro u s (⟨rfl, rfl⟩ | ⟨rfl, p0, rfl⟩ | ⟨rfl, p0, p1, rfl⟩)
 ·refine CwpE.cut (st := ⟨[(11, vbars [b0, b1]), (12, vi 0)] ++ pdE p 2 i, pd2O h0 h1⟩) ?_ ?_
  ·simp only [go_sem, ↓reduceIte, reduceCtorEq, Nat.reduceLT, Nat.reduceEqDiff, Int.reduceNeg, k2, l02, List.cons_append, List.nil_append]
   exact ⟨_, WkE.keep (by simp only [go_sem, ↓reduceIte, reduceCtorEq, Nat.reduceEqDiff, k2]), rfl⟩
  refine CwpE.seqJ (fun s => (handGo b0 (-1) h0).2 = true /\ s = ⟨pdL p 2 i [b0, b1] (0 : Nat), pd2O (handGo b0 (-1) h0).1 h1⟩) (CwpE.block ?_) ?_
  rotate_left
  ·rintro _ ⟨hok, rfl⟩
   refine CwpE.vc ?_
   simp only [go_sem, ↓reduceIte, Nat.reduceLT, Nat.reduceEqDiff, Int.reduceNeg, k0, w01, List.cons_append, List.nil_append]
   exact ⟨1, ⟨[(11, vbars [b0, b1]), (12, vi 1)] ++ pdE p 2 i, pd2O (handGo b0 (-1) h0).1 h1⟩, by omega, WkE.keep (by simp only [go_sem, ↓reduceIte, reduceCtorEq, Nat.reduceEqDiff, k2, List.cons_append, List.nil_append]), .inr (.inl ⟨rfl, hok, rfl⟩)⟩
  refine CwpE.cut (st := ⟨(13, vi (-1)) :: pdL p 2 i [b0, b1] (0 : Nat), pd2O h0 h1⟩) ?_ ?_
  ·simp only [go_sem, ↓reduceIte, Nat.reduceLT, Int.reduceNeg, List.cons_append, List.nil_append]
   exact ⟨_, WkE.keep (by simp only [go_sem, ↓reduceIte, reduceCtorEq, Nat.reduceEqDiff, k0, k2]), rfl⟩
  refine phand20 F0 w0 p i b0 b1 h0 h1 (by omega) (fun c hc => by have := q0.2 c hc; omega) (by omega) (fun e => ⟨_, .refl _ _, e, rfl⟩) (fun e => ?_)
  have hf := hQ2 (handGo b0 (-1) h0).1 h1 (hg2 _ (by simp only [handsGo, e, Bool.false_eq_true, if_false]))
  exact fun env objs e1 e2 e3 => hf env objs e1 e2 e3
 ·refine CwpE.cut (st := ⟨[(11, vbars [b0, b1]), (12, vi 1)] ++ pdE p 2 i, pd2O (handGo b0 (-1) h0).1 h1⟩) ?_ ?_
  ·simp only [go_sem, ↓reduceIte, reduceCtorEq, Nat.reduceLT, Nat.reduceEqDiff, Int.reduceNeg, k2, l12, List.cons_append, List.nil_append]
   exact ⟨_, WkE.keep (by simp only [go_sem, ↓reduceIte, reduceCtorEq, Nat.reduceEqDiff, k2]), rfl⟩
  refine CwpE.seqJ (fun s => (handGo b1 (-1) h1).2 = true /\ s = ⟨pdL p 2 i [b0, b1] (1 : Nat), pd2O (handGo b0 (-1) h0).1 (handGo b1 (-1) h1).1⟩) (CwpE.block ?_) ?_
  rotate_left
  ·rintro _ ⟨hok, rfl⟩
   refine CwpE.vc ?_
   simp only [go_sem, ↓reduceIte, Nat.reduceLT, Nat.reduceEqDiff, Int.reduceNeg, k1, w12, List.cons_append, List.nil_append]
   exact ⟨0, ⟨[(11, vbars [b0, b1]), (12, vi 2)] ++ pdE p 2 i, pd2O (handGo b0 (-1) h0).1 (handGo b1 (-1) h1).1⟩, by omega, WkE.keep (by simp only [go_sem, ↓reduceIte, reduceCtorEq, Nat.reduceEqDiff, k2, List.cons_append, List.nil_append]), .inr (.inr (⟨rfl, p0, hok, rfl⟩))⟩
  refine CwpE.cut (st := ⟨(13, vi (-1)) :: pdL p 2 i [b0, b1] (1 : Nat), pd2O (handGo b0 (-1) h0).1 h1⟩) ?_ ?_
  ·simp only [go_sem, ↓reduceIte, Nat.reduceLT, Int.reduceNeg, List.cons_append, List.nil_append]
   exact ⟨_, WkE.keep (by simp only [go_sem, ↓reduceIte, reduceCtorEq, Nat.reduceEqDiff, k1, k2]), rfl⟩
  refine phand21 F0 w0 p i b0 b1 (handGo b0 (-1) h0).1 h1 (by omega) (fun c hc => by have := q1.2 c hc; omega) (by omega) (fun e => ⟨_, .refl _ _, e, rfl⟩) (fun e => ?_)
  have hf := hQ2 (handGo b0 (-1) h0).1 (handGo b1 (-1) h1).1 (hg2 _ (by simp only [handsGo, p0, e, if_true, Bool.false_eq_true, if_false]))
  exact fun env objs e1 e2 e3 => hf env objs e1 e2 e3
 ·refine CwpE.vc ?_
  simp only [go_sem, ↓reduceIte, reduceCtorEq, Nat.reduceLT, Nat.reduceEqDiff, Int.reduceNeg, Int.lt_irrefl, k2, List.cons_append, List.nil_append]
  exact ⟨_, WkE.keep (by simp only [go_sem, ↓reduceIte, reduceCtorEq, Nat.reduceEqDiff, k2]), p0, p1, rfl⟩
end Go.Proofs.YtnncijjkbonokaaDoor
namespace Go.Proofs.YtnncijjkbonokaaDoor
open Go.RowKit Dak
theorem take_pieces {n k : Nat} {p : List (List Int)} (h : k < p.length / n) : (pieces n p).take (k + 1) = (pieces n p).take k ++ [(p.drop (k * n)).take n] := by
 have hl : k < (pieces n p).length := by simpa [pieces] using h
 rw [List.take_succ_eq_append_getElem hl]
 simp [pieces]
theorem piece_get {n k j : Nat} {p : List (List Int)} (hj : j < n) : ((p.drop (k * n)).take n)[j]? = p[k * n + j]? := by
 rw [List.getElem?_take, if_pos hj, List.getElem?_drop]
theorem snap_prows1 (h0 : List (List Nt)) (t : AV) (X : List AObj) : Snap (.arr 1 1 25 [t] :: (pd1O h0).tail ++ X) (.own 1 1 0 1) (vhands [h0]) := by
 refine .own 1 1 0 1 1 28 _ _ rfl (by simp) (by simp) fun i hi => ?_
 match i, hi with
 | 0, _ => exact snap_all h0 _ rfl rfl fun _ => rfl
set_option maxRecDepth 100000 in
theorem Parsed_1 (p : List (List Int)) (hpl : p.length <= 9223372036854775806) : Ctr Tryd.prog 48 [vpage p, vi 1] (vgot (parsedP p 1)) := by
 have k0 : ((0 : Nat) : Int) = 0 := rfl
 have k1 : ((1 : Nat) : Int) = 1 := rfl
 have k2 : ((2 : Nat) : Int) = 2 := rfl
 have k24 : ((24 : Nat) : Int) = 24 := rfl
 have n2 : (24 : Int) * 1 <= 281474976710656 := by decide
 have n0 : ¬ (1 : Int) = 0 := by decide
 have hrem : ((p.length : Int)).tmod 1 = ((p.length % 1 : Nat) : Int) := by rw [Int.tmod_eq_emod_of_nonneg (by omega)]; omega
 refine specC f48 (by simp) fun F0 w0 => ?_
 have hfail : parsedP p 1 = ([], false) -> FailP (retE [.cell 4 true 1, .tmp 5] (vgot (parsedP p 1))) := by
  intro he env objs e1 e2 e3
  rw [he]
  refine ⟨.tup [.agg [.val (.slice none 0 0)], vb false], ?_, snap_got (.nil _)⟩
  simp only [resAllE, List.mapM_cons, List.mapM_nil, resE, e1, e2, e3]
  rfl
 unfold c48
 refine CwpE.cut (st := ⟨[(0, vpage p), (1, vi 1), (4, .ref 0 1 0 0)], [.arr 1 1 25 [nilT]]⟩) ?_ ?_
 ·simp only [go_sem, ↓reduceIte, Nat.reduceLT]
  exact ⟨_, WkE.keep (by simp only [go_sem, ↓reduceIte, reduceCtorEq, Nat.reduceEqDiff]), rfl⟩
 refine CwpE.cut (st := ⟨[(0, vpage p), (1, vi 1), (4, .ref 0 1 0 0), (6, .ref 2 1 0 0)], pd1O []⟩) ?_ ?_
 ·simp only [go_sem, List.replicate_succ, ↓reduceIte, reduceCtorEq, Nat.reduceLT, Nat.reduceEqDiff, Nat.reduceAdd, Int.reduceToNat, Int.reduceLE, Int.reduceToNat, Int.le_refl, k24, n2]
  exact ⟨_, (WkE.nilCell 1 1 1 0 0 1 34 28 [.val (.slice none 0 0)] _ rfl rfl rfl).trans (WkE.keep (by simp only [go_sem, ↓reduceIte, reduceCtorEq, Nat.reduceEqDiff])), rfl⟩
 have badend : (p.length = 0 \/ p.length % 1 ≠ 0 \/ 64 < p.length) -> FailP (retE [.cell 4 true 1, .tmp 5] (vgot (parsedP p 1))) := fun h => hfail (by rw [parsedP, if_pos h])
 by_cases a1 : p.length = 0
 ·have a1' : (p.length : Int) = 0 := by omega
  refine CwpE.vc ?_
  have hf := badend (.inl a1)
  generalize retE [.cell 4 true 1, .tmp 5] (vgot (parsedP p 1)) = Q at hf ⊢
  simp only [go_sem, ↓reduceIte, reduceCtorEq, Nat.reduceLT, Nat.reduceEqDiff, Int.reduceNeg, a1', List.length_map]
  exact hf _ _ rfl rfl rfl
 have a1' : ¬ (p.length : Int) = 0 := by omega
 by_cases a2 : p.length % 1 = 0
 rotate_left
 ·have a2' : ¬ ((p.length % 1 : Nat) : Int) = 0 := by omega
  refine CwpE.vc ?_
  have hf := badend (.inr (.inl a2))
  generalize retE [.cell 4 true 1, .tmp 5] (vgot (parsedP p 1)) = Q at hf ⊢
  simp only [go_sem, ↓reduceIte, reduceCtorEq, Nat.reduceLT, Nat.reduceEqDiff, Int.reduceNeg, a1', a2', n0, hrem, List.length_map]
  exact hf _ _ rfl rfl rfl
 have a2' : ((p.length % 1 : Nat) : Int) = 0 := by omega
 by_cases a3 : 64 < p.length
 ·have a3' : (64 : Int) < (p.length : Int) := by omega
  refine CwpE.vc ?_
  have hf := badend (.inr (.inr a3))
  generalize retE [.cell 4 true 1, .tmp 5] (vgot (parsedP p 1)) = Q at hf ⊢
  simp only [go_sem, ↓reduceIte, reduceCtorEq, Nat.reduceLT, Nat.reduceEqDiff, Int.reduceNeg, a1', a2', a3', n0, hrem, List.length_map]
  exact hf _ _ rfl rfl rfl
 have a3' : ¬ (64 : Int) < (p.length : Int) := by omega
 have hgs : parsedP p 1 = if (guessGo 1 (pieces 1 p) [[]]).2 = true then ((guessGo 1 (pieces 1 p) [[]]).1, decide (validE (guessGo 1 (pieces 1 p) [[]]).1 = 0)) else ([], false) := by
  rw [parsedP, if_neg (by omega)]; rfl
 refine CwpE.cut (st := ⟨[(0, vpage p), (1, vi 1), (4, .ref 0 1 0 0), (6, .ref 2 1 0 0)], pd1O []⟩) ?_ ?_
 ·simp only [go_sem, ↓reduceIte, reduceCtorEq, Nat.reduceLT, Nat.reduceEqDiff, a1', a2', a3', n0, hrem, List.length_map]
  exact ⟨_, WkE.keep (by simp only [go_sem, ↓reduceIte, reduceCtorEq, Nat.reduceEqDiff]), rfl⟩
 have hpl2 := pieces_len (n := 1) (by omega) a2
 have hpn : (pieces 1 p).length = p.length / 1 := by simp [pieces]
 refine CwpE.seqJ (fun s => ∃ (x0 : List (List Nt)), guessGo 1 (pieces 1 p) [[]] = ([x0], true) /\ s = ⟨[(4, .ref 0 1 0 0), (6, .ref 2 1 0 0)], pd1O x0⟩) ?_ ?_
 ·refine CwpE.cut (st := ⟨pdE p 1 0, pd1O []⟩) ?_ ?_
  ·simp only [go_sem, ↓reduceIte, Nat.reduceLT]
   exact ⟨_, WkE.keep (by simp only [go_sem, ↓reduceIte, reduceCtorEq, Nat.reduceEqDiff, k0, k1]), rfl⟩
  refine CwpE.block ?_
  refine loopXC 0 (fun z s => ∃ (k : Nat) (h0 : List (List Nt)), k + z = p.length / 1 /\ guessGo 1 ((pieces 1 p).take k) [[]] = ([h0], true) /\ h0.length <= 50 * k /\ s = ⟨pdE p 1 (k * 1), pd1O h0⟩)
   (fun s => ∃ (x0 : List (List Nt)), guessGo 1 (pieces 1 p) [[]] = ([x0], true) /\ s = ⟨[(4, .ref 0 1 0 0), (6, .ref 2 1 0 0)], pd1O x0⟩) (p.length / 1) ⟨pdE p 1 0, pd1O []⟩ (.refl _ _) ⟨0, [], by omega, rfl, by simp, by simp⟩ ?_ ?_
  rotate_left
  ·rintro s h
   simp only [inBlockE, if_true]
   exact ⟨_, .refl _ _, h⟩
  rintro z s ⟨k, h0, hk, hgo, q0, rfl⟩
  cases z with
  | zero =>
   obtain rfl : k = p.length / 1 := by omega
   have hlt : ¬ ((p.length / 1 * 1 : Nat) : Int) < (p.length : Int) := by omega
   rw [List.take_of_length_le (by omega)] at hgo
   refine CwpE.vc ?_
   simp only [go_sem, ↓reduceIte, reduceCtorEq, Nat.reduceLT, Nat.reduceEqDiff, Int.reduceNeg, hlt, List.length_map]
   exact ⟨_, WkE.keep (by simp only [go_sem, ↓reduceIte, reduceCtorEq, Nat.reduceEqDiff]), h0, hgo, rfl⟩
  | succ z =>
   have hkl : k < p.length / 1 := by omega
   have hlt : ((k * 1 : Nat) : Int) < (p.length : Int) := by omega
   have hkn : k * 1 + 1 <= p.length := by omega
   have hsn : guessGo 1 ((pieces 1 p).take (k + 1)) [[]] = guessGo 1 [(p.drop (k * 1)).take 1] [h0] := by
    rw [take_pieces hkl, guessGo_snoc, hgo, if_pos rfl]
   have hpm : (p.drop (k * 1)).take 1 ∈ pieces 1 p := List.mem_map.2 ⟨k, List.mem_range.2 hkl, rfl⟩
   have e0 := piece_get (n := 1) (k := k) (j := 0) (p := p) (by omega)
   obtain ⟨c0, hcx⟩ := one_of (hpl2 _ hpm).1
   rw [hcx] at hsn e0
   refine CwpE.cut (st := ⟨pdE p 1 (k * 1), pd1O h0⟩) ?_ ?_
   ·simp only [go_sem, ↓reduceIte, reduceCtorEq, Nat.reduceLT, Nat.reduceEqDiff, hlt, List.length_map]
    exact ⟨_, WkE.keep (by simp only [go_sem, ↓reduceIte, reduceCtorEq, Nat.reduceEqDiff]), rfl⟩
   have hw : IntKind.i64.wrap (((k * 1 : Nat) : Int) + 1) = (((k + 1) * 1 : Nat) : Int) := by rw [wrap_id (by omega) (by omega)]; omega
   refine CwpE.seqJ (fun s => ∃ (x0 : List (List Nt)), guessGo 1 [[c0]] [h0] = ([x0], true) /\ x0.length <= h0.length + 50 /\ s = ⟨pdE p 1 (k * 1), pd1O x0⟩) (CwpE.block ?_) ?_
   ·refine ppiece1 F0 w0 p (k * 1) h0 c0 e0.symm hkn (by omega) (by omega) (fun x0 hg g0 => ⟨_, .refl _ _, x0, hg, g0, rfl⟩) (fun x0 hg => ?_)
    have hall : parsedP p 1 = ([], false) := by
     rw [hgs, <- List.take_append_drop (k + 1) (pieces 1 p), guessGo_stop _ _ _ _ (by rw [hsn, hg]), hsn, hg]; rfl
    have hf := hfail hall
    exact fun env objs e1 e2 e3 => hf env objs e1 e2 e3
   rintro _ ⟨x0, hg, g0, rfl⟩
   refine CwpE.vc ?_
   generalize k * 1 = i at hw
   simp only [go_sem, ↓reduceIte, reduceCtorEq, Nat.reduceLT, Nat.reduceEqDiff, k1, hw]
   exact ⟨z, ⟨pdE p 1 ((k + 1) * 1), pd1O x0⟩, by omega, WkE.keep (by simp only [go_sem, ↓reduceIte, reduceCtorEq, Nat.reduceEqDiff, k1]), k + 1, x0, by omega, hsn.trans hg, by omega, rfl⟩
 rintro _ ⟨x0, hall, rfl⟩
 have hlen := guess_len 1 (by omega) (pieces 1 p) [[]] 0 (fun s hs => (hpl2 s hs).1) rfl (fun h hh => by simp only [List.mem_cons, List.not_mem_nil, or_false] at hh; subst hh; exact ⟨Nat.le_refl _, fun b hb => by cases hb⟩)
 rw [hall] at hlen
 obtain ⟨m1, m2⟩ := got_len_ok hlen.1 (by omega) hlen.2 (by omega)
 refine CwpE.vc ?_
 simp only [go_sem, ↓reduceIte, Nat.reduceLT, Nat.reduceEqDiff]
 refine callF (refValid_s [x0] m1) (.cons (snap_agg1 (snap_prows1 x0 nilT [])) .nil) rfl ?_
 by_cases hv : validE [x0] = 0
 ·simp only [go_sem, ↓reduceIte, Nat.reduceLT, Nat.reduceEqDiff, hv]
  rw [hgs, hall, if_pos rfl, hv]
  exact snap_got (f := true) (snap_prows1 x0 _ [])
 ·simp only [go_sem, ↓reduceIte, Nat.reduceLT, Nat.reduceEqDiff, hv]
  rw [hgs, hall, if_pos rfl]
  simp only [hv, decide_false]
  exact snap_got (f := false) (snap_prows1 x0 _ [])
theorem snap_prows2 (h0 h1 : List (List Nt)) (t : AV) (X : List AObj) : Snap (.arr 1 1 25 [t] :: (pd2O h0 h1).tail ++ X) (.own 1 2 0 2) (vhands [h0, h1]) := by
 refine .own 1 2 0 2 1 28 _ _ rfl (by simp) (by simp) fun i hi => ?_
 match i, hi with
 | 0, _ => exact snap_all h0 _ rfl rfl fun _ => rfl
 | 1, _ => exact snap_all h1 _ rfl rfl fun _ => rfl
set_option maxRecDepth 100000 in
theorem Parsed_2 (p : List (List Int)) (hpl : p.length <= 9223372036854775806) : Ctr Tryd.prog 48 [vpage p, vi 2] (vgot (parsedP p 2)) := by
 have k0 : ((0 : Nat) : Int) = 0 := rfl
 have k1 : ((1 : Nat) : Int) = 1 := rfl
 have k2 : ((2 : Nat) : Int) = 2 := rfl
 have k24 : ((24 : Nat) : Int) = 24 := rfl
 have n2 : (24 : Int) * 2 <= 281474976710656 := by decide
 have n0 : ¬ (2 : Int) = 0 := by decide
 have hrem : ((p.length : Int)).tmod 2 = ((p.length % 2 : Nat) : Int) := by rw [Int.tmod_eq_emod_of_nonneg (by omega)]; omega
 refine specC f48 (by simp) fun F0 w0 => ?_
 have hfail : parsedP p 2 = ([], false) -> FailP (retE [.cell 4 true 1, .tmp 5] (vgot (parsedP p 2))) := by
  intro he env objs e1 e2 e3
  rw [he]
  refine ⟨.tup [.agg [.val (.slice none 0 0)], vb false], ?_, snap_got (.nil _)⟩
  simp only [resAllE, List.mapM_cons, List.mapM_nil, resE, e1, e2, e3]
  rfl
 unfold c48
 refine CwpE.cut (st := ⟨[(0, vpage p), (1, vi 2), (4, .ref 0 1 0 0)], [.arr 1 1 25 [nilT]]⟩) ?_ ?_
 ·simp only [go_sem, ↓reduceIte, Nat.reduceLT]
  exact ⟨_, WkE.keep (by simp only [go_sem, ↓reduceIte, reduceCtorEq, Nat.reduceEqDiff]), rfl⟩
 refine CwpE.cut (st := ⟨[(0, vpage p), (1, vi 2), (4, .ref 0 1 0 0), (6, .ref 2 1 0 0)], pd2O [] []⟩) ?_ ?_
 ·simp only [go_sem, List.replicate_succ, ↓reduceIte, reduceCtorEq, Nat.reduceLT, Nat.reduceEqDiff, Nat.reduceAdd, Int.reduceToNat, Int.reduceLE, Int.reduceToNat, Int.le_refl, k24, n2]
  exact ⟨_, ((WkE.nilCell 1 2 1 0 0 1 34 28 [.val (.slice none 0 0), .val (.slice none 0 0)] _ rfl rfl rfl).trans (WkE.nilCell 1 2 1 1 0 1 34 28 [.own 3 0 0 0, .val (.slice none 0 0)] _ rfl rfl rfl)).trans (WkE.keep (by simp only [go_sem, ↓reduceIte, reduceCtorEq, Nat.reduceEqDiff])), rfl⟩
 have badend : (p.length = 0 \/ p.length % 2 ≠ 0 \/ 64 < p.length) -> FailP (retE [.cell 4 true 1, .tmp 5] (vgot (parsedP p 2))) := fun h => hfail (by rw [parsedP, if_pos h])
 by_cases a1 : p.length = 0
 ·have a1' : (p.length : Int) = 0 := by omega
  refine CwpE.vc ?_
  have hf := badend (.inl a1)
  generalize retE [.cell 4 true 1, .tmp 5] (vgot (parsedP p 2)) = Q at hf ⊢
  simp only [go_sem, ↓reduceIte, reduceCtorEq, Nat.reduceLT, Nat.reduceEqDiff, Int.reduceNeg, a1', List.length_map]
  exact hf _ _ rfl rfl rfl
 have a1' : ¬ (p.length : Int) = 0 := by omega
 by_cases a2 : p.length % 2 = 0
 rotate_left
 ·have a2' : ¬ ((p.length % 2 : Nat) : Int) = 0 := by omega
  refine CwpE.vc ?_
  have hf := badend (.inr (.inl a2))
  generalize retE [.cell 4 true 1, .tmp 5] (vgot (parsedP p 2)) = Q at hf ⊢
  simp only [go_sem, ↓reduceIte, reduceCtorEq, Nat.reduceLT, Nat.reduceEqDiff, Int.reduceNeg, a1', a2', n0, hrem, List.length_map]
  exact hf _ _ rfl rfl rfl
 have a2' : ((p.length % 2 : Nat) : Int) = 0 := by omega
 by_cases a3 : 64 < p.length
 ·have a3' : (64 : Int) < (p.length : Int) := by omega
  refine CwpE.vc ?_
  have hf := badend (.inr (.inr a3))
  generalize retE [.cell 4 true 1, .tmp 5] (vgot (parsedP p 2)) = Q at hf ⊢
  simp only [go_sem, ↓reduceIte, reduceCtorEq, Nat.reduceLT, Nat.reduceEqDiff, Int.reduceNeg, a1', a2', a3', n0, hrem, List.length_map]
  exact hf _ _ rfl rfl rfl
 have a3' : ¬ (64 : Int) < (p.length : Int) := by omega
 have hgs : parsedP p 2 = if (guessGo 2 (pieces 2 p) [[], []]).2 = true then ((guessGo 2 (pieces 2 p) [[], []]).1, decide (validE (guessGo 2 (pieces 2 p) [[], []]).1 = 0)) else ([], false) := by
  rw [parsedP, if_neg (by omega)]; rfl
 refine CwpE.cut (st := ⟨[(0, vpage p), (1, vi 2), (4, .ref 0 1 0 0), (6, .ref 2 1 0 0)], pd2O [] []⟩) ?_ ?_
 ·simp only [go_sem, ↓reduceIte, reduceCtorEq, Nat.reduceLT, Nat.reduceEqDiff, a1', a2', a3', n0, hrem, List.length_map]
  exact ⟨_, WkE.keep (by simp only [go_sem, ↓reduceIte, reduceCtorEq, Nat.reduceEqDiff]), rfl⟩
 have hpl2 := pieces_len (n := 2) (by omega) a2
 have hpn : (pieces 2 p).length = p.length / 2 := by simp [pieces]
 refine CwpE.seqJ (fun s => ∃ (x0 x1 : List (List Nt)), guessGo 2 (pieces 2 p) [[], []] = ([x0, x1], true) /\ s = ⟨[(4, .ref 0 1 0 0), (6, .ref 2 1 0 0)], pd2O x0 x1⟩) ?_ ?_
 ·refine CwpE.cut (st := ⟨pdE p 2 0, pd2O [] []⟩) ?_ ?_
  ·simp only [go_sem, ↓reduceIte, Nat.reduceLT]
   exact ⟨_, WkE.keep (by simp only [go_sem, ↓reduceIte, reduceCtorEq, Nat.reduceEqDiff, k0, k2]), rfl⟩
  refine CwpE.block ?_
  refine loopXC 0 (fun z s => ∃ (k : Nat) (h0 h1 : List (List Nt)), k + z = p.length / 2 /\ guessGo 2 ((pieces 2 p).take k) [[], []] = ([h0, h1], true) /\ h0.length <= 50 * k /\ h1.length <= 50 * k /\ s = ⟨pdE p 2 (k * 2), pd2O h0 h1⟩)
   (fun s => ∃ (x0 x1 : List (List Nt)), guessGo 2 (pieces 2 p) [[], []] = ([x0, x1], true) /\ s = ⟨[(4, .ref 0 1 0 0), (6, .ref 2 1 0 0)], pd2O x0 x1⟩) (p.length / 2) ⟨pdE p 2 0, pd2O [] []⟩ (.refl _ _) ⟨0, [], [], by omega, rfl, by simp, by simp, by simp⟩ ?_ ?_
  rotate_left
  ·rintro s h
   simp only [inBlockE, if_true]
   exact ⟨_, .refl _ _, h⟩
  rintro z s ⟨k, h0, h1, hk, hgo, q0, q1, rfl⟩
  cases z with
  | zero =>
   obtain rfl : k = p.length / 2 := by omega
   have hlt : ¬ ((p.length / 2 * 2 : Nat) : Int) < (p.length : Int) := by omega
   rw [List.take_of_length_le (by omega)] at hgo
   refine CwpE.vc ?_
   simp only [go_sem, ↓reduceIte, reduceCtorEq, Nat.reduceLT, Nat.reduceEqDiff, Int.reduceNeg, hlt, List.length_map]
   exact ⟨_, WkE.keep (by simp only [go_sem, ↓reduceIte, reduceCtorEq, Nat.reduceEqDiff]), h0, h1, hgo, rfl⟩
  | succ z =>
   have hkl : k < p.length / 2 := by omega
   have hlt : ((k * 2 : Nat) : Int) < (p.length : Int) := by omega
   have hkn : k * 2 + 2 <= p.length := by omega
   have hsn : guessGo 2 ((pieces 2 p).take (k + 1)) [[], []] = guessGo 2 [(p.drop (k * 2)).take 2] [h0, h1] := by
    rw [take_pieces hkl, guessGo_snoc, hgo, if_pos rfl]
   have hpm : (p.drop (k * 2)).take 2 ∈ pieces 2 p := List.mem_map.2 ⟨k, List.mem_range.2 hkl, rfl⟩
   have e0 := piece_get (n := 2) (k := k) (j := 0) (p := p) (by omega)
   have e1 := piece_get (n := 2) (k := k) (j := 1) (p := p) (by omega)
   obtain ⟨c0, c1, hcx⟩ := two_of (hpl2 _ hpm).1
   rw [hcx] at hsn e0 e1
   refine CwpE.cut (st := ⟨pdE p 2 (k * 2), pd2O h0 h1⟩) ?_ ?_
   ·simp only [go_sem, ↓reduceIte, reduceCtorEq, Nat.reduceLT, Nat.reduceEqDiff, hlt, List.length_map]
    exact ⟨_, WkE.keep (by simp only [go_sem, ↓reduceIte, reduceCtorEq, Nat.reduceEqDiff]), rfl⟩
   have hw : IntKind.i64.wrap (((k * 2 : Nat) : Int) + 2) = (((k + 1) * 2 : Nat) : Int) := by rw [wrap_id (by omega) (by omega)]; omega
   refine CwpE.seqJ (fun s => ∃ (x0 x1 : List (List Nt)), guessGo 2 [[c0, c1]] [h0, h1] = ([x0, x1], true) /\ x0.length <= h0.length + 50 /\ x1.length <= h1.length + 50 /\ s = ⟨pdE p 2 (k * 2), pd2O x0 x1⟩) (CwpE.block ?_) ?_
   ·refine ppiece2 F0 w0 p (k * 2) h0 h1 c0 c1 e0.symm e1.symm hkn (by omega) (by omega) (by omega) (fun x0 x1 hg g0 g1 => ⟨_, .refl _ _, x0, x1, hg, g0, g1, rfl⟩) (fun x0 x1 hg => ?_)
    have hall : parsedP p 2 = ([], false) := by
     rw [hgs, <- List.take_append_drop (k + 1) (pieces 2 p), guessGo_stop _ _ _ _ (by rw [hsn, hg]), hsn, hg]; rfl
    have hf := hfail hall
    exact fun env objs e1 e2 e3 => hf env objs e1 e2 e3
   rintro _ ⟨x0, x1, hg, g0, g1, rfl⟩
   refine CwpE.vc ?_
   generalize k * 2 = i at hw
   simp only [go_sem, ↓reduceIte, reduceCtorEq, Nat.reduceLT, Nat.reduceEqDiff, k2, hw]
   exact ⟨z, ⟨pdE p 2 ((k + 1) * 2), pd2O x0 x1⟩, by omega, WkE.keep (by simp only [go_sem, ↓reduceIte, reduceCtorEq, Nat.reduceEqDiff, k2]), k + 1, x0, x1, by omega, hsn.trans hg, by omega, by omega, rfl⟩
 rintro _ ⟨x0, x1, hall, rfl⟩
 have hlen := guess_len 2 (by omega) (pieces 2 p) [[], []] 0 (fun s hs => (hpl2 s hs).1) rfl (fun h hh => by simp only [List.mem_cons, List.not_mem_nil, or_false, or_self] at hh; subst hh; exact ⟨Nat.le_refl _, fun b hb => by cases hb⟩)
 rw [hall] at hlen
 obtain ⟨m1, m2⟩ := got_len_ok hlen.1 (by omega) hlen.2 (by omega)
 refine CwpE.vc ?_
 simp only [go_sem, ↓reduceIte, Nat.reduceLT, Nat.reduceEqDiff]
 refine callF (refValid_s [x0, x1] m1) (.cons (snap_agg1 (snap_prows2 x0 x1 nilT [])) .nil) rfl ?_
 by_cases hv : validE [x0, x1] = 0
 ·simp only [go_sem, ↓reduceIte, Nat.reduceLT, Nat.reduceEqDiff, hv]
  rw [hgs, hall, if_pos rfl, hv]
  exact snap_got (f := true) (snap_prows2 x0 x1 _ [])
 ·simp only [go_sem, ↓reduceIte, Nat.reduceLT, Nat.reduceEqDiff, hv]
  rw [hgs, hall, if_pos rfl]
  simp only [hv, decide_false]
  exact snap_got (f := false) (snap_prows2 x0 x1 _ [])
end Go.Proofs.YtnncijjkbonokaaDoor
namespace Go.Proofs.YtnncijjkbonokaaDoor
open Go.RowKit Dak
theorem parsed_eq (p : List (List Int)) (n : Nat) : parsedP p n = if (guessP p n).2 = true then guessP p n else if p.length = 0 \/ p.length % n ≠ 0 \/ 64 < p.length then ([], false) else if (guessGo n (pieces n p) (List.replicate n [])).2 = true then guessP p n else ([], false) := by
 unfold parsedP guessP
 by_cases h1 : p.length = 0 \/ p.length % n ≠ 0 \/ 64 < p.length
 ·simp only [h1, if_true]; rfl
 ·simp only [h1, if_false]
  by_cases h2 : (guessGo n (pieces n p) (List.replicate n [])).2 = true
  ·simp only [h2, if_true]; split <;> rfl
  ·simp only [h2]; rfl
theorem parsed_snd (p : List (List Int)) (n : Nat) : (parsedP p n).2 = (guessP p n).2 := by
 unfold parsedP guessP
 by_cases h1 : p.length = 0 \/ p.length % n ≠ 0 \/ 64 < p.length
 ·simp only [h1, if_true]
 ·simp only [h1, if_false]
  by_cases h2 : (guessGo n (pieces n p) (List.replicate n [])).2 = true
  ·simp only [h2, if_true]
  ·simp only [h2]; rfl
theorem parsed_fst {p : List (List Int)} {n : Nat} (h : (guessP p n).2 = true) : parsedP p n = guessP p n := by rw [parsed_eq, if_pos h]
theorem fits_parsed (p : List (List Int)) (n : Nat) : fitsW p (parsedP p n) = fitsW p (guessP p n) := by
 cases h : (guessP p n).2 with
 | true => rw [parsed_fst h]
 | false => simp only [fitsW, parsed_snd, h, Bool.false_and]
abbrev rwrB : CCode := match c24 with | .seq _ (.seq (.seq _ (.block _ (.loop (.seq _ (.seq (.block _ (.seq _ b)) _))))) _) => b | _ => .skip
set_option maxRecDepth 100000 in
theorem refRead_sw (F0 : FD) (w0 : World) (p : List (List Int)) (hp : p.length <= 9223372036854775806) (hpc : ∀ x ∈ p, x.length <= 9223372036854775806) (n : Nat) (r : List (List (List Nt)) × Bool) (hr : r.2 = true -> validE r.1 = 0)
 {Q : Exit -> Est -> Prop} (hQ1 : fitsW p r = false -> Q .normal ⟨[(0, vpage p), (2, .ref 0 1 0 0), (4, vi n)], [.arr 1 1 25 [nilT]]⟩)
 (hQ2 : fitsW p r = true -> ∀ env objs, lk env 2 = .ref 0 1 0 0 -> lk env 3 = vi 0 -> cellsAt objs (.ref 0 1 0 0) = some [vhands r.1] -> Q .ret ⟨env, objs⟩) :
 CwpE Tryd.prog F0 w0 42 rwrB Q ⟨[(0, vpage p), (2, .ref 0 1 0 0), (4, vi n), (5, .ref 1 1 0 0), (6, vb r.2)], [.arr 1 1 25 [nilT], .arr 1 1 25 [vmel r.1]]⟩ := by
 unfold rwrB c24
 refine CwpE.cut (st := ⟨[(0, vpage p), (2, .ref 0 1 0 0), (4, vi n), (5, .ref 1 1 0 0), (6, vb r.2), (7, vi (1 : Nat))], [.arr 1 1 25 [nilT], .arr 1 1 25 [vmel r.1]]⟩) ?_ ?_
 ·simp only [go_sem, ↓reduceIte, Nat.reduceLT]
  exact ⟨_, WkE.keep (by simp only [go_sem, ↓reduceIte, reduceCtorEq, Nat.reduceEqDiff]; rfl), rfl⟩
 refine CwpE.block ?_
 refine loopX 2 (fun z s => ∃ k : Nat, k + z = 40 /\ (r.2 = true -> (List.range k).any (fun k => fitsP p r.1 ((k + 1 : Nat) : Int)) = false) /\ s = ⟨[(0, vpage p), (2, .ref 0 1 0 0), (4, vi n), (5, .ref 1 1 0 0), (6, vb r.2), (7, vi (k + 1 : Nat))], [.arr 1 1 25 [nilT], .arr 1 1 25 [vmel r.1]]⟩)
  (fun s => fitsW p r = false /\ s = ⟨[(0, vpage p), (2, .ref 0 1 0 0), (4, vi n)], [.arr 1 1 25 [nilT]]⟩) 40 _ (.refl _ _) ⟨0, rfl, fun _ => rfl, rfl⟩ ?_ ?_
 rotate_left
 ·rintro s ⟨e, rfl⟩
  simp only [inBlockE, if_true]
  exact hQ1 e
 rintro z s ⟨k, hk, hno, rfl⟩
 have drop : ∀ env : List (Nat × AV), Agree env [(0, vpage p), (2, .ref 0 1 0 0), (4, vi n)] -> WkE 42 ⟨env, [.arr 1 1 25 [nilT], .arr 1 1 25 [vmel r.1]]⟩ ⟨[(0, vpage p), (2, .ref 0 1 0 0), (4, vi n)], [.arr 1 1 25 [nilT]]⟩ := fun env ha => WkE.round ha rfl rfl rfl
 cases hr2 : r.2 with
 | false =>
  by_cases h40 : ((k + 1 : Nat) : Int) <= 40
  ·simp only [go_sem, ↓reduceIte, reduceCtorEq, Nat.reduceLT, Nat.reduceEqDiff, h40]
   exact ⟨_, drop _ (by simp only [go_sem, ↓reduceIte, reduceCtorEq, Nat.reduceEqDiff]), by simp only [fitsW, hr2, Bool.false_and], rfl⟩
  ·simp only [go_sem, ↓reduceIte, reduceCtorEq, Nat.reduceLT, Nat.reduceEqDiff, h40]
   exact ⟨_, drop _ (by simp only [go_sem, ↓reduceIte, reduceCtorEq, Nat.reduceEqDiff]), by simp only [fitsW, hr2, Bool.false_and], rfl⟩
 | true =>
  have hv := hr hr2
  have hvm := vm_len (vm_of hv)
  have hno := hno hr2
  cases z with
  | zero =>
   obtain rfl : k = 40 := by omega
   have h40 : ¬ ((40 + 1 : Nat) : Int) <= 40 := by decide
   simp only [go_sem, ↓reduceIte, reduceCtorEq, Nat.reduceLT, Nat.reduceEqDiff, Nat.reduceAdd, h40]
   exact ⟨_, drop _ (by simp only [go_sem, ↓reduceIte, reduceCtorEq, Nat.reduceEqDiff]), by simp only [fitsW, hr2, Bool.true_and]; exact hno, rfl⟩
  | succ z =>
   have h40 : ((k + 1 : Nat) : Int) <= 40 := by omega
   have hw : IntKind.i64.wrap (((k + 1 : Nat) : Int) + 1) = ((k + 1 + 1 : Nat) : Int) := by rw [wrap_id (by omega) (by omega)]; omega
   have hfk : ∀ b, fitsP p r.1 ((k + 1 : Nat) : Int) = b -> (fun k : Nat => fitsP p r.1 ((k + 1 : Nat) : Int)) k = b := fun b h => h
   simp only [go_sem, ↓reduceIte, reduceCtorEq, Nat.reduceLT, Nat.reduceEqDiff, h40]
   refine callT (refEncode_s r.1 ((k + 1 : Nat) : Int) hvm.1) rfl ?_
   by_cases he : (encP r.1 ((k + 1 : Nat) : Int)).2 = 0
   ·simp only [go_sem, ↓reduceIte, reduceCtorEq, Nat.reduceLT, Nat.reduceEqDiff, he]
    refine callT (SamePages_s p _ hp hpc) rfl ?_
    by_cases hq : p = (encP r.1 ((k + 1 : Nat) : Int)).1
    ·have hf : fitsW p r = true := by
      simp only [fitsW, hr2, Bool.true_and]
      exact range_any_succ hno (hfk true (by simp only [fitsP, he, decide_true, Bool.true_and, decide_eq_true_eq]; exact hq)) (by omega)
     rw [show decide (p = (encP r.1 ((k + 1 : Nat) : Int)).1) = true from decide_eq_true hq]
     simp only [go_sem, ↓reduceIte, reduceCtorEq, Nat.reduceLT, Nat.reduceEqDiff]
     exact hQ2 hf _ _ rfl rfl rfl
    ·rw [show decide (p = (encP r.1 ((k + 1 : Nat) : Int)).1) = false from decide_eq_false hq]
     simp only [go_sem, ↓reduceIte, reduceCtorEq, Nat.reduceLT, Nat.reduceEqDiff, hw]
     exact ⟨z, _, by omega, WkE.keep (by simp only [go_sem, ↓reduceIte, reduceCtorEq, Nat.reduceEqDiff]), k + 1, by omega, any_range hno (hfk false (by simp only [fitsP, hq, decide_false, Bool.and_false])), rfl⟩
   ·simp only [go_sem, ↓reduceIte, reduceCtorEq, Nat.reduceLT, Nat.reduceEqDiff, he, hw]
    exact ⟨z, _, by omega, WkE.keep (by simp only [go_sem, ↓reduceIte, reduceCtorEq, Nat.reduceEqDiff]), k + 1, by omega, any_range hno (hfk false (by simp only [fitsP, he, decide_false, Bool.false_and])), rfl⟩
set_option maxRecDepth 100000 in
theorem refRead_s (p : List (List Int)) (hp : p.length <= 100000) (hpc : ∀ x ∈ p, x.length <= 100000) : Ctr Tryd.prog 24 [vpage p] (vme (readP p)) := by
 have k1 : ((1 : Nat) : Int) = 1 := rfl
 have k2 : ((2 : Nat) : Int) = 2 := rfl
 have l12 : (1 : Int) <= 2 := by decide
 have l22 : (2 : Int) <= 2 := by decide
 have l32 : ¬ (3 : Int) <= 2 := by decide
 have w12 : IntKind.i64.wrap (1 + 1) = 2 := by decide
 have w23 : IntKind.i64.wrap (2 + 1) = 3 := by decide
 refine specC f24 (by simp) fun F0 w0 => ?_
 have ret : ∀ env objs m, lk env 2 = .ref 0 1 0 0 -> lk env 3 = vi 0 -> cellsAt objs (.ref 0 1 0 0) = some [vhands m] -> readP p = (m, 0) -> retE [.cell 2 true 1, .tmp 3] (vme (readP p)) .ret ⟨env, objs⟩ := by
  intro env objs m e1 e2 e3 e
  rw [e]
  refine ⟨.tup [.agg [vhands m], vi 0], ?_, .tup _ _ rfl fun i h1 h2 => by
   match i, h1 with
   | 0, _ => exact snap_agg1 (.tree _ rfl)
   | 1, _ => exact .tree _ rfl⟩
  simp only [resAllE, List.mapM_cons, List.mapM_nil, resE, e1, e2, e3]
  rfl
 unfold c24
 refine CwpE.cut (st := ⟨[(0, vpage p), (2, .ref 0 1 0 0)], [.arr 1 1 25 [nilT]]⟩) ?_ ?_
 ·simp only [go_sem, ↓reduceIte, Nat.reduceLT]
  exact ⟨_, WkE.keep (by simp only [go_sem, ↓reduceIte, reduceCtorEq, Nat.reduceEqDiff]), rfl⟩
 refine CwpE.seqJ (fun s => fitsW p (parsedP p 1) = false /\ fitsW p (parsedP p 2) = false /\ s = ⟨[(0, vpage p), (2, .ref 0 1 0 0)], [.arr 1 1 25 [nilT]]⟩) ?_ ?_
 rotate_left
 ·rintro _ ⟨e1, e2, rfl⟩
  rw [fits_parsed] at e1 e2
  refine CwpE.vc ?_
  simp only [go_sem, ↓reduceIte, reduceCtorEq, Nat.reduceLT, Nat.reduceEqDiff]
  rw [readP, if_neg (by rw [e1]; simp), if_neg (by rw [e2]; simp)]
  refine .tup _ _ rfl fun i h1 h2 => ?_
  match i, h1 with
  | 0, _ => exact snap_agg1 (.nil _)
  | 1, _ => exact .tree _ rfl
 refine CwpE.cut (st := ⟨[(0, vpage p), (2, .ref 0 1 0 0), (4, vi 1)], [.arr 1 1 25 [nilT]]⟩) ?_ ?_
 ·simp only [go_sem, ↓reduceIte, Nat.reduceLT]
  exact ⟨_, WkE.keep (by simp only [go_sem, ↓reduceIte, reduceCtorEq, Nat.reduceEqDiff]), rfl⟩
 refine CwpE.block ?_
 refine loopXC 0 (fun z s => (z = 2 /\ s = ⟨[(0, vpage p), (2, .ref 0 1 0 0), (4, vi 1)], [.arr 1 1 25 [nilT]]⟩) \/ (z = 1 /\ fitsW p (parsedP p 1) = false /\ s = ⟨[(0, vpage p), (2, .ref 0 1 0 0), (4, vi 2)], [.arr 1 1 25 [nilT]]⟩) \/ (z = 0 /\ fitsW p (parsedP p 1) = false /\ fitsW p (parsedP p 2) = false /\ s = ⟨[(0, vpage p), (2, .ref 0 1 0 0), (4, vi 3)], [.arr 1 1 25 [nilT]]⟩))
  (fun s => fitsW p (parsedP p 1) = false /\ fitsW p (parsedP p 2) = false /\ s = ⟨[(0, vpage p), (2, .ref 0 1 0 0)], [.arr 1 1 25 [nilT]]⟩) 2 _ (.refl _ _) (.inl ⟨rfl, rfl⟩) ?_ ?_
 rotate_left
 ·rintro s h
  simp only [inBlockE, if_true]
  exact ⟨_, .refl _ _, h⟩
 rintro z s (⟨rfl, rfl⟩ | ⟨rfl, i2p, rfl⟩ | ⟨rfl, i2p, i3p, rfl⟩)
 ·refine CwpE.cut (st := ⟨[(0, vpage p), (2, .ref 0 1 0 0), (4, vi (1 : Nat))], [.arr 1 1 25 [nilT]]⟩) ?_ ?_
  ·simp only [go_sem, ↓reduceIte, reduceCtorEq, Nat.reduceLT, Nat.reduceEqDiff, k1, l12]
   exact ⟨_, WkE.keep (by simp only [go_sem, ↓reduceIte, reduceCtorEq, Nat.reduceEqDiff]), rfl⟩
  refine CwpE.seqJ (fun s => fitsW p (parsedP p 1) = false /\ s = ⟨[(0, vpage p), (2, .ref 0 1 0 0), (4, vi (1 : Nat))], [.arr 1 1 25 [nilT]]⟩) (CwpE.block ?_) ?_
  ·refine CwpE.cut (st := ⟨[(0, vpage p), (2, .ref 0 1 0 0), (4, vi (1 : Nat)), (5, .ref 1 1 0 0), (6, vb (parsedP p 1).2)], [.arr 1 1 25 [nilT], .arr 1 1 25 [vmel (parsedP p 1).1]]⟩) ?_ ?_
   ·simp only [go_sem, ↓reduceIte, reduceCtorEq, Nat.reduceLT, Nat.reduceEqDiff, k1]
    refine callT (Parsed_1 p (by omega)) rfl ?_
    simp only [go_sem, ↓reduceIte, Nat.reduceLT, Nat.reduceEqDiff]
    exact ⟨_, WkE.keep (by simp only [go_sem, ↓reduceIte, reduceCtorEq, Nat.reduceEqDiff]), rfl⟩
   ·refine refRead_sw F0 w0 p (by omega) (fun x hx => by have := hpc x hx; omega) 1 (parsedP p 1) (fun h => by rw [parsed_snd] at h; rw [parsed_fst h]; exact guess_vm h) (fun h => ⟨_, .refl _ _, h, rfl⟩) (fun h env objs e1 e2 e3 => ?_)
    refine ret env objs (parsedP p 1).1 e1 e2 e3 ?_
    rw [fits_parsed] at h; rw [readP, if_pos h, parsed_fst (by have := h; simp only [fitsW, Bool.and_eq_true] at this; exact this.1)]
  ·rintro _ ⟨hfit, rfl⟩
   refine CwpE.vc ?_
   simp only [go_sem, ↓reduceIte, reduceCtorEq, Nat.reduceLT, Nat.reduceEqDiff, k1, w12]
   exact ⟨1, ⟨[(0, vpage p), (2, .ref 0 1 0 0), (4, vi 2)], [.arr 1 1 25 [nilT]]⟩, by omega, WkE.keep (by simp only [go_sem, ↓reduceIte, reduceCtorEq, Nat.reduceEqDiff]), .inr (.inl ⟨rfl, hfit, rfl⟩)⟩
 ·refine CwpE.cut (st := ⟨[(0, vpage p), (2, .ref 0 1 0 0), (4, vi (2 : Nat))], [.arr 1 1 25 [nilT]]⟩) ?_ ?_
  ·simp only [go_sem, ↓reduceIte, reduceCtorEq, Nat.reduceLT, Nat.reduceEqDiff, k2, l22]
   exact ⟨_, WkE.keep (by simp only [go_sem, ↓reduceIte, reduceCtorEq, Nat.reduceEqDiff]), rfl⟩
  refine CwpE.seqJ (fun s => fitsW p (parsedP p 2) = false /\ s = ⟨[(0, vpage p), (2, .ref 0 1 0 0), (4, vi (2 : Nat))], [.arr 1 1 25 [nilT]]⟩) (CwpE.block ?_) ?_
  ·refine CwpE.cut (st := ⟨[(0, vpage p), (2, .ref 0 1 0 0), (4, vi (2 : Nat)), (5, .ref 1 1 0 0), (6, vb (parsedP p 2).2)], [.arr 1 1 25 [nilT], .arr 1 1 25 [vmel (parsedP p 2).1]]⟩) ?_ ?_
   ·simp only [go_sem, ↓reduceIte, reduceCtorEq, Nat.reduceLT, Nat.reduceEqDiff, k2]
    refine callT (Parsed_2 p (by omega)) rfl ?_
    simp only [go_sem, ↓reduceIte, Nat.reduceLT, Nat.reduceEqDiff]
    exact ⟨_, WkE.keep (by simp only [go_sem, ↓reduceIte, reduceCtorEq, Nat.reduceEqDiff]), rfl⟩
   ·refine refRead_sw F0 w0 p (by omega) (fun x hx => by have := hpc x hx; omega) 2 (parsedP p 2) (fun h => by rw [parsed_snd] at h; rw [parsed_fst h]; exact guess_vm h) (fun h => ⟨_, .refl _ _, h, rfl⟩) (fun h env objs e1 e2 e3 => ?_)
    refine ret env objs (parsedP p 2).1 e1 e2 e3 ?_
    rw [fits_parsed] at h; rw [readP, if_neg (by rw [<- fits_parsed, i2p]; simp), if_pos h, parsed_fst (by have := h; simp only [fitsW, Bool.and_eq_true] at this; exact this.1)]
  ·rintro _ ⟨hfit, rfl⟩
   refine CwpE.vc ?_
   simp only [go_sem, ↓reduceIte, reduceCtorEq, Nat.reduceLT, Nat.reduceEqDiff, k2, w23]
   exact ⟨0, ⟨[(0, vpage p), (2, .ref 0 1 0 0), (4, vi 3)], [.arr 1 1 25 [nilT]]⟩, by omega, WkE.keep (by simp only [go_sem, ↓reduceIte, reduceCtorEq, Nat.reduceEqDiff]), .inr (.inr ⟨rfl, i2p, hfit, rfl⟩)⟩
 ·refine CwpE.vc ?_
  simp only [go_sem, ↓reduceIte, reduceCtorEq, Nat.reduceLT, Nat.reduceEqDiff, l32]
  exact ⟨_, WkE.keep (by simp only [go_sem, ↓reduceIte, reduceCtorEq, Nat.reduceEqDiff]), i2p, i3p, rfl⟩
end Go.Proofs.YtnncijjkbonokaaDoor
namespace Go.Proofs.YtnncijjkbonokaaDoor
open Go.RowKit Dak
set_option maxRecDepth 100000 in
theorem Few_s (l : List Int) (n : Nat) (hl : l.length <= 9223372036854775807) (hn : n <= 100000) : Ctr Tryd.prog 23 [vbytes l, vi n] (vbytes (l.take n)) := by
 refine specC f23 (by simp) fun F0 w0 => ?_
 unfold c23
 refine CwpE.cut (st := ⟨[(0, vbytes l), (1, vi n)], []⟩) ?_ ?_
 ·simp only [go_sem, ↓reduceIte, Nat.reduceLT]
  exact ⟨_, WkE.keep (by simp only [go_sem, ↓reduceIte, reduceCtorEq, Nat.reduceEqDiff]), rfl⟩
 refine CwpE.cut (st := ⟨[(0, vbytes l), (1, vi n), (5, .own 0 0 0 0)], [.arr 0 1 5 []]⟩) ?_ ?_
 ·simp only [go_sem, ↓reduceIte, Nat.reduceLT]
  exact ⟨_, (WkE.nil 5 1 5 (by omega) rfl).trans (WkE.keep (by simp only [go_sem, ↓reduceIte, reduceCtorEq, Nat.reduceEqDiff])), rfl⟩
 have m1 : ((min l.length n : Nat) : Int) <= (l.length : Int) := by omega
 have m0 : (0 : Int) <= ((min l.length n : Nat) : Int) := by omega
 have e : List.take (min l.length n) (l.map vu) = (l.take n).map vu := by rw [List.map_take, Nat.min_comm, <- List.length_map (f := vu), <- List.take_eq_take_min]
 have q1 : (l.take n).length <= 140737488355328 := by rw [List.length_take]; omega
 refine CwpE.vc ?_
 simp only [go_sem, ↓reduceIte, reduceCtorEq, Nat.reduceLT, Nat.reduceEqDiff, List.length_map, min_if, m0, m1, Int.toNat_natCast, e, List.drop_zero, q1, Nat.zero_add, Nat.mul_one, List.take_zero, List.nil_append]
 exact snap_all (l.take n) _ rfl rfl fun _ => rfl
abbrev chB : CCode := match c22 with | .seq _ (.seq _ (.seq (.seq _ (.block _ (.loop b))) _)) => b | _ => .skip
abbrev chE (p : List (List Int)) (a h b : Int) (n : Nat) : List (Nat × AV) := [(0, vpage p), (1, vi a), (2, vi h), (3, vi b), (9, .own 0 n 0 n)]
abbrev pgO (n : Nat) (X : List AV) : AObj := .arr n 1 30 X
set_option maxRecDepth 100000 in
theorem ch_before (F0 : FD) (w0 : World) (p : List (List Int)) (a h b : Int) (k : Nat) (X : List AV) (hX : X.length = k) (hXi : ∀ k, (X.all (AV.inn k)) = true) (r : List Int) (hr : p[k]? = some r) (hk : k < p.length) (hpl : p.length <= 100000) (hrl : r.length <= 100000)
 {Q : Exit -> Est -> Prop} (hQ : ∀ s, WkE 134 s ⟨(10, vi (k + 1 : Nat)) :: chE p a h b (k + 1), [pgO (k + 1) (X ++ [vbytes r])]⟩ -> Q .normal s) : CwpE Tryd.prog F0 w0 134 chB Q ⟨(10, vi k) :: chE p a h b k, [pgO k X]⟩ := by
 have h1 : (k : Int) < (p.length : Int) := by omega
 have h0 : (0 : Int) <= (k : Int) := by omega
 have hw : IntKind.i64.wrap ((k : Int) + 1) = ((k + 1 : Nat) : Int) := by rw [wrap_id (by omega) (by omega)]; omega
 have q1 : r.length <= 140737488355328 := by omega
 have q2 : (k + 1) * 24 <= 140737488355328 := by omega
 have htk : List.take k X = X := List.take_of_length_le (by omega)
 unfold chB c22
 refine CwpE.vc ?_
 simp only [go_sem, Nat.reducePow, Nat.reduceLeDiff, ↓reduceIte, reduceCtorEq, Nat.reduceLT, Nat.reduceEqDiff, Nat.reduceAdd, h1, h0, hw, List.length_map, List.getElem?_map, hr, Option.map_some, q1, q2, htk, hX, Nat.mul_one, Nat.zero_add]
 refine hQ _ ?_
 have fl : 0 + r.length <= (r.map vu).length := by simp
 have hg : (X ++ [AV.own 1 r.length 0 r.length])[k]? = some (AV.own 1 r.length 0 r.length) := by rw [List.getElem?_append_right (by omega), hX, Nat.sub_self]; rfl
 refine (WkE.freezeCell 0 (k + 1) 1 k 0 1 r.length 0 r.length 1 30 5 _ _ _ rfl hg rfl rfl (by omega) fl (List.all_eq_true.2 fun y hy => by obtain ⟨z, _, rfl⟩ := List.mem_map.1 hy; rfl)).trans (WkE.round ?_ ?_ ?_ ?_)
 ·simp only [go_sem, ↓reduceIte, reduceCtorEq, Nat.reduceEqDiff]
 ·rfl
 ·have e : (X ++ [vbytes r]).all (AV.inn 1) = true := by rw [List.all_append, hXi]; rfl
  simp only [List.all_cons, List.all_nil, AObj.innO, e, List.length_cons, List.length_nil, Nat.zero_add, Bool.and_self]
 ·have e : List.take r.length (r.map vu) = r.map vu := List.take_of_length_le (by simp)
  simp only [List.set_cons_succ, List.set_cons_zero, List.take_succ_cons, List.take_zero, List.length_cons, List.length_nil, Nat.zero_add, recell, AV.cells, List.drop_zero, e]
  rw [List.set_append_right _ _ (by omega), hX, Nat.sub_self]; rfl
abbrev crO (r : List Int) : AObj := .arr r.length 1 5 (r.map vu)
abbrev crV (r : List Int) : AV := .own 1 r.length 0 r.length
set_option maxRecDepth 100000 in
theorem ch_at (F0 : FD) (w0 : World) (p : List (List Int)) (a h b : Int) (k : Nat) (X : List AV) (hX : X.length = k) (hXi : ∀ k, (X.all (AV.inn k)) = true) (r : List Int) (hr : p[k]? = some r) (hk : k < p.length) (hpl : p.length <= 100000) (hrl : r.length <= 100000)
 {Q : Exit -> Est -> Prop} (hQ : ∀ s, WkE 134 s ⟨(10, vi (k + 1 : Nat)) :: chE p a h b (k + 1), [pgO (k + 1) (X ++ [crV r]), crO r]⟩ -> Q .normal s) : CwpE Tryd.prog F0 w0 134 chB Q ⟨(10, vi k) :: chE p a h b k, [pgO k X]⟩ := by
 have h1 : (k : Int) < (p.length : Int) := by omega
 have h0 : (0 : Int) <= (k : Int) := by omega
 have hw : IntKind.i64.wrap ((k : Int) + 1) = ((k + 1 : Nat) : Int) := by rw [wrap_id (by omega) (by omega)]; omega
 have q1 : r.length <= 140737488355328 := by omega
 have q2 : (k + 1) * 24 <= 140737488355328 := by omega
 have htk : List.take k X = X := List.take_of_length_le (by omega)
 unfold chB c22
 refine CwpE.vc ?_
 simp only [go_sem, Nat.reducePow, Nat.reduceLeDiff, ↓reduceIte, reduceCtorEq, Nat.reduceLT, Nat.reduceEqDiff, Nat.reduceAdd, h1, h0, hw, List.length_map, List.getElem?_map, hr, Option.map_some, q1, q2, htk, hX, Nat.mul_one, Nat.zero_add]
 refine hQ _ (WkE.round ?_ ?_ ?_ ?_)
 ·simp only [go_sem, ↓reduceIte, reduceCtorEq, Nat.reduceEqDiff]
 ·rfl
 ·have e : (X ++ [crV r]).all (AV.inn 2) = true := by rw [List.all_append, hXi]; rfl
  have e2 : (r.map vu).all (AV.inn 2) = true := inn_map (fun _ => rfl)
  simp only [List.all_cons, List.all_nil, AObj.innO, e, e2, List.length_cons, List.length_nil, Nat.zero_add, Nat.reduceAdd, Bool.and_self]
 ·have e : List.take r.length (r.map vu) = r.map vu := List.take_of_length_le (by simp)
  simp only [List.take_succ_cons, List.take_zero, List.length_cons, List.length_nil, Nat.zero_add]
set_option maxRecDepth 100000 in
theorem ch_after (F0 : FD) (w0 : World) (p : List (List Int)) (a h b : Int) (k : Nat) (X : List AV) (hX : X.length = k) (hXi : (X.all (AV.inn 2)) = true) (r0 r : List Int) (hr : p[k]? = some r) (hk : k < p.length) (hpl : p.length <= 100000) (hrl : r.length <= 100000)
 {Q : Exit -> Est -> Prop} (hQ : ∀ s, WkE 134 s ⟨(10, vi (k + 1 : Nat)) :: chE p a h b (k + 1), [pgO (k + 1) (X ++ [vbytes r]), crO r0]⟩ -> Q .normal s) : CwpE Tryd.prog F0 w0 134 chB Q ⟨(10, vi k) :: chE p a h b k, [pgO k X, crO r0]⟩ := by
 have h1 : (k : Int) < (p.length : Int) := by omega
 have h0 : (0 : Int) <= (k : Int) := by omega
 have hw : IntKind.i64.wrap ((k : Int) + 1) = ((k + 1 : Nat) : Int) := by rw [wrap_id (by omega) (by omega)]; omega
 have q1 : r.length <= 140737488355328 := by omega
 have q2 : (k + 1) * 24 <= 140737488355328 := by omega
 have htk : List.take k X = X := List.take_of_length_le (by omega)
 unfold chB c22
 refine CwpE.vc ?_
 simp only [go_sem, Nat.reducePow, Nat.reduceLeDiff, ↓reduceIte, reduceCtorEq, Nat.reduceLT, Nat.reduceEqDiff, Nat.reduceAdd, h1, h0, hw, List.length_map, List.getElem?_map, hr, Option.map_some, q1, q2, htk, hX, Nat.mul_one, Nat.zero_add]
 refine hQ _ ?_
 have fl : 0 + r.length <= (r.map vu).length := by simp
 have hg : (X ++ [AV.own 2 r.length 0 r.length])[k]? = some (AV.own 2 r.length 0 r.length) := by rw [List.getElem?_append_right (by omega), hX, Nat.sub_self]; rfl
 refine (WkE.freezeCell 0 (k + 1) 1 k 0 2 r.length 0 r.length 1 30 5 _ _ _ rfl hg rfl rfl (by omega) fl (List.all_eq_true.2 fun y hy => by obtain ⟨z, _, rfl⟩ := List.mem_map.1 hy; rfl)).trans (WkE.round ?_ ?_ ?_ ?_)
 ·simp only [go_sem, ↓reduceIte, reduceCtorEq, Nat.reduceEqDiff]
 ·rfl
 ·have e : (X ++ [vbytes r]).all (AV.inn 2) = true := by rw [List.all_append, hXi]; rfl
  have e2 : (r0.map vu).all (AV.inn 2) = true := inn_map (fun _ => rfl)
  simp only [List.all_cons, List.all_nil, AObj.innO, e, e2, List.length_cons, List.length_nil, Nat.zero_add, Nat.reduceAdd, Bool.and_self]
 ·have e : List.take r.length (r.map vu) = r.map vu := List.take_of_length_le (by simp)
  simp only [List.set_cons_succ, List.set_cons_zero, List.take_succ_cons, List.take_zero, List.length_cons, List.length_nil, Nat.zero_add, Nat.reduceAdd, recell, AV.cells, List.drop_zero, e]
  rw [List.set_append_right _ _ (by omega), hX, Nat.sub_self]; rfl
end Go.Proofs.YtnncijjkbonokaaDoor
namespace Go.Proofs.YtnncijjkbonokaaDoor
open Go.RowKit Dak
def pcharP (b : Int) : Int := [0, 33, 8, 32, 3, 57, 45, 60, 28, aroundL b 64].getD (aroundL b 10).toNat 0
def chRow (h : Nat) (r : List Int) (x : Nat) (c : Int) : List Int :=
 if h = 0 then r.take x ++ [c] ++ r.drop x else if h = 1 then r.set x c else if h = 2 then r.take x ++ r.drop (x + 1) else r ++ [0]
def chPage (p : List (List Int)) (h y x : Nat) (c : Int) : List (List Int) :=
 if h = 3 then p.take y ++ p.drop (y + 1) else p.set y (chRow h (p.getD y []) x c)
def changedP (p : List (List Int)) (a h b : Int) : List (List Int) :=
 if p.length = 0 then [[aroundL b 64]] else
  chPage p (aroundL h 5).toNat (aroundL a p.length).toNat (aroundL (a.tdiv 3) ((p.getD (aroundL a p.length).toNat []).length + 1)).toNat (pcharP b)
def chX (p : List (List Int)) (y : Nat) (r0 : List Int) (k : Nat) : List AV := if k <= y then (p.take k).map vbytes else ((p.take k).map vbytes).set y (crV r0)
def chO (y : Nat) (r0 : List Int) (k : Nat) : List AObj := if k <= y then [] else [crO r0]
theorem chX_len {p : List (List Int)} {y : Nat} {r0 : List Int} {k : Nat} (hk : k <= p.length) : (chX p y r0 k).length = k := by
 unfold chX; split <;> simp <;> omega
set_option maxRecDepth 100000 in
theorem ch_loop (F0 : FD) (w0 : World) (p : List (List Int)) (a h b : Int) (y : Nat) (r0 : List Int) (hy : p.length = 0 \/ (y < p.length /\ p[y]? = some r0)) (hpl : p.length <= 100000) (hrl : ∀ r ∈ p, r.length <= 100000) {Q : Exit -> Est -> Prop}
 (hQ : Q .normal ⟨chE p a h b p.length, pgO p.length (chX p y r0 p.length) :: chO y r0 p.length⟩) :
 CwpE Tryd.prog F0 w0 134 (.block 0 (.loop chB)) (fun e s => ∃ s', WkE 134 s s' /\ Q e s') ⟨(10, vi (0 : Nat)) :: chE p a h b 0, [pgO 0 []]⟩ := by
 refine CwpE.block ?_
 refine loopXC 0 (fun z s => ∃ k : Nat, k + z = p.length /\ s = ⟨(10, vi k) :: chE p a h b k, pgO k (chX p y r0 k) :: chO y r0 k⟩)
  (fun s => s = ⟨chE p a h b p.length, pgO p.length (chX p y r0 p.length) :: chO y r0 p.length⟩) p.length _ (.refl _ _) ⟨0, by omega, ?_⟩ ?_ ?_
 ·simp only [chX, chO, Nat.zero_le, if_true, List.take_zero, List.map_nil]
 rotate_left
 ·rintro s rfl
  simp only [inBlockE, if_true]
  exact ⟨_, .refl _ _, hQ⟩
 rintro z s ⟨k, hk, rfl⟩
 cases z with
 | zero =>
  obtain rfl : k = p.length := by omega
  have h1 : ¬ (p.length : Int) < (p.length : Int) := by omega
  obtain ⟨O, hO⟩ : ∃ x, chO y r0 p.length = x := ⟨_, rfl⟩
  obtain ⟨X, hX⟩ : ∃ x, chX p y r0 p.length = x := ⟨_, rfl⟩
  rw [hO, hX]
  unfold chB c22
  refine CwpE.vc ?_
  simp only [go_sem, ↓reduceIte, reduceCtorEq, Nat.reduceLT, Nat.reduceEqDiff, h1, List.length_map]
  exact ⟨_, WkE.keep (by simp only [go_sem, ↓reduceIte, reduceCtorEq, Nat.reduceEqDiff]), rfl⟩
 | succ z =>
  have hlt : k < p.length := by omega
  obtain ⟨r, hr⟩ : ∃ r, p[k] = r := ⟨_, rfl⟩
  have gr : p[k]? = some r := by rw [List.getElem?_eq_getElem hlt, hr]
  have hl := hrl r (hr ▸ List.getElem_mem hlt)
  have hin : ∀ (m n : Nat), ((p.take m).map vbytes).all (AV.inn n) = true := fun m n => inn_map fun _ => rfl
  have htk : (p.take (k + 1)).map vbytes = (p.take k).map vbytes ++ [vbytes r] := by rw [List.take_succ_eq_append_getElem hlt, hr, List.map_append]; rfl
  have hX := chX_len (p := p) (y := y) (r0 := r0) (k := k) (by omega)
  by_cases h1 : k < y
  ·have e1 : chX p y r0 k = (p.take k).map vbytes := if_pos (by omega)
   have e2 : chX p y r0 (k + 1) = chX p y r0 k ++ [vbytes r] := by rw [e1, <- htk]; exact if_pos (by omega)
   have e3 : chO y r0 k = [] := if_pos (by omega)
   have e4 : chO y r0 (k + 1) = [] := if_pos (by omega)
   rw [e3]
   refine ch_before F0 w0 p a h b k _ hX (fun n => by rw [e1]; exact hin _ _) r gr hlt hpl hl fun s hs => ⟨z, _, by omega, hs, k + 1, by omega, ?_⟩
   rw [e2, e4]
  ·by_cases h2 : k = y
   ·subst h2
    obtain rfl : r = r0 := by
     rcases hy with h | ⟨_, h⟩
     ·omega
     ·rw [gr] at h; exact Option.some.inj h
    have e1 : chX p k r k = (p.take k).map vbytes := if_pos (by omega)
    have e2 : chX p k r (k + 1) = chX p k r k ++ [crV r] := by
     unfold chX
     rw [if_neg (by omega), if_pos (by omega), htk, List.set_append_right _ _ (by rw [List.length_map, List.length_take]; omega)]
     have : k - ((p.take k).map vbytes).length = 0 := by rw [List.length_map, List.length_take]; omega
     rw [this]; rfl
    have e3 : chO k r k = [] := if_pos (by omega)
    have e4 : chO k r (k + 1) = [crO r] := if_neg (by omega)
    rw [e3]
    refine ch_at F0 w0 p a h b k _ hX (fun n => by rw [e1]; exact hin _ _) r gr hlt hpl hl fun s hs => ⟨z, _, by omega, hs, k + 1, by omega, ?_⟩
    rw [e2, e4]
   ·have e1 : chX p y r0 k = ((p.take k).map vbytes).set y (crV r0) := if_neg (by omega)
    have e2 : chX p y r0 (k + 1) = chX p y r0 k ++ [vbytes r] := by
     unfold chX
     rw [if_neg (by omega), if_neg (by omega), htk, List.set_append_left _ _ (by simp; omega)]
    have e3 : chO y r0 k = [crO r0] := if_neg (by omega)
    have e4 : chO y r0 (k + 1) = [crO r0] := if_neg (by omega)
    rw [e3]
    refine ch_after F0 w0 p a h b k _ hX (by rw [e1]; exact inn_set (hin k 2) rfl) r0 r gr hlt hpl hl fun s hs => ⟨z, _, by omega, hs, k + 1, by omega, ?_⟩
    rw [e2, e4]
set_option maxRecDepth 100000 in
theorem Changed_s (p : List (List Int)) (a h b : Int) (ha : I64 a) (hh : I64 h) (hb : I64 b) (hpl : p.length <= 100000) (hrl : ∀ r ∈ p, r.length <= 100000) : Ctr Tryd.prog 22 [vpage p, vi a, vi h, vi b] (vpage (changedP p a h b)) := by
 refine specC f22 (by simp) fun F0 w0 => ?_
 have b64 : I64 64 := ⟨by decide, by decide⟩
 have b10 : I64 10 := ⟨by decide, by decide⟩
 have b5 : I64 5 := ⟨by decide, by decide⟩
 have g64 := aroundL_bd (n := b) (most := 64) (by omega)
 have g10 := aroundL_bd (n := b) (most := 10) (by omega)
 have g5 := aroundL_bd (n := h) (most := 5) (by omega)
 have w64 : IntKind.u8.wrap (aroundL b 64) = aroundL b 64 := by rw [IntKind.wrap_u8]; omega
 unfold c22
 refine CwpE.cut (st := ⟨[(0, vpage p), (1, vi a), (2, vi h), (3, vi b)], []⟩) ?_ ?_
 ·simp only [go_sem, ↓reduceIte, Nat.reduceLT, Nat.reduceAdd]
  exact ⟨_, WkE.keep (by simp only [go_sem, ↓reduceIte, reduceCtorEq, Nat.reduceEqDiff]), rfl⟩
 refine CwpE.cut (st := ⟨chE p a h b 0, [pgO 0 []]⟩) ?_ ?_
 ·simp only [go_sem, ↓reduceIte, Nat.reduceLT]
  exact ⟨_, (WkE.nil 9 1 30 (by omega) rfl).trans (WkE.keep (by simp only [go_sem, ↓reduceIte, reduceCtorEq, Nat.reduceEqDiff])), rfl⟩
 by_cases h0 : p.length = 0
 ·obtain rfl := List.eq_nil_of_length_eq_zero h0
  refine CwpE.seqJ (fun s => s = ⟨chE [] a h b 0, [pgO 0 []]⟩) ?_ ?_
  ·refine CwpE.cut (st := ⟨(10, vi (0 : Nat)) :: chE [] a h b 0, [pgO 0 []]⟩) ?_ ?_
   ·simp only [go_sem, ↓reduceIte, Nat.reduceLT]
    exact ⟨_, WkE.keep (by simp only [go_sem, ↓reduceIte, reduceCtorEq, Nat.reduceEqDiff]; rfl), rfl⟩
   exact (ch_loop F0 w0 [] a h b 0 [] (.inl rfl) (by simp) (fun r hr => by cases hr) (Q := fun e s => e = .normal /\ s = ⟨chE [] a h b 0, [pgO 0 []]⟩) ⟨rfl, rfl⟩).mono fun e s ⟨s', hw, he, hs⟩ => by
    subst he; exact ⟨s', hw, hs⟩
  rintro _ rfl
  have z0 : ((0 : Nat) : Int) = 0 := rfl
  refine CwpE.vc ?_
  simp only [go_sem, ↓reduceIte, reduceCtorEq, Nat.reduceLT, Nat.reduceEqDiff, z0]
  refine callT (Around_s b 64 hb b64) rfl ?_
  simp only [go_sem, Nat.reducePow, Nat.reduceLeDiff, ↓reduceIte, Nat.reduceLT, Nat.reduceMul, w64]
  exact .tree _ rfl
 have hy := aroundL_bd (n := a) (most := p.length) (by omega)
 obtain ⟨y, hye⟩ : ∃ y, (aroundL a p.length).toNat = y := ⟨_, rfl⟩
 have hyi : aroundL a p.length = (y : Int) := by omega
 have hyl : y < p.length := by omega
 obtain ⟨r, hr⟩ : ∃ r, p[y] = r := ⟨_, rfl⟩
 have gr : p[y]? = some r := by rw [List.getElem?_eq_getElem hyl, hr]
 have hl := hrl r (hr ▸ List.getElem_mem hyl)
 have hgd : p.getD y [] = r := by rw [List.getD_eq_getElem?_getD, gr]; rfl
 have hx := aroundL_bd (n := a.tdiv 3) (most := (r.length : Int) + 1) (by omega)
 obtain ⟨x, hxe⟩ : ∃ x, (aroundL (a.tdiv 3) ((r.length : Int) + 1)).toNat = x := ⟨_, rfl⟩
 have hxi : aroundL (a.tdiv 3) ((r.length : Int) + 1) = (x : Int) := by omega
 have hxl : x <= r.length := by omega
 obtain ⟨m, hme⟩ : ∃ m, (aroundL h 5).toNat = m := ⟨_, rfl⟩
 have hmi : aroundL h 5 = (m : Int) := by omega
 have hm5 : m < 5 := by omega
 have hch : changedP p a h b = chPage p m y x (pcharP b) := by
  unfold changedP
  rw [if_neg h0, hme, hye, hgd, hxe]
 rw [hch]
 obtain ⟨Z, hZ⟩ : ∃ Z, chX p y r p.length = Z := ⟨_, rfl⟩
 have eZ : Z = (p.map vbytes).set y (crV r) := by rw [<- hZ, chX, if_neg (by omega), List.take_length]
 have lZ : Z.length = p.length := by rw [eZ]; simp
 have gZ : Z[y]? = some (crV r) := by rw [eZ]; exact List.getElem?_set_self (by simpa using hyl)
 have hin : Z.all (AV.inn 2) = true := by rw [eZ]; exact inn_set (inn_map (fun _ => rfl)) rfl
 refine CwpE.seqJ (fun s => s = ⟨chE p a h b p.length, [pgO p.length Z, crO r]⟩) ?_ ?_
 ·refine CwpE.cut (st := ⟨(10, vi (0 : Nat)) :: chE p a h b 0, [pgO 0 []]⟩) ?_ ?_
  ·simp only [go_sem, ↓reduceIte, Nat.reduceLT]
   exact ⟨_, WkE.keep (by simp only [go_sem, ↓reduceIte, reduceCtorEq, Nat.reduceEqDiff]; rfl), rfl⟩
  refine (ch_loop F0 w0 p a h b y r (.inr ⟨hyl, gr⟩) hpl hrl (Q := fun e s => e = .normal /\ s = ⟨chE p a h b p.length, [pgO p.length Z, crO r]⟩) ⟨rfl, ?_⟩).mono fun e s ⟨s', hw, he, hs⟩ => by
   subst he; exact ⟨s', hw, hs⟩
  rw [hZ, chO, if_neg (by omega)]
 rintro _ rfl
 have n0 : ¬ (p.length : Int) = 0 := by omega
 refine CwpE.cut (st := ⟨chE p a h b p.length, [pgO p.length Z, crO r]⟩) ?_ ?_
 ·simp only [go_sem, ↓reduceIte, reduceCtorEq, Nat.reduceLT, Nat.reduceEqDiff, n0]
  exact ⟨_, WkE.keep (by simp only [go_sem, ↓reduceIte, reduceCtorEq, Nat.reduceEqDiff]), rfl⟩
 have bpl : I64 p.length := ⟨by omega, by omega⟩
 refine CwpE.cut (st := ⟨(11, vi y) :: chE p a h b p.length, [pgO p.length Z, crO r]⟩) ?_ ?_
 ·simp only [go_sem, ↓reduceIte, reduceCtorEq, Nat.reduceLT, Nat.reduceEqDiff]
  refine callT (Around_s a p.length ha bpl) rfl ?_
  simp only [go_sem, ↓reduceIte, Nat.reduceLT, hyi]
  exact ⟨_, WkE.keep (by simp only [go_sem, ↓reduceIte, reduceCtorEq, Nat.reduceEqDiff]), rfl⟩
 have y0 : (0 : Int) <= (y : Int) := by omega
 refine CwpE.cut (st := ⟨(11, vi y) :: (12, vi x) :: chE p a h b p.length, [pgO p.length Z, crO r]⟩) ?_ ?_
 ·have y1 : (y : Int) < (p.length : Int) := by omega
  simp only [go_sem, ↓reduceIte, reduceCtorEq, Nat.reduceLT, Nat.reduceEqDiff, Int.reduceEq, y0, y1, gZ]
  have e3 : (a.tdiv 3).natAbs = a.natAbs / 3 := by rw [Int.natAbs_tdiv]; rfl
  have q3 : I64 (a.tdiv 3) := ⟨by have := ha.1; have := ha.2; omega, by have := ha.1; have := ha.2; omega⟩
  have w3 : IntKind.i64.wrap (a.tdiv 3) = a.tdiv 3 := wrap_id q3.1 q3.2
  have w4 : IntKind.i64.wrap ((r.length : Int) + 1) = (r.length : Int) + 1 := wrap_id (by omega) (by omega)
  rw [w3, w4]
  refine callT (Around_s (a.tdiv 3) ((r.length : Int) + 1) q3 ⟨by omega, by omega⟩) rfl ?_
  simp only [go_sem, ↓reduceIte, Nat.reduceLT, hxi]
  exact ⟨_, WkE.keep (by simp only [go_sem, ↓reduceIte, reduceCtorEq, Nat.reduceEqDiff]), rfl⟩
 have hin2 : ((r.map vu).all (AV.inn 2)) = true := inn_map (fun _ => rfl)
 obtain ⟨j, hj⟩ : ∃ j : Nat, aroundL b 10 = (j : Int) := ⟨(aroundL b 10).toNat, by omega⟩
 have hc : ([vu 0, vu 33, vu 8, vu 32, vu 3, vu 57, vu 45, vu 60, vu 28, vu (aroundL b 64)] : List AV)[j]? = some (vu (pcharP b)) := by
  have hj10 : j < 10 := by omega
  unfold pcharP
  rw [hj, Int.toNat_natCast]
  rcases j with _ | _ | _ | _ | _ | _ | _ | _ | _ | _ | j
  all_goals first | rfl | omega
 obtain ⟨c, hce⟩ : ∃ c, pcharP b = c := ⟨_, rfl⟩
 rw [hce] at hc ⊢
 refine CwpE.cut (st := ⟨(11, vi y) :: (12, vi x) :: (13, vu c) :: chE p a h b p.length, [pgO p.length Z, crO r]⟩) ?_ ?_
 ·have j1 : (j : Int) < 10 := by omega
  have j0 : (0 : Int) <= (j : Int) := by omega
  have t10 : ((10 : Nat) : Int) = 10 := rfl
  simp only [go_sem, ↓reduceIte, reduceCtorEq, Nat.reduceLT, Nat.reduceEqDiff]
  refine callT (Around_s b 64 hb b64) rfl ?_
  simp only [go_sem, Nat.reducePow, Nat.reduceLeDiff, ↓reduceIte, reduceCtorEq, Nat.reduceLT, Nat.reduceEqDiff, Nat.reduceAdd, Nat.reduceMul, w64]
  refine callT (Around_s b 10 hb b10) rfl ?_
  simp only [go_sem, ↓reduceIte, Nat.reduceLT, Nat.reduceEqDiff, hj, j0, hc]
  exact ⟨_, WkE.keep (by simp only [go_sem, ↓reduceIte, reduceCtorEq, Nat.reduceEqDiff]), rfl⟩
 have x0 : (0 : Int) <= (x : Int) := by omega
 have y1 : (y : Int) < (p.length : Int) := by omega
 have x1 : (x : Int) <= (r.length : Int) := by omega
 have d1 : r.length - x <= 140737488355328 := by omega
 obtain ⟨D, hD⟩ : ∃ D, r.drop x = D := ⟨_, rfl⟩
 have lD : D.length = r.length - x := by rw [<- hD]; simp
 have dr : List.take (r.length - x) (List.drop x (r.map vu)) = D.map vu := by
  rw [List.take_of_length_le (by simp), <- List.map_drop, hD]
 have gI : (aroundL h 5) = (m : Int) := hmi
 refine CwpE.cut (st := ⟨[(9, .own 0 p.length 0 p.length), (11, vi y), (12, vi x), (13, vu c), (2, vi h), (14, .own 2 0 0 0)], [pgO p.length Z, crO r, .arr 0 1 5 []]⟩) ?_ ?_
 ·simp only [go_sem, ↓reduceIte, Nat.reduceLT]
  exact ⟨_, (WkE.nil 14 1 5 (by omega) rfl).trans (WkE.keep (by simp only [go_sem, ↓reduceIte, reduceCtorEq, Nat.reduceEqDiff, Nat.reduceAdd])), rfl⟩
 refine CwpE.cut (st := ⟨[(9, .own 0 p.length 0 p.length), (11, vi y), (12, vi x), (13, vu c), (2, vi h), (14, .own 2 D.length 0 D.length)], [pgO p.length Z, crO r, .arr D.length 1 5 (D.map vu)]⟩) ?_ ?_
 ·have d2 : x + (r.length - x) <= r.length := by omega
  have d3 : D.length <= 140737488355328 := by omega
  simp only [go_sem, ↓reduceIte, Nat.reduceLT, Nat.reduceEqDiff, Nat.reduceAdd, y0, y1, gZ, x0, x1, dr, d2, d3, Nat.mul_one, Nat.zero_add, List.take_zero, List.nil_append]
  exact ⟨_, WkE.keep (by simp only [go_sem, ↓reduceIte, Nat.reduceEqDiff]), rfl⟩
 refine CwpE.seqJ (fun s => ∃ g, s = ⟨[(9, .own 0 g 0 (chPage p m y x c).length)], [.arr g 1 30 ((chPage p m y x c).map vbytes)]⟩) ?_ ?_
 rotate_left
 ·rintro _ ⟨g, rfl⟩
  refine CwpE.vc ?_
  simp only [go_sem, ↓reduceIte, Nat.reduceLT]
  exact snap_all (chPage p m y x c) _ rfl rfl fun _ => rfl
 refine CwpE.cut (st := ⟨[(68, vi m), (9, .own 0 p.length 0 p.length), (11, vi y), (12, vi x), (13, vu c), (14, .own 2 D.length 0 D.length)], [pgO p.length Z, crO r, .arr D.length 1 5 (D.map vu)]⟩) ?_ ?_
 ·simp only [go_sem, ↓reduceIte, Nat.reduceLT, Nat.reduceEqDiff]
  refine callT (Around_s h 5 hh b5) rfl ?_
  simp only [go_sem, hmi]
  exact ⟨_, WkE.keep (by simp only [go_sem, ↓reduceIte, Nat.reduceEqDiff]), rfl⟩
 have k0 : ((0 : Nat) : Int) = 0 := rfl
 have k1 : ((1 : Nat) : Int) = 1 := rfl
 have k2 : ((2 : Nat) : Int) = 2 := rfl
 have k3 : ((3 : Nat) : Int) = 3 := rfl
 have k4 : ((4 : Nat) : Int) = 4 := rfl
 have hfin : ∀ (g : Nat) (r' : List Int) (Q : List (Nat × AV)) (T : List AObj), chPage p m y x c = p.set y r' -> lk Q 9 = .own 0 p.length 0 p.length ->
  WkE 134 ⟨Q, pgO p.length (Z.set y (.own 1 g 0 r'.length)) :: .arr g 1 5 (r'.map vu) :: T⟩ ⟨[(9, .own 0 p.length 0 (chPage p m y x c).length)], [.arr p.length 1 30 ((chPage p m y x c).map vbytes)]⟩ := by
  intro g r' Q T he hQ
  have fl : 0 + r'.length <= (r'.map vu).length := by simp
  have hg : (Z.set y (AV.own 1 g 0 r'.length))[y]? = some (AV.own 1 g 0 r'.length) := List.getElem?_set_self (by omega)
  rw [he]
  refine (WkE.freezeCell 0 p.length 1 y 0 1 g 0 r'.length 1 30 5 _ _ _ rfl hg rfl rfl (by omega) fl (List.all_eq_true.2 fun y hy => by obtain ⟨z, _, rfl⟩ := List.mem_map.1 hy; rfl)).trans (WkE.round ?_ ?_ ?_ ?_)
  ·rw [List.length_set]
   exact ⟨hQ, trivial⟩
  ·rfl
  ·simp only [List.all_cons, List.all_nil, AObj.innO, inn_map (f := vbytes) (fun _ => rfl), Bool.and_true]
  ·have e : List.take r'.length (r'.map vu) = r'.map vu := List.take_of_length_le (by simp)
   simp only [List.set_cons_succ, List.set_cons_zero, List.take_succ_cons, List.take_zero, List.length_cons, List.length_nil, Nat.zero_add, recell, AV.cells, List.drop_zero, e, List.set_set]
   rw [eZ, List.set_set, List.map_set]
 have zZ : Z.set y (crV r) = Z := by rw [eZ, List.set_set]
 have c1 : (r.length + 1) * 1 <= 140737488355328 := by omega
 have c2 : x <= r.length := hxl
 have c3 : (x + 1) * 1 <= 140737488355328 := by omega
 have c4 : (x + 1 + D.length) * 1 <= 140737488355328 := by omega
 have chR : ∀ k, k ≠ 3 -> chPage p k y x c = p.set y (chRow k r x c) := fun k hk => by rw [chPage, if_neg hk, hgd]
 have lD' : D.length = r.length - x := lD
 refine CwpE.vc ?_
 rcases m with _ | _ | _ | _ | _ | m
 rotate_right
 ·omega
 ·have lt1 : (List.take x (r.map vu)).length = x := by simp; omega
  have lt2 : (r.take x).length = x := by simp; omega
  simp only [Nat.zero_add, Nat.reduceAdd, k0, go_sem, Nat.reducePow, Nat.reduceLeDiff, ↓reduceIte, Nat.reduceLT, Nat.reduceEqDiff, Nat.reduceAdd, Nat.reduceMul, y0, y1, gZ, x0, x1, Nat.sub_zero, c2, c3, c4, lt1]
  have key := hfin (r.length + 1 + D.length) (r.take x ++ [c] ++ D)
  simp only [List.length_append, List.length_cons, List.length_nil, lt2, List.map_append, List.map_take, List.map_cons, List.map_nil, Nat.zero_add] at key
  exact ⟨_, key _ _ ((chR 0 (by omega)).trans (by rw [chRow, if_pos rfl, hD])) rfl, _, rfl⟩
 ·by_cases hd : 0 < D.length
  ·have hd' : (0 : Int) < (D.length : Int) := by omega
   have x2 : (x : Int) < (r.length : Int) := by omega
   have gx : (r.map vu)[x]? = some (vu (r[x]'(by omega))) := by rw [List.getElem?_map, List.getElem?_eq_getElem (by omega)]; rfl
   simp only [Nat.zero_add, k1, go_sem, ↓reduceIte, Nat.reduceLT, Nat.reduceEqDiff, Int.reduceEq, y0, y1, gZ, x0, hd', x2, gx]
   have key := hfin r.length (r.set x c)
   simp only [List.length_set, List.map_set, zZ] at key
   exact ⟨_, key _ _ ((chR 1 (by omega)).trans (by rw [chRow, if_neg (by omega), if_pos rfl])) rfl, _, rfl⟩
  ·have hd' : ¬ (0 : Int) < (D.length : Int) := by omega
   simp only [Nat.zero_add, k1, go_sem, ↓reduceIte, Nat.reduceLT, Nat.reduceEqDiff, Int.reduceEq, hd']
   have key := hfin r.length r
   rw [zZ] at key
   have hrx : r.length <= x := by omega
   exact ⟨_, key _ _ ((chR 1 (by omega)).trans (by rw [chRow, if_neg (by omega), if_pos rfl, List.set_eq_of_length_le hrx])) rfl, _, rfl⟩
 ·by_cases hd : 0 < D.length
  ·have hd' : (0 : Int) < (D.length : Int) := by omega
   have hd1 : (1 : Int) <= (D.length : Int) := by omega
   have d4 : 1 + (D.length - 1) <= D.length := by omega
   have lt1 : (List.take x (r.map vu)).length = x := by simp; omega
   have lt2 : (r.take x).length = x := by simp; omega
   have e5 : List.take (D.length - 1) (List.drop 1 (D.map vu)) = (D.drop 1).map vu := by
    rw [List.take_of_length_le (by simp), List.map_drop]
   have c6 : (x + (D.length - 1)) * 1 <= 140737488355328 := by omega
   simp only [Nat.zero_add, Nat.reduceAdd, k2, go_sem, ↓reduceIte, Nat.reduceLT, Nat.reduceEqDiff, Nat.reduceAdd, Int.reduceToNat, Int.reduceLE, Int.reduceEq, Int.reduceToNat, y0, y1, gZ, x0, x1, Nat.sub_zero, hd', hd1, d4, e5, List.length_drop, c2, c6]
   have key := hfin (r.length + (D.length - 1)) (r.take x ++ D.drop 1)
   simp only [List.length_append, List.length_drop, lt2, List.map_append, List.map_take] at key
   have e6 : r.drop (x + 1) = D.drop 1 := by rw [<- hD, List.drop_drop]
   exact ⟨_, key _ _ ((chR 2 (by omega)).trans (by rw [chRow, if_neg (by omega), if_neg (by omega), if_pos rfl, e6])) rfl, _, rfl⟩
  ·have hd' : ¬ (0 : Int) < (D.length : Int) := by omega
   simp only [Nat.zero_add, Nat.reduceAdd, k2, go_sem, ↓reduceIte, Nat.reduceLT, Nat.reduceEqDiff, Nat.reduceAdd, Int.reduceEq, hd']
   have key := hfin r.length r
   rw [zZ] at key
   have e6 : r.take x ++ r.drop (x + 1) = r := by
    rw [List.take_of_length_le (by omega), List.drop_eq_nil_of_le (by omega), List.append_nil]
   exact ⟨_, key _ _ ((chR 2 (by omega)).trans (by rw [chRow, if_neg (by omega), if_neg (by omega), if_pos rfl, e6])) rfl, _, rfl⟩
 ·have y2 : (y : Int) <= (p.length : Int) := by omega
  have w1 : IntKind.i64.wrap ((y : Int) + 1) = ((y + 1 : Nat) : Int) := by rw [wrap_id (by omega) (by omega)]; omega
  have y3 : (0 : Int) <= ((y + 1 : Nat) : Int) := by omega
  have y4 : ((y + 1 : Nat) : Int) <= (p.length : Int) := by omega
  have y5 : y + 1 + (p.length - (y + 1)) <= p.length := by omega
  have y6 : y <= p.length := by omega
  have lt1 : (List.take (p.length - (y + 1)) (List.drop (y + 1) Z)).length = p.length - (y + 1) := by simp; omega
  have y7 : (y + (p.length - (y + 1))) * 24 <= 140737488355328 := by omega
  simp only [Nat.zero_add, Nat.reduceAdd, k3, go_sem, ↓reduceIte, Nat.reduceLT, Nat.reduceEqDiff, Nat.reduceAdd, Int.reduceEq, y0, y2, w1, y3, y4, Nat.sub_zero, Int.toNat_natCast, lZ, y5, y6, y7, lt1]
  have e1 : chPage p 3 y x c = p.take y ++ p.drop (y + 1) := by rw [chPage, if_pos rfl]
  have e2 : (p.take y ++ p.drop (y + 1)).length = y + (p.length - (y + 1)) := by simp; omega
  have e3 : List.take y Z ++ List.take (p.length - (y + 1)) (List.drop (y + 1) Z) = (p.take y ++ p.drop (y + 1)).map vbytes := by
   rw [eZ, List.take_set_of_le (Nat.le_refl _), List.drop_set_of_lt (by omega), List.take_of_length_le (l := List.drop (y + 1) (p.map vbytes)) (by simp), List.map_append, List.map_take, List.map_drop]
  rw [e1, e2, e3]
  refine ⟨_, WkE.round (env' := [(9, .own 0 (p.length + (p.length - (y + 1))) 0 (y + (p.length - (y + 1))))]) (objs' := [.arr (p.length + (p.length - (y + 1))) 1 30 ((p.take y ++ p.drop (y + 1)).map vbytes)]) ?_ ?_ ?_ ?_, _, rfl⟩
  ·simp only [go_sem, ↓reduceIte]
  ·rfl
  ·simp only [List.all_cons, List.all_nil, AObj.innO, inn_map (f := vbytes) (fun _ => rfl), Bool.and_true]
  ·rfl
 ·simp only [Nat.zero_add, Nat.reduceAdd, k4, go_sem, Nat.reducePow, Nat.reduceLeDiff, ↓reduceIte, Nat.reduceLT, Nat.reduceEqDiff, Nat.reduceAdd, Nat.reduceMul, Int.reduceEq, y0, y1, gZ, c1]
  have key := hfin (r.length + 1) (r ++ [0])
  simp only [List.length_append, List.length_cons, List.length_nil, List.map_append, List.map_cons, List.map_nil, Nat.zero_add] at key
  exact ⟨_, key _ _ ((chR 4 (by omega)).trans (by rw [chRow, if_neg (by omega), if_neg (by omega), if_neg (by omega)])) rfl, _, rfl⟩
end Go.Proofs.YtnncijjkbonokaaDoor
namespace Go.Proofs.YtnncijjkbonokaaDoor
open Go.RowKit Dak
def pageB (p : List (List Int)) (n k : Nat) : Prop := p.length <= n /\ ∀ r ∈ p, r.length <= k
theorem encGo_small {m : List (List (List Nt))} (hm : Vm m) (width : Int) : ∀ (k i : Nat) (s : Sys) (p : List (List Int)), i + k = manyP m -> Sok m s -> wideP s.ls 0 <= 1 + 65 * i -> p.length <= 2 * i -> (∀ r ∈ p, r.length <= 3000) -> pageB (encGo m width k i s p) 70 3000
 | 0, i, s, p, hk, hs, hw, hp, hr => by
  have hp1 := hm.pos
  have hh := hm.hands
  have hl := hs.l1
  refine ⟨by simp only [encGo, List.length_append]; omega, fun r hr' => ?_⟩
  rcases List.mem_append.1 hr' with h | h
  ·exact hr r h
  ·have := (wide_mono s.ls 0).2 r h; omega
 | k + 1, i, s, p, hk, hs, hw, hp, hr => by
  have hp1 := hm.pos
  have hh := hm.hands
  have hl := hs.l1
  have f1 := first_wide m.length
  have sf := sok_first hm
  unfold encGo
  split
  ·have h2 := add_wide hm sf (bar := i) (by omega)
   refine encGo_small hm width k (i + 1) _ _ (by omega) (sok_add hm sf (by omega)) (by omega) (by simp only [List.length_append]; omega) fun r hr' => ?_
   rcases List.mem_append.1 hr' with h | h
   ·exact hr r h
   ·have := (wide_mono s.ls 0).2 r h; omega
  ·have h2 := add_wide hm hs (bar := i) (by omega)
   exact encGo_small hm width k (i + 1) _ _ (by omega) (sok_add hm hs (by omega)) (by omega) (by omega) hr
theorem encP_small (m : List (List (List Nt))) (width : Int) : pageB (encP m width).1 70 3000 := by
 unfold encP
 split
 ·exact ⟨by simp, fun r h => by cases h⟩
 ·rename_i hv
  have hm := vm_of (Decidable.not_not.1 hv)
  split
  ·exact ⟨by simp, fun r h => by cases h⟩
  ·split
   ·exact ⟨by simp, fun r h => by cases h⟩
   ·exact encGo_small hm width _ _ _ _ (by omega) (sok_first hm) (by have := first_wide m.length; omega) (by simp) fun r h => by cases h
theorem chRow_len (h : Nat) (r : List Int) (x : Nat) (c : Int) : (chRow h r x c).length <= r.length + 1 := by
 unfold chRow
 split
 ·simp only [List.length_append, List.length_take, List.length_drop, List.length_cons, List.length_nil]; omega
 ·split
  ·simp
  ·split
   ·simp only [List.length_append, List.length_take, List.length_drop]; omega
   ·simp
theorem changed_small {p : List (List Int)} {n k : Nat} (hp : pageB p n k) (hn : 1 <= n) (a h b : Int) : pageB (changedP p a h b) n (k + 1) := by
 unfold changedP
 split
 ·exact ⟨by simpa using hn, fun r hr => by simp only [List.mem_cons, List.not_mem_nil, or_false] at hr; subst hr; simp⟩
 ·rename_i h0
  have hy := aroundL_bd (n := a) (most := p.length) (by omega)
  unfold chPage
  split
  ·refine ⟨by have := hp.1; simp only [List.length_append, List.length_take, List.length_drop]; omega, fun r hr => ?_⟩
   rcases List.mem_append.1 hr with h | h
   ·have := hp.2 r (List.mem_of_mem_take h); omega
   ·have := hp.2 r (List.mem_of_mem_drop h); omega
  ·refine ⟨by have := hp.1; simpa using this, fun r hr => ?_⟩
   rcases List.mem_or_eq_of_mem_set hr with h | h
   ·have := hp.2 r h; omega
   ·subst h
    have h1 := chRow_len (aroundL h 5).toNat (p.getD (aroundL a p.length).toNat []) (aroundL (a.tdiv 3) ((p.getD (aroundL a p.length).toNat []).length + 1)).toNat (pcharP b)
    have h2 := hp.2 _ (getD_mem (l := p) (i := (aroundL a p.length).toNat) (by omega))
    omega
end Go.Proofs.YtnncijjkbonokaaDoor
namespace Go.Proofs.YtnncijjkbonokaaDoor
open Go.RowKit Dak
set_option maxRecDepth 100000 in
theorem MusicReads_s (l : List Int) (w a h b : Int) (raw : List (List Int)) (hl : ∀ x ∈ l, I64 x) (hw : I64 w) (ha : I64 a) (hh : I64 h) (hb : I64 b) (hraw : raw.length <= 9223372036854775807) (hrr : ∀ r ∈ raw, r.length <= 9223372036854775807) :
 Ctr Tryd.prog 5 [vints l, vi w, vi a, vi h, vi b, vpage raw] (vb true) := by
 refine specC f5 (by simp) fun F0 w0 => ?_
 have b31 : I64 31 := ⟨by decide, by decide⟩
 have g31 := aroundL_bd (n := w) (most := 31) (by omega)
 have w31 : IntKind.i64.wrap (10 + aroundL w 31) = 10 + aroundL w 31 := wrap_id (by omega) (by omega)
 have q5 : (h.tdiv 5).natAbs = h.natAbs / 5 := by rw [Int.natAbs_tdiv]; rfl
 have i5 : I64 (h.tdiv 5) := ⟨by have := hh.1; have := hh.2; omega, by have := hh.1; have := hh.2; omega⟩
 have w5 : IntKind.i64.wrap (h.tdiv 5) = h.tdiv 5 := wrap_id i5.1 i5.2
 obtain ⟨E, hE⟩ : ∃ E, encP (melP l) (10 + aroundL w 31) = E := ⟨_, rfl⟩
 have sE : pageB E.1 70 3000 := by rw [<- hE]; exact encP_small _ _
 have s1 : pageB (changedP E.1 a h b) 70 3001 := changed_small sE (by omega) a h b
 have s2 : pageB (changedP (changedP E.1 a h b) b (h.tdiv 5) a) 70 3002 := changed_small s1 (by omega) _ _ _
 obtain ⟨P1, hP1⟩ : ∃ x, changedP E.1 a h b = x := ⟨_, rfl⟩
 obtain ⟨P2, hP2⟩ : ∃ x, changedP P1 b (h.tdiv 5) a = x := ⟨_, rfl⟩
 rw [hP1] at s1 s2
 rw [hP2] at s2
 unfold c5
 refine CwpE.cut (st := ⟨[(0, vints l), (1, vi w), (2, vi a), (3, vi h), (4, vi b), (5, vpage raw)], []⟩) ?_ ?_
 ·simp only [go_sem, ↓reduceIte, Nat.reduceLT, Nat.reduceAdd]
  exact ⟨_, WkE.keep (by simp only [go_sem, ↓reduceIte, reduceCtorEq, Nat.reduceEqDiff]), rfl⟩
 refine CwpE.cut (st := ⟨[(13, vpage E.1), (2, vi a), (3, vi h), (4, vi b), (5, vpage raw)], []⟩) ?_ ?_
 ·simp only [go_sem, ↓reduceIte, Nat.reduceLT]
  refine callT (Melody_s l hl) rfl ?_
  simp only [go_sem, ↓reduceIte, reduceCtorEq, Nat.reduceLT, Nat.reduceEqDiff]
  refine callT (Around_s w 31 hw b31) rfl ?_
  simp only [go_sem, ↓reduceIte, Nat.reduceLT, Nat.reduceEqDiff, w31]
  refine callT (refEncode_s (melP l) (10 + aroundL w 31) (vm_len (melP_vm l)).1) rfl ?_
  rw [hE]
  simp only [go_sem, ↓reduceIte, Nat.reduceLT, Nat.reduceEqDiff]
  exact ⟨_, WkE.keep (by simp only [go_sem, ↓reduceIte, reduceCtorEq, Nat.reduceEqDiff]), rfl⟩
 refine CwpE.cut (st := ⟨[(13, vpage E.1), (15, vpage P1), (2, vi a), (3, vi h), (4, vi b), (5, vpage raw)], []⟩) ?_ ?_
 ·simp only [go_sem, ↓reduceIte, Nat.reduceLT, Nat.reduceEqDiff]
  refine callT (Changed_s E.1 a h b ha hh hb (by have := sE.1; omega) fun r hr => by have := sE.2 r hr; omega) rfl ?_
  simp only [go_sem, ↓reduceIte, Nat.reduceLT, hP1]
  exact ⟨_, WkE.keep (by simp only [go_sem, ↓reduceIte, Nat.reduceEqDiff]), rfl⟩
 refine CwpE.cut (st := ⟨[(16, .own 0 0 0 0), (13, vpage E.1), (15, vpage P1), (2, vi a), (3, vi h), (4, vi b), (5, vpage raw)], [.arr 0 1 30 []]⟩) ?_ ?_
 ·simp only [go_sem, ↓reduceIte, Nat.reduceLT]
  exact ⟨_, (WkE.nil 16 1 30 (by omega) rfl).trans (WkE.keep (by simp only [go_sem, ↓reduceIte, Nat.reduceEqDiff])), rfl⟩
 obtain ⟨R, hR⟩ : ∃ R : List (List Int), (raw.take 4).map (fun r => r.take 12) = R := ⟨_, rfl⟩
 have sR : pageB R 4 12 := by
  refine ⟨by rw [<- hR]; simp; omega, fun r hr => ?_⟩
  rw [<- hR] at hr
  obtain ⟨z, _, rfl⟩ := List.mem_map.1 hr
  simp; omega
 refine CwpE.seqJ (fun s => s = ⟨[(16, vpage R), (13, vpage E.1), (15, vpage P1), (2, vi a), (3, vi h), (4, vi b)], []⟩) ?_ ?_
 ·refine CwpE.cut (st := ⟨[(17, vi (0 : Nat)), (16, .own 0 0 0 0), (13, vpage E.1), (15, vpage P1), (2, vi a), (3, vi h), (4, vi b), (5, vpage raw)], [.arr 0 1 30 []]⟩) ?_ ?_
  ·simp only [go_sem, ↓reduceIte, Nat.reduceLT]
   exact ⟨_, WkE.keep (by simp only [go_sem, ↓reduceIte, Nat.reduceEqDiff]; rfl), rfl⟩
  refine CwpE.block ?_
  refine loopX 0 (fun z s => ∃ (k : Nat) (acc : List (List Int)), k + z = min raw.length 4 /\ acc = (raw.take k).map (fun r => r.take 12) /\ s = ⟨[(17, vi k), (16, .own 0 acc.length 0 acc.length), (13, vpage E.1), (15, vpage P1), (2, vi a), (3, vi h), (4, vi b), (5, vpage raw)], [.arr acc.length 1 30 (acc.map vbytes)]⟩)
   (fun s => s = ⟨[(16, vpage R), (13, vpage E.1), (15, vpage P1), (2, vi a), (3, vi h), (4, vi b)], []⟩) (min raw.length 4) _ (.refl _ _) ⟨0, [], by omega, rfl, rfl⟩ ?_ ?_
  rotate_left
  ·rintro s rfl
   simp only [inBlockE, if_true]
   exact ⟨_, .refl _ _, rfl⟩
  rintro z s ⟨k, acc, hk, hacc, rfl⟩
  cases z with
  | zero =>
   have hfz : R = acc := by
    rw [<- hR, hacc]
    have : k = min raw.length 4 := by omega
    subst this
    rw [Nat.min_comm, <- List.take_eq_take_min]
   have fin : ∀ Q : List (Nat × AV), WkE 98 ⟨(16, .own 0 acc.length 0 acc.length) :: (13, vpage E.1) :: (15, vpage P1) :: (2, vi a) :: (3, vi h) :: (4, vi b) :: Q, [.arr acc.length 1 30 (acc.map vbytes)]⟩ ⟨[(16, vpage R), (13, vpage E.1), (15, vpage P1), (2, vi a), (3, vi h), (4, vi b)], []⟩ := fun Q => by
    refine (WkE.freeze 16 0 acc.length 0 acc.length 1 30 (acc.map vbytes) (by omega) rfl rfl (by simp) (List.all_eq_true.2 fun y hy => by obtain ⟨v, _, rfl⟩ := List.mem_map.1 hy; rfl)).trans (WkE.round ?_ ?_ ?_ ?_)
    ·have e : List.take acc.length (List.drop 0 (acc.map vbytes)) = acc.map vbytes := List.take_of_length_le (by simp)
     rw [e, hfz]
     simp only [go_sem, ↓reduceIte, Nat.reduceEqDiff]
    ·rfl
    ·rfl
    ·rfl
   by_cases hkr : k < raw.length
   ·have h1 : (k : Int) < (raw.length : Int) := by omega
    have h2 : ¬ (k : Int) < 4 := by omega
    simp only [go_sem, ↓reduceIte, Nat.reduceLT, Nat.reduceEqDiff, h1, h2, List.length_map]
    exact ⟨_, (WkE.keep (by simp only [go_sem, ↓reduceIte, Nat.reduceEqDiff])).trans (fin []), rfl⟩
   ·have h1 : ¬ (k : Int) < (raw.length : Int) := by omega
    simp only [go_sem, ↓reduceIte, Nat.reduceLT, Nat.reduceEqDiff, h1, List.length_map]
    exact ⟨_, (WkE.keep (by simp only [go_sem, ↓reduceIte, Nat.reduceEqDiff])).trans (fin []), rfl⟩
  | succ z =>
   have hkr : k < raw.length := by omega
   have h1 : (k : Int) < (raw.length : Int) := by omega
   have h2 : (k : Int) < 4 := by omega
   have h0 : (0 : Int) <= (k : Int) := by omega
   have hkw : IntKind.i64.wrap ((k : Int) + 1) = ((k + 1 : Nat) : Int) := by rw [wrap_id (by omega) (by omega)]; omega
   obtain ⟨r, hr⟩ : ∃ r, raw[k] = r := ⟨_, rfl⟩
   have gr : raw[k]? = some r := by rw [List.getElem?_eq_getElem hkr, hr]
   have hal : acc.length <= 4 := by rw [hacc]; simp; omega
   have htk : List.take acc.length (acc.map vbytes) = acc.map vbytes := List.take_of_length_le (by simp)
   have q1 : (acc.length + 1) * 24 <= 140737488355328 := by omega
   simp only [go_sem, ↓reduceIte, Nat.reduceLT, Nat.reduceEqDiff, h1, h2, h0, List.length_map, List.getElem?_map, gr, Option.map_some]
   refine callT (Few_s r 12 (hrr r (hr ▸ List.getElem_mem hkr)) (by omega)) rfl ?_
   simp only [go_sem, Nat.reducePow, Nat.reduceLeDiff, ↓reduceIte, Nat.reduceLT, Nat.reduceEqDiff, Nat.reduceMul, q1, htk, hkw]
   have e2 : (acc ++ [r.take 12]).length = acc.length + 1 := by simp
   have e3 : (acc ++ [r.take 12]).map vbytes = acc.map vbytes ++ [vbytes (r.take 12)] := by simp
   refine ⟨z, ⟨[(17, vi (k + 1 : Nat)), (16, .own 0 (acc.length + 1) 0 (acc.length + 1)), (13, vpage E.1), (15, vpage P1), (2, vi a), (3, vi h), (4, vi b), (5, vpage raw)], [.arr (acc.length + 1) 1 30 (acc.map vbytes ++ [vbytes (r.take 12)])]⟩, by omega, WkE.keep (by simp only [go_sem, ↓reduceIte, Nat.reduceEqDiff]), k + 1, acc ++ [r.take 12], by omega, by rw [hacc, List.take_succ_eq_append_getElem hkr, hr, List.map_append]; rfl, ?_⟩
   rw [e2, e3]
 rintro _ rfl
 obtain ⟨PL, hPL⟩ : ∃ PL : List AV, [vpage E.1, vpage P1, vpage P2, vpage R, .val (.slice none 0 0)] = PL := ⟨_, rfl⟩
 have lPL : PL.length = 5 := by rw [<- hPL]; rfl
 have hp5 : ∀ k : Nat, k < 5 -> ∃ v q, PL[k]? = some v /\ (∀ objs, Snap objs v (vpage q)) /\ pageB q 70 3002 /\ v.cells = [v] := by
  intro k hk
  have dT : ∀ q : List (List Int), ∀ objs, Snap objs (vpage q) (vpage q) := fun q objs => .tree _ rfl
  rw [<- hPL]
  rcases k with _ | _ | _ | _ | _ | k
  ·exact ⟨_, E.1, rfl, dT _, ⟨sE.1, fun r hr => by have := sE.2 r hr; omega⟩, rfl⟩
  ·exact ⟨_, P1, rfl, dT _, ⟨s1.1, fun r hr => by have := s1.2 r hr; omega⟩, rfl⟩
  ·exact ⟨_, P2, rfl, dT _, s2, rfl⟩
  ·exact ⟨_, R, rfl, dT _, ⟨by have := sR.1; omega, fun r hr => by have := sR.2 r hr; omega⟩, rfl⟩
  ·exact ⟨_, [], rfl, fun objs => .nil _, ⟨by simp, fun r hr => by cases hr⟩, rfl⟩
  ·omega
 refine CwpE.cut (st := ⟨[(18, .list 1 PL)], []⟩) ?_ ?_
 ·simp only [go_sem, ↓reduceIte, Nat.reduceLT, Nat.reduceEqDiff, Int.reduceEq, w5]
  refine callT (Changed_s P1 b (h.tdiv 5) a hb i5 ha (by have := s1.1; omega) fun r hr => by have := s1.2 r hr; omega) rfl ?_
  rw [hP2]
  simp only [go_sem, Nat.reducePow, Nat.reduceLeDiff, ↓reduceIte, reduceCtorEq, Nat.reduceLT, Nat.reduceEqDiff, Nat.reduceAdd, Nat.reduceMul, hPL]
  exact ⟨_, WkE.keep (by simp only [go_sem, ↓reduceIte]), rfl⟩
 refine CwpE.seqJ (fun s => s = ⟨[], []⟩) ?_ ?_
 rotate_left
 ·rintro _ rfl
  refine CwpE.vc ?_
  simp only [go_sem]
  refine callT lives_s rfl ?_
  simp only [go_sem, ↓reduceIte, Nat.reduceLT]
  exact .tree _ rfl
 refine CwpE.cut (st := ⟨[(18, .list 1 PL), (19, vi (0 : Nat))], []⟩) ?_ ?_
 ·simp only [go_sem, ↓reduceIte, Nat.reduceLT]
  exact ⟨_, WkE.keep (by simp only [go_sem, ↓reduceIte, Nat.reduceEqDiff]; rfl), rfl⟩
 refine CwpE.block ?_
 refine loopX 2 (fun z s => ∃ (k : Nat), k + z = 5 /\ s = ⟨[(18, .list 1 PL), (19, vi k)], []⟩) (fun s => s = ⟨[], []⟩) 5 _ (.refl _ _) ⟨0, by omega, rfl⟩ ?_ ?_
 rotate_left
 ·rintro s rfl
  simp only [inBlockE, if_true]
  exact ⟨_, .refl _ _, rfl⟩
 rintro z s ⟨k, hk, rfl⟩
 cases z with
 | zero =>
  have h1 : ¬ (k : Int) < ((5 : Nat) : Int) := by omega
  simp only [go_sem, ↓reduceIte, Nat.reduceLT, Nat.reduceEqDiff, lPL, h1]
  exact ⟨_, WkE.keep (by simp only [go_sem]), rfl⟩
 | succ z =>
  have h1 : (k : Int) < ((5 : Nat) : Int) := by omega
  have h0 : (0 : Int) <= (k : Int) := by omega
  have hkw : IntKind.i64.wrap ((k : Int) + 1) = ((k + 1 : Nat) : Int) := by rw [wrap_id (by omega) (by omega)]; omega
  obtain ⟨v, q, gv, sv, bq, hm⟩ := hp5 k (by omega)
  unfold AV.cells at hm
  simp only [go_sem, ↓reduceIte, Nat.reduceLT, Nat.reduceEqDiff, lPL, h1, h0, gv, hm]
  refine callN (Read_s q (by have := bq.1; omega) fun r hr => by have := bq.2 r hr; omega) (.cons (sv _) .nil) ?_
  simp only [go_sem, ↓reduceIte, Nat.reduceLT, Nat.reduceEqDiff, h0, gv, hm]
  refine callN (refRead_s q (by have := bq.1; omega) fun r hr => by have := bq.2 r hr; omega) (.cons (sv _) .nil) ?_
  simp only [go_sem, ↓reduceIte, Nat.reduceLT, Nat.reduceEqDiff]
  refine callT (refSame_s (readP q).1 (readP q).1 (read_lenM q)) rfl ?_
  rw [show decide ((readP q).1 = (readP q).1) = true from decide_eq_true rfl]
  simp only [go_sem, ↓reduceIte, Nat.reduceLT, Nat.reduceEqDiff, hkw]
  exact ⟨z, ⟨[(18, .list 1 PL), (19, vi (k + 1 : Nat))], []⟩, by omega, WkE.round (by simp only [go_sem, ↓reduceIte, Nat.reduceEqDiff]) rfl rfl rfl, k + 1, by omega, rfl⟩
end Go.Proofs.YtnncijjkbonokaaDoor
namespace Go.Proofs.YtnncijjkbonokaaDoor
open Go Go.RowKit Dak Go.ChangeAt Go.ChangeShapes Go.WideShapes
theorem u30 : Tryd.prog.underlying 30 = some (.slice 5) := by kernel_rfl
theorem cl30 : Tryd.prog.cellsOf 30 = 1 := by kernel_rfl
section
variable {H : Type} {enc : TypeId × Value -> H} {W : World} {base : Nat} {sp : Nat -> Bool} {held : Bool}
end
section
variable {H : Type} {enc : TypeId × Value -> H} {W : World} {base : Nat} {sp : Nat -> Bool} {held : Bool}
theorem tr_bytes {fuel : Nat} {cs : List Value} {x : DataW H × List MemPlace} (h : DataW.trod enc Tryd.prog W base sp held fuel 30 cs = some x) :
 ∃ (r : List Int) (v : Value), cs = [v] /\ TR W (fun _ => True) (vbytes r) v /\ v.oneCell' = true /\ r.length <= maxLen := by
 rcases open_ints u30 u5 cl5 h with ⟨rfl, _⟩ | ⟨a, len, cap, zs, rfl, _, hl, hm, hz, _, hc, _⟩
 ·exact ⟨[], _, rfl, .nolist _ _ _ (Nat.zero_le _), rfl, Nat.zero_le _⟩
 ·have hzl : len <= zs.length := by rw [hz]; split <;> omega
  refine ⟨zs.take len, _, rfl, ?_, rfl, by rw [List.length_take]; omega⟩
  by_cases h0 : len = 0
  ·subst h0; exact .nolist _ _ _ hm
  obtain ⟨b, o, s⟩ := a
  have hsp : s = none := World.cell?_spot (hc 0 (by omega))
  subst hsp
  have hlen : ((zs.take len).map vu).length = len := by simp; omega
  have := TR.list (w := W) (F := fun _ => True) 1 ((zs.take len).map vu) b o cap (fun i _ => .int .u8 (zs.getD i 0)) trivial (isC.of_cell (hc 0 (by omega))) (by omega) hm
   (fun i hi => by simp [AV.cells]) (fun i j hi hj => by
    have : j = 0 := by omega
    subst this
    have := hc i (by omega)
    rw [Nat.mul_one, Nat.add_zero]
    by_cases hi0 : i = 0
    ·subst hi0; simpa [Addr.add] using this
    ·simpa [Addr.add, hi0] using this) (fun i j hi hj => rfl) (fun i hi j hj => by
    simp only [List.getElem_map, AV.cells, List.length_singleton] at hj ⊢
    have : j = 0 := by omega
    subst this
    have h1 : i < zs.length := by omega
    simp only [List.getElem_cons_zero, List.getElem_take, List.getD_eq_getElem?_getD, List.getElem?_eq_getElem h1, Option.getD_some]
    exact .val _)
  rw [hlen] at this
  exact this
theorem u39 : Tryd.prog.underlying 39 = some (.slice 30) := by kernel_rfl
theorem tr_page {fuel : Nat} {cs : List Value} {x : DataW H × List MemPlace} (h : DataW.trod enc Tryd.prog W base sp held fuel 39 cs = some x) :
 ∃ (l : List (List Int)) (v : Value), cs = [v] /\ TR W (fun _ => True) (vpage l) v /\ l.length <= maxLen /\ ∀ r ∈ l, r.length <= maxLen := by
 rcases DataW.trod_slice u39 h with ⟨rfl, _⟩ | ⟨a, len, cap, elems, rest, n, _, rfl, _, _, hl, hm, hlen, hel, _⟩
 ·exact ⟨[], _, rfl, .nolist _ _ _ (Nat.zero_le _), Nat.zero_le _, fun r hr => by cases hr⟩
 ·have each : ∀ i, ∃ q : List Int × Value, i < len -> W.cell? (a.add i) = some q.2 /\ TR W (fun _ => True) (vbytes q.1) q.2 /\ q.2.oneCell' = true /\ q.1.length <= maxLen := by
   intro i
   by_cases hi : i < len
   ·have hE := hel i hi
    rw [cl30, Nat.mul_one, List.getElem?_eq_getElem (by omega : i < elems.length)] at hE
    obtain ⟨cs', hcs, hy⟩ := Option.bind_eq_some_iff.1 hE
    obtain ⟨r, v, rfl, ht, h1, hr⟩ := tr_bytes hy
    exact ⟨(r, v), fun _ => ⟨cell_of_cells?_one hcs, ht, h1, hr⟩⟩
   ·exact ⟨([], undef), fun h => absurd h hi⟩
  obtain ⟨f, hf⟩ := Classical.axiomOfChoice each
  refine ⟨(List.range len).map fun i => (f i).1, _, rfl, ?_, by simp; omega, fun r hr => by
   obtain ⟨i, hi, rfl⟩ := List.mem_map.1 hr
   exact (hf i (List.mem_range.1 hi)).2.2.2⟩
  by_cases h0 : len = 0
  ·subst h0; exact .nolist _ _ _ hm
  obtain ⟨b, o, s⟩ := a
  have hc : ∀ i, i < len -> W.cell? ((⟨b, o, s⟩ : Addr).add i) = some (f i).2 := fun i hi => (hf i hi).1
  have hsp : s = none := World.cell?_spot (hc 0 (by omega))
  subst hsp
  have hll : (((List.range len).map fun i => (f i).1).map vbytes).length = len := by simp
  have := TR.list (w := W) (F := fun _ => True) 1 (((List.range len).map fun i => (f i).1).map vbytes) b o cap (fun i _ => (f i).2) trivial (isC.of_cell (hc 0 (by omega))) (by omega) hm
   (fun i hi => by simp [AV.cells]) (fun i j hi hj => by
    have : j = 0 := by omega
    subst this
    have := hc i (by omega)
    rw [Nat.mul_one, Nat.add_zero]
    by_cases hi0 : i = 0
    ·subst hi0; simpa [Addr.add] using this
    ·simpa [Addr.add, hi0] using this) (fun i j hi hj => (hf i (by omega)).2.2.1) (fun i hi j hj => by
    simp only [List.getElem_map, AV.cells, List.length_singleton, List.getElem_range] at hj ⊢
    have : j = 0 := by omega
    subst this
    exact (hf i (by omega)).2.1)
  rw [hll] at this
  exact this
end
end Go.Proofs.YtnncijjkbonokaaDoor
