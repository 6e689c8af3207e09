import Derived.Test.YtehelanfgepcmaaProg
import Derived.Test.YtehelanfgepcmaaHf
namespace Go.Proofs.Ytehelanfgepcmaa
open Dak

/-- Operations, in short. -/
abbrev oo (d : Nat) (c : COp) : COper := ⟨some d, none, c⟩
abbrev vv (d t : Nat) : COper := ⟨some d, none, .mov (.tmp t)⟩
abbrev nn (c : COp) : COper := ⟨none, none, c⟩
abbrev gt (d t : Nat) (c : COp) : COper := ⟨some d, some (t, true), c⟩
abbrev gf (d t : Nat) (c : COp) : COper := ⟨some d, some (t, false), c⟩
abbrev vt (d t s : Nat) : COper := ⟨some d, some (t, true), .mov (.tmp s)⟩
abbrev vf (d t s : Nat) : COper := ⟨some d, some (t, false), .mov (.tmp s)⟩
abbrev kk (n : Int) : Operand := .const (.int .i64 n)
/-- dactyllaw11.BreaksChecks -/
def c8 : CCode :=
 (.seq (.region [oo 10 (.mov (.const (.bool false)))])
 (.seq (.region [vv 21 0, oo 22 (.call (.func 10) [(T 21), (kk 10)]), vv 11 22])
 (.seq (.region [vv 23 1, oo 24 (.call (.func 12) [(T 23)]), vv 12 24])
 (.seq (.seq (.region [oo 13 (.mov (kk 0))])
 (.block 0 (.loop
 (.seq (.seq (.region [vv 25 13, oo 26 (.ibin .lss (T 25) (kk 2))])
 (.cond (T 26)
 .skip
 (.exit 0)))
 (.seq (.block 1 (.seq (.region [vv 30 11, vv 31 12, vv 32 13, oo 33 (.idxS 1 (T 31) (T 32)), oo 34 (.load false 1 (T 33)), oo 35 (.call (.func 15) [(T 30), (T 34)]), vv 29 35, oo 36 (.extract (T 29) 0), oo 37 (.extract (T 29) 1), oo 14 (.alloc 36 (.agg [(.val (.slice none 0 0)), (.val (.slice none 0 0))])), nn (.store 2 (T 14) (T 36)), vv 15 37])
 (.seq (.region [oo 38 (.load true 2 (T 14)), vv 39 2, vv 40 3, vv 41 4, oo 42 (.call (.func 29) [(T 38), (T 39), (T 40), (T 41)]), oo 16 (.alloc 36 (.agg [(.val (.slice none 0 0)), (.val (.slice none 0 0))])), nn (.store 2 (T 16) (T 42))])
 (.seq (.drawn [oo 43 (.load true 2 (T 14)), oo 44 (.load true 2 (T 16)), oo 45 (.load true 2 (T 16)), vv 46 4, vv 47 2, vv 48 3, oo 50 (.build [(.val (.slice none 0 0)), (.val (.slice none 0 0))] [])] [(oo 49 (.call (.func 29) [(T 45), (T 46), (T 47), (T 48)]), [oo 43 (.load true 2 (T 14)), oo 44 (.load true 2 (T 16)), oo 50 (.build [(.val (.slice none 0 0)), (.val (.slice none 0 0))] [])]), (oo 51 (.bslice 36 2 [(T 43), (T 44), (T 49), (T 50)]), []), (vv 17 51, [])])
 (.seq (.seq (.region [oo 18 (.mov (kk 0))])
 (.block 2 (.loop
 (.seq (.seq (.region [vv 52 18, vv 53 17, oo 54 (.len (T 53)), oo 55 (.ibin .lss (T 52) (T 54))])
 (.cond (T 55)
 .skip
 (.exit 2)))
 (.seq (.block 3 (.seq (.drawn [vv 58 11, vv 60 12, vv 61 13, oo 62 (.idxS 1 (T 60) (T 61)), oo 63 (.load false 1 (T 62)), vv 64 17, vv 65 18, oo 66 (.idxS 2 (T 64) (T 65)), oo 67 (.load true 2 (T 66)), vv 70 11, vv 71 12, vv 72 13, oo 73 (.idxS 1 (T 71) (T 72)), oo 74 (.load false 1 (T 73)), vv 75 17, vv 76 18, oo 77 (.idxS 2 (T 75) (T 76)), oo 78 (.load true 2 (T 77))] [(oo 59 (.call (.func 14) [(T 58)]), [vv 60 12, vv 61 13, oo 62 (.idxS 1 (T 60) (T 61)), oo 63 (.load false 1 (T 62)), vv 64 17, vv 65 18, oo 66 (.idxS 2 (T 64) (T 65)), oo 67 (.load true 2 (T 66)), vv 70 11, vv 71 12, vv 72 13, oo 73 (.idxS 1 (T 71) (T 72)), oo 74 (.load false 1 (T 73)), vv 75 17, vv 76 18, oo 77 (.idxS 2 (T 75) (T 76)), oo 78 (.load true 2 (T 77))]), (oo 68 (.call (.func 31) [(T 67)]), [vv 60 12, vv 61 13, oo 62 (.idxS 1 (T 60) (T 61)), oo 63 (.load false 1 (T 62)), vv 70 11, vv 71 12, vv 72 13, oo 73 (.idxS 1 (T 71) (T 72)), oo 74 (.load false 1 (T 73)), vv 75 17, vv 76 18, oo 77 (.idxS 2 (T 75) (T 76)), oo 78 (.load true 2 (T 77))]), (oo 69 (.call (.func 30) [(T 59), (T 63), (T 68)]), [vv 70 11, vv 71 12, vv 72 13, oo 73 (.idxS 1 (T 71) (T 72)), oo 74 (.load false 1 (T 73)), vv 75 17, vv 76 18, oo 77 (.idxS 2 (T 75) (T 76)), oo 78 (.load true 2 (T 77))]), (oo 79 (.call (.func 32) [(T 70), (T 74), (T 78)]), []), (oo 80 (.ibin .neq (T 69) (T 79)), [])])
 (.cond (T 80)
 (.seq (.region [oo 10 (.mov (.const (.bool false)))])
 .ret)
 .skip)))
 (.region [vv 56 18, oo 57 (.ibin .add (T 56) (kk 1)), vv 18 57]))))))
 (.seq (.drawn [vv 82 11, oo 83 (.call (.func 14) [(T 82)]), vv 84 12, vv 85 13, oo 86 (.idxS 1 (T 84) (T 85)), oo 87 (.load false 1 (T 86)), oo 88 (.call (.func 13) [(T 83), (T 87)]), vv 81 88, oo 89 (.extract (T 81) 0), oo 90 (.extract (T 81) 1), oo 19 (.alloc 30 (.agg [(.val (.slice none 0 0)), (.val (.slice none 0 0))]))] [(nn (.store 2 (T 19) (T 89)), []), (vv 20 90, [])])
 (.seq (.seq (.drawn [vv 91 15, vv 92 20, oo 93 (.ibin .neq (T 91) (T 92)), vv 94 93, vf 95 94 15, gf 96 94 (.ibin .eql (T 95) (kk 0)), vf 97 94 96, vt 98 97 11, gt 99 97 (.call (.func 14) [(T 98)]), vt 100 97 12, vt 101 97 13, gt 102 97 (.idxS 1 (T 100) (T 101)), gt 103 97 (.load false 1 (T 102)), gt 104 97 (.load true 2 (T 19))] [(gt 105 97 (.call (.func 30) [(T 99), (T 103), (T 104)]), []), (gt 106 97 (.ibin .neq (T 105) (kk 0)), []), (gf 107 94 (.pick (T 97) (T 106) (.const (.bool false))), []), (oo 108 (.pick (T 94) (.const (.bool true)) (T 107)), [])])
 (.cond (T 108)
 (.seq (.region [oo 10 (.mov (.const (.bool false)))])
 .ret)
 .skip))
 (.seq (.region [vv 109 15, oo 110 (.ibin .eql (T 109) (kk 0)), vv 111 110, gt 112 111 (.fieldAddr 1 (T 19)), gt 113 111 (.load false 1 (T 112)), gt 114 111 (.len (T 113)), gt 115 111 (.ibin .gtr (T 114) (kk 0)), oo 116 (.pick (T 111) (T 115) (.const (.bool false))), vv 117 116, gt 118 117 (.fieldAddr 1 (T 19)), gt 119 117 (.load false 1 (T 118)), gt 120 117 (.idxS 1 (T 119) (kk 0)), gt 121 117 (.load false 1 (T 120)), gt 122 117 (.len (T 121)), gt 123 117 (.ibin .gtr (T 122) (kk 0)), oo 124 (.pick (T 117) (T 123) (.const (.bool false)))])
 (.cond (T 124)
 (.seq (.region [oo 125 (.fieldAddr 1 (T 19)), oo 126 (.load false 1 (T 125)), oo 127 (.idxS 1 (T 126) (kk 0)), oo 128 (.load false 1 (T 127)), oo 129 (.idxS 1 (T 128) (kk 0)), oo 130 (.load false 1 (T 129)), oo 131 (.ibin .add (T 130) (kk 1)), oo 132 (.idxS 1 (T 128) (kk 0)), nn (.store 1 (T 132) (T 131))])
 (.seq (.drawn [vv 133 11, vv 135 12, vv 136 13, oo 137 (.idxS 1 (T 135) (T 136)), oo 138 (.load false 1 (T 137)), oo 139 (.load true 2 (T 19))] [(oo 134 (.call (.func 14) [(T 133)]), [vv 135 12, vv 136 13, oo 137 (.idxS 1 (T 135) (T 136)), oo 138 (.load false 1 (T 137)), oo 139 (.load true 2 (T 19))]), (oo 140 (.call (.func 30) [(T 134), (T 138), (T 139)]), []), (oo 141 (.ibin .neq (T 140) (kk 19)), [])])
 (.cond (T 141)
 (.seq (.region [oo 10 (.mov (.const (.bool false)))])
 .ret)
 .skip)))
 .skip)))))))))
 (.region [vv 27 13, oo 28 (.ibin .add (T 27) (kk 1)), vv 13 28]))))))
 (.seq (.drawn [vv 142 11, vv 143 2, vv 144 4, vv 147 12, oo 148 (.idxS 1 (T 147) (kk 0)), oo 149 (.load false 1 (T 148)), oo 150 (.build [(.val (.slice none 0 0)), (.val (.slice none 0 0))] [])] [(oo 145 (.call (.func 11) [(T 142), (T 143), (kk 0), (T 144)]), [vv 147 12, oo 148 (.idxS 1 (T 147) (kk 0)), oo 149 (.load false 1 (T 148)), oo 150 (.build [(.val (.slice none 0 0)), (.val (.slice none 0 0))] [])]), (oo 146 (.call (.func 14) [(T 145)]), [vv 147 12, oo 148 (.idxS 1 (T 147) (kk 0)), oo 149 (.load false 1 (T 148)), oo 150 (.build [(.val (.slice none 0 0)), (.val (.slice none 0 0))] [])]), (oo 151 (.call (.func 30) [(T 146), (T 149), (T 150)]), []), (oo 152 (.ibin .eql (T 151) (kk 1)), []), (vv 153 152, []), (gt 154 153 (.call (.func 18) []), []), (oo 155 (.pick (T 153) (T 154) (.const (.bool false))), []), (vv 10 155, [])])
 .ret)))))
theorem f8 : fnC Try.prog 8 = some (c8, 156, [(.tmp 10)]) := by kernel_rfl


/-- dactylref11.Words -/
def c10 : CCode :=
 (.seq (.region [oo 4 (.mov (.const (.slice none 0 0)))])
 (.seq (.region [oo 5 (.mov (.const (.slice none 0 0)))])
 (.seq (.region [vv 14 0, vv 15 1, oo 16 (.ibin .add (T 15) (kk 1)), oo 17 (.call (.func 34) [(T 14), (kk 0), (T 16)]), vv 6 17])
 (.seq (.seq (.region [oo 7 (.mov (kk 0))])
 (.block 0 (.loop
 (.seq (.seq (.region [vv 18 7, vv 19 6, oo 20 (.ibin .lss (T 18) (T 19))])
 (.cond (T 20)
 .skip
 (.exit 0)))
 (.seq (.block 1 (.seq (.region [oo 8 (.alloc 47 (.agg [(.val (.slice none 0 0))]))])
 (.seq (.region [vv 23 0, vv 24 7, oo 25 (.ibin .mul (kk 4) (T 24)), oo 26 (.ibin .add (kk 1) (T 25)), oo 27 (.call (.func 34) [(T 23), (T 26), (kk 6)]), oo 28 (.ibin .quo (T 27) (kk 2)), oo 29 (.ibin .add (kk 1) (T 28)), vv 9 29])
 (.seq (.seq (.region [oo 10 (.mov (kk 0))])
 (.block 2 (.loop
 (.seq (.seq (.region [vv 30 10, vv 31 9, oo 32 (.ibin .lss (T 30) (T 31))])
 (.cond (T 32)
 .skip
 (.exit 2)))
 (.seq (.block 3 (.seq (.region [oo 11 (.mov (.const (.slice none 0 0)))])
 (.seq (.region [oo 12 (.mov (kk 0))])
 (.seq (.seq (.region [vv 35 10, vv 13 35])
 (.block 4 (.loop
 (.seq (.seq (.region [vv 36 13, vv 37 9, oo 38 (.ibin .lss (T 36) (T 37))])
 (.cond (T 38)
 .skip
 (.exit 4)))
 (.seq (.block 5 (.seq (.region [vv 41 12, oo 42 (.ibin .add (T 41) (kk 1)), vv 43 0, vv 44 7, oo 45 (.ibin .mul (kk 4) (T 44)), oo 46 (.ibin .add (kk 2) (T 45)), vv 47 13, oo 48 (.ibin .add (T 46) (T 47)), oo 49 (.call (.func 34) [(T 43), (T 48), (kk 4)]), oo 50 (.ibin .add (T 42) (T 49)), vv 12 50])
 (.seq (.seq (.region [vv 51 0, vv 52 7, oo 53 (.ibin .mul (kk 4) (T 52)), oo 54 (.ibin .add (kk 3) (T 53)), oo 55 (.call (.func 34) [(T 51), (T 54), (kk 7)]), oo 56 (.ibin .eql (T 55) (kk 0))])
 (.cond (T 56)
 (.region [vv 57 0, vv 58 7, oo 59 (.ibin .mul (kk 4) (T 58)), oo 60 (.ibin .add (kk 4) (T 59)), vv 61 13, oo 62 (.ibin .add (T 60) (T 61)), oo 63 (.call (.func 34) [(T 57), (T 62), (kk 6)]), vv 12 63])
 .skip))
 (.region [vv 64 11, vv 65 12, oo 66 (.bslice 3 1 [(T 65)]), oo 67 (.append 3 1 8 (T 64) (T 66)), vv 11 67]))))
 (.region [vv 39 13, oo 40 (.ibin .add (T 39) (kk 1)), vv 13 40]))))))
 (.region [oo 68 (.fieldAddr 0 (T 8)), oo 69 (.load false 1 (T 68)), vv 70 11, oo 71 (.bslice 22 1 [(T 70)]), oo 72 (.append 22 1 24 (T 69) (T 71)), oo 73 (.fieldAddr 0 (T 8)), nn (.store 1 (T 73) (T 72))])))))
 (.region [vv 33 10, oo 34 (.ibin .add (T 33) (kk 1)), vv 10 34]))))))
 (.region [vv 74 5, oo 75 (.load true 1 (T 8)), oo 76 (.bslice 47 1 [(T 75)]), oo 77 (.append 47 1 24 (T 74) (T 76)), vv 5 77])))))
 (.region [vv 21 7, oo 22 (.ibin .add (T 21) (kk 1)), vv 7 22]))))))
 (.seq (.region [vv 78 5, vv 4 78])
 .ret)))))
theorem f10 : fnC Try.prog 10 = some (c10, 79, [(.tmp 4)]) := by kernel_rfl

/-- dactylref11.Spoilt -/
def c11 : CCode :=
 (.seq (.region [oo 8 (.mov (.const (.slice none 0 0)))])
 (.seq (.region [oo 13 (.bslice 47 1 []), vv 14 0, oo 15 (.append 47 1 24 (T 13) (T 14)), vv 9 15])
 (.seq (.seq (.region [vv 16 9, oo 17 (.len (T 16)), oo 18 (.ibin .eql (T 17) (kk 0))])
 (.cond (T 18)
 (.seq (.region [vv 19 9, oo 20 (.build [(.val (.slice none 0 0))] []), oo 21 (.bslice 47 1 [(T 20)]), oo 22 (.append 47 1 24 (T 19) (T 21)), vv 8 22])
 .ret)
 .skip))
 (.seq (.region [vv 23 1, vv 24 9, oo 25 (.len (T 24)), oo 26 (.call (.func 19) [(T 23), (T 25)]), vv 10 26])
 (.seq (.region [oo 11 (.mov (.const (.slice none 0 0)))])
 (.seq (.seq (.region [oo 12 (.mov (kk 0))])
 (.block 0 (.loop
 (.seq (.seq (.region [vv 27 12, vv 28 9, vv 29 10, oo 30 (.idxS 1 (T 28) (T 29)), oo 31 (.fieldAddr 0 (T 30)), oo 32 (.load false 1 (T 31)), oo 33 (.len (T 32)), oo 34 (.ibin .lss (T 27) (T 33))])
 (.cond (T 34)
 .skip
 (.exit 0)))
 (.seq (.block 1 (.region [vv 37 11, oo 38 (.bslice 3 1 []), vv 39 9, vv 40 10, oo 41 (.idxS 1 (T 39) (T 40)), oo 42 (.fieldAddr 0 (T 41)), oo 43 (.load false 1 (T 42)), vv 44 12, oo 45 (.idxS 1 (T 43) (T 44)), oo 46 (.load false 1 (T 45)), oo 47 (.append 3 1 8 (T 38) (T 46)), oo 48 (.bslice 22 1 [(T 47)]), oo 49 (.append 22 1 24 (T 37) (T 48)), vv 11 49]))
 (.region [vv 35 12, oo 36 (.ibin .add (T 35) (kk 1)), vv 12 36]))))))
 (.seq (.seq (.region [vv 50 2, oo 51 (.call (.func 19) [(T 50), (kk 4)])])
 (.block 2 (.seq (.region [oo 60 (.ibin .eql (T 51) (kk 0)), vv 59 60])
 (.cond (T 59)
 (.region [vv 61 11, vv 62 11, oo 63 (.len (T 62)), oo 64 (.ibin .sub (T 63) (kk 1)), oo 65 (.slice 1 (T 61) none (some (T 64))), vv 11 65])
 (.seq (.region [oo 67 (.ibin .eql (T 51) (kk 1)), vv 66 67])
 (.cond (T 66)
 (.region [vv 68 11, vv 69 3, oo 70 (.bslice 3 1 [(T 69)]), oo 71 (.bslice 22 1 [(T 70)]), oo 72 (.append 22 1 24 (T 68) (T 71)), vv 11 72])
 (.seq (.region [oo 74 (.ibin .eql (T 51) (kk 2)), vv 73 74])
 (.cond (T 73)
 (.drawn [vv 75 11, oo 76 (.idxS 1 (T 75) (kk 0)), oo 77 (.load false 1 (T 76)), vv 78 3, oo 79 (.bslice 3 1 [(kk (-1)), (kk 4096), (kk 4097), (T 78)]), vv 80 3, oo 81 (.call (.func 19) [(T 80), (kk 4)]), oo 82 (.idxS 1 (T 79) (T 81)), oo 83 (.load false 1 (T 82)), oo 84 (.idxS 1 (T 77) (kk 0))] [(nn (.store 1 (T 84) (T 83)), [])])
 (.region [vv 52 11, vv 53 11, oo 54 (.idxS 1 (T 53) (kk 0)), oo 55 (.load false 1 (T 54)), oo 56 (.bslice 3 1 [(kk 1)]), oo 57 (.append 3 1 8 (T 55) (T 56)), oo 58 (.idxS 1 (T 52) (kk 0)), nn (.store 1 (T 58) (T 57))])))))))))
 (.seq (.region [vv 85 9, vv 86 10, vv 87 11, oo 88 (.idxS 1 (T 85) (T 86)), oo 89 (.fieldAddr 0 (T 88)), nn (.store 1 (T 89) (T 87))])
 (.seq (.region [vv 90 9, vv 8 90])
 .ret)))))))))
theorem f11 : fnC Try.prog 11 = some (c11, 91, [(.tmp 8)]) := by kernel_rfl

/-- dactyllaw11.widths -/
def c12 : CCode :=
 (.seq (.region [oo 2 (.mov (.const (.slice none 0 0)))])
 (.seq (.region [vv 3 0, oo 4 (.call (.func 19) [(T 3), (kk 20)]), oo 5 (.ibin .add (kk 1) (T 4)), oo 6 (.bslice 3 1 [(kk 0), (kk 513), (kk 512), (kk 1), (kk (-1))]), vv 7 0, oo 8 (.call (.func 19) [(T 7), (kk 5)]), oo 9 (.idxS 1 (T 6) (T 8)), oo 10 (.load false 1 (T 9)), oo 11 (.bslice 3 1 [(T 5), (T 10)]), vv 2 11])
 .ret))
theorem f12 : fnC Try.prog 12 = some (c12, 12, [(.tmp 2)]) := by kernel_rfl

/-- dactyllaw11.words -/
def c14 : CCode :=
 (.seq (.region [oo 2 (.mov (.const (.slice none 0 0)))])
 (.seq (.region [oo 3 (.mov (.const (.slice none 0 0)))])
 (.seq (.seq (.region [oo 4 (.mov (kk 0))])
 (.block 0 (.loop
 (.seq (.seq (.region [vv 5 4, vv 6 0, oo 7 (.len (T 6)), oo 8 (.ibin .lss (T 5) (T 7))])
 (.cond (T 8)
 .skip
 (.exit 0)))
 (.seq (.block 1 (.region [vv 11 3, vv 12 0, vv 13 4, oo 14 (.idxS 1 (T 12) (T 13)), oo 15 (.fieldAddr 0 (T 14)), oo 16 (.load false 1 (T 15)), oo 17 (.build [(.val (.slice none 0 0))] [(0, (1, (T 16)))]), oo 18 (.bslice 42 1 [(T 17)]), oo 19 (.append 42 1 24 (T 11) (T 18)), vv 3 19]))
 (.region [vv 9 4, oo 10 (.ibin .add (T 9) (kk 1)), vv 4 10]))))))
 (.seq (.region [vv 20 3, vv 2 20])
 .ret))))
theorem f14 : fnC Try.prog 14 = some (c14, 21, [(.tmp 2)]) := by kernel_rfl

/-- dactylref11.SameEnds -/
def c16 : CCode :=
 (.seq (.region [oo 4 (.mov (.const (.bool false)))])
 (.seq (.seq (.region [vv 6 0, oo 7 (.len (T 6)), vv 8 1, oo 9 (.len (T 8)), oo 10 (.ibin .neq (T 7) (T 9))])
 (.cond (T 10)
 (.seq (.region [oo 4 (.mov (.const (.bool false)))])
 .ret)
 .skip))
 (.seq (.seq (.region [oo 5 (.mov (kk 0))])
 (.block 0 (.loop
 (.seq (.seq (.region [vv 11 5, vv 12 0, oo 13 (.len (T 12)), oo 14 (.ibin .lss (T 11) (T 13))])
 (.cond (T 14)
 .skip
 (.exit 0)))
 (.seq (.block 1 (.seq (.drawn [vv 17 0, vv 18 5, oo 19 (.idxS 2 (T 17) (T 18)), oo 20 (.load true 2 (T 19)), vv 21 1, vv 22 5, oo 23 (.idxS 2 (T 21) (T 22)), oo 24 (.load true 2 (T 23)), oo 25 (.aeq true 2 (T 20) (T 24))] [])
 (.cond (T 25)
 (.seq (.region [oo 4 (.mov (.const (.bool false)))])
 .ret)
 .skip)))
 (.region [vv 15 5, oo 16 (.ibin .add (T 15) (kk 1)), vv 5 16]))))))
 (.seq (.region [oo 4 (.mov (.const (.bool true)))])
 .ret))))
theorem f16 : fnC Try.prog 16 = some (c16, 26, [(.tmp 4)]) := by kernel_rfl

/-- dactylref11.Same -/
def c17 : CCode :=
 (.seq (.region [oo 4 (.mov (.const (.bool false)))])
 (.seq (.seq (.region [vv 6 0, oo 7 (.len (T 6)), vv 8 1, oo 9 (.len (T 8)), oo 10 (.ibin .neq (T 7) (T 9))])
 (.cond (T 10)
 (.seq (.region [oo 4 (.mov (.const (.bool false)))])
 .ret)
 .skip))
 (.seq (.seq (.region [oo 5 (.mov (kk 0))])
 (.block 0 (.loop
 (.seq (.seq (.region [vv 11 5, vv 12 0, oo 13 (.len (T 12)), oo 14 (.ibin .lss (T 11) (T 13))])
 (.cond (T 14)
 .skip
 (.exit 0)))
 (.seq (.block 1 (.seq (.drawn [vv 17 0, vv 18 5, oo 19 (.idxS 1 (T 17) (T 18)), oo 20 (.load false 1 (T 19)), vv 21 1, vv 22 5, oo 23 (.idxS 1 (T 21) (T 22)), oo 24 (.load false 1 (T 23))] [(oo 25 (.call (.func 25) [(T 20), (T 24)]), []), (oo 26 (.lnot (T 25)), [])])
 (.cond (T 26)
 (.seq (.region [oo 4 (.mov (.const (.bool false)))])
 .ret)
 .skip)))
 (.region [vv 15 5, oo 16 (.ibin .add (T 15) (kk 1)), vv 5 16]))))))
 (.seq (.region [oo 4 (.mov (.const (.bool true)))])
 .ret))))
theorem f17 : fnC Try.prog 17 = some (c17, 27, [(.tmp 4)]) := by kernel_rfl

/-- dactyllaw11.lives -/
def c18 : CCode :=
 (.seq (.region [oo 0 (.mov (.const (.bool false)))])
 (.seq (.region [oo 8 (.bslice 3 1 [(kk 3), (kk 2), (kk 5)]), oo 9 (.call (.func 21) [(T 8)]), vv 1 9])
 (.seq (.region [vv 11 1, oo 12 (.call (.func 13) [(T 11), (kk 6)]), vv 10 12, oo 13 (.extract (T 10) 0), oo 14 (.extract (T 10) 1), oo 2 (.alloc 30 (.agg [(.val (.slice none 0 0)), (.val (.slice none 0 0))])), nn (.store 2 (T 2) (T 13)), vv 3 14])
 (.seq (.region [vv 16 1, oo 17 (.call (.func 13) [(T 16), (kk 5)]), vv 15 17, oo 18 (.extract (T 15) 0), oo 19 (.extract (T 15) 1), oo 4 (.alloc 30 (.agg [(.val (.slice none 0 0)), (.val (.slice none 0 0))])), nn (.store 2 (T 4) (T 18)), vv 5 19])
 (.seq (.region [oo 21 (.bslice 3 1 [(kk 4), (kk 7)]), oo 22 (.bslice 3 1 [(kk 3)]), oo 23 (.bslice 22 1 [(T 21), (T 22)]), oo 24 (.build [(.val (.slice none 0 0))] [(0, (1, (T 23)))]), oo 25 (.bslice 42 1 [(T 24)]), oo 26 (.call (.func 13) [(T 25), (kk 5)]), vv 20 26, oo 27 (.extract (T 20) 0), oo 28 (.extract (T 20) 1), oo 6 (.alloc 30 (.agg [(.val (.slice none 0 0)), (.val (.slice none 0 0))])), nn (.store 2 (T 6) (T 27)), vv 7 28])
 (.seq (.seq (.region [vv 29 3, oo 30 (.ibin .neq (T 29) (kk 0)), vv 31 30, vf 32 31 5, gf 33 31 (.ibin .neq (T 32) (kk 0)), oo 34 (.pick (T 31) (.const (.bool true)) (T 33)), vv 35 34, vf 36 35 7, gf 37 35 (.ibin .neq (T 36) (kk 0)), oo 38 (.pick (T 35) (.const (.bool true)) (T 37)), vv 39 38, gf 40 39 (.fieldAddr 0 (T 2)), gf 41 39 (.load false 1 (T 40)), gf 42 39 (.len (T 41)), gf 43 39 (.ibin .neq (T 42) (kk 2)), oo 44 (.pick (T 39) (.const (.bool true)) (T 43)), vv 45 44, gf 46 45 (.fieldAddr 0 (T 4)), gf 47 45 (.load false 1 (T 46)), gf 48 45 (.len (T 47)), gf 49 45 (.ibin .neq (T 48) (kk 3)), oo 50 (.pick (T 45) (.const (.bool true)) (T 49)), vv 51 50, gf 52 51 (.fieldAddr 0 (T 6)), gf 53 51 (.load false 1 (T 52)), gf 54 51 (.len (T 53)), gf 55 51 (.ibin .neq (T 54) (kk 2)), oo 56 (.pick (T 51) (.const (.bool true)) (T 55)), vv 57 56, gf 58 57 (.fieldAddr 1 (T 4)), gf 59 57 (.load false 1 (T 58)), gf 60 57 (.len (T 59)), gf 61 57 (.ibin .neq (T 60) (kk 3)), oo 62 (.pick (T 57) (.const (.bool true)) (T 61)), vv 63 62, gf 64 63 (.fieldAddr 1 (T 4)), gf 65 63 (.load false 1 (T 64)), gf 66 63 (.idxS 1 (T 65) (kk 0)), gf 67 63 (.load false 1 (T 66)), gf 68 63 (.len (T 67)), gf 69 63 (.ibin .neq (T 68) (kk 1)), oo 70 (.pick (T 63) (.const (.bool true)) (T 69))])
 (.cond (T 70)
 (.seq (.region [oo 0 (.mov (.const (.bool false)))])
 .ret)
 .skip))
 (.seq (.region [oo 71 (.fieldAddr 0 (T 2)), oo 72 (.load false 1 (T 71)), oo 73 (.idxS 2 (T 72) (kk 0)), oo 74 (.load true 2 (T 73)), oo 75 (.build [(.val (.int .i64 0)), (.val (.int .i64 0))] [(0, (1, (kk 2))), (1, (1, (kk 0)))]), oo 76 (.aeq false 2 (T 74) (T 75)), vv 77 76, gt 78 77 (.fieldAddr 0 (T 2)), gt 79 77 (.load false 1 (T 78)), gt 80 77 (.idxS 2 (T 79) (kk 1)), gt 81 77 (.load true 2 (T 80)), gt 82 77 (.build [(.val (.int .i64 0)), (.val (.int .i64 0))] [(0, (1, (kk 3))), (1, (1, (kk 0)))]), gt 83 77 (.aeq false 2 (T 81) (T 82)), oo 84 (.pick (T 77) (T 83) (.const (.bool false))), vv 85 84, gt 86 85 (.fieldAddr 1 (T 4)), gt 87 85 (.load false 1 (T 86)), gt 88 85 (.idxS 1 (T 87) (kk 0)), gt 89 85 (.load false 1 (T 88)), gt 90 85 (.idxS 1 (T 89) (kk 0)), gt 91 85 (.load false 1 (T 90)), gt 92 85 (.ibin .eql (T 91) (kk 12884901901)), oo 93 (.pick (T 85) (T 92) (.const (.bool false))), vv 94 93, gt 95 94 (.fieldAddr 0 (T 6)), gt 96 94 (.load false 1 (T 95)), gt 97 94 (.idxS 2 (T 96) (kk 0)), gt 98 94 (.load true 2 (T 97)), gt 99 94 (.build [(.val (.int .i64 0)), (.val (.int .i64 0))] [(0, (1, (kk 0))), (1, (1, (kk 1)))]), gt 100 94 (.aeq false 2 (T 98) (T 99)), oo 101 (.pick (T 94) (T 100) (.const (.bool false))), vv 102 101, gt 103 102 (.fieldAddr 0 (T 6)), gt 104 102 (.load false 1 (T 103)), gt 105 102 (.idxS 2 (T 104) (kk 1)), gt 106 102 (.load true 2 (T 105)), gt 107 102 (.build [(.val (.int .i64 0)), (.val (.int .i64 0))] [(0, (1, (kk 1))), (1, (1, (kk 0)))]), gt 108 102 (.aeq false 2 (T 106) (T 107)), oo 109 (.pick (T 102) (T 108) (.const (.bool false))), vv 0 109])
 .ret)))))))
theorem f18 : fnC Try.prog 18 = some (c18, 110, [(.tmp 0)]) := by kernel_rfl

/-- dactylref01.Around -/
def c19 : CCode :=
 (.seq (.region [oo 4 (.mov (kk 0))])
 (.seq (.seq (.region [vv 5 0, oo 6 (.ibin .lss (T 5) (kk 0))])
 (.cond (T 6)
 (.region [vv 7 0, oo 8 (.ibin .add (T 7) (kk 1)), oo 9 (.neg (T 8)), vv 0 9])
 .skip))
 (.seq (.seq (.region [vv 10 1, oo 11 (.ibin .lss (T 10) (kk 1))])
 (.cond (T 11)
 (.seq (.region [oo 4 (.mov (kk 0))])
 .ret)
 .skip))
 (.seq (.region [vv 12 0, vv 13 1, oo 14 (.ibin .rem (T 12) (T 13)), vv 4 14])
 .ret))))
theorem f19 : fnC Try.prog 19 = some (c19, 15, [(.tmp 4)]) := by kernel_rfl

/-- dactyllaw11.simple -/
def c21 : CCode :=
 (.seq (.region [oo 2 (.mov (.const (.slice none 0 0)))])
 (.seq (.region [oo 3 (.mov (.const (.slice none 0 0)))])
 (.seq (.seq (.region [oo 4 (.mov (kk 0))])
 (.block 0 (.loop
 (.seq (.seq (.region [vv 5 4, vv 6 0, oo 7 (.len (T 6)), oo 8 (.ibin .lss (T 5) (T 7))])
 (.cond (T 8)
 .skip
 (.exit 0)))
 (.seq (.block 1 (.region [vv 11 3, vv 12 0, vv 13 4, oo 14 (.idxS 1 (T 12) (T 13)), oo 15 (.load false 1 (T 14)), oo 16 (.bslice 3 1 [(T 15)]), oo 17 (.bslice 22 1 [(T 16)]), oo 18 (.build [(.val (.slice none 0 0))] [(0, (1, (T 17)))]), oo 19 (.bslice 42 1 [(T 18)]), oo 20 (.append 42 1 24 (T 11) (T 19)), vv 3 20]))
 (.region [vv 9 4, oo 10 (.ibin .add (T 9) (kk 1)), vv 4 10]))))))
 (.seq (.region [vv 21 3, vv 2 21])
 .ret))))
theorem f21 : fnC Try.prog 21 = some (c21, 22, [(.tmp 2)]) := by kernel_rfl

/-- dactylref01.SameInts -/
def c25 : CCode :=
 (.seq (.region [oo 4 (.mov (.const (.bool false)))])
 (.seq (.seq (.region [vv 6 0, oo 7 (.len (T 6)), vv 8 1, oo 9 (.len (T 8)), oo 10 (.ibin .neq (T 7) (T 9))])
 (.cond (T 10)
 (.seq (.region [oo 4 (.mov (.const (.bool false)))])
 .ret)
 .skip))
 (.seq (.seq (.region [oo 5 (.mov (kk 0))])
 (.block 0 (.loop
 (.seq (.seq (.region [vv 11 5, vv 12 0, oo 13 (.len (T 12)), oo 14 (.ibin .lss (T 11) (T 13))])
 (.cond (T 14)
 .skip
 (.exit 0)))
 (.seq (.block 1 (.seq (.drawn [vv 17 0, vv 18 5, oo 19 (.idxS 1 (T 17) (T 18)), oo 20 (.load false 1 (T 19)), vv 21 1, vv 22 5, oo 23 (.idxS 1 (T 21) (T 22)), oo 24 (.load false 1 (T 23)), oo 25 (.ibin .neq (T 20) (T 24))] [])
 (.cond (T 25)
 (.seq (.region [oo 4 (.mov (.const (.bool false)))])
 .ret)
 .skip)))
 (.region [vv 15 5, oo 16 (.ibin .add (T 15) (kk 1)), vv 5 16]))))))
 (.seq (.region [oo 4 (.mov (.const (.bool true)))])
 .ret))))
theorem f25 : fnC Try.prog 25 = some (c25, 26, [(.tmp 4)]) := by kernel_rfl

/-- dactyllaw11.bent -/
def c29 : CCode :=
 (.seq (.region [oo 4 (.box 36 (T 0)), oo 8 (.alloc 36 (.agg [(.val (.slice none 0 0)), (.val (.slice none 0 0))]))])
 (.seq (.region [oo 14 (.bslice 64 2 []), oo 15 (.fieldAddr 0 (T 4)), oo 16 (.load false 1 (T 15)), oo 17 (.append 64 2 16 (T 14) (T 16)), oo 18 (.build [(.val (.slice none 0 0)), (.val (.slice none 0 0))] [(0, (1, (T 17)))]), oo 9 (.alloc 36 (.agg [(.val (.slice none 0 0)), (.val (.slice none 0 0))])), nn (.store 2 (T 9) (T 18))])
 (.seq (.seq (.region [oo 10 (.mov (kk 0))])
 (.block 0 (.loop
 (.seq (.seq (.region [vv 19 10, oo 20 (.fieldAddr 1 (T 4)), oo 21 (.load false 1 (T 20)), oo 22 (.len (T 21)), oo 23 (.ibin .lss (T 19) (T 22))])
 (.cond (T 23)
 .skip
 (.exit 0)))
 (.seq (.block 1 (.drawn [oo 26 (.fieldAddr 1 (T 9)), oo 27 (.load false 1 (T 26)), oo 28 (.bslice 3 1 []), oo 29 (.fieldAddr 1 (T 4)), oo 30 (.load false 1 (T 29)), vv 31 10, oo 32 (.idxS 1 (T 30) (T 31)), oo 33 (.load false 1 (T 32))] [(oo 34 (.append 3 1 8 (T 28) (T 33)), [oo 26 (.fieldAddr 1 (T 9)), oo 27 (.load false 1 (T 26))]), (oo 35 (.bslice 22 1 [(T 34)]), [oo 26 (.fieldAddr 1 (T 9)), oo 27 (.load false 1 (T 26))]), (oo 36 (.append 22 1 24 (T 27) (T 35)), []), (oo 37 (.fieldAddr 1 (T 9)), []), (nn (.store 1 (T 37) (T 36)), [])]))
 (.region [vv 24 10, oo 25 (.ibin .add (T 24) (kk 1)), vv 10 25]))))))
 (.seq (.seq (.region [vv 38 2, oo 39 (.call (.func 19) [(T 38), (kk 5)])])
 (.block 2 (.seq (.region [oo 47 (.ibin .eql (T 39) (kk 0)), vv 46 47])
 (.cond (T 46)
 (.seq (.region [oo 48 (.fieldAddr 1 (T 9)), oo 49 (.load false 1 (T 48)), oo 50 (.len (T 49)), oo 51 (.ibin .gtr (T 50) (kk 0))])
 (.cond (T 51)
 (.seq (.region [vv 52 1, oo 53 (.fieldAddr 1 (T 9)), oo 54 (.load false 1 (T 53)), oo 55 (.len (T 54)), oo 56 (.call (.func 19) [(T 52), (T 55)]), vv 11 56])
 (.seq (.region [vv 57 3, oo 58 (.fieldAddr 1 (T 9)), oo 59 (.load false 1 (T 58)), vv 60 11, oo 61 (.idxS 1 (T 59) (T 60)), oo 62 (.load false 1 (T 61)), oo 63 (.len (T 62)), oo 64 (.call (.func 19) [(T 57), (T 63)]), vv 12 64])
 (.drawn [oo 65 (.fieldAddr 1 (T 9)), oo 66 (.load false 1 (T 65)), vv 67 11, oo 68 (.idxS 1 (T 66) (T 67)), oo 69 (.load false 1 (T 68)), vv 70 12, oo 71 (.fieldAddr 1 (T 9)), oo 72 (.load false 1 (T 71)), vv 73 11, oo 74 (.idxS 1 (T 72) (T 73)), oo 75 (.load false 1 (T 74)), vv 76 12, oo 77 (.idxS 1 (T 75) (T 76)), oo 78 (.load false 1 (T 77)), vv 79 3] [(oo 80 (.call (.func 19) [(T 79), (kk 5)]), [oo 65 (.fieldAddr 1 (T 9)), oo 66 (.load false 1 (T 65)), vv 67 11, oo 68 (.idxS 1 (T 66) (T 67)), oo 69 (.load false 1 (T 68)), vv 70 12, oo 71 (.fieldAddr 1 (T 9)), oo 72 (.load false 1 (T 71)), vv 73 11, oo 74 (.idxS 1 (T 72) (T 73)), oo 75 (.load false 1 (T 74)), vv 76 12, oo 77 (.idxS 1 (T 75) (T 76)), oo 78 (.load false 1 (T 77))]), (oo 81 (.ibin .add (T 78) (T 80)), [oo 65 (.fieldAddr 1 (T 9)), oo 66 (.load false 1 (T 65)), vv 67 11, oo 68 (.idxS 1 (T 66) (T 67)), oo 69 (.load false 1 (T 68)), vv 70 12]), (oo 82 (.ibin .sub (T 81) (kk 2)), [oo 65 (.fieldAddr 1 (T 9)), oo 66 (.load false 1 (T 65)), vv 67 11, oo 68 (.idxS 1 (T 66) (T 67)), oo 69 (.load false 1 (T 68)), vv 70 12]), (oo 83 (.idxS 1 (T 69) (T 70)), []), (nn (.store 1 (T 83) (T 82)), [])])))
 .skip))
 (.seq (.region [oo 85 (.ibin .eql (T 39) (kk 1)), vv 84 85])
 (.cond (T 84)
 (.seq (.region [oo 86 (.fieldAddr 0 (T 9)), oo 87 (.load false 1 (T 86)), oo 88 (.len (T 87)), oo 89 (.ibin .gtr (T 88) (kk 0))])
 (.cond (T 89)
 (.drawn [oo 90 (.fieldAddr 0 (T 9)), oo 91 (.load false 1 (T 90)), vv 92 1, oo 93 (.fieldAddr 0 (T 9)), oo 94 (.load false 1 (T 93)), oo 95 (.len (T 94)), oo 96 (.call (.func 19) [(T 92), (T 95)]), vv 97 3, oo 98 (.call (.func 19) [(T 97), (kk 2)]), vv 99 3, oo 100 (.ibin .quo (T 99) (kk 2)), oo 101 (.call (.func 19) [(T 100), (kk 14)]), oo 102 (.ibin .sub (T 101) (kk 1)), oo 103 (.idxS 2 (T 91) (T 96)), oo 104 (.idxA 2 1 (T 103) (T 98))] [(nn (.store 1 (T 104) (T 102)), [])])
 .skip))
 (.seq (.region [oo 106 (.ibin .eql (T 39) (kk 2)), vv 105 106])
 (.cond (T 105)
 (.seq (.region [oo 107 (.fieldAddr 0 (T 9)), oo 108 (.load false 1 (T 107)), oo 109 (.len (T 108)), oo 110 (.ibin .gtr (T 109) (kk 0))])
 (.cond (T 110)
 (.seq (.region [vv 111 1, oo 112 (.fieldAddr 0 (T 9)), oo 113 (.load false 1 (T 112)), oo 114 (.len (T 113)), oo 115 (.call (.func 19) [(T 111), (T 114)]), vv 13 115])
 (.drawn [oo 116 (.fieldAddr 0 (T 9)), oo 117 (.load false 1 (T 116)), vv 118 13, oo 119 (.slice 2 (T 117) none (some (T 118))), oo 120 (.fieldAddr 0 (T 9)), oo 121 (.load false 1 (T 120)), vv 122 13, oo 123 (.ibin .add (T 122) (kk 1)), oo 124 (.fieldAddr 0 (T 9)), oo 125 (.load false 1 (T 124)), oo 126 (.len (T 125)), oo 127 (.imin (T 123) (T 126)), oo 128 (.slice 2 (T 121) (some (T 127)) none)] [(oo 129 (.append 64 2 16 (T 119) (T 128)), []), (oo 130 (.fieldAddr 0 (T 9)), []), (nn (.store 1 (T 130) (T 129)), [])]))
 .skip))
 (.seq (.region [oo 132 (.ibin .eql (T 39) (kk 3)), vv 131 132])
 (.cond (T 131)
 (.region [oo 133 (.fieldAddr 0 (T 9)), oo 134 (.load false 1 (T 133)), vv 135 3, oo 136 (.build [(.val (.int .i64 0)), (.val (.int .i64 0))] [(0, (1, (T 135))), (1, (1, (kk 0)))]), oo 137 (.bslice 64 2 [(T 136)]), oo 138 (.append 64 2 16 (T 134) (T 137)), oo 139 (.fieldAddr 0 (T 9)), nn (.store 1 (T 139) (T 138))])
 (.region [oo 40 (.fieldAddr 1 (T 9)), oo 41 (.load false 1 (T 40)), oo 42 (.bslice 3 1 [(kk 0)]), oo 43 (.bslice 22 1 [(T 42)]), oo 44 (.append 22 1 24 (T 41) (T 43)), oo 45 (.fieldAddr 1 (T 9)), nn (.store 1 (T 45) (T 44))])))))))))))
 (.seq (.region [oo 140 (.load true 2 (T 9)), nn (.store 2 (T 8) (T 140))])
 .ret)))))
theorem f29 : fnC Try.prog 29 = some (c29, 141, [(.cell 8 true 2)]) := by kernel_rfl

/-- breaks.Check -/
def c30 : CCode :=
 (.seq (.region [oo 4 (.box 3 (T 1)), oo 5 (.box 30 (T 2)), oo 6 (.mov (kk 0))])
 (.scope (.seq (.seq (.region [vv 17 0, oo 18 (.load false 1 (T 4)), oo 19 (.call (.func 37) [(T 17), (T 18)]), oo 20 (.lnot (T 19))])
 (.cond (T 20)
 (.seq (.region [oo 6 (.mov (kk 1))])
 .ret)
 .skip))
 (.seq (.region [vv 21 0, oo 22 (.load false 1 (T 4)), oo 23 (.call (.func 38) [(T 21), (T 22)]), vv 7 23])
 (.seq (.seq (.drawn [oo 24 (.fieldAddr 1 (T 5)), oo 25 (.load false 1 (T 24)), vv 26 0, vv 27 7] [(oo 28 (.call (.func 39) [(T 26), (T 27)]), [oo 24 (.fieldAddr 1 (T 5)), oo 25 (.load false 1 (T 24))]), (oo 29 (.call (.func 46) [(T 25), (T 28), (.func 47)]), []), (oo 30 (.lnot (T 29)), [])])
 (.cond (T 30)
 (.seq (.region [oo 6 (.mov (kk 19))])
 .ret)
 .skip))
 (.seq (.region [oo 31 (.build [(.val (.int .i64 0)), (.val (.int .i64 0))] []), vv 32 0, oo 33 (.len (T 32)), oo 34 (.build [(.val (.int .i64 0)), (.val (.int .i64 0))] [(0, (1, (T 33))), (1, (1, (kk 0)))]), oo 8 (.alloc 64 (.agg [(.val (.int .i64 0)), (.val (.int .i64 0))])), oo 9 (.alloc 64 (.agg [(.val (.int .i64 0)), (.val (.int .i64 0))])), oo 10 (.alloc 3 (.val (.int .i64 0))), nn (.store 2 (T 8) (T 31)), nn (.store 2 (T 9) (T 34)), nn (.store 1 (T 10) (kk 0))])
 (.seq .skip
 (.seq (.seq (.region [oo 35 (.fieldAddr 0 (T 5)), oo 36 (.load false 1 (T 35)), oo 37 (.len (T 36)), oo 38 (.mov (kk 0))])
 (.block 0 (.loop
 (.seq (.region [oo 39 (.ibin .lss (T 38) (T 37))])
 (.seq (.cond (T 39)
 .skip
 (.exit 0))
 (.seq (.block 1 (.seq (.region [oo 40 (.idxS 2 (T 36) (T 38)), oo 41 (.load true 2 (T 40)), oo 12 (.alloc 64 (.agg [(.val (.int .i64 0)), (.val (.int .i64 0))])), nn (.store 2 (T 12) (T 41))])
 (.seq (.seq (.region [vv 42 0, oo 43 (.load false 1 (T 4)), oo 44 (.load true 2 (T 8)), oo 45 (.call (.func 40) [(T 42), (T 43), (T 44)])])
 (.block 2 (.rangeF (T 45) [46, 47] (.seq (.region [oo 13 (.alloc 64 (.agg [(.val (.int .i64 0)), (.val (.int .i64 0))])), nn (.store 2 (T 13) (T 46))])
 (.region [vv 14 47]))
 (.block 3 (.seq (.region [oo 48 (.load true 2 (T 13)), oo 49 (.load true 2 (T 12)), oo 50 (.aeq false 2 (T 48) (T 49))])
 (.cond (T 50)
 (.seq (.drawn [oo 51 (.load false 1 (T 10)), oo 52 (.load true 2 (T 13)), oo 53 (.load true 2 (T 9)), oo 54 (.aeq false 2 (T 52) (T 53)), oo 55 (.load false 1 (T 4)), vv 56 14, oo 57 (.ibin .sub (T 55) (T 56))] [(oo 58 (.call (.func 41) [(T 54), (T 57)]), [oo 51 (.load false 1 (T 10))]), (oo 59 (.ibin .add (T 51) (T 58)), []), (nn (.store 1 (T 10) (T 59)), [])])
 (.seq (.region [oo 60 (.load true 2 (T 13)), nn (.store 2 (T 8) (T 60))])
 (.exit 1)))
 .skip))))))
 (.seq (.region [oo 6 (.mov (kk 19))])
 .ret))))
 (.region [oo 61 (.ibin .add (T 38) (kk 1)), vv 38 61])))))))
 (.seq (.seq (.region [vv 63 7, oo 64 (.build [(.val (.int .i64 0)), (.val (.int .i64 0))] []), oo 65 (.mget 6 true (.int .i64 0) (T 63) (T 64)), vv 62 65, oo 66 (.extract (T 62) 0), oo 67 (.extract (T 62) 1), vv 15 66, vv 16 67])
 (.seq (.region [vv 68 16, oo 69 (.lnot (T 68)), vv 70 69, gf 71 70 (.load true 2 (T 8)), gf 72 70 (.load true 2 (T 9)), gf 73 70 (.aeq true 2 (T 71) (T 72)), oo 74 (.pick (T 70) (.const (.bool true)) (T 73)), vv 75 74, gf 76 75 (.load false 1 (T 10)), vf 77 75 15, gf 78 75 (.ibin .neq (T 76) (T 77)), oo 79 (.pick (T 75) (.const (.bool true)) (T 78))])
 (.cond (T 79)
 (.seq (.region [oo 6 (.mov (kk 19))])
 .ret)
 .skip)))
 (.seq (.region [oo 6 (.mov (kk 0))])
 .ret))))))))))
theorem f30 : fnC Try.prog 30 = some (c30, 80, [(.tmp 6)]) := by kernel_rfl

end Go.Proofs.Ytehelanfgepcmaa
namespace Go.Proofs.Ytehelanfgepcmaa
open Dak

/-- dactyllaw11.given -/
def c31 : CCode :=
 (.seq (.region [oo 1 (.box 36 (T 0)), oo 2 (.alloc 30 (.agg [(.val (.slice none 0 0)), (.val (.slice none 0 0))]))])
 (.seq (.region [oo 3 (.fieldAddr 0 (T 1)), oo 4 (.load false 1 (T 3)), oo 5 (.fieldAddr 1 (T 1)), oo 6 (.load false 1 (T 5)), oo 7 (.build [(.val (.slice none 0 0)), (.val (.slice none 0 0))] [(0, (1, (T 4))), (1, (1, (T 6)))]), nn (.store 2 (T 2) (T 7))])
 .ret))
theorem f31 : fnC Try.prog 31 = some (c31, 8, [(.cell 2 true 2)]) := by kernel_rfl

/-- dactylref11.Check -/
def c32 : CCode :=
 (.seq (.region [oo 5 (.box 36 (T 2)), oo 6 (.mov (kk 0))])
 (.seq (.seq (.region [vv 9 0, vv 10 1, oo 11 (.call (.func 42) [(T 9), (T 10)]), oo 12 (.lnot (T 11))])
 (.cond (T 12)
 (.seq (.region [oo 6 (.mov (kk 1))])
 .ret)
 .skip))
 (.seq (.region [vv 13 0, vv 14 1, oo 15 (.call (.func 43) [(T 13), (T 14)]), vv 7 15])
 (.seq (.region [oo 8 (.mov (kk 0))])
 (.seq (.seq (.region [vv 16 0, oo 17 (.len (T 16)), oo 18 (.ibin .gtr (T 17) (kk 0))])
 (.cond (T 18)
 (.region [vv 19 7, oo 20 (.idxS 1 (T 19) (kk 0)), oo 21 (.load false 1 (T 20)), oo 22 (.idxS 1 (T 21) (kk 0)), oo 23 (.load false 1 (T 22)), vv 8 23])
 .skip))
 (.seq (.seq (.region [oo 24 (.fieldAddr 1 (T 5)), oo 25 (.load false 1 (T 24)), vv 26 7, oo 27 (.call (.func 17) [(T 25), (T 26)]), oo 28 (.lnot (T 27)), vv 29 28, vf 30 29 8, gf 31 29 (.ibin .lss (T 30) (kk 0)), oo 32 (.pick (T 29) (.const (.bool true)) (T 31)), vv 33 32, vf 34 33 0, vf 35 33 1, gf 36 33 (.fieldAddr 0 (T 5)), gf 37 33 (.load false 1 (T 36)), gf 38 33 (.call (.func 36) [(T 34), (T 35), (T 37)]), vf 39 33 8, gf 40 33 (.ibin .neq (T 38) (T 39)), oo 41 (.pick (T 33) (.const (.bool true)) (T 40))])
 (.cond (T 41)
 (.seq (.region [oo 6 (.mov (kk 19))])
 .ret)
 .skip))
 (.seq (.region [oo 6 (.mov (kk 0))])
 .ret)))))))
theorem f32 : fnC Try.prog 32 = some (c32, 42, [(.tmp 6)]) := by kernel_rfl

/-- dactylref01.At -/
def c34 : CCode :=
 (.seq (.region [oo 6 (.mov (kk 0))])
 (.seq (.seq (.region [vv 7 1, oo 8 (.ibin .lss (T 7) (kk 0)), vv 9 8, vf 10 9 1, vf 11 9 0, gf 12 9 (.len (T 11)), gf 13 9 (.ibin .geq (T 10) (T 12)), oo 14 (.pick (T 9) (.const (.bool true)) (T 13))])
 (.cond (T 14)
 (.seq (.region [oo 6 (.mov (kk 0))])
 .ret)
 .skip))
 (.seq (.region [vv 15 0, vv 16 1, oo 17 (.idxS 1 (T 15) (T 16)), oo 18 (.load false 1 (T 17)), vv 19 2, oo 20 (.call (.func 19) [(T 18), (T 19)]), vv 6 20])
 .ret)))
theorem f34 : fnC Try.prog 34 = some (c34, 21, [(.tmp 6)]) := by kernel_rfl

/-- dactylref11.Cost -/
def c36 : CCode :=
 (.seq (.region [oo 6 (.mov (kk 0))])
 (.seq (.region [oo 10 (.build [(.val (.int .i64 0)), (.val (.int .i64 0))] []), oo 7 (.alloc 64 (.agg [(.val (.int .i64 0)), (.val (.int .i64 0))])), nn (.store 2 (T 7) (T 10))])
 (.seq (.region [oo 8 (.mov (kk 0))])
 (.seq (.seq (.region [oo 9 (.mov (kk 0))])
 (.block 0 (.loop
 (.seq (.seq (.region [vv 11 9, vv 12 2, oo 13 (.len (T 12)), oo 14 (.ibin .lss (T 11) (T 13))])
 (.cond (T 14)
 .skip
 (.exit 0)))
 (.seq (.block 1 (.seq (.seq (.drawn [vv 17 0, vv 18 2, vv 19 9, oo 20 (.idxS 2 (T 18) (T 19)), oo 21 (.load true 2 (T 20)), oo 22 (.call (.func 48) [(T 17), (T 21)]), oo 23 (.lnot (T 22)), vv 24 23, gf 25 24 (.load true 2 (T 7)), vf 26 24 2, vf 27 24 9, gf 28 24 (.idxS 2 (T 26) (T 27)), gf 29 24 (.load true 2 (T 28)), gf 30 24 (.call (.func 49) [(T 25), (T 29)]), gf 31 24 (.lnot (T 30)), oo 32 (.pick (T 24) (.const (.bool true)) (T 31)), vv 33 32, vf 34 33 0, gf 35 33 (.load true 2 (T 7)), vf 36 33 2, vf 37 33 9, gf 38 33 (.idxS 2 (T 36) (T 37)), gf 39 33 (.load true 2 (T 38)), gf 40 33 (.call (.func 35) [(T 34), (T 35), (T 39)]), vf 41 33 1, gf 42 33 (.ibin .gtr (T 40) (T 41)), oo 43 (.pick (T 33) (.const (.bool true)) (T 42))] [])
 (.cond (T 43)
 (.seq (.region [oo 6 (.mov (kk (-1)))])
 .ret)
 .skip))
 (.seq (.drawn [vv 44 8, vv 45 0, vv 46 1, oo 47 (.load true 2 (T 7)), vv 48 2, vv 49 9, oo 50 (.idxS 2 (T 48) (T 49)), oo 51 (.load true 2 (T 50))] [(oo 52 (.call (.func 50) [(T 45), (T 46), (T 47), (T 51)]), [vv 44 8]), (oo 53 (.ibin .add (T 44) (T 52)), []), (vv 8 53, [])])
 (.region [vv 54 2, vv 55 9, oo 56 (.idxS 2 (T 54) (T 55)), oo 57 (.load true 2 (T 56)), nn (.store 2 (T 7) (T 57))]))))
 (.region [vv 15 9, oo 16 (.ibin .add (T 15) (kk 1)), vv 9 16]))))))
 (.seq (.seq (.region [oo 58 (.load true 2 (T 7)), vv 59 0, oo 60 (.len (T 59)), oo 61 (.build [(.val (.int .i64 0)), (.val (.int .i64 0))] [(0, (1, (T 60))), (1, (1, (kk 0)))]), oo 62 (.aeq true 2 (T 58) (T 61))])
 (.cond (T 62)
 (.seq (.region [oo 6 (.mov (kk (-1)))])
 .ret)
 .skip))
 (.seq (.region [vv 63 8, vv 6 63])
 .ret))))))
theorem f36 : fnC Try.prog 36 = some (c36, 64, [(.tmp 6)]) := by kernel_rfl

/-- breaks.lines -/
def c40 : CCode :=
 (.seq (.region [oo 3 (.box 34 (T 0)), oo 4 (.box 3 (T 1)), oo 5 (.box 64 (T 2)), oo 6 (.mov (.const .nilFunc))])
 (.seq (.region [oo 7 (.mkfunc (.func 54) [(T 5), (T 3), (T 4)]), vv 6 7])
 .ret))
theorem f40 : fnC Try.prog 40 = some (c40, 8, [(.tmp 6)]) := by kernel_rfl

/-- breaks.price -/
def c41 : CCode :=
 (.seq (.region [oo 4 (.mov (kk 0))])
 (.seq (.seq (.region [vv 5 0])
 (.cond (T 5)
 (.seq (.region [oo 4 (.mov (kk 4294967296))])
 .ret)
 .skip))
 (.seq (.region [vv 6 1, vv 7 1, oo 8 (.ibin .mul (T 6) (T 7)), oo 9 (.ibin .add (kk 4294967296) (T 8)), vv 4 9])
 .ret)))
theorem f41 : fnC Try.prog 41 = some (c41, 10, [(.tmp 4)]) := by kernel_rfl

/-- slices.EqualFunc[[][]int,[][]int,[]int,[]int] -/
def c46 : CCode :=
 (.seq (.region [oo 6 (.mov (.const (.bool false)))])
 (.seq (.seq (.region [vv 10 0, oo 11 (.len (T 10)), vv 12 1, oo 13 (.len (T 12)), oo 14 (.ibin .neq (T 11) (T 13))])
 (.cond (T 14)
 (.seq (.region [oo 6 (.mov (.const (.bool false)))])
 .ret)
 .skip))
 (.seq (.seq (.region [vv 15 0, oo 16 (.len (T 15)), oo 17 (.mov (kk 0))])
 (.block 0 (.loop
 (.seq (.region [oo 18 (.ibin .lss (T 17) (T 16))])
 (.seq (.cond (T 18)
 .skip
 (.exit 0))
 (.seq (.block 1 (.seq (.region [vv 19 17, oo 20 (.idxS 1 (T 15) (T 17)), oo 21 (.load false 1 (T 20)), vv 7 19, vv 8 21])
 (.seq (.region [vv 22 1, vv 23 7, oo 24 (.idxS 1 (T 22) (T 23)), oo 25 (.load false 1 (T 24)), vv 9 25])
 (.seq (.region [vv 26 2, vv 27 8, vv 28 9, oo 29 (.call (T 26) [(T 27), (T 28)]), oo 30 (.lnot (T 29))])
 (.cond (T 30)
 (.seq (.region [oo 6 (.mov (.const (.bool false)))])
 .ret)
 .skip)))))
 (.region [oo 31 (.ibin .add (T 17) (kk 1)), vv 17 31])))))))
 (.seq (.region [oo 6 (.mov (.const (.bool true)))])
 .ret))))
theorem f46 : fnC Try.prog 46 = some (c46, 32, [(.tmp 6)]) := by kernel_rfl

/-- slices.Equal[[]int,int] -/
def c47 : CCode :=
 (.seq (.region [oo 4 (.mov (.const (.bool false)))])
 (.seq (.seq (.region [vv 6 0, oo 7 (.len (T 6)), vv 8 1, oo 9 (.len (T 8)), oo 10 (.ibin .neq (T 7) (T 9))])
 (.cond (T 10)
 (.seq (.region [oo 4 (.mov (.const (.bool false)))])
 .ret)
 .skip))
 (.seq (.seq (.region [vv 11 0, oo 12 (.len (T 11)), oo 13 (.mov (kk 0))])
 (.block 0 (.loop
 (.seq (.region [oo 14 (.ibin .lss (T 13) (T 12))])
 (.seq (.cond (T 14)
 .skip
 (.exit 0))
 (.seq (.block 1 (.seq (.region [vv 15 13, vv 5 15])
 (.seq (.drawn [vv 16 0, vv 17 5, oo 18 (.idxS 1 (T 16) (T 17)), oo 19 (.load false 1 (T 18)), vv 20 1, vv 21 5, oo 22 (.idxS 1 (T 20) (T 21)), oo 23 (.load false 1 (T 22)), oo 24 (.ibin .neq (T 19) (T 23))] [])
 (.cond (T 24)
 (.seq (.region [oo 4 (.mov (.const (.bool false)))])
 .ret)
 .skip))))
 (.region [oo 25 (.ibin .add (T 13) (kk 1)), vv 13 25])))))))
 (.seq (.region [oo 4 (.mov (.const (.bool true)))])
 .ret))))
theorem f47 : fnC Try.prog 47 = some (c47, 26, [(.tmp 4)]) := by kernel_rfl

/-- dactylref11.Is -/
def c48 : CCode :=
 (.seq (.region [oo 3 (.box 64 (T 1)), oo 4 (.mov (.const (.bool false)))])
 (.seq (.drawn [oo 5 (.idxA 2 1 (T 3) (kk 0)), oo 6 (.load false 1 (T 5)), oo 7 (.ibin .geq (T 6) (kk 0)), vv 8 7, gt 9 8 (.idxA 2 1 (T 3) (kk 0)), gt 10 8 (.load false 1 (T 9)), vt 11 8 0, gt 12 8 (.len (T 11)), gt 13 8 (.ibin .lss (T 10) (T 12)), oo 14 (.pick (T 8) (T 13) (.const (.bool false))), vv 15 14, gt 16 15 (.idxA 2 1 (T 3) (kk 1)), gt 17 15 (.load false 1 (T 16)), gt 18 15 (.ibin .geq (T 17) (kk 0)), oo 19 (.pick (T 15) (T 18) (.const (.bool false))), vv 20 19, gt 21 20 (.idxA 2 1 (T 3) (kk 1)), gt 22 20 (.load false 1 (T 21)), vt 23 20 0, gt 24 20 (.idxA 2 1 (T 3) (kk 0)), gt 25 20 (.load false 1 (T 24)), gt 26 20 (.imax (T 25) (kk 0)), vt 27 20 0, gt 28 20 (.len (T 27)), gt 29 20 (.ibin .sub (T 28) (kk 1)), gt 30 20 (.imin (T 26) (T 29)), gt 31 20 (.idxS 1 (T 23) (T 30)), gt 32 20 (.fieldAddr 0 (T 31)), gt 33 20 (.load false 1 (T 32)), gt 34 20 (.len (T 33)), gt 35 20 (.ibin .lss (T 22) (T 34)), oo 36 (.pick (T 20) (T 35) (.const (.bool false))), vv 37 36, gf 38 37 (.load true 2 (T 3)), vf 39 37 0, gf 40 37 (.len (T 39)), gf 41 37 (.build [(.val (.int .i64 0)), (.val (.int .i64 0))] [(0, (1, (T 40))), (1, (1, (kk 0)))]), gf 42 37 (.aeq false 2 (T 38) (T 41)), oo 43 (.pick (T 37) (.const (.bool true)) (T 42)), vv 4 43] [])
 .ret))
theorem f48 : fnC Try.prog 48 = some (c48, 44, [(.tmp 4)]) := by kernel_rfl

/-- dactylref11.Before -/
def c49 : CCode :=
 (.seq (.region [oo 2 (.box 64 (T 0)), oo 3 (.box 64 (T 1)), oo 4 (.mov (.const (.bool false)))])
 (.seq (.region [oo 5 (.idxA 2 1 (T 2) (kk 0)), oo 6 (.load false 1 (T 5)), oo 7 (.idxA 2 1 (T 3) (kk 0)), oo 8 (.load false 1 (T 7)), oo 9 (.ibin .lss (T 6) (T 8)), vv 10 9, gf 11 10 (.idxA 2 1 (T 2) (kk 0)), gf 12 10 (.load false 1 (T 11)), gf 13 10 (.idxA 2 1 (T 3) (kk 0)), gf 14 10 (.load false 1 (T 13)), gf 15 10 (.ibin .eql (T 12) (T 14)), vf 16 10 15, gt 17 16 (.idxA 2 1 (T 2) (kk 1)), gt 18 16 (.load false 1 (T 17)), gt 19 16 (.idxA 2 1 (T 3) (kk 1)), gt 20 16 (.load false 1 (T 19)), gt 21 16 (.ibin .lss (T 18) (T 20)), gf 22 10 (.pick (T 16) (T 21) (.const (.bool false))), oo 23 (.pick (T 10) (.const (.bool true)) (T 22)), vv 4 23])
 .ret))
theorem f49 : fnC Try.prog 49 = some (c49, 24, [(.tmp 4)]) := by kernel_rfl

end Go.Proofs.Ytehelanfgepcmaa
