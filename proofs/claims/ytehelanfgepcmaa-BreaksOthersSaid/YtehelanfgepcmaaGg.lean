import Derived.Test.YtehelanfgepcmaaProg
import Derived.Test.YtehelanfgepcmaaGf
namespace Go.Proofs.Ytehelanfgepcmaa
open Dak

/-- dactyllaw11.BreaksChecks -/
def c8 : CCode :=
 (.seq (.region [⟨(some 10), none, .mov (.const (.bool false))⟩])
 (.seq (.region [⟨(some 21), none, .mov (T 0)⟩,
 ⟨(some 22), none, .call (.func 10) [(T 21), (.const (.int .i64 10))]⟩,
 ⟨(some 11), none, .mov (T 22)⟩])
 (.seq (.region [⟨(some 23), none, .mov (T 1)⟩,
 ⟨(some 24), none, .call (.func 12) [(T 23)]⟩,
 ⟨(some 12), none, .mov (T 24)⟩])
 (.seq (.seq (.region [⟨(some 13), none, .mov (.const (.int .i64 0))⟩])
 (.block 0 (.loop
 (.seq (.seq (.region [⟨(some 25), none, .mov (T 13)⟩,
 ⟨(some 26), none, .ibin .lss (T 25) (.const (.int .i64 2))⟩])
 (.cond (T 26)
 .skip
 (.exit 0)))
 (.seq (.block 1 (.seq (.region [⟨(some 30), none, .mov (T 11)⟩,
 ⟨(some 31), none, .mov (T 12)⟩,
 ⟨(some 32), none, .mov (T 13)⟩,
 ⟨(some 33), none, .idxS 1 (T 31) (T 32)⟩,
 ⟨(some 34), none, .load false 1 (T 33)⟩,
 ⟨(some 35), none, .call (.func 15) [(T 30), (T 34)]⟩,
 ⟨(some 29), none, .mov (T 35)⟩,
 ⟨(some 36), none, .extract (T 29) 0⟩,
 ⟨(some 37), none, .extract (T 29) 1⟩,
 ⟨(some 14), none, .alloc 36 (.agg [(.val (.slice none 0 0)), (.val (.slice none 0 0))])⟩,
 ⟨none, none, .store 2 (T 14) (T 36)⟩,
 ⟨(some 15), none, .mov (T 37)⟩])
 (.seq (.region [⟨(some 38), none, .load true 2 (T 14)⟩,
 ⟨(some 39), none, .mov (T 2)⟩,
 ⟨(some 40), none, .mov (T 3)⟩,
 ⟨(some 41), none, .mov (T 4)⟩,
 ⟨(some 42), none, .call (.func 29) [(T 38), (T 39), (T 40), (T 41)]⟩,
 ⟨(some 16), none, .alloc 36 (.agg [(.val (.slice none 0 0)), (.val (.slice none 0 0))])⟩,
 ⟨none, none, .store 2 (T 16) (T 42)⟩])
 (.seq (.drawn [⟨(some 43), none, .load true 2 (T 14)⟩,
 ⟨(some 44), none, .load true 2 (T 16)⟩,
 ⟨(some 45), none, .load true 2 (T 16)⟩,
 ⟨(some 46), none, .mov (T 4)⟩,
 ⟨(some 47), none, .mov (T 2)⟩,
 ⟨(some 48), none, .mov (T 3)⟩,
 ⟨(some 50), none, .build [(.val (.slice none 0 0)), (.val (.slice none 0 0))] []⟩] [(⟨(some 49), none, .call (.func 29) [(T 45), (T 46), (T 47), (T 48)]⟩, [⟨(some 43), none, .load true 2 (T 14)⟩, ⟨(some 44), none, .load true 2 (T 16)⟩, ⟨(some 50), none, .build [(.val (.slice none 0 0)), (.val (.slice none 0 0))] []⟩]), (⟨(some 51), none, .bslice 36 2 [(T 43), (T 44), (T 49), (T 50)]⟩, []), (⟨(some 17), none, .mov (T 51)⟩, [])])
 (.seq (.seq (.region [⟨(some 18), none, .mov (.const (.int .i64 0))⟩])
 (.block 2 (.loop
 (.seq (.seq (.region [⟨(some 52), none, .mov (T 18)⟩,
 ⟨(some 53), none, .mov (T 17)⟩,
 ⟨(some 54), none, .len (T 53)⟩,
 ⟨(some 55), none, .ibin .lss (T 52) (T 54)⟩])
 (.cond (T 55)
 .skip
 (.exit 2)))
 (.seq (.block 3 (.seq (.drawn [⟨(some 58), none, .mov (T 11)⟩,
 ⟨(some 60), none, .mov (T 12)⟩,
 ⟨(some 61), none, .mov (T 13)⟩,
 ⟨(some 62), none, .idxS 1 (T 60) (T 61)⟩,
 ⟨(some 63), none, .load false 1 (T 62)⟩,
 ⟨(some 64), none, .mov (T 17)⟩,
 ⟨(some 65), none, .mov (T 18)⟩,
 ⟨(some 66), none, .idxS 2 (T 64) (T 65)⟩,
 ⟨(some 67), none, .load true 2 (T 66)⟩,
 ⟨(some 70), none, .mov (T 11)⟩,
 ⟨(some 71), none, .mov (T 12)⟩,
 ⟨(some 72), none, .mov (T 13)⟩,
 ⟨(some 73), none, .idxS 1 (T 71) (T 72)⟩,
 ⟨(some 74), none, .load false 1 (T 73)⟩,
 ⟨(some 75), none, .mov (T 17)⟩,
 ⟨(some 76), none, .mov (T 18)⟩,
 ⟨(some 77), none, .idxS 2 (T 75) (T 76)⟩,
 ⟨(some 78), none, .load true 2 (T 77)⟩] [(⟨(some 59), none, .call (.func 14) [(T 58)]⟩, [⟨(some 60), none, .mov (T 12)⟩, ⟨(some 61), none, .mov (T 13)⟩, ⟨(some 62), none, .idxS 1 (T 60) (T 61)⟩, ⟨(some 63), none, .load false 1 (T 62)⟩, ⟨(some 64), none, .mov (T 17)⟩, ⟨(some 65), none, .mov (T 18)⟩, ⟨(some 66), none, .idxS 2 (T 64) (T 65)⟩, ⟨(some 67), none, .load true 2 (T 66)⟩, ⟨(some 70), none, .mov (T 11)⟩, ⟨(some 71), none, .mov (T 12)⟩, ⟨(some 72), none, .mov (T 13)⟩, ⟨(some 73), none, .idxS 1 (T 71) (T 72)⟩, ⟨(some 74), none, .load false 1 (T 73)⟩, ⟨(some 75), none, .mov (T 17)⟩, ⟨(some 76), none, .mov (T 18)⟩, ⟨(some 77), none, .idxS 2 (T 75) (T 76)⟩, ⟨(some 78), none, .load true 2 (T 77)⟩]), (⟨(some 68), none, .call (.func 31) [(T 67)]⟩, [⟨(some 60), none, .mov (T 12)⟩, ⟨(some 61), none, .mov (T 13)⟩, ⟨(some 62), none, .idxS 1 (T 60) (T 61)⟩, ⟨(some 63), none, .load false 1 (T 62)⟩, ⟨(some 70), none, .mov (T 11)⟩, ⟨(some 71), none, .mov (T 12)⟩, ⟨(some 72), none, .mov (T 13)⟩, ⟨(some 73), none, .idxS 1 (T 71) (T 72)⟩, ⟨(some 74), none, .load false 1 (T 73)⟩, ⟨(some 75), none, .mov (T 17)⟩, ⟨(some 76), none, .mov (T 18)⟩, ⟨(some 77), none, .idxS 2 (T 75) (T 76)⟩, ⟨(some 78), none, .load true 2 (T 77)⟩]), (⟨(some 69), none, .call (.func 30) [(T 59), (T 63), (T 68)]⟩, [⟨(some 70), none, .mov (T 11)⟩, ⟨(some 71), none, .mov (T 12)⟩, ⟨(some 72), none, .mov (T 13)⟩, ⟨(some 73), none, .idxS 1 (T 71) (T 72)⟩, ⟨(some 74), none, .load false 1 (T 73)⟩, ⟨(some 75), none, .mov (T 17)⟩, ⟨(some 76), none, .mov (T 18)⟩, ⟨(some 77), none, .idxS 2 (T 75) (T 76)⟩, ⟨(some 78), none, .load true 2 (T 77)⟩]), (⟨(some 79), none, .call (.func 32) [(T 70), (T 74), (T 78)]⟩, []), (⟨(some 80), none, .ibin .neq (T 69) (T 79)⟩, [])])
 (.cond (T 80)
 (.seq (.region [⟨(some 10), none, .mov (.const (.bool false))⟩])
 .ret)
 .skip)))
 (.region [⟨(some 56), none, .mov (T 18)⟩,
 ⟨(some 57), none, .ibin .add (T 56) (.const (.int .i64 1))⟩,
 ⟨(some 18), none, .mov (T 57)⟩]))))))
 (.seq (.drawn [⟨(some 82), none, .mov (T 11)⟩,
 ⟨(some 83), none, .call (.func 14) [(T 82)]⟩,
 ⟨(some 84), none, .mov (T 12)⟩,
 ⟨(some 85), none, .mov (T 13)⟩,
 ⟨(some 86), none, .idxS 1 (T 84) (T 85)⟩,
 ⟨(some 87), none, .load false 1 (T 86)⟩,
 ⟨(some 88), none, .call (.func 13) [(T 83), (T 87)]⟩,
 ⟨(some 81), none, .mov (T 88)⟩,
 ⟨(some 89), none, .extract (T 81) 0⟩,
 ⟨(some 90), none, .extract (T 81) 1⟩,
 ⟨(some 19), none, .alloc 30 (.agg [(.val (.slice none 0 0)), (.val (.slice none 0 0))])⟩] [(⟨none, none, .store 2 (T 19) (T 89)⟩, []), (⟨(some 20), none, .mov (T 90)⟩, [])])
 (.seq (.seq (.drawn [⟨(some 91), none, .mov (T 15)⟩,
 ⟨(some 92), none, .mov (T 20)⟩,
 ⟨(some 93), none, .ibin .neq (T 91) (T 92)⟩,
 ⟨(some 94), none, .mov (T 93)⟩,
 ⟨(some 95), (some (94, false)), .mov (T 15)⟩,
 ⟨(some 96), (some (94, false)), .ibin .eql (T 95) (.const (.int .i64 0))⟩,
 ⟨(some 97), (some (94, false)), .mov (T 96)⟩,
 ⟨(some 98), (some (97, true)), .mov (T 11)⟩,
 ⟨(some 99), (some (97, true)), .call (.func 14) [(T 98)]⟩,
 ⟨(some 100), (some (97, true)), .mov (T 12)⟩,
 ⟨(some 101), (some (97, true)), .mov (T 13)⟩,
 ⟨(some 102), (some (97, true)), .idxS 1 (T 100) (T 101)⟩,
 ⟨(some 103), (some (97, true)), .load false 1 (T 102)⟩,
 ⟨(some 104), (some (97, true)), .load true 2 (T 19)⟩] [(⟨(some 105), (some (97, true)), .call (.func 30) [(T 99), (T 103), (T 104)]⟩, []), (⟨(some 106), (some (97, true)), .ibin .neq (T 105) (.const (.int .i64 0))⟩, []), (⟨(some 107), (some (94, false)), .pick (T 97) (T 106) (.const (.bool false))⟩, []), (⟨(some 108), none, .pick (T 94) (.const (.bool true)) (T 107)⟩, [])])
 (.cond (T 108)
 (.seq (.region [⟨(some 10), none, .mov (.const (.bool false))⟩])
 .ret)
 .skip))
 (.seq (.region [⟨(some 109), none, .mov (T 15)⟩,
 ⟨(some 110), none, .ibin .eql (T 109) (.const (.int .i64 0))⟩,
 ⟨(some 111), none, .mov (T 110)⟩,
 ⟨(some 112), (some (111, true)), .fieldAddr 1 (T 19)⟩,
 ⟨(some 113), (some (111, true)), .load false 1 (T 112)⟩,
 ⟨(some 114), (some (111, true)), .len (T 113)⟩,
 ⟨(some 115), (some (111, true)), .ibin .gtr (T 114) (.const (.int .i64 0))⟩,
 ⟨(some 116), none, .pick (T 111) (T 115) (.const (.bool false))⟩,
 ⟨(some 117), none, .mov (T 116)⟩,
 ⟨(some 118), (some (117, true)), .fieldAddr 1 (T 19)⟩,
 ⟨(some 119), (some (117, true)), .load false 1 (T 118)⟩,
 ⟨(some 120), (some (117, true)), .idxS 1 (T 119) (.const (.int .i64 0))⟩,
 ⟨(some 121), (some (117, true)), .load false 1 (T 120)⟩,
 ⟨(some 122), (some (117, true)), .len (T 121)⟩,
 ⟨(some 123), (some (117, true)), .ibin .gtr (T 122) (.const (.int .i64 0))⟩,
 ⟨(some 124), none, .pick (T 117) (T 123) (.const (.bool false))⟩])
 (.cond (T 124)
 (.seq (.region [⟨(some 125), none, .fieldAddr 1 (T 19)⟩,
 ⟨(some 126), none, .load false 1 (T 125)⟩,
 ⟨(some 127), none, .idxS 1 (T 126) (.const (.int .i64 0))⟩,
 ⟨(some 128), none, .load false 1 (T 127)⟩,
 ⟨(some 129), none, .idxS 1 (T 128) (.const (.int .i64 0))⟩,
 ⟨(some 130), none, .load false 1 (T 129)⟩,
 ⟨(some 131), none, .ibin .add (T 130) (.const (.int .i64 1))⟩,
 ⟨(some 132), none, .idxS 1 (T 128) (.const (.int .i64 0))⟩,
 ⟨none, none, .store 1 (T 132) (T 131)⟩])
 (.seq (.drawn [⟨(some 133), none, .mov (T 11)⟩,
 ⟨(some 135), none, .mov (T 12)⟩,
 ⟨(some 136), none, .mov (T 13)⟩,
 ⟨(some 137), none, .idxS 1 (T 135) (T 136)⟩,
 ⟨(some 138), none, .load false 1 (T 137)⟩,
 ⟨(some 139), none, .load true 2 (T 19)⟩] [(⟨(some 134), none, .call (.func 14) [(T 133)]⟩, [⟨(some 135), none, .mov (T 12)⟩, ⟨(some 136), none, .mov (T 13)⟩, ⟨(some 137), none, .idxS 1 (T 135) (T 136)⟩, ⟨(some 138), none, .load false 1 (T 137)⟩, ⟨(some 139), none, .load true 2 (T 19)⟩]), (⟨(some 140), none, .call (.func 30) [(T 134), (T 138), (T 139)]⟩, []), (⟨(some 141), none, .ibin .neq (T 140) (.const (.int .i64 19))⟩, [])])
 (.cond (T 141)
 (.seq (.region [⟨(some 10), none, .mov (.const (.bool false))⟩])
 .ret)
 .skip)))
 .skip)))))))))
 (.region [⟨(some 27), none, .mov (T 13)⟩,
 ⟨(some 28), none, .ibin .add (T 27) (.const (.int .i64 1))⟩,
 ⟨(some 13), none, .mov (T 28)⟩]))))))
 (.seq (.drawn [⟨(some 142), none, .mov (T 11)⟩,
 ⟨(some 143), none, .mov (T 2)⟩,
 ⟨(some 144), none, .mov (T 4)⟩,
 ⟨(some 147), none, .mov (T 12)⟩,
 ⟨(some 148), none, .idxS 1 (T 147) (.const (.int .i64 0))⟩,
 ⟨(some 149), none, .load false 1 (T 148)⟩,
 ⟨(some 150), none, .build [(.val (.slice none 0 0)), (.val (.slice none 0 0))] []⟩] [(⟨(some 145), none, .call (.func 11) [(T 142), (T 143), (.const (.int .i64 0)), (T 144)]⟩, [⟨(some 147), none, .mov (T 12)⟩, ⟨(some 148), none, .idxS 1 (T 147) (.const (.int .i64 0))⟩, ⟨(some 149), none, .load false 1 (T 148)⟩, ⟨(some 150), none, .build [(.val (.slice none 0 0)), (.val (.slice none 0 0))] []⟩]), (⟨(some 146), none, .call (.func 14) [(T 145)]⟩, [⟨(some 147), none, .mov (T 12)⟩, ⟨(some 148), none, .idxS 1 (T 147) (.const (.int .i64 0))⟩, ⟨(some 149), none, .load false 1 (T 148)⟩, ⟨(some 150), none, .build [(.val (.slice none 0 0)), (.val (.slice none 0 0))] []⟩]), (⟨(some 151), none, .call (.func 30) [(T 146), (T 149), (T 150)]⟩, []), (⟨(some 152), none, .ibin .eql (T 151) (.const (.int .i64 1))⟩, []), (⟨(some 153), none, .mov (T 152)⟩, []), (⟨(some 154), (some (153, true)), .call (.func 18) []⟩, []), (⟨(some 155), none, .pick (T 153) (T 154) (.const (.bool false))⟩, []), (⟨(some 10), none, .mov (T 155)⟩, [])])
 .ret)))))
theorem f8 : fnC Try.prog 8 = some (c8, 156, [(.tmp 10)]) := by kernel_rfl

/-- dactyllaw11.BreaksOthers -/
def c9 : CCode :=
 (.seq (.region [⟨(some 6), none, .mov (.const (.bool false))⟩])
 (.seq (.region [⟨(some 21), none, .mov (T 0)⟩,
 ⟨(some 22), none, .call (.func 10) [(T 21), (.const (.int .i64 8))]⟩,
 ⟨(some 7), none, .mov (T 22)⟩])
 (.seq (.region [⟨(some 23), none, .mov (T 1)⟩,
 ⟨(some 24), none, .call (.func 19) [(T 23), (.const (.int .i64 20))]⟩,
 ⟨(some 25), none, .ibin .add (.const (.int .i64 1)) (T 24)⟩,
 ⟨(some 8), none, .mov (T 25)⟩])
 (.seq (.region [⟨(some 27), none, .mov (T 7)⟩,
 ⟨(some 28), none, .call (.func 14) [(T 27)]⟩,
 ⟨(some 29), none, .mov (T 8)⟩,
 ⟨(some 30), none, .call (.func 13) [(T 28), (T 29)]⟩,
 ⟨(some 26), none, .mov (T 30)⟩,
 ⟨(some 31), none, .extract (T 26) 0⟩,
 ⟨(some 32), none, .extract (T 26) 1⟩,
 ⟨(some 9), none, .alloc 30 (.agg [(.val (.slice none 0 0)), (.val (.slice none 0 0))])⟩,
 ⟨none, none, .store 2 (T 9) (T 31)⟩,
 ⟨(some 10), none, .mov (T 32)⟩])
 (.seq (.region [⟨(some 11), none, .mov (.const (.slice none 0 0))⟩])
 (.seq (.region [⟨(some 33), none, .build [(.val (.int .i64 0)), (.val (.int .i64 0))] []⟩,
 ⟨(some 12), none, .alloc 64 (.agg [(.val (.int .i64 0)), (.val (.int .i64 0))])⟩,
 ⟨none, none, .store 2 (T 12) (T 33)⟩])
 (.seq (.seq (.region [⟨(some 13), none, .mov (.const (.int .i64 0))⟩])
 (.block 0 (.loop
 (.seq (.seq (.region [⟨(some 34), none, .mov (T 13)⟩,
 ⟨(some 35), none, .ibin .lss (T 34) (.const (.int .i64 60))⟩,
 ⟨(some 36), none, .mov (T 35)⟩,
 ⟨(some 37), (some (36, true)), .load true 2 (T 12)⟩,
 ⟨(some 38), (some (36, true)), .mov (T 7)⟩,
 ⟨(some 39), (some (36, true)), .len (T 38)⟩,
 ⟨(some 40), (some (36, true)), .build [(.val (.int .i64 0)), (.val (.int .i64 0))] [(0, (1, (T 39))), (1, (1, (.const (.int .i64 0))))]⟩,
 ⟨(some 41), (some (36, true)), .aeq true 2 (T 37) (T 40)⟩,
 ⟨(some 42), none, .pick (T 36) (T 41) (.const (.bool false))⟩])
 (.cond (T 42)
 .skip
 (.exit 0)))
 (.seq (.block 1 (.seq (.region [⟨(some 45), none, .mov (T 7)⟩,
 ⟨(some 46), none, .load true 2 (T 12)⟩,
 ⟨(some 47), none, .call (.func 33) [(T 45), (T 46)]⟩,
 ⟨(some 14), none, .alloc 64 (.agg [(.val (.int .i64 0)), (.val (.int .i64 0))])⟩,
 ⟨none, none, .store 2 (T 14) (T 47)⟩])
 (.seq (.seq (.region [⟨(some 48), none, .mov (T 2)⟩,
 ⟨(some 49), none, .mov (T 13)⟩,
 ⟨(some 50), none, .call (.func 34) [(T 48), (T 49), (.const (.int .i64 6))]⟩,
 ⟨(some 15), none, .mov (T 50)⟩])
 (.block 2 (.loop
 (.seq (.seq (.region [⟨(some 51), none, .mov (T 15)⟩,
 ⟨(some 52), none, .ibin .gtr (T 51) (.const (.int .i64 0))⟩,
 ⟨(some 53), none, .mov (T 52)⟩,
 ⟨(some 54), (some (53, true)), .load true 2 (T 14)⟩,
 ⟨(some 55), (some (53, true)), .mov (T 7)⟩,
 ⟨(some 56), (some (53, true)), .len (T 55)⟩,
 ⟨(some 57), (some (53, true)), .build [(.val (.int .i64 0)), (.val (.int .i64 0))] [(0, (1, (T 56))), (1, (1, (.const (.int .i64 0))))]⟩,
 ⟨(some 58), (some (53, true)), .aeq true 2 (T 54) (T 57)⟩,
 ⟨(some 59), none, .pick (T 53) (T 58) (.const (.bool false))⟩])
 (.cond (T 59)
 .skip
 (.exit 2)))
 (.seq (.block 3 (.seq (.region [⟨(some 62), none, .mov (T 7)⟩,
 ⟨(some 63), none, .load true 2 (T 14)⟩,
 ⟨(some 64), none, .call (.func 33) [(T 62), (T 63)]⟩,
 ⟨(some 16), none, .alloc 64 (.agg [(.val (.int .i64 0)), (.val (.int .i64 0))])⟩,
 ⟨none, none, .store 2 (T 16) (T 64)⟩])
 (.seq (.region [⟨(some 65), none, .mov (T 7)⟩,
 ⟨(some 66), none, .load true 2 (T 12)⟩,
 ⟨(some 67), none, .load true 2 (T 16)⟩,
 ⟨(some 68), none, .call (.func 35) [(T 65), (T 66), (T 67)]⟩,
 ⟨(some 69), none, .mov (T 8)⟩,
 ⟨(some 70), none, .ibin .leq (T 68) (T 69)⟩,
 ⟨(some 71), none, .mov (T 70)⟩,
 ⟨(some 72), (some (71, false)), .mov (T 7)⟩,
 ⟨(some 73), (some (71, false)), .load true 2 (T 12)⟩,
 ⟨(some 74), (some (71, false)), .load true 2 (T 14)⟩,
 ⟨(some 75), (some (71, false)), .call (.func 35) [(T 72), (T 73), (T 74)]⟩,
 ⟨(some 76), (some (71, false)), .mov (T 8)⟩,
 ⟨(some 77), (some (71, false)), .ibin .gtr (T 75) (T 76)⟩,
 ⟨(some 78), none, .pick (T 71) (.const (.bool true)) (T 77)⟩])
 (.cond (T 78)
 (.region [⟨(some 79), none, .load true 2 (T 16)⟩,
 ⟨none, none, .store 2 (T 14) (T 79)⟩])
 .skip))))
 (.region [⟨(some 60), none, .mov (T 15)⟩,
 ⟨(some 61), none, .ibin .sub (T 60) (.const (.int .i64 1))⟩,
 ⟨(some 15), none, .mov (T 61)⟩]))))))
 (.seq (.region [⟨(some 80), none, .mov (T 11)⟩,
 ⟨(some 81), none, .load true 2 (T 14)⟩,
 ⟨(some 82), none, .bslice 64 2 [(T 81)]⟩,
 ⟨(some 83), none, .append 64 2 16 (T 80) (T 82)⟩,
 ⟨(some 11), none, .mov (T 83)⟩])
 (.region [⟨(some 84), none, .load true 2 (T 14)⟩,
 ⟨none, none, .store 2 (T 12) (T 84)⟩])))))
 (.region [⟨(some 43), none, .mov (T 13)⟩,
 ⟨(some 44), none, .ibin .add (T 43) (.const (.int .i64 1))⟩,
 ⟨(some 13), none, .mov (T 44)⟩]))))))
 (.seq (.region [⟨(some 85), none, .mov (T 7)⟩,
 ⟨(some 86), none, .mov (T 8)⟩,
 ⟨(some 87), none, .mov (T 11)⟩,
 ⟨(some 88), none, .call (.func 36) [(T 85), (T 86), (T 87)]⟩,
 ⟨(some 17), none, .mov (T 88)⟩])
 (.seq (.seq (.region [⟨(some 89), none, .mov (T 17)⟩,
 ⟨(some 90), none, .ibin .lss (T 89) (.const (.int .i64 0))⟩])
 (.cond (T 90)
 (.seq (.region [⟨(some 91), none, .call (.func 18) []⟩,
 ⟨(some 6), none, .mov (T 91)⟩])
 .ret)
 .skip))
 (.seq (.seq (.region [⟨(some 92), none, .mov (T 10)⟩,
 ⟨(some 93), none, .ibin .neq (T 92) (.const (.int .i64 0))⟩])
 (.cond (T 93)
 (.seq (.region [⟨(some 6), none, .mov (.const (.bool false))⟩])
 .ret)
 .skip))
 (.seq (.region [⟨(some 94), none, .mov (T 7)⟩,
 ⟨(some 95), none, .mov (T 8)⟩,
 ⟨(some 96), none, .fieldAddr 0 (T 9)⟩,
 ⟨(some 97), none, .load false 1 (T 96)⟩,
 ⟨(some 98), none, .call (.func 36) [(T 94), (T 95), (T 97)]⟩,
 ⟨(some 18), none, .mov (T 98)⟩])
 (.seq (.region [⟨(some 99), none, .mov (T 11)⟩,
 ⟨(some 100), none, .fieldAddr 1 (T 9)⟩,
 ⟨(some 101), none, .load false 1 (T 100)⟩,
 ⟨(some 102), none, .build [(.val (.slice none 0 0)), (.val (.slice none 0 0))] [(0, (1, (T 99))), (1, (1, (T 101)))]⟩,
 ⟨(some 19), none, .alloc 30 (.agg [(.val (.slice none 0 0)), (.val (.slice none 0 0))])⟩,
 ⟨none, none, .store 2 (T 19) (T 102)⟩])
 (.seq (.region [⟨(some 20), none, .mov (.const (.int .i64 0))⟩])
 (.seq (.seq (.region [⟨(some 103), none, .mov (T 17)⟩,
 ⟨(some 104), none, .mov (T 18)⟩,
 ⟨(some 105), none, .ibin .gtr (T 103) (T 104)⟩])
 (.cond (T 105)
 (.region [⟨(some 20), none, .mov (.const (.int .i64 19))⟩])
 .skip))
 (.seq (.drawn [⟨(some 106), none, .mov (T 18)⟩,
 ⟨(some 107), none, .ibin .geq (T 106) (.const (.int .i64 0))⟩,
 ⟨(some 108), none, .mov (T 107)⟩,
 ⟨(some 109), (some (108, true)), .mov (T 17)⟩,
 ⟨(some 110), (some (108, true)), .mov (T 18)⟩,
 ⟨(some 111), (some (108, true)), .ibin .geq (T 109) (T 110)⟩,
 ⟨(some 112), none, .pick (T 108) (T 111) (.const (.bool false))⟩,
 ⟨(some 113), none, .mov (T 112)⟩,
 ⟨(some 114), (some (113, true)), .mov (T 7)⟩,
 ⟨(some 115), (some (113, true)), .call (.func 14) [(T 114)]⟩,
 ⟨(some 116), (some (113, true)), .mov (T 8)⟩,
 ⟨(some 117), (some (113, true)), .load true 2 (T 19)⟩,
 ⟨(some 118), (some (113, true)), .call (.func 30) [(T 115), (T 116), (T 117)]⟩,
 ⟨(some 119), (some (113, true)), .mov (T 20)⟩,
 ⟨(some 120), (some (113, true)), .ibin .eql (T 118) (T 119)⟩,
 ⟨(some 121), none, .pick (T 113) (T 120) (.const (.bool false))⟩,
 ⟨(some 122), none, .mov (T 121)⟩] [(⟨(some 123), (some (122, true)), .call (.func 18) []⟩, []), (⟨(some 124), none, .pick (T 122) (T 123) (.const (.bool false))⟩, []), (⟨(some 6), none, .mov (T 124)⟩, [])])
 .ret)))))))))))))))
theorem f9 : fnC Try.prog 9 = some (c9, 125, [(.tmp 6)]) := by kernel_rfl

/-- dactylref11.Words -/
def c10 : CCode :=
 (.seq (.region [⟨(some 4), none, .mov (.const (.slice none 0 0))⟩])
 (.seq (.region [⟨(some 5), none, .mov (.const (.slice none 0 0))⟩])
 (.seq (.region [⟨(some 14), none, .mov (T 0)⟩,
 ⟨(some 15), none, .mov (T 1)⟩,
 ⟨(some 16), none, .ibin .add (T 15) (.const (.int .i64 1))⟩,
 ⟨(some 17), none, .call (.func 34) [(T 14), (.const (.int .i64 0)), (T 16)]⟩,
 ⟨(some 6), none, .mov (T 17)⟩])
 (.seq (.seq (.region [⟨(some 7), none, .mov (.const (.int .i64 0))⟩])
 (.block 0 (.loop
 (.seq (.seq (.region [⟨(some 18), none, .mov (T 7)⟩,
 ⟨(some 19), none, .mov (T 6)⟩,
 ⟨(some 20), none, .ibin .lss (T 18) (T 19)⟩])
 (.cond (T 20)
 .skip
 (.exit 0)))
 (.seq (.block 1 (.seq (.region [⟨(some 8), none, .alloc 47 (.agg [(.val (.slice none 0 0))])⟩])
 (.seq (.region [⟨(some 23), none, .mov (T 0)⟩,
 ⟨(some 24), none, .mov (T 7)⟩,
 ⟨(some 25), none, .ibin .mul (.const (.int .i64 4)) (T 24)⟩,
 ⟨(some 26), none, .ibin .add (.const (.int .i64 1)) (T 25)⟩,
 ⟨(some 27), none, .call (.func 34) [(T 23), (T 26), (.const (.int .i64 6))]⟩,
 ⟨(some 28), none, .ibin .quo (T 27) (.const (.int .i64 2))⟩,
 ⟨(some 29), none, .ibin .add (.const (.int .i64 1)) (T 28)⟩,
 ⟨(some 9), none, .mov (T 29)⟩])
 (.seq (.seq (.region [⟨(some 10), none, .mov (.const (.int .i64 0))⟩])
 (.block 2 (.loop
 (.seq (.seq (.region [⟨(some 30), none, .mov (T 10)⟩,
 ⟨(some 31), none, .mov (T 9)⟩,
 ⟨(some 32), none, .ibin .lss (T 30) (T 31)⟩])
 (.cond (T 32)
 .skip
 (.exit 2)))
 (.seq (.block 3 (.seq (.region [⟨(some 11), none, .mov (.const (.slice none 0 0))⟩])
 (.seq (.region [⟨(some 12), none, .mov (.const (.int .i64 0))⟩])
 (.seq (.seq (.region [⟨(some 35), none, .mov (T 10)⟩,
 ⟨(some 13), none, .mov (T 35)⟩])
 (.block 4 (.loop
 (.seq (.seq (.region [⟨(some 36), none, .mov (T 13)⟩,
 ⟨(some 37), none, .mov (T 9)⟩,
 ⟨(some 38), none, .ibin .lss (T 36) (T 37)⟩])
 (.cond (T 38)
 .skip
 (.exit 4)))
 (.seq (.block 5 (.seq (.region [⟨(some 41), none, .mov (T 12)⟩,
 ⟨(some 42), none, .ibin .add (T 41) (.const (.int .i64 1))⟩,
 ⟨(some 43), none, .mov (T 0)⟩,
 ⟨(some 44), none, .mov (T 7)⟩,
 ⟨(some 45), none, .ibin .mul (.const (.int .i64 4)) (T 44)⟩,
 ⟨(some 46), none, .ibin .add (.const (.int .i64 2)) (T 45)⟩,
 ⟨(some 47), none, .mov (T 13)⟩,
 ⟨(some 48), none, .ibin .add (T 46) (T 47)⟩,
 ⟨(some 49), none, .call (.func 34) [(T 43), (T 48), (.const (.int .i64 4))]⟩,
 ⟨(some 50), none, .ibin .add (T 42) (T 49)⟩,
 ⟨(some 12), none, .mov (T 50)⟩])
 (.seq (.seq (.region [⟨(some 51), none, .mov (T 0)⟩,
 ⟨(some 52), none, .mov (T 7)⟩,
 ⟨(some 53), none, .ibin .mul (.const (.int .i64 4)) (T 52)⟩,
 ⟨(some 54), none, .ibin .add (.const (.int .i64 3)) (T 53)⟩,
 ⟨(some 55), none, .call (.func 34) [(T 51), (T 54), (.const (.int .i64 7))]⟩,
 ⟨(some 56), none, .ibin .eql (T 55) (.const (.int .i64 0))⟩])
 (.cond (T 56)
 (.region [⟨(some 57), none, .mov (T 0)⟩,
 ⟨(some 58), none, .mov (T 7)⟩,
 ⟨(some 59), none, .ibin .mul (.const (.int .i64 4)) (T 58)⟩,
 ⟨(some 60), none, .ibin .add (.const (.int .i64 4)) (T 59)⟩,
 ⟨(some 61), none, .mov (T 13)⟩,
 ⟨(some 62), none, .ibin .add (T 60) (T 61)⟩,
 ⟨(some 63), none, .call (.func 34) [(T 57), (T 62), (.const (.int .i64 6))]⟩,
 ⟨(some 12), none, .mov (T 63)⟩])
 .skip))
 (.region [⟨(some 64), none, .mov (T 11)⟩,
 ⟨(some 65), none, .mov (T 12)⟩,
 ⟨(some 66), none, .bslice 3 1 [(T 65)]⟩,
 ⟨(some 67), none, .append 3 1 8 (T 64) (T 66)⟩,
 ⟨(some 11), none, .mov (T 67)⟩]))))
 (.region [⟨(some 39), none, .mov (T 13)⟩,
 ⟨(some 40), none, .ibin .add (T 39) (.const (.int .i64 1))⟩,
 ⟨(some 13), none, .mov (T 40)⟩]))))))
 (.region [⟨(some 68), none, .fieldAddr 0 (T 8)⟩,
 ⟨(some 69), none, .load false 1 (T 68)⟩,
 ⟨(some 70), none, .mov (T 11)⟩,
 ⟨(some 71), none, .bslice 22 1 [(T 70)]⟩,
 ⟨(some 72), none, .append 22 1 24 (T 69) (T 71)⟩,
 ⟨(some 73), none, .fieldAddr 0 (T 8)⟩,
 ⟨none, none, .store 1 (T 73) (T 72)⟩])))))
 (.region [⟨(some 33), none, .mov (T 10)⟩,
 ⟨(some 34), none, .ibin .add (T 33) (.const (.int .i64 1))⟩,
 ⟨(some 10), none, .mov (T 34)⟩]))))))
 (.region [⟨(some 74), none, .mov (T 5)⟩,
 ⟨(some 75), none, .load true 1 (T 8)⟩,
 ⟨(some 76), none, .bslice 47 1 [(T 75)]⟩,
 ⟨(some 77), none, .append 47 1 24 (T 74) (T 76)⟩,
 ⟨(some 5), none, .mov (T 77)⟩])))))
 (.region [⟨(some 21), none, .mov (T 7)⟩,
 ⟨(some 22), none, .ibin .add (T 21) (.const (.int .i64 1))⟩,
 ⟨(some 7), none, .mov (T 22)⟩]))))))
 (.seq (.region [⟨(some 78), none, .mov (T 5)⟩,
 ⟨(some 4), none, .mov (T 78)⟩])
 .ret)))))
theorem f10 : fnC Try.prog 10 = some (c10, 79, [(.tmp 4)]) := by kernel_rfl

/-- dactylref11.Spoilt -/
def c11 : CCode :=
 (.seq (.region [⟨(some 8), none, .mov (.const (.slice none 0 0))⟩])
 (.seq (.region [⟨(some 13), none, .bslice 47 1 []⟩,
 ⟨(some 14), none, .mov (T 0)⟩,
 ⟨(some 15), none, .append 47 1 24 (T 13) (T 14)⟩,
 ⟨(some 9), none, .mov (T 15)⟩])
 (.seq (.seq (.region [⟨(some 16), none, .mov (T 9)⟩,
 ⟨(some 17), none, .len (T 16)⟩,
 ⟨(some 18), none, .ibin .eql (T 17) (.const (.int .i64 0))⟩])
 (.cond (T 18)
 (.seq (.region [⟨(some 19), none, .mov (T 9)⟩,
 ⟨(some 20), none, .build [(.val (.slice none 0 0))] []⟩,
 ⟨(some 21), none, .bslice 47 1 [(T 20)]⟩,
 ⟨(some 22), none, .append 47 1 24 (T 19) (T 21)⟩,
 ⟨(some 8), none, .mov (T 22)⟩])
 .ret)
 .skip))
 (.seq (.region [⟨(some 23), none, .mov (T 1)⟩,
 ⟨(some 24), none, .mov (T 9)⟩,
 ⟨(some 25), none, .len (T 24)⟩,
 ⟨(some 26), none, .call (.func 19) [(T 23), (T 25)]⟩,
 ⟨(some 10), none, .mov (T 26)⟩])
 (.seq (.region [⟨(some 11), none, .mov (.const (.slice none 0 0))⟩])
 (.seq (.seq (.region [⟨(some 12), none, .mov (.const (.int .i64 0))⟩])
 (.block 0 (.loop
 (.seq (.seq (.region [⟨(some 27), none, .mov (T 12)⟩,
 ⟨(some 28), none, .mov (T 9)⟩,
 ⟨(some 29), none, .mov (T 10)⟩,
 ⟨(some 30), none, .idxS 1 (T 28) (T 29)⟩,
 ⟨(some 31), none, .fieldAddr 0 (T 30)⟩,
 ⟨(some 32), none, .load false 1 (T 31)⟩,
 ⟨(some 33), none, .len (T 32)⟩,
 ⟨(some 34), none, .ibin .lss (T 27) (T 33)⟩])
 (.cond (T 34)
 .skip
 (.exit 0)))
 (.seq (.block 1 (.region [⟨(some 37), none, .mov (T 11)⟩,
 ⟨(some 38), none, .bslice 3 1 []⟩,
 ⟨(some 39), none, .mov (T 9)⟩,
 ⟨(some 40), none, .mov (T 10)⟩,
 ⟨(some 41), none, .idxS 1 (T 39) (T 40)⟩,
 ⟨(some 42), none, .fieldAddr 0 (T 41)⟩,
 ⟨(some 43), none, .load false 1 (T 42)⟩,
 ⟨(some 44), none, .mov (T 12)⟩,
 ⟨(some 45), none, .idxS 1 (T 43) (T 44)⟩,
 ⟨(some 46), none, .load false 1 (T 45)⟩,
 ⟨(some 47), none, .append 3 1 8 (T 38) (T 46)⟩,
 ⟨(some 48), none, .bslice 22 1 [(T 47)]⟩,
 ⟨(some 49), none, .append 22 1 24 (T 37) (T 48)⟩,
 ⟨(some 11), none, .mov (T 49)⟩]))
 (.region [⟨(some 35), none, .mov (T 12)⟩,
 ⟨(some 36), none, .ibin .add (T 35) (.const (.int .i64 1))⟩,
 ⟨(some 12), none, .mov (T 36)⟩]))))))
 (.seq (.seq (.region [⟨(some 50), none, .mov (T 2)⟩,
 ⟨(some 51), none, .call (.func 19) [(T 50), (.const (.int .i64 4))]⟩])
 (.block 2 (.seq (.region [⟨(some 60), none, .ibin .eql (T 51) (.const (.int .i64 0))⟩,
 ⟨(some 59), none, .mov (T 60)⟩])
 (.cond (T 59)
 (.region [⟨(some 61), none, .mov (T 11)⟩,
 ⟨(some 62), none, .mov (T 11)⟩,
 ⟨(some 63), none, .len (T 62)⟩,
 ⟨(some 64), none, .ibin .sub (T 63) (.const (.int .i64 1))⟩,
 ⟨(some 65), none, .slice 1 (T 61) none (some (T 64))⟩,
 ⟨(some 11), none, .mov (T 65)⟩])
 (.seq (.region [⟨(some 67), none, .ibin .eql (T 51) (.const (.int .i64 1))⟩,
 ⟨(some 66), none, .mov (T 67)⟩])
 (.cond (T 66)
 (.region [⟨(some 68), none, .mov (T 11)⟩,
 ⟨(some 69), none, .mov (T 3)⟩,
 ⟨(some 70), none, .bslice 3 1 [(T 69)]⟩,
 ⟨(some 71), none, .bslice 22 1 [(T 70)]⟩,
 ⟨(some 72), none, .append 22 1 24 (T 68) (T 71)⟩,
 ⟨(some 11), none, .mov (T 72)⟩])
 (.seq (.region [⟨(some 74), none, .ibin .eql (T 51) (.const (.int .i64 2))⟩,
 ⟨(some 73), none, .mov (T 74)⟩])
 (.cond (T 73)
 (.drawn [⟨(some 75), none, .mov (T 11)⟩,
 ⟨(some 76), none, .idxS 1 (T 75) (.const (.int .i64 0))⟩,
 ⟨(some 77), none, .load false 1 (T 76)⟩,
 ⟨(some 78), none, .mov (T 3)⟩,
 ⟨(some 79), none, .bslice 3 1 [(.const (.int .i64 (-1))), (.const (.int .i64 4096)), (.const (.int .i64 4097)), (T 78)]⟩,
 ⟨(some 80), none, .mov (T 3)⟩,
 ⟨(some 81), none, .call (.func 19) [(T 80), (.const (.int .i64 4))]⟩,
 ⟨(some 82), none, .idxS 1 (T 79) (T 81)⟩,
 ⟨(some 83), none, .load false 1 (T 82)⟩,
 ⟨(some 84), none, .idxS 1 (T 77) (.const (.int .i64 0))⟩] [(⟨none, none, .store 1 (T 84) (T 83)⟩, [])])
 (.region [⟨(some 52), none, .mov (T 11)⟩,
 ⟨(some 53), none, .mov (T 11)⟩,
 ⟨(some 54), none, .idxS 1 (T 53) (.const (.int .i64 0))⟩,
 ⟨(some 55), none, .load false 1 (T 54)⟩,
 ⟨(some 56), none, .bslice 3 1 [(.const (.int .i64 1))]⟩,
 ⟨(some 57), none, .append 3 1 8 (T 55) (T 56)⟩,
 ⟨(some 58), none, .idxS 1 (T 52) (.const (.int .i64 0))⟩,
 ⟨none, none, .store 1 (T 58) (T 57)⟩])))))))))
 (.seq (.region [⟨(some 85), none, .mov (T 9)⟩,
 ⟨(some 86), none, .mov (T 10)⟩,
 ⟨(some 87), none, .mov (T 11)⟩,
 ⟨(some 88), none, .idxS 1 (T 85) (T 86)⟩,
 ⟨(some 89), none, .fieldAddr 0 (T 88)⟩,
 ⟨none, none, .store 1 (T 89) (T 87)⟩])
 (.seq (.region [⟨(some 90), none, .mov (T 9)⟩,
 ⟨(some 8), none, .mov (T 90)⟩])
 .ret)))))))))
theorem f11 : fnC Try.prog 11 = some (c11, 91, [(.tmp 8)]) := by kernel_rfl

/-- dactyllaw11.widths -/
def c12 : CCode :=
 (.seq (.region [⟨(some 2), none, .mov (.const (.slice none 0 0))⟩])
 (.seq (.region [⟨(some 3), none, .mov (T 0)⟩,
 ⟨(some 4), none, .call (.func 19) [(T 3), (.const (.int .i64 20))]⟩,
 ⟨(some 5), none, .ibin .add (.const (.int .i64 1)) (T 4)⟩,
 ⟨(some 6), none, .bslice 3 1 [(.const (.int .i64 0)), (.const (.int .i64 513)), (.const (.int .i64 512)), (.const (.int .i64 1)), (.const (.int .i64 (-1)))]⟩,
 ⟨(some 7), none, .mov (T 0)⟩,
 ⟨(some 8), none, .call (.func 19) [(T 7), (.const (.int .i64 5))]⟩,
 ⟨(some 9), none, .idxS 1 (T 6) (T 8)⟩,
 ⟨(some 10), none, .load false 1 (T 9)⟩,
 ⟨(some 11), none, .bslice 3 1 [(T 5), (T 10)]⟩,
 ⟨(some 2), none, .mov (T 11)⟩])
 .ret))
theorem f12 : fnC Try.prog 12 = some (c12, 12, [(.tmp 2)]) := by kernel_rfl

/-- dactyllaw11.words -/
def c14 : CCode :=
 (.seq (.region [⟨(some 2), none, .mov (.const (.slice none 0 0))⟩])
 (.seq (.region [⟨(some 3), none, .mov (.const (.slice none 0 0))⟩])
 (.seq (.seq (.region [⟨(some 4), none, .mov (.const (.int .i64 0))⟩])
 (.block 0 (.loop
 (.seq (.seq (.region [⟨(some 5), none, .mov (T 4)⟩,
 ⟨(some 6), none, .mov (T 0)⟩,
 ⟨(some 7), none, .len (T 6)⟩,
 ⟨(some 8), none, .ibin .lss (T 5) (T 7)⟩])
 (.cond (T 8)
 .skip
 (.exit 0)))
 (.seq (.block 1 (.region [⟨(some 11), none, .mov (T 3)⟩,
 ⟨(some 12), none, .mov (T 0)⟩,
 ⟨(some 13), none, .mov (T 4)⟩,
 ⟨(some 14), none, .idxS 1 (T 12) (T 13)⟩,
 ⟨(some 15), none, .fieldAddr 0 (T 14)⟩,
 ⟨(some 16), none, .load false 1 (T 15)⟩,
 ⟨(some 17), none, .build [(.val (.slice none 0 0))] [(0, (1, (T 16)))]⟩,
 ⟨(some 18), none, .bslice 42 1 [(T 17)]⟩,
 ⟨(some 19), none, .append 42 1 24 (T 11) (T 18)⟩,
 ⟨(some 3), none, .mov (T 19)⟩]))
 (.region [⟨(some 9), none, .mov (T 4)⟩,
 ⟨(some 10), none, .ibin .add (T 9) (.const (.int .i64 1))⟩,
 ⟨(some 4), none, .mov (T 10)⟩]))))))
 (.seq (.region [⟨(some 20), none, .mov (T 3)⟩,
 ⟨(some 2), none, .mov (T 20)⟩])
 .ret))))
theorem f14 : fnC Try.prog 14 = some (c14, 21, [(.tmp 2)]) := by kernel_rfl

/-- dactylref11.SameEnds -/
def c16 : CCode :=
 (.seq (.region [⟨(some 4), none, .mov (.const (.bool false))⟩])
 (.seq (.seq (.region [⟨(some 6), none, .mov (T 0)⟩,
 ⟨(some 7), none, .len (T 6)⟩,
 ⟨(some 8), none, .mov (T 1)⟩,
 ⟨(some 9), none, .len (T 8)⟩,
 ⟨(some 10), none, .ibin .neq (T 7) (T 9)⟩])
 (.cond (T 10)
 (.seq (.region [⟨(some 4), none, .mov (.const (.bool false))⟩])
 .ret)
 .skip))
 (.seq (.seq (.region [⟨(some 5), none, .mov (.const (.int .i64 0))⟩])
 (.block 0 (.loop
 (.seq (.seq (.region [⟨(some 11), none, .mov (T 5)⟩,
 ⟨(some 12), none, .mov (T 0)⟩,
 ⟨(some 13), none, .len (T 12)⟩,
 ⟨(some 14), none, .ibin .lss (T 11) (T 13)⟩])
 (.cond (T 14)
 .skip
 (.exit 0)))
 (.seq (.block 1 (.seq (.drawn [⟨(some 17), none, .mov (T 0)⟩,
 ⟨(some 18), none, .mov (T 5)⟩,
 ⟨(some 19), none, .idxS 2 (T 17) (T 18)⟩,
 ⟨(some 20), none, .load true 2 (T 19)⟩,
 ⟨(some 21), none, .mov (T 1)⟩,
 ⟨(some 22), none, .mov (T 5)⟩,
 ⟨(some 23), none, .idxS 2 (T 21) (T 22)⟩,
 ⟨(some 24), none, .load true 2 (T 23)⟩,
 ⟨(some 25), none, .aeq true 2 (T 20) (T 24)⟩] [])
 (.cond (T 25)
 (.seq (.region [⟨(some 4), none, .mov (.const (.bool false))⟩])
 .ret)
 .skip)))
 (.region [⟨(some 15), none, .mov (T 5)⟩,
 ⟨(some 16), none, .ibin .add (T 15) (.const (.int .i64 1))⟩,
 ⟨(some 5), none, .mov (T 16)⟩]))))))
 (.seq (.region [⟨(some 4), none, .mov (.const (.bool true))⟩])
 .ret))))
theorem f16 : fnC Try.prog 16 = some (c16, 26, [(.tmp 4)]) := by kernel_rfl

/-- dactylref11.Same -/
def c17 : CCode :=
 (.seq (.region [⟨(some 4), none, .mov (.const (.bool false))⟩])
 (.seq (.seq (.region [⟨(some 6), none, .mov (T 0)⟩,
 ⟨(some 7), none, .len (T 6)⟩,
 ⟨(some 8), none, .mov (T 1)⟩,
 ⟨(some 9), none, .len (T 8)⟩,
 ⟨(some 10), none, .ibin .neq (T 7) (T 9)⟩])
 (.cond (T 10)
 (.seq (.region [⟨(some 4), none, .mov (.const (.bool false))⟩])
 .ret)
 .skip))
 (.seq (.seq (.region [⟨(some 5), none, .mov (.const (.int .i64 0))⟩])
 (.block 0 (.loop
 (.seq (.seq (.region [⟨(some 11), none, .mov (T 5)⟩,
 ⟨(some 12), none, .mov (T 0)⟩,
 ⟨(some 13), none, .len (T 12)⟩,
 ⟨(some 14), none, .ibin .lss (T 11) (T 13)⟩])
 (.cond (T 14)
 .skip
 (.exit 0)))
 (.seq (.block 1 (.seq (.drawn [⟨(some 17), none, .mov (T 0)⟩,
 ⟨(some 18), none, .mov (T 5)⟩,
 ⟨(some 19), none, .idxS 1 (T 17) (T 18)⟩,
 ⟨(some 20), none, .load false 1 (T 19)⟩,
 ⟨(some 21), none, .mov (T 1)⟩,
 ⟨(some 22), none, .mov (T 5)⟩,
 ⟨(some 23), none, .idxS 1 (T 21) (T 22)⟩,
 ⟨(some 24), none, .load false 1 (T 23)⟩] [(⟨(some 25), none, .call (.func 25) [(T 20), (T 24)]⟩, []), (⟨(some 26), none, .lnot (T 25)⟩, [])])
 (.cond (T 26)
 (.seq (.region [⟨(some 4), none, .mov (.const (.bool false))⟩])
 .ret)
 .skip)))
 (.region [⟨(some 15), none, .mov (T 5)⟩,
 ⟨(some 16), none, .ibin .add (T 15) (.const (.int .i64 1))⟩,
 ⟨(some 5), none, .mov (T 16)⟩]))))))
 (.seq (.region [⟨(some 4), none, .mov (.const (.bool true))⟩])
 .ret))))
theorem f17 : fnC Try.prog 17 = some (c17, 27, [(.tmp 4)]) := by kernel_rfl

/-- dactyllaw11.lives -/
def c18 : CCode :=
 (.seq (.region [⟨(some 0), none, .mov (.const (.bool false))⟩])
 (.seq (.region [⟨(some 8), none, .bslice 3 1 [(.const (.int .i64 3)), (.const (.int .i64 2)), (.const (.int .i64 5))]⟩,
 ⟨(some 9), none, .call (.func 21) [(T 8)]⟩,
 ⟨(some 1), none, .mov (T 9)⟩])
 (.seq (.region [⟨(some 11), none, .mov (T 1)⟩,
 ⟨(some 12), none, .call (.func 13) [(T 11), (.const (.int .i64 6))]⟩,
 ⟨(some 10), none, .mov (T 12)⟩,
 ⟨(some 13), none, .extract (T 10) 0⟩,
 ⟨(some 14), none, .extract (T 10) 1⟩,
 ⟨(some 2), none, .alloc 30 (.agg [(.val (.slice none 0 0)), (.val (.slice none 0 0))])⟩,
 ⟨none, none, .store 2 (T 2) (T 13)⟩,
 ⟨(some 3), none, .mov (T 14)⟩])
 (.seq (.region [⟨(some 16), none, .mov (T 1)⟩,
 ⟨(some 17), none, .call (.func 13) [(T 16), (.const (.int .i64 5))]⟩,
 ⟨(some 15), none, .mov (T 17)⟩,
 ⟨(some 18), none, .extract (T 15) 0⟩,
 ⟨(some 19), none, .extract (T 15) 1⟩,
 ⟨(some 4), none, .alloc 30 (.agg [(.val (.slice none 0 0)), (.val (.slice none 0 0))])⟩,
 ⟨none, none, .store 2 (T 4) (T 18)⟩,
 ⟨(some 5), none, .mov (T 19)⟩])
 (.seq (.region [⟨(some 21), none, .bslice 3 1 [(.const (.int .i64 4)), (.const (.int .i64 7))]⟩,
 ⟨(some 22), none, .bslice 3 1 [(.const (.int .i64 3))]⟩,
 ⟨(some 23), none, .bslice 22 1 [(T 21), (T 22)]⟩,
 ⟨(some 24), none, .build [(.val (.slice none 0 0))] [(0, (1, (T 23)))]⟩,
 ⟨(some 25), none, .bslice 42 1 [(T 24)]⟩,
 ⟨(some 26), none, .call (.func 13) [(T 25), (.const (.int .i64 5))]⟩,
 ⟨(some 20), none, .mov (T 26)⟩,
 ⟨(some 27), none, .extract (T 20) 0⟩,
 ⟨(some 28), none, .extract (T 20) 1⟩,
 ⟨(some 6), none, .alloc 30 (.agg [(.val (.slice none 0 0)), (.val (.slice none 0 0))])⟩,
 ⟨none, none, .store 2 (T 6) (T 27)⟩,
 ⟨(some 7), none, .mov (T 28)⟩])
 (.seq (.seq (.region [⟨(some 29), none, .mov (T 3)⟩,
 ⟨(some 30), none, .ibin .neq (T 29) (.const (.int .i64 0))⟩,
 ⟨(some 31), none, .mov (T 30)⟩,
 ⟨(some 32), (some (31, false)), .mov (T 5)⟩,
 ⟨(some 33), (some (31, false)), .ibin .neq (T 32) (.const (.int .i64 0))⟩,
 ⟨(some 34), none, .pick (T 31) (.const (.bool true)) (T 33)⟩,
 ⟨(some 35), none, .mov (T 34)⟩,
 ⟨(some 36), (some (35, false)), .mov (T 7)⟩,
 ⟨(some 37), (some (35, false)), .ibin .neq (T 36) (.const (.int .i64 0))⟩,
 ⟨(some 38), none, .pick (T 35) (.const (.bool true)) (T 37)⟩,
 ⟨(some 39), none, .mov (T 38)⟩,
 ⟨(some 40), (some (39, false)), .fieldAddr 0 (T 2)⟩,
 ⟨(some 41), (some (39, false)), .load false 1 (T 40)⟩,
 ⟨(some 42), (some (39, false)), .len (T 41)⟩,
 ⟨(some 43), (some (39, false)), .ibin .neq (T 42) (.const (.int .i64 2))⟩,
 ⟨(some 44), none, .pick (T 39) (.const (.bool true)) (T 43)⟩,
 ⟨(some 45), none, .mov (T 44)⟩,
 ⟨(some 46), (some (45, false)), .fieldAddr 0 (T 4)⟩,
 ⟨(some 47), (some (45, false)), .load false 1 (T 46)⟩,
 ⟨(some 48), (some (45, false)), .len (T 47)⟩,
 ⟨(some 49), (some (45, false)), .ibin .neq (T 48) (.const (.int .i64 3))⟩,
 ⟨(some 50), none, .pick (T 45) (.const (.bool true)) (T 49)⟩,
 ⟨(some 51), none, .mov (T 50)⟩,
 ⟨(some 52), (some (51, false)), .fieldAddr 0 (T 6)⟩,
 ⟨(some 53), (some (51, false)), .load false 1 (T 52)⟩,
 ⟨(some 54), (some (51, false)), .len (T 53)⟩,
 ⟨(some 55), (some (51, false)), .ibin .neq (T 54) (.const (.int .i64 2))⟩,
 ⟨(some 56), none, .pick (T 51) (.const (.bool true)) (T 55)⟩,
 ⟨(some 57), none, .mov (T 56)⟩,
 ⟨(some 58), (some (57, false)), .fieldAddr 1 (T 4)⟩,
 ⟨(some 59), (some (57, false)), .load false 1 (T 58)⟩,
 ⟨(some 60), (some (57, false)), .len (T 59)⟩,
 ⟨(some 61), (some (57, false)), .ibin .neq (T 60) (.const (.int .i64 3))⟩,
 ⟨(some 62), none, .pick (T 57) (.const (.bool true)) (T 61)⟩,
 ⟨(some 63), none, .mov (T 62)⟩,
 ⟨(some 64), (some (63, false)), .fieldAddr 1 (T 4)⟩,
 ⟨(some 65), (some (63, false)), .load false 1 (T 64)⟩,
 ⟨(some 66), (some (63, false)), .idxS 1 (T 65) (.const (.int .i64 0))⟩,
 ⟨(some 67), (some (63, false)), .load false 1 (T 66)⟩,
 ⟨(some 68), (some (63, false)), .len (T 67)⟩,
 ⟨(some 69), (some (63, false)), .ibin .neq (T 68) (.const (.int .i64 1))⟩,
 ⟨(some 70), none, .pick (T 63) (.const (.bool true)) (T 69)⟩])
 (.cond (T 70)
 (.seq (.region [⟨(some 0), none, .mov (.const (.bool false))⟩])
 .ret)
 .skip))
 (.seq (.region [⟨(some 71), none, .fieldAddr 0 (T 2)⟩,
 ⟨(some 72), none, .load false 1 (T 71)⟩,
 ⟨(some 73), none, .idxS 2 (T 72) (.const (.int .i64 0))⟩,
 ⟨(some 74), none, .load true 2 (T 73)⟩,
 ⟨(some 75), none, .build [(.val (.int .i64 0)), (.val (.int .i64 0))] [(0, (1, (.const (.int .i64 2)))), (1, (1, (.const (.int .i64 0))))]⟩,
 ⟨(some 76), none, .aeq false 2 (T 74) (T 75)⟩,
 ⟨(some 77), none, .mov (T 76)⟩,
 ⟨(some 78), (some (77, true)), .fieldAddr 0 (T 2)⟩,
 ⟨(some 79), (some (77, true)), .load false 1 (T 78)⟩,
 ⟨(some 80), (some (77, true)), .idxS 2 (T 79) (.const (.int .i64 1))⟩,
 ⟨(some 81), (some (77, true)), .load true 2 (T 80)⟩,
 ⟨(some 82), (some (77, true)), .build [(.val (.int .i64 0)), (.val (.int .i64 0))] [(0, (1, (.const (.int .i64 3)))), (1, (1, (.const (.int .i64 0))))]⟩,
 ⟨(some 83), (some (77, true)), .aeq false 2 (T 81) (T 82)⟩,
 ⟨(some 84), none, .pick (T 77) (T 83) (.const (.bool false))⟩,
 ⟨(some 85), none, .mov (T 84)⟩,
 ⟨(some 86), (some (85, true)), .fieldAddr 1 (T 4)⟩,
 ⟨(some 87), (some (85, true)), .load false 1 (T 86)⟩,
 ⟨(some 88), (some (85, true)), .idxS 1 (T 87) (.const (.int .i64 0))⟩,
 ⟨(some 89), (some (85, true)), .load false 1 (T 88)⟩,
 ⟨(some 90), (some (85, true)), .idxS 1 (T 89) (.const (.int .i64 0))⟩,
 ⟨(some 91), (some (85, true)), .load false 1 (T 90)⟩,
 ⟨(some 92), (some (85, true)), .ibin .eql (T 91) (.const (.int .i64 12884901901))⟩,
 ⟨(some 93), none, .pick (T 85) (T 92) (.const (.bool false))⟩,
 ⟨(some 94), none, .mov (T 93)⟩,
 ⟨(some 95), (some (94, true)), .fieldAddr 0 (T 6)⟩,
 ⟨(some 96), (some (94, true)), .load false 1 (T 95)⟩,
 ⟨(some 97), (some (94, true)), .idxS 2 (T 96) (.const (.int .i64 0))⟩,
 ⟨(some 98), (some (94, true)), .load true 2 (T 97)⟩,
 ⟨(some 99), (some (94, true)), .build [(.val (.int .i64 0)), (.val (.int .i64 0))] [(0, (1, (.const (.int .i64 0)))), (1, (1, (.const (.int .i64 1))))]⟩,
 ⟨(some 100), (some (94, true)), .aeq false 2 (T 98) (T 99)⟩,
 ⟨(some 101), none, .pick (T 94) (T 100) (.const (.bool false))⟩,
 ⟨(some 102), none, .mov (T 101)⟩,
 ⟨(some 103), (some (102, true)), .fieldAddr 0 (T 6)⟩,
 ⟨(some 104), (some (102, true)), .load false 1 (T 103)⟩,
 ⟨(some 105), (some (102, true)), .idxS 2 (T 104) (.const (.int .i64 1))⟩,
 ⟨(some 106), (some (102, true)), .load true 2 (T 105)⟩,
 ⟨(some 107), (some (102, true)), .build [(.val (.int .i64 0)), (.val (.int .i64 0))] [(0, (1, (.const (.int .i64 1)))), (1, (1, (.const (.int .i64 0))))]⟩,
 ⟨(some 108), (some (102, true)), .aeq false 2 (T 106) (T 107)⟩,
 ⟨(some 109), none, .pick (T 102) (T 108) (.const (.bool false))⟩,
 ⟨(some 0), none, .mov (T 109)⟩])
 .ret)))))))
theorem f18 : fnC Try.prog 18 = some (c18, 110, [(.tmp 0)]) := by kernel_rfl

/-- dactylref01.Around -/
def c19 : CCode :=
 (.seq (.region [⟨(some 4), none, .mov (.const (.int .i64 0))⟩])
 (.seq (.seq (.region [⟨(some 5), none, .mov (T 0)⟩,
 ⟨(some 6), none, .ibin .lss (T 5) (.const (.int .i64 0))⟩])
 (.cond (T 6)
 (.region [⟨(some 7), none, .mov (T 0)⟩,
 ⟨(some 8), none, .ibin .add (T 7) (.const (.int .i64 1))⟩,
 ⟨(some 9), none, .neg (T 8)⟩,
 ⟨(some 0), none, .mov (T 9)⟩])
 .skip))
 (.seq (.seq (.region [⟨(some 10), none, .mov (T 1)⟩,
 ⟨(some 11), none, .ibin .lss (T 10) (.const (.int .i64 1))⟩])
 (.cond (T 11)
 (.seq (.region [⟨(some 4), none, .mov (.const (.int .i64 0))⟩])
 .ret)
 .skip))
 (.seq (.region [⟨(some 12), none, .mov (T 0)⟩,
 ⟨(some 13), none, .mov (T 1)⟩,
 ⟨(some 14), none, .ibin .rem (T 12) (T 13)⟩,
 ⟨(some 4), none, .mov (T 14)⟩])
 .ret))))
theorem f19 : fnC Try.prog 19 = some (c19, 15, [(.tmp 4)]) := by kernel_rfl

/-- dactyllaw11.simple -/
def c21 : CCode :=
 (.seq (.region [⟨(some 2), none, .mov (.const (.slice none 0 0))⟩])
 (.seq (.region [⟨(some 3), none, .mov (.const (.slice none 0 0))⟩])
 (.seq (.seq (.region [⟨(some 4), none, .mov (.const (.int .i64 0))⟩])
 (.block 0 (.loop
 (.seq (.seq (.region [⟨(some 5), none, .mov (T 4)⟩,
 ⟨(some 6), none, .mov (T 0)⟩,
 ⟨(some 7), none, .len (T 6)⟩,
 ⟨(some 8), none, .ibin .lss (T 5) (T 7)⟩])
 (.cond (T 8)
 .skip
 (.exit 0)))
 (.seq (.block 1 (.region [⟨(some 11), none, .mov (T 3)⟩,
 ⟨(some 12), none, .mov (T 0)⟩,
 ⟨(some 13), none, .mov (T 4)⟩,
 ⟨(some 14), none, .idxS 1 (T 12) (T 13)⟩,
 ⟨(some 15), none, .load false 1 (T 14)⟩,
 ⟨(some 16), none, .bslice 3 1 [(T 15)]⟩,
 ⟨(some 17), none, .bslice 22 1 [(T 16)]⟩,
 ⟨(some 18), none, .build [(.val (.slice none 0 0))] [(0, (1, (T 17)))]⟩,
 ⟨(some 19), none, .bslice 42 1 [(T 18)]⟩,
 ⟨(some 20), none, .append 42 1 24 (T 11) (T 19)⟩,
 ⟨(some 3), none, .mov (T 20)⟩]))
 (.region [⟨(some 9), none, .mov (T 4)⟩,
 ⟨(some 10), none, .ibin .add (T 9) (.const (.int .i64 1))⟩,
 ⟨(some 4), none, .mov (T 10)⟩]))))))
 (.seq (.region [⟨(some 21), none, .mov (T 3)⟩,
 ⟨(some 2), none, .mov (T 21)⟩])
 .ret))))
theorem f21 : fnC Try.prog 21 = some (c21, 22, [(.tmp 2)]) := by kernel_rfl

/-- dactylref01.SameInts -/
def c25 : CCode :=
 (.seq (.region [⟨(some 4), none, .mov (.const (.bool false))⟩])
 (.seq (.seq (.region [⟨(some 6), none, .mov (T 0)⟩,
 ⟨(some 7), none, .len (T 6)⟩,
 ⟨(some 8), none, .mov (T 1)⟩,
 ⟨(some 9), none, .len (T 8)⟩,
 ⟨(some 10), none, .ibin .neq (T 7) (T 9)⟩])
 (.cond (T 10)
 (.seq (.region [⟨(some 4), none, .mov (.const (.bool false))⟩])
 .ret)
 .skip))
 (.seq (.seq (.region [⟨(some 5), none, .mov (.const (.int .i64 0))⟩])
 (.block 0 (.loop
 (.seq (.seq (.region [⟨(some 11), none, .mov (T 5)⟩,
 ⟨(some 12), none, .mov (T 0)⟩,
 ⟨(some 13), none, .len (T 12)⟩,
 ⟨(some 14), none, .ibin .lss (T 11) (T 13)⟩])
 (.cond (T 14)
 .skip
 (.exit 0)))
 (.seq (.block 1 (.seq (.drawn [⟨(some 17), none, .mov (T 0)⟩,
 ⟨(some 18), none, .mov (T 5)⟩,
 ⟨(some 19), none, .idxS 1 (T 17) (T 18)⟩,
 ⟨(some 20), none, .load false 1 (T 19)⟩,
 ⟨(some 21), none, .mov (T 1)⟩,
 ⟨(some 22), none, .mov (T 5)⟩,
 ⟨(some 23), none, .idxS 1 (T 21) (T 22)⟩,
 ⟨(some 24), none, .load false 1 (T 23)⟩,
 ⟨(some 25), none, .ibin .neq (T 20) (T 24)⟩] [])
 (.cond (T 25)
 (.seq (.region [⟨(some 4), none, .mov (.const (.bool false))⟩])
 .ret)
 .skip)))
 (.region [⟨(some 15), none, .mov (T 5)⟩,
 ⟨(some 16), none, .ibin .add (T 15) (.const (.int .i64 1))⟩,
 ⟨(some 5), none, .mov (T 16)⟩]))))))
 (.seq (.region [⟨(some 4), none, .mov (.const (.bool true))⟩])
 .ret))))
theorem f25 : fnC Try.prog 25 = some (c25, 26, [(.tmp 4)]) := by kernel_rfl

/-- dactyllaw11.bent -/
def c29 : CCode :=
 (.seq (.region [⟨(some 4), none, .box 36 (T 0)⟩,
 ⟨(some 8), none, .alloc 36 (.agg [(.val (.slice none 0 0)), (.val (.slice none 0 0))])⟩])
 (.seq (.region [⟨(some 14), none, .bslice 64 2 []⟩,
 ⟨(some 15), none, .fieldAddr 0 (T 4)⟩,
 ⟨(some 16), none, .load false 1 (T 15)⟩,
 ⟨(some 17), none, .append 64 2 16 (T 14) (T 16)⟩,
 ⟨(some 18), none, .build [(.val (.slice none 0 0)), (.val (.slice none 0 0))] [(0, (1, (T 17)))]⟩,
 ⟨(some 9), none, .alloc 36 (.agg [(.val (.slice none 0 0)), (.val (.slice none 0 0))])⟩,
 ⟨none, none, .store 2 (T 9) (T 18)⟩])
 (.seq (.seq (.region [⟨(some 10), none, .mov (.const (.int .i64 0))⟩])
 (.block 0 (.loop
 (.seq (.seq (.region [⟨(some 19), none, .mov (T 10)⟩,
 ⟨(some 20), none, .fieldAddr 1 (T 4)⟩,
 ⟨(some 21), none, .load false 1 (T 20)⟩,
 ⟨(some 22), none, .len (T 21)⟩,
 ⟨(some 23), none, .ibin .lss (T 19) (T 22)⟩])
 (.cond (T 23)
 .skip
 (.exit 0)))
 (.seq (.block 1 (.drawn [⟨(some 26), none, .fieldAddr 1 (T 9)⟩,
 ⟨(some 27), none, .load false 1 (T 26)⟩,
 ⟨(some 28), none, .bslice 3 1 []⟩,
 ⟨(some 29), none, .fieldAddr 1 (T 4)⟩,
 ⟨(some 30), none, .load false 1 (T 29)⟩,
 ⟨(some 31), none, .mov (T 10)⟩,
 ⟨(some 32), none, .idxS 1 (T 30) (T 31)⟩,
 ⟨(some 33), none, .load false 1 (T 32)⟩] [(⟨(some 34), none, .append 3 1 8 (T 28) (T 33)⟩, [⟨(some 26), none, .fieldAddr 1 (T 9)⟩, ⟨(some 27), none, .load false 1 (T 26)⟩]), (⟨(some 35), none, .bslice 22 1 [(T 34)]⟩, [⟨(some 26), none, .fieldAddr 1 (T 9)⟩, ⟨(some 27), none, .load false 1 (T 26)⟩]), (⟨(some 36), none, .append 22 1 24 (T 27) (T 35)⟩, []), (⟨(some 37), none, .fieldAddr 1 (T 9)⟩, []), (⟨none, none, .store 1 (T 37) (T 36)⟩, [])]))
 (.region [⟨(some 24), none, .mov (T 10)⟩,
 ⟨(some 25), none, .ibin .add (T 24) (.const (.int .i64 1))⟩,
 ⟨(some 10), none, .mov (T 25)⟩]))))))
 (.seq (.seq (.region [⟨(some 38), none, .mov (T 2)⟩,
 ⟨(some 39), none, .call (.func 19) [(T 38), (.const (.int .i64 5))]⟩])
 (.block 2 (.seq (.region [⟨(some 47), none, .ibin .eql (T 39) (.const (.int .i64 0))⟩,
 ⟨(some 46), none, .mov (T 47)⟩])
 (.cond (T 46)
 (.seq (.region [⟨(some 48), none, .fieldAddr 1 (T 9)⟩,
 ⟨(some 49), none, .load false 1 (T 48)⟩,
 ⟨(some 50), none, .len (T 49)⟩,
 ⟨(some 51), none, .ibin .gtr (T 50) (.const (.int .i64 0))⟩])
 (.cond (T 51)
 (.seq (.region [⟨(some 52), none, .mov (T 1)⟩,
 ⟨(some 53), none, .fieldAddr 1 (T 9)⟩,
 ⟨(some 54), none, .load false 1 (T 53)⟩,
 ⟨(some 55), none, .len (T 54)⟩,
 ⟨(some 56), none, .call (.func 19) [(T 52), (T 55)]⟩,
 ⟨(some 11), none, .mov (T 56)⟩])
 (.seq (.region [⟨(some 57), none, .mov (T 3)⟩,
 ⟨(some 58), none, .fieldAddr 1 (T 9)⟩,
 ⟨(some 59), none, .load false 1 (T 58)⟩,
 ⟨(some 60), none, .mov (T 11)⟩,
 ⟨(some 61), none, .idxS 1 (T 59) (T 60)⟩,
 ⟨(some 62), none, .load false 1 (T 61)⟩,
 ⟨(some 63), none, .len (T 62)⟩,
 ⟨(some 64), none, .call (.func 19) [(T 57), (T 63)]⟩,
 ⟨(some 12), none, .mov (T 64)⟩])
 (.drawn [⟨(some 65), none, .fieldAddr 1 (T 9)⟩,
 ⟨(some 66), none, .load false 1 (T 65)⟩,
 ⟨(some 67), none, .mov (T 11)⟩,
 ⟨(some 68), none, .idxS 1 (T 66) (T 67)⟩,
 ⟨(some 69), none, .load false 1 (T 68)⟩,
 ⟨(some 70), none, .mov (T 12)⟩,
 ⟨(some 71), none, .fieldAddr 1 (T 9)⟩,
 ⟨(some 72), none, .load false 1 (T 71)⟩,
 ⟨(some 73), none, .mov (T 11)⟩,
 ⟨(some 74), none, .idxS 1 (T 72) (T 73)⟩,
 ⟨(some 75), none, .load false 1 (T 74)⟩,
 ⟨(some 76), none, .mov (T 12)⟩,
 ⟨(some 77), none, .idxS 1 (T 75) (T 76)⟩,
 ⟨(some 78), none, .load false 1 (T 77)⟩,
 ⟨(some 79), none, .mov (T 3)⟩] [(⟨(some 80), none, .call (.func 19) [(T 79), (.const (.int .i64 5))]⟩, [⟨(some 65), none, .fieldAddr 1 (T 9)⟩, ⟨(some 66), none, .load false 1 (T 65)⟩, ⟨(some 67), none, .mov (T 11)⟩, ⟨(some 68), none, .idxS 1 (T 66) (T 67)⟩, ⟨(some 69), none, .load false 1 (T 68)⟩, ⟨(some 70), none, .mov (T 12)⟩, ⟨(some 71), none, .fieldAddr 1 (T 9)⟩, ⟨(some 72), none, .load false 1 (T 71)⟩, ⟨(some 73), none, .mov (T 11)⟩, ⟨(some 74), none, .idxS 1 (T 72) (T 73)⟩, ⟨(some 75), none, .load false 1 (T 74)⟩, ⟨(some 76), none, .mov (T 12)⟩, ⟨(some 77), none, .idxS 1 (T 75) (T 76)⟩, ⟨(some 78), none, .load false 1 (T 77)⟩]), (⟨(some 81), none, .ibin .add (T 78) (T 80)⟩, [⟨(some 65), none, .fieldAddr 1 (T 9)⟩, ⟨(some 66), none, .load false 1 (T 65)⟩, ⟨(some 67), none, .mov (T 11)⟩, ⟨(some 68), none, .idxS 1 (T 66) (T 67)⟩, ⟨(some 69), none, .load false 1 (T 68)⟩, ⟨(some 70), none, .mov (T 12)⟩]), (⟨(some 82), none, .ibin .sub (T 81) (.const (.int .i64 2))⟩, [⟨(some 65), none, .fieldAddr 1 (T 9)⟩, ⟨(some 66), none, .load false 1 (T 65)⟩, ⟨(some 67), none, .mov (T 11)⟩, ⟨(some 68), none, .idxS 1 (T 66) (T 67)⟩, ⟨(some 69), none, .load false 1 (T 68)⟩, ⟨(some 70), none, .mov (T 12)⟩]), (⟨(some 83), none, .idxS 1 (T 69) (T 70)⟩, []), (⟨none, none, .store 1 (T 83) (T 82)⟩, [])])))
 .skip))
 (.seq (.region [⟨(some 85), none, .ibin .eql (T 39) (.const (.int .i64 1))⟩,
 ⟨(some 84), none, .mov (T 85)⟩])
 (.cond (T 84)
 (.seq (.region [⟨(some 86), none, .fieldAddr 0 (T 9)⟩,
 ⟨(some 87), none, .load false 1 (T 86)⟩,
 ⟨(some 88), none, .len (T 87)⟩,
 ⟨(some 89), none, .ibin .gtr (T 88) (.const (.int .i64 0))⟩])
 (.cond (T 89)
 (.drawn [⟨(some 90), none, .fieldAddr 0 (T 9)⟩,
 ⟨(some 91), none, .load false 1 (T 90)⟩,
 ⟨(some 92), none, .mov (T 1)⟩,
 ⟨(some 93), none, .fieldAddr 0 (T 9)⟩,
 ⟨(some 94), none, .load false 1 (T 93)⟩,
 ⟨(some 95), none, .len (T 94)⟩,
 ⟨(some 96), none, .call (.func 19) [(T 92), (T 95)]⟩,
 ⟨(some 97), none, .mov (T 3)⟩,
 ⟨(some 98), none, .call (.func 19) [(T 97), (.const (.int .i64 2))]⟩,
 ⟨(some 99), none, .mov (T 3)⟩,
 ⟨(some 100), none, .ibin .quo (T 99) (.const (.int .i64 2))⟩,
 ⟨(some 101), none, .call (.func 19) [(T 100), (.const (.int .i64 14))]⟩,
 ⟨(some 102), none, .ibin .sub (T 101) (.const (.int .i64 1))⟩,
 ⟨(some 103), none, .idxS 2 (T 91) (T 96)⟩,
 ⟨(some 104), none, .idxA 2 1 (T 103) (T 98)⟩] [(⟨none, none, .store 1 (T 104) (T 102)⟩, [])])
 .skip))
 (.seq (.region [⟨(some 106), none, .ibin .eql (T 39) (.const (.int .i64 2))⟩,
 ⟨(some 105), none, .mov (T 106)⟩])
 (.cond (T 105)
 (.seq (.region [⟨(some 107), none, .fieldAddr 0 (T 9)⟩,
 ⟨(some 108), none, .load false 1 (T 107)⟩,
 ⟨(some 109), none, .len (T 108)⟩,
 ⟨(some 110), none, .ibin .gtr (T 109) (.const (.int .i64 0))⟩])
 (.cond (T 110)
 (.seq (.region [⟨(some 111), none, .mov (T 1)⟩,
 ⟨(some 112), none, .fieldAddr 0 (T 9)⟩,
 ⟨(some 113), none, .load false 1 (T 112)⟩,
 ⟨(some 114), none, .len (T 113)⟩,
 ⟨(some 115), none, .call (.func 19) [(T 111), (T 114)]⟩,
 ⟨(some 13), none, .mov (T 115)⟩])
 (.drawn [⟨(some 116), none, .fieldAddr 0 (T 9)⟩,
 ⟨(some 117), none, .load false 1 (T 116)⟩,
 ⟨(some 118), none, .mov (T 13)⟩,
 ⟨(some 119), none, .slice 2 (T 117) none (some (T 118))⟩,
 ⟨(some 120), none, .fieldAddr 0 (T 9)⟩,
 ⟨(some 121), none, .load false 1 (T 120)⟩,
 ⟨(some 122), none, .mov (T 13)⟩,
 ⟨(some 123), none, .ibin .add (T 122) (.const (.int .i64 1))⟩,
 ⟨(some 124), none, .fieldAddr 0 (T 9)⟩,
 ⟨(some 125), none, .load false 1 (T 124)⟩,
 ⟨(some 126), none, .len (T 125)⟩,
 ⟨(some 127), none, .imin (T 123) (T 126)⟩,
 ⟨(some 128), none, .slice 2 (T 121) (some (T 127)) none⟩] [(⟨(some 129), none, .append 64 2 16 (T 119) (T 128)⟩, []), (⟨(some 130), none, .fieldAddr 0 (T 9)⟩, []), (⟨none, none, .store 1 (T 130) (T 129)⟩, [])]))
 .skip))
 (.seq (.region [⟨(some 132), none, .ibin .eql (T 39) (.const (.int .i64 3))⟩,
 ⟨(some 131), none, .mov (T 132)⟩])
 (.cond (T 131)
 (.region [⟨(some 133), none, .fieldAddr 0 (T 9)⟩,
 ⟨(some 134), none, .load false 1 (T 133)⟩,
 ⟨(some 135), none, .mov (T 3)⟩,
 ⟨(some 136), none, .build [(.val (.int .i64 0)), (.val (.int .i64 0))] [(0, (1, (T 135))), (1, (1, (.const (.int .i64 0))))]⟩,
 ⟨(some 137), none, .bslice 64 2 [(T 136)]⟩,
 ⟨(some 138), none, .append 64 2 16 (T 134) (T 137)⟩,
 ⟨(some 139), none, .fieldAddr 0 (T 9)⟩,
 ⟨none, none, .store 1 (T 139) (T 138)⟩])
 (.region [⟨(some 40), none, .fieldAddr 1 (T 9)⟩,
 ⟨(some 41), none, .load false 1 (T 40)⟩,
 ⟨(some 42), none, .bslice 3 1 [(.const (.int .i64 0))]⟩,
 ⟨(some 43), none, .bslice 22 1 [(T 42)]⟩,
 ⟨(some 44), none, .append 22 1 24 (T 41) (T 43)⟩,
 ⟨(some 45), none, .fieldAddr 1 (T 9)⟩,
 ⟨none, none, .store 1 (T 45) (T 44)⟩])))))))))))
 (.seq (.region [⟨(some 140), none, .load true 2 (T 9)⟩,
 ⟨none, none, .store 2 (T 8) (T 140)⟩])
 .ret)))))
theorem f29 : fnC Try.prog 29 = some (c29, 141, [(.cell 8 true 2)]) := by kernel_rfl

/-- breaks.Check -/
def c30 : CCode :=
 (.seq (.region [⟨(some 4), none, .box 3 (T 1)⟩,
 ⟨(some 5), none, .box 30 (T 2)⟩,
 ⟨(some 6), none, .mov (.const (.int .i64 0))⟩])
 (.scope (.seq (.seq (.region [⟨(some 17), none, .mov (T 0)⟩,
 ⟨(some 18), none, .load false 1 (T 4)⟩,
 ⟨(some 19), none, .call (.func 37) [(T 17), (T 18)]⟩,
 ⟨(some 20), none, .lnot (T 19)⟩])
 (.cond (T 20)
 (.seq (.region [⟨(some 6), none, .mov (.const (.int .i64 1))⟩])
 .ret)
 .skip))
 (.seq (.region [⟨(some 21), none, .mov (T 0)⟩,
 ⟨(some 22), none, .load false 1 (T 4)⟩,
 ⟨(some 23), none, .call (.func 38) [(T 21), (T 22)]⟩,
 ⟨(some 7), none, .mov (T 23)⟩])
 (.seq (.seq (.drawn [⟨(some 24), none, .fieldAddr 1 (T 5)⟩,
 ⟨(some 25), none, .load false 1 (T 24)⟩,
 ⟨(some 26), none, .mov (T 0)⟩,
 ⟨(some 27), none, .mov (T 7)⟩] [(⟨(some 28), none, .call (.func 39) [(T 26), (T 27)]⟩, [⟨(some 24), none, .fieldAddr 1 (T 5)⟩, ⟨(some 25), none, .load false 1 (T 24)⟩]), (⟨(some 29), none, .call (.func 46) [(T 25), (T 28), (.func 47)]⟩, []), (⟨(some 30), none, .lnot (T 29)⟩, [])])
 (.cond (T 30)
 (.seq (.region [⟨(some 6), none, .mov (.const (.int .i64 19))⟩])
 .ret)
 .skip))
 (.seq (.region [⟨(some 31), none, .build [(.val (.int .i64 0)), (.val (.int .i64 0))] []⟩,
 ⟨(some 32), none, .mov (T 0)⟩,
 ⟨(some 33), none, .len (T 32)⟩,
 ⟨(some 34), none, .build [(.val (.int .i64 0)), (.val (.int .i64 0))] [(0, (1, (T 33))), (1, (1, (.const (.int .i64 0))))]⟩,
 ⟨(some 8), none, .alloc 64 (.agg [(.val (.int .i64 0)), (.val (.int .i64 0))])⟩,
 ⟨(some 9), none, .alloc 64 (.agg [(.val (.int .i64 0)), (.val (.int .i64 0))])⟩,
 ⟨(some 10), none, .alloc 3 (.val (.int .i64 0))⟩,
 ⟨none, none, .store 2 (T 8) (T 31)⟩,
 ⟨none, none, .store 2 (T 9) (T 34)⟩,
 ⟨none, none, .store 1 (T 10) (.const (.int .i64 0))⟩])
 (.seq .skip
 (.seq (.seq (.region [⟨(some 35), none, .fieldAddr 0 (T 5)⟩,
 ⟨(some 36), none, .load false 1 (T 35)⟩,
 ⟨(some 37), none, .len (T 36)⟩,
 ⟨(some 38), none, .mov (.const (.int .i64 0))⟩])
 (.block 0 (.loop
 (.seq (.region [⟨(some 39), none, .ibin .lss (T 38) (T 37)⟩])
 (.seq (.cond (T 39)
 .skip
 (.exit 0))
 (.seq (.block 1 (.seq (.region [⟨(some 40), none, .idxS 2 (T 36) (T 38)⟩,
 ⟨(some 41), none, .load true 2 (T 40)⟩,
 ⟨(some 12), none, .alloc 64 (.agg [(.val (.int .i64 0)), (.val (.int .i64 0))])⟩,
 ⟨none, none, .store 2 (T 12) (T 41)⟩])
 (.seq (.seq (.region [⟨(some 42), none, .mov (T 0)⟩,
 ⟨(some 43), none, .load false 1 (T 4)⟩,
 ⟨(some 44), none, .load true 2 (T 8)⟩,
 ⟨(some 45), none, .call (.func 40) [(T 42), (T 43), (T 44)]⟩])
 (.block 2 (.rangeF (T 45) [46, 47] (.seq (.region [⟨(some 13), none, .alloc 64 (.agg [(.val (.int .i64 0)), (.val (.int .i64 0))])⟩,
 ⟨none, none, .store 2 (T 13) (T 46)⟩])
 (.region [⟨(some 14), none, .mov (T 47)⟩]))
 (.block 3 (.seq (.region [⟨(some 48), none, .load true 2 (T 13)⟩,
 ⟨(some 49), none, .load true 2 (T 12)⟩,
 ⟨(some 50), none, .aeq false 2 (T 48) (T 49)⟩])
 (.cond (T 50)
 (.seq (.drawn [⟨(some 51), none, .load false 1 (T 10)⟩,
 ⟨(some 52), none, .load true 2 (T 13)⟩,
 ⟨(some 53), none, .load true 2 (T 9)⟩,
 ⟨(some 54), none, .aeq false 2 (T 52) (T 53)⟩,
 ⟨(some 55), none, .load false 1 (T 4)⟩,
 ⟨(some 56), none, .mov (T 14)⟩,
 ⟨(some 57), none, .ibin .sub (T 55) (T 56)⟩] [(⟨(some 58), none, .call (.func 41) [(T 54), (T 57)]⟩, [⟨(some 51), none, .load false 1 (T 10)⟩]), (⟨(some 59), none, .ibin .add (T 51) (T 58)⟩, []), (⟨none, none, .store 1 (T 10) (T 59)⟩, [])])
 (.seq (.region [⟨(some 60), none, .load true 2 (T 13)⟩,
 ⟨none, none, .store 2 (T 8) (T 60)⟩])
 (.exit 1)))
 .skip))))))
 (.seq (.region [⟨(some 6), none, .mov (.const (.int .i64 19))⟩])
 .ret))))
 (.region [⟨(some 61), none, .ibin .add (T 38) (.const (.int .i64 1))⟩,
 ⟨(some 38), none, .mov (T 61)⟩])))))))
 (.seq (.seq (.region [⟨(some 63), none, .mov (T 7)⟩,
 ⟨(some 64), none, .build [(.val (.int .i64 0)), (.val (.int .i64 0))] []⟩,
 ⟨(some 65), none, .mget 6 true (.int .i64 0) (T 63) (T 64)⟩,
 ⟨(some 62), none, .mov (T 65)⟩,
 ⟨(some 66), none, .extract (T 62) 0⟩,
 ⟨(some 67), none, .extract (T 62) 1⟩,
 ⟨(some 15), none, .mov (T 66)⟩,
 ⟨(some 16), none, .mov (T 67)⟩])
 (.seq (.region [⟨(some 68), none, .mov (T 16)⟩,
 ⟨(some 69), none, .lnot (T 68)⟩,
 ⟨(some 70), none, .mov (T 69)⟩,
 ⟨(some 71), (some (70, false)), .load true 2 (T 8)⟩,
 ⟨(some 72), (some (70, false)), .load true 2 (T 9)⟩,
 ⟨(some 73), (some (70, false)), .aeq true 2 (T 71) (T 72)⟩,
 ⟨(some 74), none, .pick (T 70) (.const (.bool true)) (T 73)⟩,
 ⟨(some 75), none, .mov (T 74)⟩,
 ⟨(some 76), (some (75, false)), .load false 1 (T 10)⟩,
 ⟨(some 77), (some (75, false)), .mov (T 15)⟩,
 ⟨(some 78), (some (75, false)), .ibin .neq (T 76) (T 77)⟩,
 ⟨(some 79), none, .pick (T 75) (.const (.bool true)) (T 78)⟩])
 (.cond (T 79)
 (.seq (.region [⟨(some 6), none, .mov (.const (.int .i64 19))⟩])
 .ret)
 .skip)))
 (.seq (.region [⟨(some 6), none, .mov (.const (.int .i64 0))⟩])
 .ret))))))))))
theorem f30 : fnC Try.prog 30 = some (c30, 80, [(.tmp 6)]) := by kernel_rfl

end Go.Proofs.Ytehelanfgepcmaa
namespace Go.Proofs.Ytehelanfgepcmaa
open Dak

/-- dactyllaw11.given -/
def c31 : CCode :=
 (.seq (.region [⟨(some 1), none, .box 36 (T 0)⟩,
 ⟨(some 2), none, .alloc 30 (.agg [(.val (.slice none 0 0)), (.val (.slice none 0 0))])⟩])
 (.seq (.region [⟨(some 3), none, .fieldAddr 0 (T 1)⟩,
 ⟨(some 4), none, .load false 1 (T 3)⟩,
 ⟨(some 5), none, .fieldAddr 1 (T 1)⟩,
 ⟨(some 6), none, .load false 1 (T 5)⟩,
 ⟨(some 7), none, .build [(.val (.slice none 0 0)), (.val (.slice none 0 0))] [(0, (1, (T 4))), (1, (1, (T 6)))]⟩,
 ⟨none, none, .store 2 (T 2) (T 7)⟩])
 .ret))
theorem f31 : fnC Try.prog 31 = some (c31, 8, [(.cell 2 true 2)]) := by kernel_rfl

/-- dactylref11.Check -/
def c32 : CCode :=
 (.seq (.region [⟨(some 5), none, .box 36 (T 2)⟩,
 ⟨(some 6), none, .mov (.const (.int .i64 0))⟩])
 (.seq (.seq (.region [⟨(some 9), none, .mov (T 0)⟩,
 ⟨(some 10), none, .mov (T 1)⟩,
 ⟨(some 11), none, .call (.func 42) [(T 9), (T 10)]⟩,
 ⟨(some 12), none, .lnot (T 11)⟩])
 (.cond (T 12)
 (.seq (.region [⟨(some 6), none, .mov (.const (.int .i64 1))⟩])
 .ret)
 .skip))
 (.seq (.region [⟨(some 13), none, .mov (T 0)⟩,
 ⟨(some 14), none, .mov (T 1)⟩,
 ⟨(some 15), none, .call (.func 43) [(T 13), (T 14)]⟩,
 ⟨(some 7), none, .mov (T 15)⟩])
 (.seq (.region [⟨(some 8), none, .mov (.const (.int .i64 0))⟩])
 (.seq (.seq (.region [⟨(some 16), none, .mov (T 0)⟩,
 ⟨(some 17), none, .len (T 16)⟩,
 ⟨(some 18), none, .ibin .gtr (T 17) (.const (.int .i64 0))⟩])
 (.cond (T 18)
 (.region [⟨(some 19), none, .mov (T 7)⟩,
 ⟨(some 20), none, .idxS 1 (T 19) (.const (.int .i64 0))⟩,
 ⟨(some 21), none, .load false 1 (T 20)⟩,
 ⟨(some 22), none, .idxS 1 (T 21) (.const (.int .i64 0))⟩,
 ⟨(some 23), none, .load false 1 (T 22)⟩,
 ⟨(some 8), none, .mov (T 23)⟩])
 .skip))
 (.seq (.seq (.region [⟨(some 24), none, .fieldAddr 1 (T 5)⟩,
 ⟨(some 25), none, .load false 1 (T 24)⟩,
 ⟨(some 26), none, .mov (T 7)⟩,
 ⟨(some 27), none, .call (.func 17) [(T 25), (T 26)]⟩,
 ⟨(some 28), none, .lnot (T 27)⟩,
 ⟨(some 29), none, .mov (T 28)⟩,
 ⟨(some 30), (some (29, false)), .mov (T 8)⟩,
 ⟨(some 31), (some (29, false)), .ibin .lss (T 30) (.const (.int .i64 0))⟩,
 ⟨(some 32), none, .pick (T 29) (.const (.bool true)) (T 31)⟩,
 ⟨(some 33), none, .mov (T 32)⟩,
 ⟨(some 34), (some (33, false)), .mov (T 0)⟩,
 ⟨(some 35), (some (33, false)), .mov (T 1)⟩,
 ⟨(some 36), (some (33, false)), .fieldAddr 0 (T 5)⟩,
 ⟨(some 37), (some (33, false)), .load false 1 (T 36)⟩,
 ⟨(some 38), (some (33, false)), .call (.func 36) [(T 34), (T 35), (T 37)]⟩,
 ⟨(some 39), (some (33, false)), .mov (T 8)⟩,
 ⟨(some 40), (some (33, false)), .ibin .neq (T 38) (T 39)⟩,
 ⟨(some 41), none, .pick (T 33) (.const (.bool true)) (T 40)⟩])
 (.cond (T 41)
 (.seq (.region [⟨(some 6), none, .mov (.const (.int .i64 19))⟩])
 .ret)
 .skip))
 (.seq (.region [⟨(some 6), none, .mov (.const (.int .i64 0))⟩])
 .ret)))))))
theorem f32 : fnC Try.prog 32 = some (c32, 42, [(.tmp 6)]) := by kernel_rfl

/-- dactylref01.At -/
def c34 : CCode :=
 (.seq (.region [⟨(some 6), none, .mov (.const (.int .i64 0))⟩])
 (.seq (.seq (.region [⟨(some 7), none, .mov (T 1)⟩,
 ⟨(some 8), none, .ibin .lss (T 7) (.const (.int .i64 0))⟩,
 ⟨(some 9), none, .mov (T 8)⟩,
 ⟨(some 10), (some (9, false)), .mov (T 1)⟩,
 ⟨(some 11), (some (9, false)), .mov (T 0)⟩,
 ⟨(some 12), (some (9, false)), .len (T 11)⟩,
 ⟨(some 13), (some (9, false)), .ibin .geq (T 10) (T 12)⟩,
 ⟨(some 14), none, .pick (T 9) (.const (.bool true)) (T 13)⟩])
 (.cond (T 14)
 (.seq (.region [⟨(some 6), none, .mov (.const (.int .i64 0))⟩])
 .ret)
 .skip))
 (.seq (.region [⟨(some 15), none, .mov (T 0)⟩,
 ⟨(some 16), none, .mov (T 1)⟩,
 ⟨(some 17), none, .idxS 1 (T 15) (T 16)⟩,
 ⟨(some 18), none, .load false 1 (T 17)⟩,
 ⟨(some 19), none, .mov (T 2)⟩,
 ⟨(some 20), none, .call (.func 19) [(T 18), (T 19)]⟩,
 ⟨(some 6), none, .mov (T 20)⟩])
 .ret)))
theorem f34 : fnC Try.prog 34 = some (c34, 21, [(.tmp 6)]) := by kernel_rfl

/-- dactylref11.Cost -/
def c36 : CCode :=
 (.seq (.region [⟨(some 6), none, .mov (.const (.int .i64 0))⟩])
 (.seq (.region [⟨(some 10), none, .build [(.val (.int .i64 0)), (.val (.int .i64 0))] []⟩,
 ⟨(some 7), none, .alloc 64 (.agg [(.val (.int .i64 0)), (.val (.int .i64 0))])⟩,
 ⟨none, none, .store 2 (T 7) (T 10)⟩])
 (.seq (.region [⟨(some 8), none, .mov (.const (.int .i64 0))⟩])
 (.seq (.seq (.region [⟨(some 9), none, .mov (.const (.int .i64 0))⟩])
 (.block 0 (.loop
 (.seq (.seq (.region [⟨(some 11), none, .mov (T 9)⟩,
 ⟨(some 12), none, .mov (T 2)⟩,
 ⟨(some 13), none, .len (T 12)⟩,
 ⟨(some 14), none, .ibin .lss (T 11) (T 13)⟩])
 (.cond (T 14)
 .skip
 (.exit 0)))
 (.seq (.block 1 (.seq (.seq (.drawn [⟨(some 17), none, .mov (T 0)⟩,
 ⟨(some 18), none, .mov (T 2)⟩,
 ⟨(some 19), none, .mov (T 9)⟩,
 ⟨(some 20), none, .idxS 2 (T 18) (T 19)⟩,
 ⟨(some 21), none, .load true 2 (T 20)⟩,
 ⟨(some 22), none, .call (.func 48) [(T 17), (T 21)]⟩,
 ⟨(some 23), none, .lnot (T 22)⟩,
 ⟨(some 24), none, .mov (T 23)⟩,
 ⟨(some 25), (some (24, false)), .load true 2 (T 7)⟩,
 ⟨(some 26), (some (24, false)), .mov (T 2)⟩,
 ⟨(some 27), (some (24, false)), .mov (T 9)⟩,
 ⟨(some 28), (some (24, false)), .idxS 2 (T 26) (T 27)⟩,
 ⟨(some 29), (some (24, false)), .load true 2 (T 28)⟩,
 ⟨(some 30), (some (24, false)), .call (.func 49) [(T 25), (T 29)]⟩,
 ⟨(some 31), (some (24, false)), .lnot (T 30)⟩,
 ⟨(some 32), none, .pick (T 24) (.const (.bool true)) (T 31)⟩,
 ⟨(some 33), none, .mov (T 32)⟩,
 ⟨(some 34), (some (33, false)), .mov (T 0)⟩,
 ⟨(some 35), (some (33, false)), .load true 2 (T 7)⟩,
 ⟨(some 36), (some (33, false)), .mov (T 2)⟩,
 ⟨(some 37), (some (33, false)), .mov (T 9)⟩,
 ⟨(some 38), (some (33, false)), .idxS 2 (T 36) (T 37)⟩,
 ⟨(some 39), (some (33, false)), .load true 2 (T 38)⟩,
 ⟨(some 40), (some (33, false)), .call (.func 35) [(T 34), (T 35), (T 39)]⟩,
 ⟨(some 41), (some (33, false)), .mov (T 1)⟩,
 ⟨(some 42), (some (33, false)), .ibin .gtr (T 40) (T 41)⟩,
 ⟨(some 43), none, .pick (T 33) (.const (.bool true)) (T 42)⟩] [])
 (.cond (T 43)
 (.seq (.region [⟨(some 6), none, .mov (.const (.int .i64 (-1)))⟩])
 .ret)
 .skip))
 (.seq (.drawn [⟨(some 44), none, .mov (T 8)⟩,
 ⟨(some 45), none, .mov (T 0)⟩,
 ⟨(some 46), none, .mov (T 1)⟩,
 ⟨(some 47), none, .load true 2 (T 7)⟩,
 ⟨(some 48), none, .mov (T 2)⟩,
 ⟨(some 49), none, .mov (T 9)⟩,
 ⟨(some 50), none, .idxS 2 (T 48) (T 49)⟩,
 ⟨(some 51), none, .load true 2 (T 50)⟩] [(⟨(some 52), none, .call (.func 50) [(T 45), (T 46), (T 47), (T 51)]⟩, [⟨(some 44), none, .mov (T 8)⟩]), (⟨(some 53), none, .ibin .add (T 44) (T 52)⟩, []), (⟨(some 8), none, .mov (T 53)⟩, [])])
 (.region [⟨(some 54), none, .mov (T 2)⟩,
 ⟨(some 55), none, .mov (T 9)⟩,
 ⟨(some 56), none, .idxS 2 (T 54) (T 55)⟩,
 ⟨(some 57), none, .load true 2 (T 56)⟩,
 ⟨none, none, .store 2 (T 7) (T 57)⟩]))))
 (.region [⟨(some 15), none, .mov (T 9)⟩,
 ⟨(some 16), none, .ibin .add (T 15) (.const (.int .i64 1))⟩,
 ⟨(some 9), none, .mov (T 16)⟩]))))))
 (.seq (.seq (.region [⟨(some 58), none, .load true 2 (T 7)⟩,
 ⟨(some 59), none, .mov (T 0)⟩,
 ⟨(some 60), none, .len (T 59)⟩,
 ⟨(some 61), none, .build [(.val (.int .i64 0)), (.val (.int .i64 0))] [(0, (1, (T 60))), (1, (1, (.const (.int .i64 0))))]⟩,
 ⟨(some 62), none, .aeq true 2 (T 58) (T 61)⟩])
 (.cond (T 62)
 (.seq (.region [⟨(some 6), none, .mov (.const (.int .i64 (-1)))⟩])
 .ret)
 .skip))
 (.seq (.region [⟨(some 63), none, .mov (T 8)⟩,
 ⟨(some 6), none, .mov (T 63)⟩])
 .ret))))))
theorem f36 : fnC Try.prog 36 = some (c36, 64, [(.tmp 6)]) := by kernel_rfl

/-- breaks.lines -/
def c40 : CCode :=
 (.seq (.region [⟨(some 3), none, .box 34 (T 0)⟩,
 ⟨(some 4), none, .box 3 (T 1)⟩,
 ⟨(some 5), none, .box 64 (T 2)⟩,
 ⟨(some 6), none, .mov (.const .nilFunc)⟩])
 (.seq (.region [⟨(some 7), none, .mkfunc (.func 54) [(T 5), (T 3), (T 4)]⟩,
 ⟨(some 6), none, .mov (T 7)⟩])
 .ret))
theorem f40 : fnC Try.prog 40 = some (c40, 8, [(.tmp 6)]) := by kernel_rfl

/-- breaks.price -/
def c41 : CCode :=
 (.seq (.region [⟨(some 4), none, .mov (.const (.int .i64 0))⟩])
 (.seq (.seq (.region [⟨(some 5), none, .mov (T 0)⟩])
 (.cond (T 5)
 (.seq (.region [⟨(some 4), none, .mov (.const (.int .i64 4294967296))⟩])
 .ret)
 .skip))
 (.seq (.region [⟨(some 6), none, .mov (T 1)⟩,
 ⟨(some 7), none, .mov (T 1)⟩,
 ⟨(some 8), none, .ibin .mul (T 6) (T 7)⟩,
 ⟨(some 9), none, .ibin .add (.const (.int .i64 4294967296)) (T 8)⟩,
 ⟨(some 4), none, .mov (T 9)⟩])
 .ret)))
theorem f41 : fnC Try.prog 41 = some (c41, 10, [(.tmp 4)]) := by kernel_rfl

/-- slices.EqualFunc[[][]int,[][]int,[]int,[]int] -/
def c46 : CCode :=
 (.seq (.region [⟨(some 6), none, .mov (.const (.bool false))⟩])
 (.seq (.seq (.region [⟨(some 10), none, .mov (T 0)⟩,
 ⟨(some 11), none, .len (T 10)⟩,
 ⟨(some 12), none, .mov (T 1)⟩,
 ⟨(some 13), none, .len (T 12)⟩,
 ⟨(some 14), none, .ibin .neq (T 11) (T 13)⟩])
 (.cond (T 14)
 (.seq (.region [⟨(some 6), none, .mov (.const (.bool false))⟩])
 .ret)
 .skip))
 (.seq (.seq (.region [⟨(some 15), none, .mov (T 0)⟩,
 ⟨(some 16), none, .len (T 15)⟩,
 ⟨(some 17), none, .mov (.const (.int .i64 0))⟩])
 (.block 0 (.loop
 (.seq (.region [⟨(some 18), none, .ibin .lss (T 17) (T 16)⟩])
 (.seq (.cond (T 18)
 .skip
 (.exit 0))
 (.seq (.block 1 (.seq (.region [⟨(some 19), none, .mov (T 17)⟩,
 ⟨(some 20), none, .idxS 1 (T 15) (T 17)⟩,
 ⟨(some 21), none, .load false 1 (T 20)⟩,
 ⟨(some 7), none, .mov (T 19)⟩,
 ⟨(some 8), none, .mov (T 21)⟩])
 (.seq (.region [⟨(some 22), none, .mov (T 1)⟩,
 ⟨(some 23), none, .mov (T 7)⟩,
 ⟨(some 24), none, .idxS 1 (T 22) (T 23)⟩,
 ⟨(some 25), none, .load false 1 (T 24)⟩,
 ⟨(some 9), none, .mov (T 25)⟩])
 (.seq (.region [⟨(some 26), none, .mov (T 2)⟩,
 ⟨(some 27), none, .mov (T 8)⟩,
 ⟨(some 28), none, .mov (T 9)⟩,
 ⟨(some 29), none, .call (T 26) [(T 27), (T 28)]⟩,
 ⟨(some 30), none, .lnot (T 29)⟩])
 (.cond (T 30)
 (.seq (.region [⟨(some 6), none, .mov (.const (.bool false))⟩])
 .ret)
 .skip)))))
 (.region [⟨(some 31), none, .ibin .add (T 17) (.const (.int .i64 1))⟩,
 ⟨(some 17), none, .mov (T 31)⟩])))))))
 (.seq (.region [⟨(some 6), none, .mov (.const (.bool true))⟩])
 .ret))))
theorem f46 : fnC Try.prog 46 = some (c46, 32, [(.tmp 6)]) := by kernel_rfl

/-- slices.Equal[[]int,int] -/
def c47 : CCode :=
 (.seq (.region [⟨(some 4), none, .mov (.const (.bool false))⟩])
 (.seq (.seq (.region [⟨(some 6), none, .mov (T 0)⟩,
 ⟨(some 7), none, .len (T 6)⟩,
 ⟨(some 8), none, .mov (T 1)⟩,
 ⟨(some 9), none, .len (T 8)⟩,
 ⟨(some 10), none, .ibin .neq (T 7) (T 9)⟩])
 (.cond (T 10)
 (.seq (.region [⟨(some 4), none, .mov (.const (.bool false))⟩])
 .ret)
 .skip))
 (.seq (.seq (.region [⟨(some 11), none, .mov (T 0)⟩,
 ⟨(some 12), none, .len (T 11)⟩,
 ⟨(some 13), none, .mov (.const (.int .i64 0))⟩])
 (.block 0 (.loop
 (.seq (.region [⟨(some 14), none, .ibin .lss (T 13) (T 12)⟩])
 (.seq (.cond (T 14)
 .skip
 (.exit 0))
 (.seq (.block 1 (.seq (.region [⟨(some 15), none, .mov (T 13)⟩,
 ⟨(some 5), none, .mov (T 15)⟩])
 (.seq (.drawn [⟨(some 16), none, .mov (T 0)⟩,
 ⟨(some 17), none, .mov (T 5)⟩,
 ⟨(some 18), none, .idxS 1 (T 16) (T 17)⟩,
 ⟨(some 19), none, .load false 1 (T 18)⟩,
 ⟨(some 20), none, .mov (T 1)⟩,
 ⟨(some 21), none, .mov (T 5)⟩,
 ⟨(some 22), none, .idxS 1 (T 20) (T 21)⟩,
 ⟨(some 23), none, .load false 1 (T 22)⟩,
 ⟨(some 24), none, .ibin .neq (T 19) (T 23)⟩] [])
 (.cond (T 24)
 (.seq (.region [⟨(some 4), none, .mov (.const (.bool false))⟩])
 .ret)
 .skip))))
 (.region [⟨(some 25), none, .ibin .add (T 13) (.const (.int .i64 1))⟩,
 ⟨(some 13), none, .mov (T 25)⟩])))))))
 (.seq (.region [⟨(some 4), none, .mov (.const (.bool true))⟩])
 .ret))))
theorem f47 : fnC Try.prog 47 = some (c47, 26, [(.tmp 4)]) := by kernel_rfl

/-- dactylref11.Is -/
def c48 : CCode :=
 (.seq (.region [⟨(some 3), none, .box 64 (T 1)⟩,
 ⟨(some 4), none, .mov (.const (.bool false))⟩])
 (.seq (.drawn [⟨(some 5), none, .idxA 2 1 (T 3) (.const (.int .i64 0))⟩,
 ⟨(some 6), none, .load false 1 (T 5)⟩,
 ⟨(some 7), none, .ibin .geq (T 6) (.const (.int .i64 0))⟩,
 ⟨(some 8), none, .mov (T 7)⟩,
 ⟨(some 9), (some (8, true)), .idxA 2 1 (T 3) (.const (.int .i64 0))⟩,
 ⟨(some 10), (some (8, true)), .load false 1 (T 9)⟩,
 ⟨(some 11), (some (8, true)), .mov (T 0)⟩,
 ⟨(some 12), (some (8, true)), .len (T 11)⟩,
 ⟨(some 13), (some (8, true)), .ibin .lss (T 10) (T 12)⟩,
 ⟨(some 14), none, .pick (T 8) (T 13) (.const (.bool false))⟩,
 ⟨(some 15), none, .mov (T 14)⟩,
 ⟨(some 16), (some (15, true)), .idxA 2 1 (T 3) (.const (.int .i64 1))⟩,
 ⟨(some 17), (some (15, true)), .load false 1 (T 16)⟩,
 ⟨(some 18), (some (15, true)), .ibin .geq (T 17) (.const (.int .i64 0))⟩,
 ⟨(some 19), none, .pick (T 15) (T 18) (.const (.bool false))⟩,
 ⟨(some 20), none, .mov (T 19)⟩,
 ⟨(some 21), (some (20, true)), .idxA 2 1 (T 3) (.const (.int .i64 1))⟩,
 ⟨(some 22), (some (20, true)), .load false 1 (T 21)⟩,
 ⟨(some 23), (some (20, true)), .mov (T 0)⟩,
 ⟨(some 24), (some (20, true)), .idxA 2 1 (T 3) (.const (.int .i64 0))⟩,
 ⟨(some 25), (some (20, true)), .load false 1 (T 24)⟩,
 ⟨(some 26), (some (20, true)), .imax (T 25) (.const (.int .i64 0))⟩,
 ⟨(some 27), (some (20, true)), .mov (T 0)⟩,
 ⟨(some 28), (some (20, true)), .len (T 27)⟩,
 ⟨(some 29), (some (20, true)), .ibin .sub (T 28) (.const (.int .i64 1))⟩,
 ⟨(some 30), (some (20, true)), .imin (T 26) (T 29)⟩,
 ⟨(some 31), (some (20, true)), .idxS 1 (T 23) (T 30)⟩,
 ⟨(some 32), (some (20, true)), .fieldAddr 0 (T 31)⟩,
 ⟨(some 33), (some (20, true)), .load false 1 (T 32)⟩,
 ⟨(some 34), (some (20, true)), .len (T 33)⟩,
 ⟨(some 35), (some (20, true)), .ibin .lss (T 22) (T 34)⟩,
 ⟨(some 36), none, .pick (T 20) (T 35) (.const (.bool false))⟩,
 ⟨(some 37), none, .mov (T 36)⟩,
 ⟨(some 38), (some (37, false)), .load true 2 (T 3)⟩,
 ⟨(some 39), (some (37, false)), .mov (T 0)⟩,
 ⟨(some 40), (some (37, false)), .len (T 39)⟩,
 ⟨(some 41), (some (37, false)), .build [(.val (.int .i64 0)), (.val (.int .i64 0))] [(0, (1, (T 40))), (1, (1, (.const (.int .i64 0))))]⟩,
 ⟨(some 42), (some (37, false)), .aeq false 2 (T 38) (T 41)⟩,
 ⟨(some 43), none, .pick (T 37) (.const (.bool true)) (T 42)⟩,
 ⟨(some 4), none, .mov (T 43)⟩] [])
 .ret))
theorem f48 : fnC Try.prog 48 = some (c48, 44, [(.tmp 4)]) := by kernel_rfl

/-- dactylref11.Before -/
def c49 : CCode :=
 (.seq (.region [⟨(some 2), none, .box 64 (T 0)⟩,
 ⟨(some 3), none, .box 64 (T 1)⟩,
 ⟨(some 4), none, .mov (.const (.bool false))⟩])
 (.seq (.region [⟨(some 5), none, .idxA 2 1 (T 2) (.const (.int .i64 0))⟩,
 ⟨(some 6), none, .load false 1 (T 5)⟩,
 ⟨(some 7), none, .idxA 2 1 (T 3) (.const (.int .i64 0))⟩,
 ⟨(some 8), none, .load false 1 (T 7)⟩,
 ⟨(some 9), none, .ibin .lss (T 6) (T 8)⟩,
 ⟨(some 10), none, .mov (T 9)⟩,
 ⟨(some 11), (some (10, false)), .idxA 2 1 (T 2) (.const (.int .i64 0))⟩,
 ⟨(some 12), (some (10, false)), .load false 1 (T 11)⟩,
 ⟨(some 13), (some (10, false)), .idxA 2 1 (T 3) (.const (.int .i64 0))⟩,
 ⟨(some 14), (some (10, false)), .load false 1 (T 13)⟩,
 ⟨(some 15), (some (10, false)), .ibin .eql (T 12) (T 14)⟩,
 ⟨(some 16), (some (10, false)), .mov (T 15)⟩,
 ⟨(some 17), (some (16, true)), .idxA 2 1 (T 2) (.const (.int .i64 1))⟩,
 ⟨(some 18), (some (16, true)), .load false 1 (T 17)⟩,
 ⟨(some 19), (some (16, true)), .idxA 2 1 (T 3) (.const (.int .i64 1))⟩,
 ⟨(some 20), (some (16, true)), .load false 1 (T 19)⟩,
 ⟨(some 21), (some (16, true)), .ibin .lss (T 18) (T 20)⟩,
 ⟨(some 22), (some (10, false)), .pick (T 16) (T 21) (.const (.bool false))⟩,
 ⟨(some 23), none, .pick (T 10) (.const (.bool true)) (T 22)⟩,
 ⟨(some 4), none, .mov (T 23)⟩])
 .ret))
theorem f49 : fnC Try.prog 49 = some (c49, 24, [(.tmp 4)]) := by kernel_rfl

end Go.Proofs.Ytehelanfgepcmaa
