/- The codes of the functions, with what the program's tables say of their types. -/
import Derived.Test.YtehelanfgepcmaaProg
import Derived.Test.YtehelanfgepcmaaDr
namespace Go.Proofs.Ytehelanfgepcmaa
open Dak

/-- dactyllaw11.BreaksFills -/
def c3 : CCode :=
  (.seq (.region [⟨(some 10), none, .mov (.const (.bool false))⟩])
  (.seq (.region [⟨(some 27), none, .mov (T 0)⟩,
    ⟨(some 28), none, .call (.func 10) [(T 27), (.const (.int .i64 12))]⟩,
    ⟨(some 11), none, .mov (T 28)⟩])
  (.seq (.region [⟨(some 29), none, .mov (T 11)⟩,
    ⟨(some 30), none, .mov (T 2)⟩,
    ⟨(some 31), none, .mov (T 3)⟩,
    ⟨(some 32), none, .mov (T 4)⟩,
    ⟨(some 33), none, .call (.func 11) [(T 29), (T 30), (T 31), (T 32)]⟩,
    ⟨(some 12), none, .mov (T 33)⟩])
  (.seq (.region [⟨(some 34), none, .mov (T 1)⟩,
    ⟨(some 35), none, .call (.func 12) [(T 34)]⟩,
    ⟨(some 13), none, .mov (T 35)⟩])
  (.seq (.seq (.region [⟨(some 14), none, .mov (.const (.int .i64 0))⟩])
  (.block 0 (.loop
    (.seq (.seq (.region [⟨(some 36), none, .mov (T 14)⟩,
      ⟨(some 37), none, .ibin .lss (T 36) (.const (.int .i64 2))⟩])
    (.cond (T 37)
      .skip
      (.exit 0)))
    (.seq (.block 1 (.seq (.drawn [⟨(some 41), none, .mov (T 11)⟩,
      ⟨(some 42), none, .call (.func 14) [(T 41)]⟩,
      ⟨(some 43), none, .mov (T 13)⟩,
      ⟨(some 44), none, .mov (T 14)⟩,
      ⟨(some 45), none, .idxS 1 (T 43) (T 44)⟩,
      ⟨(some 46), none, .load false 1 (T 45)⟩,
      ⟨(some 47), none, .call (.func 13) [(T 42), (T 46)]⟩,
      ⟨(some 40), none, .mov (T 47)⟩,
      ⟨(some 48), none, .extract (T 40) 0⟩,
      ⟨(some 49), none, .extract (T 40) 1⟩,
      ⟨(some 15), none, .alloc 30 (.agg [(.val (.slice none 0 0)), (.val (.slice none 0 0))])⟩] [(⟨none, none, .store 2 (T 15) (T 48)⟩, [⟨(some 49), none, .extract (T 40) 1⟩]), (⟨(some 16), none, .mov (T 49)⟩, [])])
    (.seq (.region [⟨(some 51), none, .mov (T 11)⟩,
      ⟨(some 52), none, .mov (T 13)⟩,
      ⟨(some 53), none, .mov (T 14)⟩,
      ⟨(some 54), none, .idxS 1 (T 52) (T 53)⟩,
      ⟨(some 55), none, .load false 1 (T 54)⟩,
      ⟨(some 56), none, .call (.func 15) [(T 51), (T 55)]⟩,
      ⟨(some 50), none, .mov (T 56)⟩,
      ⟨(some 57), none, .extract (T 50) 0⟩,
      ⟨(some 58), none, .extract (T 50) 1⟩,
      ⟨(some 17), none, .alloc 36 (.agg [(.val (.slice none 0 0)), (.val (.slice none 0 0))])⟩,
      ⟨none, none, .store 2 (T 17) (T 57)⟩,
      ⟨(some 18), none, .mov (T 58)⟩])
    (.seq (.drawn [⟨(some 60), none, .mov (T 12)⟩,
      ⟨(some 61), none, .call (.func 14) [(T 60)]⟩,
      ⟨(some 62), none, .mov (T 13)⟩,
      ⟨(some 63), none, .mov (T 14)⟩,
      ⟨(some 64), none, .idxS 1 (T 62) (T 63)⟩,
      ⟨(some 65), none, .load false 1 (T 64)⟩,
      ⟨(some 66), none, .call (.func 13) [(T 61), (T 65)]⟩,
      ⟨(some 59), none, .mov (T 66)⟩,
      ⟨(some 67), none, .extract (T 59) 0⟩,
      ⟨(some 68), none, .extract (T 59) 1⟩,
      ⟨(some 19), none, .alloc 30 (.agg [(.val (.slice none 0 0)), (.val (.slice none 0 0))])⟩] [(⟨none, none, .store 2 (T 19) (T 67)⟩, [⟨(some 68), none, .extract (T 59) 1⟩]), (⟨(some 20), none, .mov (T 68)⟩, [])])
    (.seq (.region [⟨(some 70), none, .mov (T 12)⟩,
      ⟨(some 71), none, .mov (T 13)⟩,
      ⟨(some 72), none, .mov (T 14)⟩,
      ⟨(some 73), none, .idxS 1 (T 71) (T 72)⟩,
      ⟨(some 74), none, .load false 1 (T 73)⟩,
      ⟨(some 75), none, .call (.func 15) [(T 70), (T 74)]⟩,
      ⟨(some 69), none, .mov (T 75)⟩,
      ⟨(some 76), none, .extract (T 69) 0⟩,
      ⟨(some 77), none, .extract (T 69) 1⟩,
      ⟨(some 21), none, .alloc 36 (.agg [(.val (.slice none 0 0)), (.val (.slice none 0 0))])⟩,
      ⟨none, none, .store 2 (T 21) (T 76)⟩,
      ⟨(some 22), none, .mov (T 77)⟩])
    (.seq (.region [⟨(some 78), none, .mov (T 16)⟩,
      ⟨(some 79), none, .mov (T 18)⟩,
      ⟨(some 80), none, .ibin .neq (T 78) (T 79)⟩,
      ⟨(some 81), none, .mov (T 80)⟩,
      ⟨(some 82), (some (81, false)), .mov (T 20)⟩,
      ⟨(some 83), (some (81, false)), .mov (T 22)⟩,
      ⟨(some 84), (some (81, false)), .ibin .neq (T 82) (T 83)⟩,
      ⟨(some 85), none, .pick (T 81) (.const (.bool true)) (T 84)⟩,
      ⟨(some 86), none, .mov (T 85)⟩,
      ⟨(some 87), (some (86, false)), .fieldAddr 0 (T 15)⟩,
      ⟨(some 88), (some (86, false)), .load false 1 (T 87)⟩,
      ⟨(some 89), (some (86, false)), .fieldAddr 0 (T 17)⟩,
      ⟨(some 90), (some (86, false)), .load false 1 (T 89)⟩,
      ⟨(some 91), (some (86, false)), .call (.func 16) [(T 88), (T 90)]⟩,
      ⟨(some 92), (some (86, false)), .lnot (T 91)⟩,
      ⟨(some 93), none, .pick (T 86) (.const (.bool true)) (T 92)⟩,
      ⟨(some 94), none, .mov (T 93)⟩,
      ⟨(some 95), (some (94, false)), .fieldAddr 0 (T 19)⟩,
      ⟨(some 96), (some (94, false)), .load false 1 (T 95)⟩,
      ⟨(some 97), (some (94, false)), .fieldAddr 0 (T 21)⟩,
      ⟨(some 98), (some (94, false)), .load false 1 (T 97)⟩,
      ⟨(some 99), (some (94, false)), .call (.func 16) [(T 96), (T 98)]⟩,
      ⟨(some 100), (some (94, false)), .lnot (T 99)⟩,
      ⟨(some 101), none, .pick (T 94) (.const (.bool true)) (T 100)⟩,
      ⟨(some 102), none, .mov (T 101)⟩,
      ⟨(some 103), (some (102, false)), .fieldAddr 1 (T 15)⟩,
      ⟨(some 104), (some (102, false)), .load false 1 (T 103)⟩,
      ⟨(some 105), (some (102, false)), .fieldAddr 1 (T 17)⟩,
      ⟨(some 106), (some (102, false)), .load false 1 (T 105)⟩,
      ⟨(some 107), (some (102, false)), .call (.func 17) [(T 104), (T 106)]⟩,
      ⟨(some 108), (some (102, false)), .lnot (T 107)⟩,
      ⟨(some 109), none, .pick (T 102) (.const (.bool true)) (T 108)⟩,
      ⟨(some 110), none, .mov (T 109)⟩,
      ⟨(some 111), (some (110, false)), .fieldAddr 1 (T 19)⟩,
      ⟨(some 112), (some (110, false)), .load false 1 (T 111)⟩,
      ⟨(some 113), (some (110, false)), .fieldAddr 1 (T 21)⟩,
      ⟨(some 114), (some (110, false)), .load false 1 (T 113)⟩,
      ⟨(some 115), (some (110, false)), .call (.func 17) [(T 112), (T 114)]⟩,
      ⟨(some 116), (some (110, false)), .lnot (T 115)⟩,
      ⟨(some 117), none, .pick (T 110) (.const (.bool true)) (T 116)⟩])
    (.cond (T 117)
      (.seq (.region [⟨(some 10), none, .mov (.const (.bool false))⟩])
      .ret)
      .skip)))))))
    (.region [⟨(some 38), none, .mov (T 14)⟩,
      ⟨(some 39), none, .ibin .add (T 38) (.const (.int .i64 1))⟩,
      ⟨(some 14), none, .mov (T 39)⟩]))))))
  (.seq (.region [⟨(some 118), none, .mkslice 42 1 24 (.agg [(.val (.slice none 0 0))]) (.const (.int .i64 513)) (.const (.int .i64 513))⟩,
    ⟨(some 23), none, .mov (T 118)⟩])
  (.seq (.seq (.region [⟨(some 24), none, .mov (.const (.int .i64 0))⟩])
  (.block 2 (.loop
    (.seq (.seq (.region [⟨(some 119), none, .mov (T 24)⟩,
      ⟨(some 120), none, .ibin .lss (T 119) (.const (.int .i64 513))⟩])
    (.cond (T 120)
      .skip
      (.exit 2)))
    (.seq (.block 3 (.region [⟨(some 123), none, .mov (T 23)⟩,
      ⟨(some 124), none, .mov (T 24)⟩,
      ⟨(some 125), none, .bslice 3 1 [(.const (.int .i64 1))]⟩,
      ⟨(some 126), none, .bslice 22 1 [(T 125)]⟩,
      ⟨(some 127), none, .build [(.val (.slice none 0 0))] [(0, (1, (T 126)))]⟩,
      ⟨(some 128), none, .idxS 1 (T 123) (T 124)⟩,
      ⟨none, none, .store 1 (T 128) (T 127)⟩]))
    (.region [⟨(some 121), none, .mov (T 24)⟩,
      ⟨(some 122), none, .ibin .add (T 121) (.const (.int .i64 1))⟩,
      ⟨(some 24), none, .mov (T 122)⟩]))))))
  (.seq (.region [⟨(some 130), none, .mov (T 23)⟩,
    ⟨(some 131), none, .call (.func 13) [(T 130), (.const (.int .i64 10))]⟩,
    ⟨(some 129), none, .mov (T 131)⟩,
    ⟨(some 132), none, .extract (T 129) 0⟩,
    ⟨(some 133), none, .extract (T 129) 1⟩,
    ⟨(some 25), none, .alloc 30 (.agg [(.val (.slice none 0 0)), (.val (.slice none 0 0))])⟩,
    ⟨none, none, .store 2 (T 25) (T 132)⟩,
    ⟨(some 26), none, .mov (T 133)⟩])
  (.seq (.region [⟨(some 134), none, .mov (T 26)⟩,
    ⟨(some 135), none, .ibin .eql (T 134) (.const (.int .i64 1))⟩,
    ⟨(some 136), none, .mov (T 135)⟩,
    ⟨(some 137), (some (136, true)), .call (.func 18) []⟩,
    ⟨(some 138), none, .pick (T 136) (T 137) (.const (.bool false))⟩,
    ⟨(some 10), none, .mov (T 138)⟩])
  .ret)))))))))
theorem f3 : fnC Try.prog 3 = some (c3, 139, [(.tmp 10)]) := by kernel_rfl

/-- dactyllaw11.BreaksWider -/
def c4 : CCode :=
  (.seq (.region [⟨(some 8), none, .mov (.const (.bool false))⟩])
  (.seq (.region [⟨(some 17), none, .mov (T 0)⟩,
    ⟨(some 18), none, .call (.func 10) [(T 17), (.const (.int .i64 12))]⟩,
    ⟨(some 19), none, .call (.func 14) [(T 18)]⟩,
    ⟨(some 9), none, .mov (T 19)⟩])
  (.seq (.region [⟨(some 20), none, .mov (T 1)⟩,
    ⟨(some 21), none, .call (.func 19) [(T 20), (.const (.int .i64 20))]⟩,
    ⟨(some 22), none, .ibin .add (.const (.int .i64 1)) (T 21)⟩,
    ⟨(some 10), none, .mov (T 22)⟩])
  (.seq (.region [⟨(some 24), none, .mov (T 9)⟩,
    ⟨(some 25), none, .mov (T 10)⟩,
    ⟨(some 26), none, .call (.func 13) [(T 24), (T 25)]⟩,
    ⟨(some 23), none, .mov (T 26)⟩,
    ⟨(some 27), none, .extract (T 23) 0⟩,
    ⟨(some 28), none, .extract (T 23) 1⟩,
    ⟨(some 11), none, .alloc 30 (.agg [(.val (.slice none 0 0)), (.val (.slice none 0 0))])⟩,
    ⟨none, none, .store 2 (T 11) (T 27)⟩,
    ⟨(some 12), none, .mov (T 28)⟩])
  (.seq (.seq (.region [⟨(some 29), none, .mov (T 12)⟩,
    ⟨(some 30), none, .ibin .neq (T 29) (.const (.int .i64 0))⟩])
  (.cond (T 30)
    (.seq (.region [⟨(some 31), none, .mov (T 12)⟩,
      ⟨(some 32), none, .ibin .eql (T 31) (.const (.int .i64 14))⟩,
      ⟨(some 33), none, .mov (T 32)⟩,
      ⟨(some 34), (some (33, true)), .call (.func 18) []⟩,
      ⟨(some 35), none, .pick (T 33) (T 34) (.const (.bool false))⟩,
      ⟨(some 8), none, .mov (T 35)⟩])
    .ret)
    .skip))
  (.seq (.region [⟨(some 37), none, .mov (T 9)⟩,
    ⟨(some 38), none, .mov (T 10)⟩,
    ⟨(some 39), none, .mov (T 2)⟩,
    ⟨(some 40), none, .call (.func 19) [(T 39), (.const (.int .i64 20))]⟩,
    ⟨(some 41), none, .ibin .add (T 38) (T 40)⟩,
    ⟨(some 42), none, .call (.func 13) [(T 37), (T 41)]⟩,
    ⟨(some 36), none, .mov (T 42)⟩,
    ⟨(some 43), none, .extract (T 36) 0⟩,
    ⟨(some 44), none, .extract (T 36) 1⟩,
    ⟨(some 13), none, .alloc 30 (.agg [(.val (.slice none 0 0)), (.val (.slice none 0 0))])⟩,
    ⟨none, none, .store 2 (T 13) (T 43)⟩,
    ⟨(some 14), none, .mov (T 44)⟩])
  (.seq (.region [⟨(some 46), none, .mov (T 9)⟩,
    ⟨(some 47), none, .mov (T 3)⟩,
    ⟨(some 48), none, .mov (T 9)⟩,
    ⟨(some 49), none, .len (T 48)⟩,
    ⟨(some 50), none, .ibin .add (T 49) (.const (.int .i64 1))⟩,
    ⟨(some 51), none, .call (.func 19) [(T 47), (T 50)]⟩,
    ⟨(some 52), none, .slice 1 (T 46) none (some (T 51))⟩,
    ⟨(some 53), none, .mov (T 10)⟩,
    ⟨(some 54), none, .call (.func 13) [(T 52), (T 53)]⟩,
    ⟨(some 45), none, .mov (T 54)⟩,
    ⟨(some 55), none, .extract (T 45) 0⟩,
    ⟨(some 56), none, .extract (T 45) 1⟩,
    ⟨(some 15), none, .alloc 30 (.agg [(.val (.slice none 0 0)), (.val (.slice none 0 0))])⟩,
    ⟨none, none, .store 2 (T 15) (T 55)⟩,
    ⟨(some 16), none, .mov (T 56)⟩])
  (.seq (.region [⟨(some 57), none, .mov (T 14)⟩,
    ⟨(some 58), none, .ibin .eql (T 57) (.const (.int .i64 0))⟩,
    ⟨(some 59), none, .mov (T 58)⟩,
    ⟨(some 60), (some (59, true)), .mov (T 16)⟩,
    ⟨(some 61), (some (59, true)), .ibin .eql (T 60) (.const (.int .i64 0))⟩,
    ⟨(some 62), none, .pick (T 59) (T 61) (.const (.bool false))⟩,
    ⟨(some 63), none, .mov (T 62)⟩,
    ⟨(some 64), (some (63, true)), .fieldAddr 0 (T 13)⟩,
    ⟨(some 65), (some (63, true)), .load false 1 (T 64)⟩,
    ⟨(some 66), (some (63, true)), .len (T 65)⟩,
    ⟨(some 67), (some (63, true)), .fieldAddr 0 (T 11)⟩,
    ⟨(some 68), (some (63, true)), .load false 1 (T 67)⟩,
    ⟨(some 69), (some (63, true)), .len (T 68)⟩,
    ⟨(some 70), (some (63, true)), .ibin .leq (T 66) (T 69)⟩,
    ⟨(some 71), none, .pick (T 63) (T 70) (.const (.bool false))⟩,
    ⟨(some 72), none, .mov (T 71)⟩,
    ⟨(some 73), (some (72, true)), .fieldAddr 0 (T 15)⟩,
    ⟨(some 74), (some (72, true)), .load false 1 (T 73)⟩,
    ⟨(some 75), (some (72, true)), .len (T 74)⟩,
    ⟨(some 76), (some (72, true)), .fieldAddr 0 (T 11)⟩,
    ⟨(some 77), (some (72, true)), .load false 1 (T 76)⟩,
    ⟨(some 78), (some (72, true)), .len (T 77)⟩,
    ⟨(some 79), (some (72, true)), .ibin .leq (T 75) (T 78)⟩,
    ⟨(some 80), none, .pick (T 72) (T 79) (.const (.bool false))⟩,
    ⟨(some 81), none, .mov (T 80)⟩,
    ⟨(some 82), (some (81, true)), .call (.func 18) []⟩,
    ⟨(some 83), none, .pick (T 81) (T 82) (.const (.bool false))⟩,
    ⟨(some 8), none, .mov (T 83)⟩])
  .ret))))))))
theorem f4 : fnC Try.prog 4 = some (c4, 84, [(.tmp 8)]) := by kernel_rfl

/-- dactyllaw11.BreaksPoints -/
def c5 : CCode :=
  (.seq (.region [⟨(some 10), none, .mov (.const (.bool false))⟩])
  (.seq (.region [⟨(some 26), none, .mov (T 0)⟩,
    ⟨(some 27), none, .call (.func 10) [(T 26), (.const (.int .i64 10))]⟩,
    ⟨(some 11), none, .mov (T 27)⟩])
  (.seq (.region [⟨(some 28), none, .mov (T 1)⟩,
    ⟨(some 29), none, .call (.func 19) [(T 28), (.const (.int .i64 20))]⟩,
    ⟨(some 30), none, .ibin .add (.const (.int .i64 1)) (T 29)⟩,
    ⟨(some 12), none, .mov (T 30)⟩])
  (.seq (.region [⟨(some 32), none, .mov (T 11)⟩,
    ⟨(some 33), none, .call (.func 14) [(T 32)]⟩,
    ⟨(some 34), none, .mov (T 12)⟩,
    ⟨(some 35), none, .call (.func 13) [(T 33), (T 34)]⟩,
    ⟨(some 31), none, .mov (T 35)⟩,
    ⟨(some 36), none, .extract (T 31) 0⟩,
    ⟨(some 37), none, .extract (T 31) 1⟩,
    ⟨(some 13), none, .alloc 30 (.agg [(.val (.slice none 0 0)), (.val (.slice none 0 0))])⟩,
    ⟨none, none, .store 2 (T 13) (T 36)⟩,
    ⟨(some 14), none, .mov (T 37)⟩])
  (.seq (.seq (.region [⟨(some 38), none, .mov (T 11)⟩,
    ⟨(some 39), none, .len (T 38)⟩,
    ⟨(some 40), none, .ibin .gtr (T 39) (.const (.int .i64 0))⟩])
  (.cond (T 40)
    (.seq (.region [⟨(some 41), none, .bslice 47 1 []⟩,
      ⟨(some 42), none, .mov (T 11)⟩,
      ⟨(some 43), none, .append 47 1 24 (T 41) (T 42)⟩,
      ⟨(some 15), none, .mov (T 43)⟩])
    (.seq (.region [⟨(some 44), none, .mov (T 2)⟩,
      ⟨(some 45), none, .mov (T 15)⟩,
      ⟨(some 46), none, .len (T 45)⟩,
      ⟨(some 47), none, .call (.func 19) [(T 44), (T 46)]⟩,
      ⟨(some 16), none, .mov (T 47)⟩])
    (.seq (.region [⟨(some 48), none, .mov (T 15)⟩,
      ⟨(some 49), none, .mov (T 16)⟩,
      ⟨(some 50), none, .mov (T 15)⟩,
      ⟨(some 51), none, .mov (T 16)⟩,
      ⟨(some 52), none, .idxS 1 (T 50) (T 51)⟩,
      ⟨(some 53), none, .load true 1 (T 52)⟩,
      ⟨(some 54), none, .mov (T 3)⟩,
      ⟨(some 55), none, .call (.func 20) [(T 53), (T 54)]⟩,
      ⟨(some 56), none, .idxS 1 (T 48) (T 49)⟩,
      ⟨none, none, .store 1 (T 56) (T 55)⟩])
    (.seq (.region [⟨(some 58), none, .mov (T 15)⟩,
      ⟨(some 59), none, .call (.func 14) [(T 58)]⟩,
      ⟨(some 60), none, .mov (T 12)⟩,
      ⟨(some 61), none, .call (.func 13) [(T 59), (T 60)]⟩,
      ⟨(some 57), none, .mov (T 61)⟩,
      ⟨(some 62), none, .extract (T 57) 0⟩,
      ⟨(some 63), none, .extract (T 57) 1⟩,
      ⟨(some 17), none, .alloc 30 (.agg [(.val (.slice none 0 0)), (.val (.slice none 0 0))])⟩,
      ⟨none, none, .store 2 (T 17) (T 62)⟩,
      ⟨(some 18), none, .mov (T 63)⟩])
    (.seq (.drawn [⟨(some 64), none, .mov (T 18)⟩,
      ⟨(some 65), none, .ibin .eql (T 64) (.const (.int .i64 0))⟩,
      ⟨(some 66), none, .mov (T 65)⟩,
      ⟨(some 67), (some (66, true)), .mov (T 14)⟩,
      ⟨(some 68), (some (66, true)), .ibin .neq (T 67) (.const (.int .i64 0))⟩,
      ⟨(some 69), (some (66, true)), .mov (T 68)⟩,
      ⟨(some 70), (some (69, false)), .fieldAddr 1 (T 13)⟩,
      ⟨(some 71), (some (69, false)), .load false 1 (T 70)⟩,
      ⟨(some 72), (some (69, false)), .len (T 71)⟩,
      ⟨(some 73), (some (69, false)), .mov (T 11)⟩,
      ⟨(some 74), (some (69, false)), .len (T 73)⟩,
      ⟨(some 75), (some (69, false)), .ibin .neq (T 72) (T 74)⟩,
      ⟨(some 76), (some (66, true)), .pick (T 69) (.const (.bool true)) (T 75)⟩,
      ⟨(some 77), (some (66, true)), .mov (T 76)⟩,
      ⟨(some 78), (some (77, false)), .fieldAddr 1 (T 13)⟩,
      ⟨(some 79), (some (77, false)), .load false 1 (T 78)⟩,
      ⟨(some 80), (some (77, false)), .idxS 1 (T 79) (.const (.int .i64 0))⟩,
      ⟨(some 81), (some (77, false)), .load false 1 (T 80)⟩,
      ⟨(some 82), (some (77, false)), .len (T 81)⟩,
      ⟨(some 83), (some (77, false)), .ibin .lss (T 82) (.const (.int .i64 1))⟩,
      ⟨(some 84), (some (66, true)), .pick (T 77) (.const (.bool true)) (T 83)⟩,
      ⟨(some 85), (some (66, true)), .mov (T 84)⟩,
      ⟨(some 86), (some (85, false)), .fieldAddr 1 (T 17)⟩,
      ⟨(some 87), (some (85, false)), .load false 1 (T 86)⟩,
      ⟨(some 88), (some (85, false)), .len (T 87)⟩,
      ⟨(some 89), (some (85, false)), .mov (T 11)⟩,
      ⟨(some 90), (some (85, false)), .len (T 89)⟩,
      ⟨(some 91), (some (85, false)), .ibin .neq (T 88) (T 90)⟩,
      ⟨(some 92), (some (66, true)), .pick (T 85) (.const (.bool true)) (T 91)⟩,
      ⟨(some 93), (some (66, true)), .mov (T 92)⟩,
      ⟨(some 94), (some (93, false)), .fieldAddr 1 (T 17)⟩,
      ⟨(some 95), (some (93, false)), .load false 1 (T 94)⟩,
      ⟨(some 96), (some (93, false)), .idxS 1 (T 95) (.const (.int .i64 0))⟩,
      ⟨(some 97), (some (93, false)), .load false 1 (T 96)⟩,
      ⟨(some 98), (some (93, false)), .len (T 97)⟩,
      ⟨(some 99), (some (93, false)), .ibin .lss (T 98) (.const (.int .i64 1))⟩,
      ⟨(some 100), (some (66, true)), .pick (T 93) (.const (.bool true)) (T 99)⟩,
      ⟨(some 101), (some (66, true)), .mov (T 100)⟩,
      ⟨(some 102), (some (101, false)), .fieldAddr 1 (T 17)⟩,
      ⟨(some 103), (some (101, false)), .load false 1 (T 102)⟩,
      ⟨(some 104), (some (101, false)), .idxS 1 (T 103) (.const (.int .i64 0))⟩,
      ⟨(some 105), (some (101, false)), .load false 1 (T 104)⟩,
      ⟨(some 106), (some (101, false)), .idxS 1 (T 105) (.const (.int .i64 0))⟩,
      ⟨(some 107), (some (101, false)), .load false 1 (T 106)⟩,
      ⟨(some 108), (some (101, false)), .fieldAddr 1 (T 13)⟩,
      ⟨(some 109), (some (101, false)), .load false 1 (T 108)⟩,
      ⟨(some 110), (some (101, false)), .idxS 1 (T 109) (.const (.int .i64 0))⟩,
      ⟨(some 111), (some (101, false)), .load false 1 (T 110)⟩,
      ⟨(some 112), (some (101, false)), .idxS 1 (T 111) (.const (.int .i64 0))⟩,
      ⟨(some 113), (some (101, false)), .load false 1 (T 112)⟩,
      ⟨(some 114), (some (101, false)), .ibin .lss (T 107) (T 113)⟩,
      ⟨(some 115), (some (66, true)), .pick (T 101) (.const (.bool true)) (T 114)⟩,
      ⟨(some 116), none, .pick (T 66) (T 115) (.const (.bool false))⟩] [])
    (.cond (T 116)
      (.seq (.region [⟨(some 10), none, .mov (.const (.bool false))⟩])
      .ret)
      .skip))))))
    .skip))
  (.seq (.region [⟨(some 19), none, .mov (.const (.slice none 0 0))⟩])
  (.seq (.region [⟨(some 20), none, .mov (.const (.int .i64 0))⟩])
  (.seq (.region [⟨(some 21), none, .mov (.const (.int .i64 (-1)))⟩])
  (.seq (.seq (.region [⟨(some 22), none, .mov (.const (.int .i64 0))⟩])
  (.block 0 (.loop
    (.seq (.seq (.region [⟨(some 117), none, .mov (T 22)⟩,
      ⟨(some 118), none, .mov (T 4)⟩,
      ⟨(some 119), none, .len (T 118)⟩,
      ⟨(some 120), none, .ibin .lss (T 117) (T 119)⟩,
      ⟨(some 121), none, .mov (T 120)⟩,
      ⟨(some 122), (some (121, true)), .mov (T 22)⟩,
      ⟨(some 123), (some (121, true)), .ibin .lss (T 122) (.const (.int .i64 20))⟩,
      ⟨(some 124), none, .pick (T 121) (T 123) (.const (.bool false))⟩])
    (.cond (T 124)
      .skip
      (.exit 0)))
    (.seq (.block 1 (.seq (.region [⟨(some 127), none, .mov (T 4)⟩,
      ⟨(some 128), none, .mov (T 22)⟩,
      ⟨(some 129), none, .idxS 1 (T 127) (T 128)⟩,
      ⟨(some 130), none, .load false 1 (T 129)⟩,
      ⟨(some 131), none, .mov (T 12)⟩,
      ⟨(some 132), none, .ibin .add (T 131) (.const (.int .i64 1))⟩,
      ⟨(some 133), none, .call (.func 19) [(T 130), (T 132)]⟩,
      ⟨(some 23), none, .mov (T 133)⟩])
    (.seq (.region [⟨(some 134), none, .mov (T 19)⟩,
      ⟨(some 135), none, .mov (T 23)⟩,
      ⟨(some 136), none, .bslice 3 1 [(T 135)]⟩,
      ⟨(some 137), none, .append 3 1 8 (T 134) (T 136)⟩,
      ⟨(some 19), none, .mov (T 137)⟩])
    (.seq (.region [⟨(some 138), none, .mov (T 21)⟩,
      ⟨(some 139), none, .ibin .sub (T 138) (.const (.int .i64 1))⟩,
      ⟨(some 140), none, .mov (T 23)⟩,
      ⟨(some 141), none, .ibin .sub (T 139) (T 140)⟩,
      ⟨(some 142), none, .ibin .lss (T 141) (.const (.int .i64 0))⟩,
      ⟨(some 143), none, .mov (T 142)⟩,
      ⟨(some 144), (some (143, false)), .mov (T 20)⟩,
      ⟨(some 145), (some (143, false)), .ibin .eql (T 144) (.const (.int .i64 0))⟩,
      ⟨(some 146), none, .pick (T 143) (.const (.bool true)) (T 145)⟩])
    (.cond (T 146)
      (.seq (.region [⟨(some 147), none, .mov (T 20)⟩,
        ⟨(some 148), none, .ibin .add (T 147) (.const (.int .i64 1))⟩,
        ⟨(some 20), none, .mov (T 148)⟩])
      (.region [⟨(some 149), none, .mov (T 12)⟩,
        ⟨(some 150), none, .mov (T 23)⟩,
        ⟨(some 151), none, .ibin .sub (T 149) (T 150)⟩,
        ⟨(some 21), none, .mov (T 151)⟩]))
      (.region [⟨(some 152), none, .mov (T 21)⟩,
        ⟨(some 153), none, .ibin .sub (T 152) (.const (.int .i64 1))⟩,
        ⟨(some 154), none, .mov (T 23)⟩,
        ⟨(some 155), none, .ibin .sub (T 153) (T 154)⟩,
        ⟨(some 21), none, .mov (T 155)⟩]))))))
    (.region [⟨(some 125), none, .mov (T 22)⟩,
      ⟨(some 126), none, .ibin .add (T 125) (.const (.int .i64 1))⟩,
      ⟨(some 22), none, .mov (T 126)⟩]))))))
  (.seq (.region [⟨(some 157), none, .mov (T 19)⟩,
    ⟨(some 158), none, .call (.func 21) [(T 157)]⟩,
    ⟨(some 159), none, .mov (T 12)⟩,
    ⟨(some 160), none, .call (.func 13) [(T 158), (T 159)]⟩,
    ⟨(some 156), none, .mov (T 160)⟩,
    ⟨(some 161), none, .extract (T 156) 0⟩,
    ⟨(some 162), none, .extract (T 156) 1⟩,
    ⟨(some 24), none, .alloc 30 (.agg [(.val (.slice none 0 0)), (.val (.slice none 0 0))])⟩,
    ⟨none, none, .store 2 (T 24) (T 161)⟩,
    ⟨(some 25), none, .mov (T 162)⟩])
  (.seq (.region [⟨(some 163), none, .mov (T 25)⟩,
    ⟨(some 164), none, .ibin .eql (T 163) (.const (.int .i64 0))⟩,
    ⟨(some 165), none, .mov (T 164)⟩,
    ⟨(some 166), (some (165, true)), .fieldAddr 0 (T 24)⟩,
    ⟨(some 167), (some (165, true)), .load false 1 (T 166)⟩,
    ⟨(some 168), (some (165, true)), .len (T 167)⟩,
    ⟨(some 169), (some (165, true)), .mov (T 20)⟩,
    ⟨(some 170), (some (165, true)), .ibin .eql (T 168) (T 169)⟩,
    ⟨(some 171), none, .pick (T 165) (T 170) (.const (.bool false))⟩,
    ⟨(some 172), none, .mov (T 171)⟩,
    ⟨(some 173), (some (172, true)), .call (.func 18) []⟩,
    ⟨(some 174), none, .pick (T 172) (T 173) (.const (.bool false))⟩,
    ⟨(some 10), none, .mov (T 174)⟩])
  .ret)))))))))))
theorem f5 : fnC Try.prog 5 = some (c5, 175, [(.tmp 10)]) := by kernel_rfl

/-- dactyllaw11.BreaksPages -/
def c6 : CCode :=
  (.seq (.region [⟨(some 10), none, .mov (.const (.bool false))⟩])
  (.seq (.region [⟨(some 24), none, .mov (T 0)⟩,
    ⟨(some 25), none, .call (.func 22) [(T 24), (.const (.int .i64 30))]⟩,
    ⟨(some 11), none, .mov (T 25)⟩])
  (.seq (.region [⟨(some 26), none, .mov (T 1)⟩,
    ⟨(some 27), none, .call (.func 19) [(T 26), (.const (.int .i64 9))]⟩,
    ⟨(some 28), none, .ibin .add (.const (.int .i64 1)) (T 27)⟩,
    ⟨(some 29), none, .bslice 3 1 [(.const (.int .i64 0)), (.const (.int .i64 1001)), (.const (.int .i64 1000)), (.const (.int .i64 (-1)))]⟩,
    ⟨(some 30), none, .mov (T 1)⟩,
    ⟨(some 31), none, .call (.func 19) [(T 30), (.const (.int .i64 4))]⟩,
    ⟨(some 32), none, .idxS 1 (T 29) (T 31)⟩,
    ⟨(some 33), none, .load false 1 (T 32)⟩,
    ⟨(some 34), none, .bslice 3 1 [(T 28), (T 33)]⟩,
    ⟨(some 12), none, .mov (T 34)⟩])
  (.seq (.seq (.region [⟨(some 13), none, .mov (.const (.int .i64 0))⟩])
  (.block 0 (.loop
    (.seq (.seq (.region [⟨(some 35), none, .mov (T 13)⟩,
      ⟨(some 36), none, .ibin .lss (T 35) (.const (.int .i64 2))⟩])
    (.cond (T 36)
      .skip
      (.exit 0)))
    (.seq (.block 1 (.seq (.region [⟨(some 40), none, .mov (T 11)⟩,
      ⟨(some 41), none, .mov (T 12)⟩,
      ⟨(some 42), none, .mov (T 13)⟩,
      ⟨(some 43), none, .idxS 1 (T 41) (T 42)⟩,
      ⟨(some 44), none, .load false 1 (T 43)⟩,
      ⟨(some 45), none, .call (.func 23) [(T 40), (T 44)]⟩,
      ⟨(some 39), none, .mov (T 45)⟩,
      ⟨(some 46), none, .extract (T 39) 0⟩,
      ⟨(some 47), none, .extract (T 39) 1⟩,
      ⟨(some 14), none, .mov (T 46)⟩,
      ⟨(some 15), none, .mov (T 47)⟩])
    (.seq (.region [⟨(some 49), none, .mov (T 11)⟩,
      ⟨(some 50), none, .mov (T 12)⟩,
      ⟨(some 51), none, .mov (T 13)⟩,
      ⟨(some 52), none, .idxS 1 (T 50) (T 51)⟩,
      ⟨(some 53), none, .load false 1 (T 52)⟩,
      ⟨(some 54), none, .call (.func 24) [(T 49), (T 53)]⟩,
      ⟨(some 48), none, .mov (T 54)⟩,
      ⟨(some 55), none, .extract (T 48) 0⟩,
      ⟨(some 56), none, .extract (T 48) 1⟩,
      ⟨(some 16), none, .mov (T 55)⟩,
      ⟨(some 17), none, .mov (T 56)⟩])
    (.seq (.seq (.region [⟨(some 57), none, .mov (T 15)⟩,
      ⟨(some 58), none, .mov (T 17)⟩,
      ⟨(some 59), none, .ibin .neq (T 57) (T 58)⟩,
      ⟨(some 60), none, .mov (T 59)⟩,
      ⟨(some 61), (some (60, false)), .mov (T 14)⟩,
      ⟨(some 62), (some (60, false)), .mov (T 16)⟩,
      ⟨(some 63), (some (60, false)), .call (.func 25) [(T 61), (T 62)]⟩,
      ⟨(some 64), (some (60, false)), .lnot (T 63)⟩,
      ⟨(some 65), none, .pick (T 60) (.const (.bool true)) (T 64)⟩])
    (.cond (T 65)
      (.seq (.region [⟨(some 10), none, .mov (.const (.bool false))⟩])
      .ret)
      .skip))
    (.seq (.region [⟨(some 66), none, .bslice 3 1 []⟩,
      ⟨(some 67), none, .mov (T 16)⟩,
      ⟨(some 68), none, .append 3 1 8 (T 66) (T 67)⟩,
      ⟨(some 18), none, .mov (T 68)⟩])
    (.seq (.seq (.region [⟨(some 69), none, .mov (T 18)⟩,
      ⟨(some 70), none, .len (T 69)⟩,
      ⟨(some 71), none, .ibin .gtr (T 70) (.const (.int .i64 0))⟩])
    (.cond (T 71)
      (.seq (.region [⟨(some 72), none, .mov (T 2)⟩,
        ⟨(some 73), none, .mov (T 18)⟩,
        ⟨(some 74), none, .len (T 73)⟩,
        ⟨(some 75), none, .call (.func 19) [(T 72), (T 74)]⟩,
        ⟨(some 19), none, .mov (T 75)⟩])
      (.drawn [⟨(some 76), none, .mov (T 18)⟩,
        ⟨(some 77), none, .mov (T 19)⟩,
        ⟨(some 78), none, .mov (T 18)⟩,
        ⟨(some 79), none, .mov (T 19)⟩,
        ⟨(some 80), none, .idxS 1 (T 78) (T 79)⟩,
        ⟨(some 81), none, .load false 1 (T 80)⟩,
        ⟨(some 82), none, .mov (T 3)⟩,
        ⟨(some 83), none, .call (.func 19) [(T 82), (.const (.int .i64 5))]⟩,
        ⟨(some 84), none, .ibin .add (T 81) (T 83)⟩,
        ⟨(some 85), none, .ibin .sub (T 84) (.const (.int .i64 2))⟩,
        ⟨(some 86), none, .idxS 1 (T 76) (T 77)⟩] [(⟨none, none, .store 1 (T 86) (T 85)⟩, [])]))
      .skip))
    (.seq (.region [⟨(some 87), none, .mov (T 16)⟩,
      ⟨(some 88), none, .mov (T 18)⟩,
      ⟨(some 89), none, .mov (T 4)⟩,
      ⟨(some 90), none, .call (.func 26) [(T 89), (.const (.int .i64 30))]⟩,
      ⟨(some 91), none, .bslice 3 1 []⟩,
      ⟨(some 92), none, .mov (T 16)⟩,
      ⟨(some 93), none, .append 3 1 8 (T 91) (T 92)⟩,
      ⟨(some 94), none, .mov (T 11)⟩,
      ⟨(some 95), none, .len (T 94)⟩,
      ⟨(some 96), none, .bslice 3 1 [(T 95)]⟩,
      ⟨(some 97), none, .append 3 1 8 (T 93) (T 96)⟩,
      ⟨(some 98), none, .bslice 22 1 [(T 87), (T 88), (T 90), (.const (.slice none 0 0)), (T 97)]⟩,
      ⟨(some 20), none, .mov (T 98)⟩])
    (.seq (.region [⟨(some 21), none, .mov (.const (.int .i64 0))⟩])
    (.block 2 (.loop
      (.seq (.seq (.region [⟨(some 99), none, .mov (T 21)⟩,
        ⟨(some 100), none, .mov (T 20)⟩,
        ⟨(some 101), none, .len (T 100)⟩,
        ⟨(some 102), none, .ibin .lss (T 99) (T 101)⟩])
      (.cond (T 102)
        .skip
        (.exit 2)))
      (.seq (.block 3 (.seq (.drawn [⟨(some 105), none, .mov (T 11)⟩,
        ⟨(some 106), none, .mov (T 12)⟩,
        ⟨(some 107), none, .mov (T 13)⟩,
        ⟨(some 108), none, .idxS 1 (T 106) (T 107)⟩,
        ⟨(some 109), none, .load false 1 (T 108)⟩,
        ⟨(some 110), none, .mov (T 20)⟩,
        ⟨(some 111), none, .mov (T 21)⟩,
        ⟨(some 112), none, .idxS 1 (T 110) (T 111)⟩,
        ⟨(some 113), none, .load false 1 (T 112)⟩,
        ⟨(some 114), none, .call (.func 27) [(T 105), (T 109), (T 113)]⟩,
        ⟨(some 115), none, .mov (T 11)⟩,
        ⟨(some 116), none, .mov (T 12)⟩,
        ⟨(some 117), none, .mov (T 13)⟩,
        ⟨(some 118), none, .idxS 1 (T 116) (T 117)⟩,
        ⟨(some 119), none, .load false 1 (T 118)⟩,
        ⟨(some 120), none, .mov (T 20)⟩,
        ⟨(some 121), none, .mov (T 21)⟩,
        ⟨(some 122), none, .idxS 1 (T 120) (T 121)⟩,
        ⟨(some 123), none, .load false 1 (T 122)⟩,
        ⟨(some 124), none, .call (.func 28) [(T 115), (T 119), (T 123)]⟩,
        ⟨(some 125), none, .ibin .neq (T 114) (T 124)⟩] [])
      (.cond (T 125)
        (.seq (.region [⟨(some 10), none, .mov (.const (.bool false))⟩])
        .ret)
        .skip)))
      (.region [⟨(some 103), none, .mov (T 21)⟩,
        ⟨(some 104), none, .ibin .add (T 103) (.const (.int .i64 1))⟩,
        ⟨(some 21), none, .mov (T 104)⟩])))))))))))))
    (.region [⟨(some 37), none, .mov (T 13)⟩,
      ⟨(some 38), none, .ibin .add (T 37) (.const (.int .i64 1))⟩,
      ⟨(some 13), none, .mov (T 38)⟩]))))))
  (.seq (.region [⟨(some 127), none, .mkslice 4 1 1 (.val (.bool false)) (.const (.int .i64 4097)) (.const (.int .i64 4097))⟩,
    ⟨(some 128), none, .call (.func 23) [(T 127), (.const (.int .i64 5))]⟩,
    ⟨(some 126), none, .mov (T 128)⟩,
    ⟨(some 129), none, .extract (T 126) 0⟩,
    ⟨(some 130), none, .extract (T 126) 1⟩,
    ⟨(some 22), none, .mov (T 129)⟩,
    ⟨(some 23), none, .mov (T 130)⟩])
  (.seq (.region [⟨(some 131), none, .mov (T 23)⟩,
    ⟨(some 132), none, .ibin .eql (T 131) (.const (.int .i64 1))⟩,
    ⟨(some 133), none, .mov (T 132)⟩,
    ⟨(some 134), (some (133, true)), .call (.func 18) []⟩,
    ⟨(some 135), none, .pick (T 133) (T 134) (.const (.bool false))⟩,
    ⟨(some 10), none, .mov (T 135)⟩])
  .ret))))))
theorem f6 : fnC Try.prog 6 = some (c6, 136, [(.tmp 10)]) := by kernel_rfl

/-- dactyllaw11.BreaksPaged -/
def c7 : CCode :=
  (.seq (.region [⟨(some 6), none, .mov (.const (.bool false))⟩])
  (.seq (.region [⟨(some 16), none, .mov (T 0)⟩,
    ⟨(some 17), none, .call (.func 22) [(T 16), (.const (.int .i64 40))]⟩,
    ⟨(some 7), none, .mov (T 17)⟩])
  (.seq (.region [⟨(some 18), none, .mov (T 1)⟩,
    ⟨(some 19), none, .call (.func 19) [(T 18), (.const (.int .i64 9))]⟩,
    ⟨(some 20), none, .ibin .add (.const (.int .i64 1)) (T 19)⟩,
    ⟨(some 8), none, .mov (T 20)⟩])
  (.seq (.region [⟨(some 22), none, .mov (T 7)⟩,
    ⟨(some 23), none, .mov (T 8)⟩,
    ⟨(some 24), none, .call (.func 23) [(T 22), (T 23)]⟩,
    ⟨(some 21), none, .mov (T 24)⟩,
    ⟨(some 25), none, .extract (T 21) 0⟩,
    ⟨(some 26), none, .extract (T 21) 1⟩,
    ⟨(some 9), none, .mov (T 25)⟩,
    ⟨(some 10), none, .mov (T 26)⟩])
  (.seq (.region [⟨(some 28), none, .mov (T 7)⟩,
    ⟨(some 29), none, .len (T 28)⟩,
    ⟨(some 30), none, .mkslice 4 1 1 (.val (.bool false)) (T 29) (T 29)⟩,
    ⟨(some 31), none, .mov (T 8)⟩,
    ⟨(some 32), none, .call (.func 23) [(T 30), (T 31)]⟩,
    ⟨(some 27), none, .mov (T 32)⟩,
    ⟨(some 33), none, .extract (T 27) 0⟩,
    ⟨(some 34), none, .extract (T 27) 1⟩,
    ⟨(some 11), none, .mov (T 33)⟩,
    ⟨(some 12), none, .mov (T 34)⟩])
  (.seq (.seq (.region [⟨(some 35), none, .mov (T 12)⟩,
    ⟨(some 36), none, .ibin .neq (T 35) (.const (.int .i64 0))⟩,
    ⟨(some 37), none, .mov (T 36)⟩,
    ⟨(some 38), (some (37, false)), .mov (T 11)⟩,
    ⟨(some 39), (some (37, false)), .len (T 38)⟩,
    ⟨(some 40), (some (37, false)), .mov (T 7)⟩,
    ⟨(some 41), (some (37, false)), .len (T 40)⟩,
    ⟨(some 42), (some (37, false)), .mov (T 8)⟩,
    ⟨(some 43), (some (37, false)), .ibin .add (T 41) (T 42)⟩,
    ⟨(some 44), (some (37, false)), .ibin .sub (T 43) (.const (.int .i64 1))⟩,
    ⟨(some 45), (some (37, false)), .mov (T 8)⟩,
    ⟨(some 46), (some (37, false)), .ibin .quo (T 44) (T 45)⟩,
    ⟨(some 47), (some (37, false)), .ibin .neq (T 39) (T 46)⟩,
    ⟨(some 48), none, .pick (T 37) (.const (.bool true)) (T 47)⟩,
    ⟨(some 49), none, .mov (T 48)⟩,
    ⟨(some 50), (some (49, false)), .mov (T 10)⟩,
    ⟨(some 51), (some (49, false)), .ibin .neq (T 50) (.const (.int .i64 0))⟩,
    ⟨(some 52), (some (49, false)), .mov (T 51)⟩,
    ⟨(some 53), (some (52, true)), .mov (T 10)⟩,
    ⟨(some 54), (some (52, true)), .ibin .neq (T 53) (.const (.int .i64 14))⟩,
    ⟨(some 55), (some (49, false)), .pick (T 52) (T 54) (.const (.bool false))⟩,
    ⟨(some 56), none, .pick (T 49) (.const (.bool true)) (T 55)⟩,
    ⟨(some 57), none, .mov (T 56)⟩,
    ⟨(some 58), (some (57, false)), .mov (T 10)⟩,
    ⟨(some 59), (some (57, false)), .ibin .eql (T 58) (.const (.int .i64 0))⟩,
    ⟨(some 60), (some (57, false)), .mov (T 59)⟩,
    ⟨(some 61), (some (60, true)), .mov (T 9)⟩,
    ⟨(some 62), (some (60, true)), .len (T 61)⟩,
    ⟨(some 63), (some (60, true)), .mov (T 11)⟩,
    ⟨(some 64), (some (60, true)), .len (T 63)⟩,
    ⟨(some 65), (some (60, true)), .ibin .lss (T 62) (T 64)⟩,
    ⟨(some 66), (some (60, true)), .mov (T 65)⟩,
    ⟨(some 67), (some (66, false)), .mov (T 7)⟩,
    ⟨(some 68), (some (66, false)), .mov (T 8)⟩,
    ⟨(some 69), (some (66, false)), .mov (T 9)⟩,
    ⟨(some 70), (some (66, false)), .call (.func 27) [(T 67), (T 68), (T 69)]⟩,
    ⟨(some 71), (some (66, false)), .ibin .neq (T 70) (.const (.int .i64 0))⟩,
    ⟨(some 72), (some (60, true)), .pick (T 66) (.const (.bool true)) (T 71)⟩,
    ⟨(some 73), (some (57, false)), .pick (T 60) (T 72) (.const (.bool false))⟩,
    ⟨(some 74), none, .pick (T 57) (.const (.bool true)) (T 73)⟩])
  (.cond (T 74)
    (.seq (.region [⟨(some 6), none, .mov (.const (.bool false))⟩])
    .ret)
    .skip))
  (.seq (.seq (.region [⟨(some 75), none, .mov (T 7)⟩,
    ⟨(some 76), none, .len (T 75)⟩,
    ⟨(some 77), none, .ibin .eql (T 76) (.const (.int .i64 0))⟩])
  (.cond (T 77)
    (.seq (.region [⟨(some 78), none, .call (.func 18) []⟩,
      ⟨(some 6), none, .mov (T 78)⟩])
    .ret)
    .skip))
  (.seq (.region [⟨(some 79), none, .bslice 4 1 []⟩,
    ⟨(some 80), none, .mov (T 7)⟩,
    ⟨(some 81), none, .append 4 1 1 (T 79) (T 80)⟩,
    ⟨(some 13), none, .mov (T 81)⟩])
  (.seq (.region [⟨(some 82), none, .mov (T 13)⟩,
    ⟨(some 83), none, .mov (T 2)⟩,
    ⟨(some 84), none, .mov (T 13)⟩,
    ⟨(some 85), none, .len (T 84)⟩,
    ⟨(some 86), none, .call (.func 19) [(T 83), (T 85)]⟩,
    ⟨(some 87), none, .idxS 1 (T 82) (T 86)⟩,
    ⟨none, none, .store 1 (T 87) (.const (.bool true))⟩])
  (.seq (.region [⟨(some 89), none, .mov (T 13)⟩,
    ⟨(some 90), none, .mov (T 8)⟩,
    ⟨(some 91), none, .call (.func 23) [(T 89), (T 90)]⟩,
    ⟨(some 88), none, .mov (T 91)⟩,
    ⟨(some 92), none, .extract (T 88) 0⟩,
    ⟨(some 93), none, .extract (T 88) 1⟩,
    ⟨(some 14), none, .mov (T 92)⟩,
    ⟨(some 15), none, .mov (T 93)⟩])
  (.seq (.seq (.region [⟨(some 94), none, .mov (T 10)⟩,
    ⟨(some 95), none, .ibin .neq (T 94) (.const (.int .i64 0))⟩])
  (.cond (T 95)
    (.seq (.region [⟨(some 96), none, .mov (T 15)⟩,
      ⟨(some 97), none, .ibin .eql (T 96) (.const (.int .i64 14))⟩,
      ⟨(some 98), none, .mov (T 97)⟩,
      ⟨(some 99), (some (98, true)), .call (.func 18) []⟩,
      ⟨(some 100), none, .pick (T 98) (T 99) (.const (.bool false))⟩,
      ⟨(some 6), none, .mov (T 100)⟩])
    .ret)
    .skip))
  (.seq (.region [⟨(some 101), none, .mov (T 15)⟩,
    ⟨(some 102), none, .ibin .eql (T 101) (.const (.int .i64 14))⟩,
    ⟨(some 103), none, .mov (T 102)⟩,
    ⟨(some 104), (some (103, false)), .mov (T 15)⟩,
    ⟨(some 105), (some (103, false)), .ibin .eql (T 104) (.const (.int .i64 0))⟩,
    ⟨(some 106), (some (103, false)), .mov (T 105)⟩,
    ⟨(some 107), (some (106, true)), .mov (T 14)⟩,
    ⟨(some 108), (some (106, true)), .len (T 107)⟩,
    ⟨(some 109), (some (106, true)), .mov (T 9)⟩,
    ⟨(some 110), (some (106, true)), .len (T 109)⟩,
    ⟨(some 111), (some (106, true)), .ibin .geq (T 108) (T 110)⟩,
    ⟨(some 112), (some (103, false)), .pick (T 106) (T 111) (.const (.bool false))⟩,
    ⟨(some 113), none, .pick (T 103) (.const (.bool true)) (T 112)⟩,
    ⟨(some 114), none, .mov (T 113)⟩,
    ⟨(some 115), (some (114, true)), .call (.func 18) []⟩,
    ⟨(some 116), none, .pick (T 114) (T 115) (.const (.bool false))⟩,
    ⟨(some 6), none, .mov (T 116)⟩])
  .ret))))))))))))
theorem f7 : fnC Try.prog 7 = some (c7, 117, [(.tmp 6)]) := by kernel_rfl

/-- dactyllaw11.BreaksChecks -/
def c8 : CCode :=
  (.seq (.region [⟨(some 10), none, .mov (.const (.bool false))⟩])
  (.seq (.region [⟨(some 21), none, .mov (T 0)⟩,
    ⟨(some 22), none, .call (.func 10) [(T 21), (.const (.int .i64 10))]⟩,
    ⟨(some 11), none, .mov (T 22)⟩])
  (.seq (.region [⟨(some 23), none, .mov (T 1)⟩,
    ⟨(some 24), none, .call (.func 12) [(T 23)]⟩,
    ⟨(some 12), none, .mov (T 24)⟩])
  (.seq (.seq (.region [⟨(some 13), none, .mov (.const (.int .i64 0))⟩])
  (.block 0 (.loop
    (.seq (.seq (.region [⟨(some 25), none, .mov (T 13)⟩,
      ⟨(some 26), none, .ibin .lss (T 25) (.const (.int .i64 2))⟩])
    (.cond (T 26)
      .skip
      (.exit 0)))
    (.seq (.block 1 (.seq (.region [⟨(some 30), none, .mov (T 11)⟩,
      ⟨(some 31), none, .mov (T 12)⟩,
      ⟨(some 32), none, .mov (T 13)⟩,
      ⟨(some 33), none, .idxS 1 (T 31) (T 32)⟩,
      ⟨(some 34), none, .load false 1 (T 33)⟩,
      ⟨(some 35), none, .call (.func 15) [(T 30), (T 34)]⟩,
      ⟨(some 29), none, .mov (T 35)⟩,
      ⟨(some 36), none, .extract (T 29) 0⟩,
      ⟨(some 37), none, .extract (T 29) 1⟩,
      ⟨(some 14), none, .alloc 36 (.agg [(.val (.slice none 0 0)), (.val (.slice none 0 0))])⟩,
      ⟨none, none, .store 2 (T 14) (T 36)⟩,
      ⟨(some 15), none, .mov (T 37)⟩])
    (.seq (.region [⟨(some 38), none, .load true 2 (T 14)⟩,
      ⟨(some 39), none, .mov (T 2)⟩,
      ⟨(some 40), none, .mov (T 3)⟩,
      ⟨(some 41), none, .mov (T 4)⟩,
      ⟨(some 42), none, .call (.func 29) [(T 38), (T 39), (T 40), (T 41)]⟩,
      ⟨(some 16), none, .alloc 36 (.agg [(.val (.slice none 0 0)), (.val (.slice none 0 0))])⟩,
      ⟨none, none, .store 2 (T 16) (T 42)⟩])
    (.seq (.drawn [⟨(some 43), none, .load true 2 (T 14)⟩,
      ⟨(some 44), none, .load true 2 (T 16)⟩,
      ⟨(some 45), none, .load true 2 (T 16)⟩,
      ⟨(some 46), none, .mov (T 4)⟩,
      ⟨(some 47), none, .mov (T 2)⟩,
      ⟨(some 48), none, .mov (T 3)⟩,
      ⟨(some 49), none, .call (.func 29) [(T 45), (T 46), (T 47), (T 48)]⟩,
      ⟨(some 50), none, .build [(.val (.slice none 0 0)), (.val (.slice none 0 0))] []⟩,
      ⟨(some 51), none, .bslice 36 2 [(T 43), (T 44), (T 49), (T 50)]⟩,
      ⟨(some 17), none, .mov (T 51)⟩] [])
    (.seq (.seq (.region [⟨(some 18), none, .mov (.const (.int .i64 0))⟩])
    (.block 2 (.loop
      (.seq (.seq (.region [⟨(some 52), none, .mov (T 18)⟩,
        ⟨(some 53), none, .mov (T 17)⟩,
        ⟨(some 54), none, .len (T 53)⟩,
        ⟨(some 55), none, .ibin .lss (T 52) (T 54)⟩])
      (.cond (T 55)
        .skip
        (.exit 2)))
      (.seq (.block 3 (.seq (.drawn [⟨(some 58), none, .mov (T 11)⟩,
        ⟨(some 59), none, .call (.func 14) [(T 58)]⟩,
        ⟨(some 60), none, .mov (T 12)⟩,
        ⟨(some 61), none, .mov (T 13)⟩,
        ⟨(some 62), none, .idxS 1 (T 60) (T 61)⟩,
        ⟨(some 63), none, .load false 1 (T 62)⟩,
        ⟨(some 64), none, .mov (T 17)⟩,
        ⟨(some 65), none, .mov (T 18)⟩,
        ⟨(some 66), none, .idxS 2 (T 64) (T 65)⟩,
        ⟨(some 67), none, .load true 2 (T 66)⟩,
        ⟨(some 68), none, .call (.func 31) [(T 67)]⟩,
        ⟨(some 69), none, .call (.func 30) [(T 59), (T 63), (T 68)]⟩,
        ⟨(some 70), none, .mov (T 11)⟩,
        ⟨(some 71), none, .mov (T 12)⟩,
        ⟨(some 72), none, .mov (T 13)⟩,
        ⟨(some 73), none, .idxS 1 (T 71) (T 72)⟩,
        ⟨(some 74), none, .load false 1 (T 73)⟩,
        ⟨(some 75), none, .mov (T 17)⟩,
        ⟨(some 76), none, .mov (T 18)⟩,
        ⟨(some 77), none, .idxS 2 (T 75) (T 76)⟩,
        ⟨(some 78), none, .load true 2 (T 77)⟩,
        ⟨(some 79), none, .call (.func 32) [(T 70), (T 74), (T 78)]⟩,
        ⟨(some 80), none, .ibin .neq (T 69) (T 79)⟩] [])
      (.cond (T 80)
        (.seq (.region [⟨(some 10), none, .mov (.const (.bool false))⟩])
        .ret)
        .skip)))
      (.region [⟨(some 56), none, .mov (T 18)⟩,
        ⟨(some 57), none, .ibin .add (T 56) (.const (.int .i64 1))⟩,
        ⟨(some 18), none, .mov (T 57)⟩]))))))
    (.seq (.drawn [⟨(some 82), none, .mov (T 11)⟩,
      ⟨(some 83), none, .call (.func 14) [(T 82)]⟩,
      ⟨(some 84), none, .mov (T 12)⟩,
      ⟨(some 85), none, .mov (T 13)⟩,
      ⟨(some 86), none, .idxS 1 (T 84) (T 85)⟩,
      ⟨(some 87), none, .load false 1 (T 86)⟩,
      ⟨(some 88), none, .call (.func 13) [(T 83), (T 87)]⟩,
      ⟨(some 81), none, .mov (T 88)⟩,
      ⟨(some 89), none, .extract (T 81) 0⟩,
      ⟨(some 90), none, .extract (T 81) 1⟩,
      ⟨(some 19), none, .alloc 30 (.agg [(.val (.slice none 0 0)), (.val (.slice none 0 0))])⟩] [(⟨none, none, .store 2 (T 19) (T 89)⟩, [⟨(some 90), none, .extract (T 81) 1⟩]), (⟨(some 20), none, .mov (T 90)⟩, [])])
    (.seq (.seq (.drawn [⟨(some 91), none, .mov (T 15)⟩,
      ⟨(some 92), none, .mov (T 20)⟩,
      ⟨(some 93), none, .ibin .neq (T 91) (T 92)⟩,
      ⟨(some 94), none, .mov (T 93)⟩,
      ⟨(some 95), (some (94, false)), .mov (T 15)⟩,
      ⟨(some 96), (some (94, false)), .ibin .eql (T 95) (.const (.int .i64 0))⟩,
      ⟨(some 97), (some (94, false)), .mov (T 96)⟩,
      ⟨(some 98), (some (97, true)), .mov (T 11)⟩,
      ⟨(some 99), (some (97, true)), .call (.func 14) [(T 98)]⟩,
      ⟨(some 100), (some (97, true)), .mov (T 12)⟩,
      ⟨(some 101), (some (97, true)), .mov (T 13)⟩,
      ⟨(some 102), (some (97, true)), .idxS 1 (T 100) (T 101)⟩,
      ⟨(some 103), (some (97, true)), .load false 1 (T 102)⟩,
      ⟨(some 104), (some (97, true)), .load true 2 (T 19)⟩,
      ⟨(some 105), (some (97, true)), .call (.func 30) [(T 99), (T 103), (T 104)]⟩,
      ⟨(some 106), (some (97, true)), .ibin .neq (T 105) (.const (.int .i64 0))⟩,
      ⟨(some 107), (some (94, false)), .pick (T 97) (T 106) (.const (.bool false))⟩,
      ⟨(some 108), none, .pick (T 94) (.const (.bool true)) (T 107)⟩] [])
    (.cond (T 108)
      (.seq (.region [⟨(some 10), none, .mov (.const (.bool false))⟩])
      .ret)
      .skip))
    (.seq (.region [⟨(some 109), none, .mov (T 15)⟩,
      ⟨(some 110), none, .ibin .eql (T 109) (.const (.int .i64 0))⟩,
      ⟨(some 111), none, .mov (T 110)⟩,
      ⟨(some 112), (some (111, true)), .fieldAddr 1 (T 19)⟩,
      ⟨(some 113), (some (111, true)), .load false 1 (T 112)⟩,
      ⟨(some 114), (some (111, true)), .len (T 113)⟩,
      ⟨(some 115), (some (111, true)), .ibin .gtr (T 114) (.const (.int .i64 0))⟩,
      ⟨(some 116), none, .pick (T 111) (T 115) (.const (.bool false))⟩,
      ⟨(some 117), none, .mov (T 116)⟩,
      ⟨(some 118), (some (117, true)), .fieldAddr 1 (T 19)⟩,
      ⟨(some 119), (some (117, true)), .load false 1 (T 118)⟩,
      ⟨(some 120), (some (117, true)), .idxS 1 (T 119) (.const (.int .i64 0))⟩,
      ⟨(some 121), (some (117, true)), .load false 1 (T 120)⟩,
      ⟨(some 122), (some (117, true)), .len (T 121)⟩,
      ⟨(some 123), (some (117, true)), .ibin .gtr (T 122) (.const (.int .i64 0))⟩,
      ⟨(some 124), none, .pick (T 117) (T 123) (.const (.bool false))⟩])
    (.cond (T 124)
      (.seq (.region [⟨(some 125), none, .fieldAddr 1 (T 19)⟩,
        ⟨(some 126), none, .load false 1 (T 125)⟩,
        ⟨(some 127), none, .idxS 1 (T 126) (.const (.int .i64 0))⟩,
        ⟨(some 128), none, .load false 1 (T 127)⟩,
        ⟨(some 129), none, .idxS 1 (T 128) (.const (.int .i64 0))⟩,
        ⟨(some 130), none, .load false 1 (T 129)⟩,
        ⟨(some 131), none, .ibin .add (T 130) (.const (.int .i64 1))⟩,
        ⟨(some 132), none, .idxS 1 (T 128) (.const (.int .i64 0))⟩,
        ⟨none, none, .store 1 (T 132) (T 131)⟩])
      (.seq (.drawn [⟨(some 133), none, .mov (T 11)⟩,
        ⟨(some 134), none, .call (.func 14) [(T 133)]⟩,
        ⟨(some 135), none, .mov (T 12)⟩,
        ⟨(some 136), none, .mov (T 13)⟩,
        ⟨(some 137), none, .idxS 1 (T 135) (T 136)⟩,
        ⟨(some 138), none, .load false 1 (T 137)⟩,
        ⟨(some 139), none, .load true 2 (T 19)⟩,
        ⟨(some 140), none, .call (.func 30) [(T 134), (T 138), (T 139)]⟩,
        ⟨(some 141), none, .ibin .neq (T 140) (.const (.int .i64 19))⟩] [])
      (.cond (T 141)
        (.seq (.region [⟨(some 10), none, .mov (.const (.bool false))⟩])
        .ret)
        .skip)))
      .skip)))))))))
    (.region [⟨(some 27), none, .mov (T 13)⟩,
      ⟨(some 28), none, .ibin .add (T 27) (.const (.int .i64 1))⟩,
      ⟨(some 13), none, .mov (T 28)⟩]))))))
  (.seq (.drawn [⟨(some 142), none, .mov (T 11)⟩,
    ⟨(some 143), none, .mov (T 2)⟩,
    ⟨(some 144), none, .mov (T 4)⟩,
    ⟨(some 145), none, .call (.func 11) [(T 142), (T 143), (.const (.int .i64 0)), (T 144)]⟩,
    ⟨(some 146), none, .call (.func 14) [(T 145)]⟩,
    ⟨(some 147), none, .mov (T 12)⟩,
    ⟨(some 148), none, .idxS 1 (T 147) (.const (.int .i64 0))⟩,
    ⟨(some 149), none, .load false 1 (T 148)⟩,
    ⟨(some 150), none, .build [(.val (.slice none 0 0)), (.val (.slice none 0 0))] []⟩,
    ⟨(some 151), none, .call (.func 30) [(T 146), (T 149), (T 150)]⟩,
    ⟨(some 152), none, .ibin .eql (T 151) (.const (.int .i64 1))⟩,
    ⟨(some 153), none, .mov (T 152)⟩,
    ⟨(some 154), (some (153, true)), .call (.func 18) []⟩,
    ⟨(some 155), none, .pick (T 153) (T 154) (.const (.bool false))⟩,
    ⟨(some 10), none, .mov (T 155)⟩] [])
  .ret)))))
theorem f8 : fnC Try.prog 8 = some (c8, 156, [(.tmp 10)]) := by kernel_rfl

/-- dactyllaw11.BreaksOthers -/
def c9 : CCode :=
  (.seq (.region [⟨(some 6), none, .mov (.const (.bool false))⟩])
  (.seq (.region [⟨(some 21), none, .mov (T 0)⟩,
    ⟨(some 22), none, .call (.func 10) [(T 21), (.const (.int .i64 8))]⟩,
    ⟨(some 7), none, .mov (T 22)⟩])
  (.seq (.region [⟨(some 23), none, .mov (T 1)⟩,
    ⟨(some 24), none, .call (.func 19) [(T 23), (.const (.int .i64 20))]⟩,
    ⟨(some 25), none, .ibin .add (.const (.int .i64 1)) (T 24)⟩,
    ⟨(some 8), none, .mov (T 25)⟩])
  (.seq (.region [⟨(some 27), none, .mov (T 7)⟩,
    ⟨(some 28), none, .call (.func 14) [(T 27)]⟩,
    ⟨(some 29), none, .mov (T 8)⟩,
    ⟨(some 30), none, .call (.func 13) [(T 28), (T 29)]⟩,
    ⟨(some 26), none, .mov (T 30)⟩,
    ⟨(some 31), none, .extract (T 26) 0⟩,
    ⟨(some 32), none, .extract (T 26) 1⟩,
    ⟨(some 9), none, .alloc 30 (.agg [(.val (.slice none 0 0)), (.val (.slice none 0 0))])⟩,
    ⟨none, none, .store 2 (T 9) (T 31)⟩,
    ⟨(some 10), none, .mov (T 32)⟩])
  (.seq (.region [⟨(some 11), none, .mov (.const (.slice none 0 0))⟩])
  (.seq (.region [⟨(some 33), none, .build [(.val (.int .i64 0)), (.val (.int .i64 0))] []⟩,
    ⟨(some 12), none, .alloc 64 (.agg [(.val (.int .i64 0)), (.val (.int .i64 0))])⟩,
    ⟨none, none, .store 2 (T 12) (T 33)⟩])
  (.seq (.seq (.region [⟨(some 13), none, .mov (.const (.int .i64 0))⟩])
  (.block 0 (.loop
    (.seq (.seq (.region [⟨(some 34), none, .mov (T 13)⟩,
      ⟨(some 35), none, .ibin .lss (T 34) (.const (.int .i64 60))⟩,
      ⟨(some 36), none, .mov (T 35)⟩,
      ⟨(some 37), (some (36, true)), .load true 2 (T 12)⟩,
      ⟨(some 38), (some (36, true)), .mov (T 7)⟩,
      ⟨(some 39), (some (36, true)), .len (T 38)⟩,
      ⟨(some 40), (some (36, true)), .build [(.val (.int .i64 0)), (.val (.int .i64 0))] [(0, (1, (T 39))), (1, (1, (.const (.int .i64 0))))]⟩,
      ⟨(some 41), (some (36, true)), .aeq true 2 (T 37) (T 40)⟩,
      ⟨(some 42), none, .pick (T 36) (T 41) (.const (.bool false))⟩])
    (.cond (T 42)
      .skip
      (.exit 0)))
    (.seq (.block 1 (.seq (.region [⟨(some 45), none, .mov (T 7)⟩,
      ⟨(some 46), none, .load true 2 (T 12)⟩,
      ⟨(some 47), none, .call (.func 33) [(T 45), (T 46)]⟩,
      ⟨(some 14), none, .alloc 64 (.agg [(.val (.int .i64 0)), (.val (.int .i64 0))])⟩,
      ⟨none, none, .store 2 (T 14) (T 47)⟩])
    (.seq (.seq (.region [⟨(some 48), none, .mov (T 2)⟩,
      ⟨(some 49), none, .mov (T 13)⟩,
      ⟨(some 50), none, .call (.func 34) [(T 48), (T 49), (.const (.int .i64 6))]⟩,
      ⟨(some 15), none, .mov (T 50)⟩])
    (.block 2 (.loop
      (.seq (.seq (.region [⟨(some 51), none, .mov (T 15)⟩,
        ⟨(some 52), none, .ibin .gtr (T 51) (.const (.int .i64 0))⟩,
        ⟨(some 53), none, .mov (T 52)⟩,
        ⟨(some 54), (some (53, true)), .load true 2 (T 14)⟩,
        ⟨(some 55), (some (53, true)), .mov (T 7)⟩,
        ⟨(some 56), (some (53, true)), .len (T 55)⟩,
        ⟨(some 57), (some (53, true)), .build [(.val (.int .i64 0)), (.val (.int .i64 0))] [(0, (1, (T 56))), (1, (1, (.const (.int .i64 0))))]⟩,
        ⟨(some 58), (some (53, true)), .aeq true 2 (T 54) (T 57)⟩,
        ⟨(some 59), none, .pick (T 53) (T 58) (.const (.bool false))⟩])
      (.cond (T 59)
        .skip
        (.exit 2)))
      (.seq (.block 3 (.seq (.region [⟨(some 62), none, .mov (T 7)⟩,
        ⟨(some 63), none, .load true 2 (T 14)⟩,
        ⟨(some 64), none, .call (.func 33) [(T 62), (T 63)]⟩,
        ⟨(some 16), none, .alloc 64 (.agg [(.val (.int .i64 0)), (.val (.int .i64 0))])⟩,
        ⟨none, none, .store 2 (T 16) (T 64)⟩])
      (.seq (.region [⟨(some 65), none, .mov (T 7)⟩,
        ⟨(some 66), none, .load true 2 (T 12)⟩,
        ⟨(some 67), none, .load true 2 (T 16)⟩,
        ⟨(some 68), none, .call (.func 35) [(T 65), (T 66), (T 67)]⟩,
        ⟨(some 69), none, .mov (T 8)⟩,
        ⟨(some 70), none, .ibin .leq (T 68) (T 69)⟩,
        ⟨(some 71), none, .mov (T 70)⟩,
        ⟨(some 72), (some (71, false)), .mov (T 7)⟩,
        ⟨(some 73), (some (71, false)), .load true 2 (T 12)⟩,
        ⟨(some 74), (some (71, false)), .load true 2 (T 14)⟩,
        ⟨(some 75), (some (71, false)), .call (.func 35) [(T 72), (T 73), (T 74)]⟩,
        ⟨(some 76), (some (71, false)), .mov (T 8)⟩,
        ⟨(some 77), (some (71, false)), .ibin .gtr (T 75) (T 76)⟩,
        ⟨(some 78), none, .pick (T 71) (.const (.bool true)) (T 77)⟩])
      (.cond (T 78)
        (.region [⟨(some 79), none, .load true 2 (T 16)⟩,
          ⟨none, none, .store 2 (T 14) (T 79)⟩])
        .skip))))
      (.region [⟨(some 60), none, .mov (T 15)⟩,
        ⟨(some 61), none, .ibin .sub (T 60) (.const (.int .i64 1))⟩,
        ⟨(some 15), none, .mov (T 61)⟩]))))))
    (.seq (.region [⟨(some 80), none, .mov (T 11)⟩,
      ⟨(some 81), none, .load true 2 (T 14)⟩,
      ⟨(some 82), none, .bslice 64 2 [(T 81)]⟩,
      ⟨(some 83), none, .append 64 2 16 (T 80) (T 82)⟩,
      ⟨(some 11), none, .mov (T 83)⟩])
    (.region [⟨(some 84), none, .load true 2 (T 14)⟩,
      ⟨none, none, .store 2 (T 12) (T 84)⟩])))))
    (.region [⟨(some 43), none, .mov (T 13)⟩,
      ⟨(some 44), none, .ibin .add (T 43) (.const (.int .i64 1))⟩,
      ⟨(some 13), none, .mov (T 44)⟩]))))))
  (.seq (.region [⟨(some 85), none, .mov (T 7)⟩,
    ⟨(some 86), none, .mov (T 8)⟩,
    ⟨(some 87), none, .mov (T 11)⟩,
    ⟨(some 88), none, .call (.func 36) [(T 85), (T 86), (T 87)]⟩,
    ⟨(some 17), none, .mov (T 88)⟩])
  (.seq (.seq (.region [⟨(some 89), none, .mov (T 17)⟩,
    ⟨(some 90), none, .ibin .lss (T 89) (.const (.int .i64 0))⟩])
  (.cond (T 90)
    (.seq (.region [⟨(some 91), none, .call (.func 18) []⟩,
      ⟨(some 6), none, .mov (T 91)⟩])
    .ret)
    .skip))
  (.seq (.seq (.region [⟨(some 92), none, .mov (T 10)⟩,
    ⟨(some 93), none, .ibin .neq (T 92) (.const (.int .i64 0))⟩])
  (.cond (T 93)
    (.seq (.region [⟨(some 6), none, .mov (.const (.bool false))⟩])
    .ret)
    .skip))
  (.seq (.region [⟨(some 94), none, .mov (T 7)⟩,
    ⟨(some 95), none, .mov (T 8)⟩,
    ⟨(some 96), none, .fieldAddr 0 (T 9)⟩,
    ⟨(some 97), none, .load false 1 (T 96)⟩,
    ⟨(some 98), none, .call (.func 36) [(T 94), (T 95), (T 97)]⟩,
    ⟨(some 18), none, .mov (T 98)⟩])
  (.seq (.region [⟨(some 99), none, .mov (T 11)⟩,
    ⟨(some 100), none, .fieldAddr 1 (T 9)⟩,
    ⟨(some 101), none, .load false 1 (T 100)⟩,
    ⟨(some 102), none, .build [(.val (.slice none 0 0)), (.val (.slice none 0 0))] [(0, (1, (T 99))), (1, (1, (T 101)))]⟩,
    ⟨(some 19), none, .alloc 30 (.agg [(.val (.slice none 0 0)), (.val (.slice none 0 0))])⟩,
    ⟨none, none, .store 2 (T 19) (T 102)⟩])
  (.seq (.region [⟨(some 20), none, .mov (.const (.int .i64 0))⟩])
  (.seq (.seq (.region [⟨(some 103), none, .mov (T 17)⟩,
    ⟨(some 104), none, .mov (T 18)⟩,
    ⟨(some 105), none, .ibin .gtr (T 103) (T 104)⟩])
  (.cond (T 105)
    (.region [⟨(some 20), none, .mov (.const (.int .i64 19))⟩])
    .skip))
  (.seq (.drawn [⟨(some 106), none, .mov (T 18)⟩,
    ⟨(some 107), none, .ibin .geq (T 106) (.const (.int .i64 0))⟩,
    ⟨(some 108), none, .mov (T 107)⟩,
    ⟨(some 109), (some (108, true)), .mov (T 17)⟩,
    ⟨(some 110), (some (108, true)), .mov (T 18)⟩,
    ⟨(some 111), (some (108, true)), .ibin .geq (T 109) (T 110)⟩,
    ⟨(some 112), none, .pick (T 108) (T 111) (.const (.bool false))⟩,
    ⟨(some 113), none, .mov (T 112)⟩,
    ⟨(some 114), (some (113, true)), .mov (T 7)⟩,
    ⟨(some 115), (some (113, true)), .call (.func 14) [(T 114)]⟩,
    ⟨(some 116), (some (113, true)), .mov (T 8)⟩,
    ⟨(some 117), (some (113, true)), .load true 2 (T 19)⟩,
    ⟨(some 118), (some (113, true)), .call (.func 30) [(T 115), (T 116), (T 117)]⟩,
    ⟨(some 119), (some (113, true)), .mov (T 20)⟩,
    ⟨(some 120), (some (113, true)), .ibin .eql (T 118) (T 119)⟩,
    ⟨(some 121), none, .pick (T 113) (T 120) (.const (.bool false))⟩,
    ⟨(some 122), none, .mov (T 121)⟩,
    ⟨(some 123), (some (122, true)), .call (.func 18) []⟩,
    ⟨(some 124), none, .pick (T 122) (T 123) (.const (.bool false))⟩,
    ⟨(some 6), none, .mov (T 124)⟩] [])
  .ret)))))))))))))))
theorem f9 : fnC Try.prog 9 = some (c9, 125, [(.tmp 6)]) := by kernel_rfl

/-- dactylref11.Words -/
def c10 : CCode :=
  (.seq (.region [⟨(some 4), none, .mov (.const (.slice none 0 0))⟩])
  (.seq (.region [⟨(some 5), none, .mov (.const (.slice none 0 0))⟩])
  (.seq (.region [⟨(some 14), none, .mov (T 0)⟩,
    ⟨(some 15), none, .mov (T 1)⟩,
    ⟨(some 16), none, .ibin .add (T 15) (.const (.int .i64 1))⟩,
    ⟨(some 17), none, .call (.func 34) [(T 14), (.const (.int .i64 0)), (T 16)]⟩,
    ⟨(some 6), none, .mov (T 17)⟩])
  (.seq (.seq (.region [⟨(some 7), none, .mov (.const (.int .i64 0))⟩])
  (.block 0 (.loop
    (.seq (.seq (.region [⟨(some 18), none, .mov (T 7)⟩,
      ⟨(some 19), none, .mov (T 6)⟩,
      ⟨(some 20), none, .ibin .lss (T 18) (T 19)⟩])
    (.cond (T 20)
      .skip
      (.exit 0)))
    (.seq (.block 1 (.seq (.region [⟨(some 8), none, .alloc 47 (.agg [(.val (.slice none 0 0))])⟩])
    (.seq (.region [⟨(some 23), none, .mov (T 0)⟩,
      ⟨(some 24), none, .mov (T 7)⟩,
      ⟨(some 25), none, .ibin .mul (.const (.int .i64 4)) (T 24)⟩,
      ⟨(some 26), none, .ibin .add (.const (.int .i64 1)) (T 25)⟩,
      ⟨(some 27), none, .call (.func 34) [(T 23), (T 26), (.const (.int .i64 6))]⟩,
      ⟨(some 28), none, .ibin .quo (T 27) (.const (.int .i64 2))⟩,
      ⟨(some 29), none, .ibin .add (.const (.int .i64 1)) (T 28)⟩,
      ⟨(some 9), none, .mov (T 29)⟩])
    (.seq (.seq (.region [⟨(some 10), none, .mov (.const (.int .i64 0))⟩])
    (.block 2 (.loop
      (.seq (.seq (.region [⟨(some 30), none, .mov (T 10)⟩,
        ⟨(some 31), none, .mov (T 9)⟩,
        ⟨(some 32), none, .ibin .lss (T 30) (T 31)⟩])
      (.cond (T 32)
        .skip
        (.exit 2)))
      (.seq (.block 3 (.seq (.region [⟨(some 11), none, .mov (.const (.slice none 0 0))⟩])
      (.seq (.region [⟨(some 12), none, .mov (.const (.int .i64 0))⟩])
      (.seq (.seq (.region [⟨(some 35), none, .mov (T 10)⟩,
        ⟨(some 13), none, .mov (T 35)⟩])
      (.block 4 (.loop
        (.seq (.seq (.region [⟨(some 36), none, .mov (T 13)⟩,
          ⟨(some 37), none, .mov (T 9)⟩,
          ⟨(some 38), none, .ibin .lss (T 36) (T 37)⟩])
        (.cond (T 38)
          .skip
          (.exit 4)))
        (.seq (.block 5 (.seq (.region [⟨(some 41), none, .mov (T 12)⟩,
          ⟨(some 42), none, .ibin .add (T 41) (.const (.int .i64 1))⟩,
          ⟨(some 43), none, .mov (T 0)⟩,
          ⟨(some 44), none, .mov (T 7)⟩,
          ⟨(some 45), none, .ibin .mul (.const (.int .i64 4)) (T 44)⟩,
          ⟨(some 46), none, .ibin .add (.const (.int .i64 2)) (T 45)⟩,
          ⟨(some 47), none, .mov (T 13)⟩,
          ⟨(some 48), none, .ibin .add (T 46) (T 47)⟩,
          ⟨(some 49), none, .call (.func 34) [(T 43), (T 48), (.const (.int .i64 4))]⟩,
          ⟨(some 50), none, .ibin .add (T 42) (T 49)⟩,
          ⟨(some 12), none, .mov (T 50)⟩])
        (.seq (.seq (.region [⟨(some 51), none, .mov (T 0)⟩,
          ⟨(some 52), none, .mov (T 7)⟩,
          ⟨(some 53), none, .ibin .mul (.const (.int .i64 4)) (T 52)⟩,
          ⟨(some 54), none, .ibin .add (.const (.int .i64 3)) (T 53)⟩,
          ⟨(some 55), none, .call (.func 34) [(T 51), (T 54), (.const (.int .i64 7))]⟩,
          ⟨(some 56), none, .ibin .eql (T 55) (.const (.int .i64 0))⟩])
        (.cond (T 56)
          (.region [⟨(some 57), none, .mov (T 0)⟩,
            ⟨(some 58), none, .mov (T 7)⟩,
            ⟨(some 59), none, .ibin .mul (.const (.int .i64 4)) (T 58)⟩,
            ⟨(some 60), none, .ibin .add (.const (.int .i64 4)) (T 59)⟩,
            ⟨(some 61), none, .mov (T 13)⟩,
            ⟨(some 62), none, .ibin .add (T 60) (T 61)⟩,
            ⟨(some 63), none, .call (.func 34) [(T 57), (T 62), (.const (.int .i64 6))]⟩,
            ⟨(some 12), none, .mov (T 63)⟩])
          .skip))
        (.region [⟨(some 64), none, .mov (T 11)⟩,
          ⟨(some 65), none, .mov (T 12)⟩,
          ⟨(some 66), none, .bslice 3 1 [(T 65)]⟩,
          ⟨(some 67), none, .append 3 1 8 (T 64) (T 66)⟩,
          ⟨(some 11), none, .mov (T 67)⟩]))))
        (.region [⟨(some 39), none, .mov (T 13)⟩,
          ⟨(some 40), none, .ibin .add (T 39) (.const (.int .i64 1))⟩,
          ⟨(some 13), none, .mov (T 40)⟩]))))))
      (.region [⟨(some 68), none, .fieldAddr 0 (T 8)⟩,
        ⟨(some 69), none, .load false 1 (T 68)⟩,
        ⟨(some 70), none, .mov (T 11)⟩,
        ⟨(some 71), none, .bslice 22 1 [(T 70)]⟩,
        ⟨(some 72), none, .append 22 1 24 (T 69) (T 71)⟩,
        ⟨(some 73), none, .fieldAddr 0 (T 8)⟩,
        ⟨none, none, .store 1 (T 73) (T 72)⟩])))))
      (.region [⟨(some 33), none, .mov (T 10)⟩,
        ⟨(some 34), none, .ibin .add (T 33) (.const (.int .i64 1))⟩,
        ⟨(some 10), none, .mov (T 34)⟩]))))))
    (.region [⟨(some 74), none, .mov (T 5)⟩,
      ⟨(some 75), none, .load true 1 (T 8)⟩,
      ⟨(some 76), none, .bslice 47 1 [(T 75)]⟩,
      ⟨(some 77), none, .append 47 1 24 (T 74) (T 76)⟩,
      ⟨(some 5), none, .mov (T 77)⟩])))))
    (.region [⟨(some 21), none, .mov (T 7)⟩,
      ⟨(some 22), none, .ibin .add (T 21) (.const (.int .i64 1))⟩,
      ⟨(some 7), none, .mov (T 22)⟩]))))))
  (.seq (.region [⟨(some 78), none, .mov (T 5)⟩,
    ⟨(some 4), none, .mov (T 78)⟩])
  .ret)))))
theorem f10 : fnC Try.prog 10 = some (c10, 79, [(.tmp 4)]) := by kernel_rfl

/-- dactylref11.Spoilt -/
def c11 : CCode :=
  (.seq (.region [⟨(some 8), none, .mov (.const (.slice none 0 0))⟩])
  (.seq (.region [⟨(some 13), none, .bslice 47 1 []⟩,
    ⟨(some 14), none, .mov (T 0)⟩,
    ⟨(some 15), none, .append 47 1 24 (T 13) (T 14)⟩,
    ⟨(some 9), none, .mov (T 15)⟩])
  (.seq (.seq (.region [⟨(some 16), none, .mov (T 9)⟩,
    ⟨(some 17), none, .len (T 16)⟩,
    ⟨(some 18), none, .ibin .eql (T 17) (.const (.int .i64 0))⟩])
  (.cond (T 18)
    (.seq (.region [⟨(some 19), none, .mov (T 9)⟩,
      ⟨(some 20), none, .build [(.val (.slice none 0 0))] []⟩,
      ⟨(some 21), none, .bslice 47 1 [(T 20)]⟩,
      ⟨(some 22), none, .append 47 1 24 (T 19) (T 21)⟩,
      ⟨(some 8), none, .mov (T 22)⟩])
    .ret)
    .skip))
  (.seq (.region [⟨(some 23), none, .mov (T 1)⟩,
    ⟨(some 24), none, .mov (T 9)⟩,
    ⟨(some 25), none, .len (T 24)⟩,
    ⟨(some 26), none, .call (.func 19) [(T 23), (T 25)]⟩,
    ⟨(some 10), none, .mov (T 26)⟩])
  (.seq (.region [⟨(some 11), none, .mov (.const (.slice none 0 0))⟩])
  (.seq (.seq (.region [⟨(some 12), none, .mov (.const (.int .i64 0))⟩])
  (.block 0 (.loop
    (.seq (.seq (.region [⟨(some 27), none, .mov (T 12)⟩,
      ⟨(some 28), none, .mov (T 9)⟩,
      ⟨(some 29), none, .mov (T 10)⟩,
      ⟨(some 30), none, .idxS 1 (T 28) (T 29)⟩,
      ⟨(some 31), none, .fieldAddr 0 (T 30)⟩,
      ⟨(some 32), none, .load false 1 (T 31)⟩,
      ⟨(some 33), none, .len (T 32)⟩,
      ⟨(some 34), none, .ibin .lss (T 27) (T 33)⟩])
    (.cond (T 34)
      .skip
      (.exit 0)))
    (.seq (.block 1 (.region [⟨(some 37), none, .mov (T 11)⟩,
      ⟨(some 38), none, .bslice 3 1 []⟩,
      ⟨(some 39), none, .mov (T 9)⟩,
      ⟨(some 40), none, .mov (T 10)⟩,
      ⟨(some 41), none, .idxS 1 (T 39) (T 40)⟩,
      ⟨(some 42), none, .fieldAddr 0 (T 41)⟩,
      ⟨(some 43), none, .load false 1 (T 42)⟩,
      ⟨(some 44), none, .mov (T 12)⟩,
      ⟨(some 45), none, .idxS 1 (T 43) (T 44)⟩,
      ⟨(some 46), none, .load false 1 (T 45)⟩,
      ⟨(some 47), none, .append 3 1 8 (T 38) (T 46)⟩,
      ⟨(some 48), none, .bslice 22 1 [(T 47)]⟩,
      ⟨(some 49), none, .append 22 1 24 (T 37) (T 48)⟩,
      ⟨(some 11), none, .mov (T 49)⟩]))
    (.region [⟨(some 35), none, .mov (T 12)⟩,
      ⟨(some 36), none, .ibin .add (T 35) (.const (.int .i64 1))⟩,
      ⟨(some 12), none, .mov (T 36)⟩]))))))
  (.seq (.seq (.region [⟨(some 50), none, .mov (T 2)⟩,
    ⟨(some 51), none, .call (.func 19) [(T 50), (.const (.int .i64 4))]⟩])
  (.block 2 (.seq (.region [⟨(some 60), none, .ibin .eql (T 51) (.const (.int .i64 0))⟩,
    ⟨(some 59), none, .mov (T 60)⟩])
  (.cond (T 59)
    (.region [⟨(some 61), none, .mov (T 11)⟩,
      ⟨(some 62), none, .mov (T 11)⟩,
      ⟨(some 63), none, .len (T 62)⟩,
      ⟨(some 64), none, .ibin .sub (T 63) (.const (.int .i64 1))⟩,
      ⟨(some 65), none, .slice 1 (T 61) none (some (T 64))⟩,
      ⟨(some 11), none, .mov (T 65)⟩])
    (.seq (.region [⟨(some 67), none, .ibin .eql (T 51) (.const (.int .i64 1))⟩,
      ⟨(some 66), none, .mov (T 67)⟩])
    (.cond (T 66)
      (.region [⟨(some 68), none, .mov (T 11)⟩,
        ⟨(some 69), none, .mov (T 3)⟩,
        ⟨(some 70), none, .bslice 3 1 [(T 69)]⟩,
        ⟨(some 71), none, .bslice 22 1 [(T 70)]⟩,
        ⟨(some 72), none, .append 22 1 24 (T 68) (T 71)⟩,
        ⟨(some 11), none, .mov (T 72)⟩])
      (.seq (.region [⟨(some 74), none, .ibin .eql (T 51) (.const (.int .i64 2))⟩,
        ⟨(some 73), none, .mov (T 74)⟩])
      (.cond (T 73)
        (.drawn [⟨(some 75), none, .mov (T 11)⟩,
          ⟨(some 76), none, .idxS 1 (T 75) (.const (.int .i64 0))⟩,
          ⟨(some 77), none, .load false 1 (T 76)⟩,
          ⟨(some 78), none, .mov (T 3)⟩,
          ⟨(some 79), none, .bslice 3 1 [(.const (.int .i64 (-1))), (.const (.int .i64 4096)), (.const (.int .i64 4097)), (T 78)]⟩,
          ⟨(some 80), none, .mov (T 3)⟩,
          ⟨(some 81), none, .call (.func 19) [(T 80), (.const (.int .i64 4))]⟩,
          ⟨(some 82), none, .idxS 1 (T 79) (T 81)⟩,
          ⟨(some 83), none, .load false 1 (T 82)⟩,
          ⟨(some 84), none, .idxS 1 (T 77) (.const (.int .i64 0))⟩] [(⟨none, none, .store 1 (T 84) (T 83)⟩, [])])
        (.region [⟨(some 52), none, .mov (T 11)⟩,
          ⟨(some 53), none, .mov (T 11)⟩,
          ⟨(some 54), none, .idxS 1 (T 53) (.const (.int .i64 0))⟩,
          ⟨(some 55), none, .load false 1 (T 54)⟩,
          ⟨(some 56), none, .bslice 3 1 [(.const (.int .i64 1))]⟩,
          ⟨(some 57), none, .append 3 1 8 (T 55) (T 56)⟩,
          ⟨(some 58), none, .idxS 1 (T 52) (.const (.int .i64 0))⟩,
          ⟨none, none, .store 1 (T 58) (T 57)⟩])))))))))
  (.seq (.region [⟨(some 85), none, .mov (T 9)⟩,
    ⟨(some 86), none, .mov (T 10)⟩,
    ⟨(some 87), none, .mov (T 11)⟩,
    ⟨(some 88), none, .idxS 1 (T 85) (T 86)⟩,
    ⟨(some 89), none, .fieldAddr 0 (T 88)⟩,
    ⟨none, none, .store 1 (T 89) (T 87)⟩])
  (.seq (.region [⟨(some 90), none, .mov (T 9)⟩,
    ⟨(some 8), none, .mov (T 90)⟩])
  .ret)))))))))
theorem f11 : fnC Try.prog 11 = some (c11, 91, [(.tmp 8)]) := by kernel_rfl

/-- dactyllaw11.widths -/
def c12 : CCode :=
  (.seq (.region [⟨(some 2), none, .mov (.const (.slice none 0 0))⟩])
  (.seq (.region [⟨(some 3), none, .mov (T 0)⟩,
    ⟨(some 4), none, .call (.func 19) [(T 3), (.const (.int .i64 20))]⟩,
    ⟨(some 5), none, .ibin .add (.const (.int .i64 1)) (T 4)⟩,
    ⟨(some 6), none, .bslice 3 1 [(.const (.int .i64 0)), (.const (.int .i64 513)), (.const (.int .i64 512)), (.const (.int .i64 1)), (.const (.int .i64 (-1)))]⟩,
    ⟨(some 7), none, .mov (T 0)⟩,
    ⟨(some 8), none, .call (.func 19) [(T 7), (.const (.int .i64 5))]⟩,
    ⟨(some 9), none, .idxS 1 (T 6) (T 8)⟩,
    ⟨(some 10), none, .load false 1 (T 9)⟩,
    ⟨(some 11), none, .bslice 3 1 [(T 5), (T 10)]⟩,
    ⟨(some 2), none, .mov (T 11)⟩])
  .ret))
theorem f12 : fnC Try.prog 12 = some (c12, 12, [(.tmp 2)]) := by kernel_rfl

/-- dactyllaw11.words -/
def c14 : CCode :=
  (.seq (.region [⟨(some 2), none, .mov (.const (.slice none 0 0))⟩])
  (.seq (.region [⟨(some 3), none, .mov (.const (.slice none 0 0))⟩])
  (.seq (.seq (.region [⟨(some 4), none, .mov (.const (.int .i64 0))⟩])
  (.block 0 (.loop
    (.seq (.seq (.region [⟨(some 5), none, .mov (T 4)⟩,
      ⟨(some 6), none, .mov (T 0)⟩,
      ⟨(some 7), none, .len (T 6)⟩,
      ⟨(some 8), none, .ibin .lss (T 5) (T 7)⟩])
    (.cond (T 8)
      .skip
      (.exit 0)))
    (.seq (.block 1 (.region [⟨(some 11), none, .mov (T 3)⟩,
      ⟨(some 12), none, .mov (T 0)⟩,
      ⟨(some 13), none, .mov (T 4)⟩,
      ⟨(some 14), none, .idxS 1 (T 12) (T 13)⟩,
      ⟨(some 15), none, .fieldAddr 0 (T 14)⟩,
      ⟨(some 16), none, .load false 1 (T 15)⟩,
      ⟨(some 17), none, .build [(.val (.slice none 0 0))] [(0, (1, (T 16)))]⟩,
      ⟨(some 18), none, .bslice 42 1 [(T 17)]⟩,
      ⟨(some 19), none, .append 42 1 24 (T 11) (T 18)⟩,
      ⟨(some 3), none, .mov (T 19)⟩]))
    (.region [⟨(some 9), none, .mov (T 4)⟩,
      ⟨(some 10), none, .ibin .add (T 9) (.const (.int .i64 1))⟩,
      ⟨(some 4), none, .mov (T 10)⟩]))))))
  (.seq (.region [⟨(some 20), none, .mov (T 3)⟩,
    ⟨(some 2), none, .mov (T 20)⟩])
  .ret))))
theorem f14 : fnC Try.prog 14 = some (c14, 21, [(.tmp 2)]) := by kernel_rfl

/-- dactylref11.Fill -/
def c15 : CCode :=
  (.seq (.region [⟨(some 4), none, .alloc 36 (.agg [(.val (.slice none 0 0)), (.val (.slice none 0 0))])⟩,
    ⟨(some 5), none, .mov (.const (.int .i64 0))⟩])
  (.seq (.seq (.region [⟨(some 8), none, .mov (T 0)⟩,
    ⟨(some 9), none, .mov (T 1)⟩,
    ⟨(some 10), none, .call (.func 42) [(T 8), (T 9)]⟩,
    ⟨(some 11), none, .lnot (T 10)⟩])
  (.cond (T 11)
    (.seq (.region [⟨(some 12), none, .build [(.val (.slice none 0 0)), (.val (.slice none 0 0))] []⟩,
      ⟨none, none, .store 2 (T 4) (T 12)⟩,
      ⟨(some 5), none, .mov (.const (.int .i64 1))⟩])
    .ret)
    .skip))
  (.seq (.region [⟨(some 13), none, .mov (T 0)⟩,
    ⟨(some 14), none, .mov (T 1)⟩,
    ⟨(some 15), none, .call (.func 43) [(T 13), (T 14)]⟩,
    ⟨(some 16), none, .build [(.val (.slice none 0 0)), (.val (.slice none 0 0))] [(1, (1, (T 15)))]⟩,
    ⟨(some 6), none, .alloc 36 (.agg [(.val (.slice none 0 0)), (.val (.slice none 0 0))])⟩,
    ⟨none, none, .store 2 (T 6) (T 16)⟩])
  (.seq (.seq (.region [⟨(some 17), none, .mov (T 0)⟩,
    ⟨(some 18), none, .len (T 17)⟩,
    ⟨(some 19), none, .ibin .gtr (T 18) (.const (.int .i64 0))⟩,
    ⟨(some 20), none, .mov (T 19)⟩,
    ⟨(some 21), (some (20, true)), .fieldAddr 1 (T 6)⟩,
    ⟨(some 22), (some (20, true)), .load false 1 (T 21)⟩,
    ⟨(some 23), (some (20, true)), .idxS 1 (T 22) (.const (.int .i64 0))⟩,
    ⟨(some 24), (some (20, true)), .load false 1 (T 23)⟩,
    ⟨(some 25), (some (20, true)), .idxS 1 (T 24) (.const (.int .i64 0))⟩,
    ⟨(some 26), (some (20, true)), .load false 1 (T 25)⟩,
    ⟨(some 27), (some (20, true)), .ibin .lss (T 26) (.const (.int .i64 0))⟩,
    ⟨(some 28), none, .pick (T 20) (T 27) (.const (.bool false))⟩])
  (.cond (T 28)
    (.seq (.region [⟨(some 29), none, .build [(.val (.slice none 0 0)), (.val (.slice none 0 0))] []⟩,
      ⟨none, none, .store 2 (T 4) (T 29)⟩,
      ⟨(some 5), none, .mov (.const (.int .i64 14))⟩])
    .ret)
    .skip))
  (.seq (.region [⟨(some 30), none, .build [(.val (.int .i64 0)), (.val (.int .i64 0))] []⟩,
    ⟨(some 7), none, .alloc 64 (.agg [(.val (.int .i64 0)), (.val (.int .i64 0))])⟩,
    ⟨none, none, .store 2 (T 7) (T 30)⟩])
  (.seq (.block 0 (.loop
    (.seq (.seq (.region [⟨(some 31), none, .load true 2 (T 7)⟩,
      ⟨(some 32), none, .mov (T 0)⟩,
      ⟨(some 33), none, .len (T 32)⟩,
      ⟨(some 34), none, .build [(.val (.int .i64 0)), (.val (.int .i64 0))] [(0, (1, (T 33))), (1, (1, (.const (.int .i64 0))))]⟩,
      ⟨(some 35), none, .aeq true 2 (T 31) (T 34)⟩])
    (.cond (T 35)
      .skip
      (.exit 0)))
    (.block 1 (.seq (.region [⟨(some 37), none, .mov (T 0)⟩,
      ⟨(some 38), none, .mov (T 1)⟩,
      ⟨(some 39), none, .fieldAddr 1 (T 6)⟩,
      ⟨(some 40), none, .load false 1 (T 39)⟩,
      ⟨(some 41), none, .load true 2 (T 7)⟩,
      ⟨(some 42), none, .call (.func 44) [(T 37), (T 38), (T 40), (T 41)]⟩,
      ⟨(some 36), none, .mov (T 42)⟩,
      ⟨(some 43), none, .extract (T 36) 0⟩,
      ⟨(some 44), none, .extract (T 36) 1⟩,
      ⟨none, none, .store 2 (T 7) (T 44)⟩])
    (.region [⟨(some 45), none, .fieldAddr 0 (T 6)⟩,
      ⟨(some 46), none, .load false 1 (T 45)⟩,
      ⟨(some 47), none, .load true 2 (T 7)⟩,
      ⟨(some 48), none, .bslice 64 2 [(T 47)]⟩,
      ⟨(some 49), none, .append 64 2 16 (T 46) (T 48)⟩,
      ⟨(some 50), none, .fieldAddr 0 (T 6)⟩,
      ⟨none, none, .store 1 (T 50) (T 49)⟩]))))))
  (.seq (.region [⟨(some 51), none, .load true 2 (T 6)⟩,
    ⟨none, none, .store 2 (T 4) (T 51)⟩,
    ⟨(some 5), none, .mov (.const (.int .i64 0))⟩])
  .ret)))))))
theorem f15 : fnC Try.prog 15 = some (c15, 52, [(.cell 4 true 2), (.tmp 5)]) := by kernel_rfl

/-- dactylref11.SameEnds -/
def c16 : CCode :=
  (.seq (.region [⟨(some 4), none, .mov (.const (.bool false))⟩])
  (.seq (.seq (.region [⟨(some 6), none, .mov (T 0)⟩,
    ⟨(some 7), none, .len (T 6)⟩,
    ⟨(some 8), none, .mov (T 1)⟩,
    ⟨(some 9), none, .len (T 8)⟩,
    ⟨(some 10), none, .ibin .neq (T 7) (T 9)⟩])
  (.cond (T 10)
    (.seq (.region [⟨(some 4), none, .mov (.const (.bool false))⟩])
    .ret)
    .skip))
  (.seq (.seq (.region [⟨(some 5), none, .mov (.const (.int .i64 0))⟩])
  (.block 0 (.loop
    (.seq (.seq (.region [⟨(some 11), none, .mov (T 5)⟩,
      ⟨(some 12), none, .mov (T 0)⟩,
      ⟨(some 13), none, .len (T 12)⟩,
      ⟨(some 14), none, .ibin .lss (T 11) (T 13)⟩])
    (.cond (T 14)
      .skip
      (.exit 0)))
    (.seq (.block 1 (.seq (.drawn [⟨(some 17), none, .mov (T 0)⟩,
      ⟨(some 18), none, .mov (T 5)⟩,
      ⟨(some 19), none, .idxS 2 (T 17) (T 18)⟩,
      ⟨(some 20), none, .load true 2 (T 19)⟩,
      ⟨(some 21), none, .mov (T 1)⟩,
      ⟨(some 22), none, .mov (T 5)⟩,
      ⟨(some 23), none, .idxS 2 (T 21) (T 22)⟩,
      ⟨(some 24), none, .load true 2 (T 23)⟩,
      ⟨(some 25), none, .aeq true 2 (T 20) (T 24)⟩] [])
    (.cond (T 25)
      (.seq (.region [⟨(some 4), none, .mov (.const (.bool false))⟩])
      .ret)
      .skip)))
    (.region [⟨(some 15), none, .mov (T 5)⟩,
      ⟨(some 16), none, .ibin .add (T 15) (.const (.int .i64 1))⟩,
      ⟨(some 5), none, .mov (T 16)⟩]))))))
  (.seq (.region [⟨(some 4), none, .mov (.const (.bool true))⟩])
  .ret))))
theorem f16 : fnC Try.prog 16 = some (c16, 26, [(.tmp 4)]) := by kernel_rfl

/-- dactylref11.Same -/
def c17 : CCode :=
  (.seq (.region [⟨(some 4), none, .mov (.const (.bool false))⟩])
  (.seq (.seq (.region [⟨(some 6), none, .mov (T 0)⟩,
    ⟨(some 7), none, .len (T 6)⟩,
    ⟨(some 8), none, .mov (T 1)⟩,
    ⟨(some 9), none, .len (T 8)⟩,
    ⟨(some 10), none, .ibin .neq (T 7) (T 9)⟩])
  (.cond (T 10)
    (.seq (.region [⟨(some 4), none, .mov (.const (.bool false))⟩])
    .ret)
    .skip))
  (.seq (.seq (.region [⟨(some 5), none, .mov (.const (.int .i64 0))⟩])
  (.block 0 (.loop
    (.seq (.seq (.region [⟨(some 11), none, .mov (T 5)⟩,
      ⟨(some 12), none, .mov (T 0)⟩,
      ⟨(some 13), none, .len (T 12)⟩,
      ⟨(some 14), none, .ibin .lss (T 11) (T 13)⟩])
    (.cond (T 14)
      .skip
      (.exit 0)))
    (.seq (.block 1 (.seq (.drawn [⟨(some 17), none, .mov (T 0)⟩,
      ⟨(some 18), none, .mov (T 5)⟩,
      ⟨(some 19), none, .idxS 1 (T 17) (T 18)⟩,
      ⟨(some 20), none, .load false 1 (T 19)⟩,
      ⟨(some 21), none, .mov (T 1)⟩,
      ⟨(some 22), none, .mov (T 5)⟩,
      ⟨(some 23), none, .idxS 1 (T 21) (T 22)⟩,
      ⟨(some 24), none, .load false 1 (T 23)⟩,
      ⟨(some 25), none, .call (.func 25) [(T 20), (T 24)]⟩,
      ⟨(some 26), none, .lnot (T 25)⟩] [])
    (.cond (T 26)
      (.seq (.region [⟨(some 4), none, .mov (.const (.bool false))⟩])
      .ret)
      .skip)))
    (.region [⟨(some 15), none, .mov (T 5)⟩,
      ⟨(some 16), none, .ibin .add (T 15) (.const (.int .i64 1))⟩,
      ⟨(some 5), none, .mov (T 16)⟩]))))))
  (.seq (.region [⟨(some 4), none, .mov (.const (.bool true))⟩])
  .ret))))
theorem f17 : fnC Try.prog 17 = some (c17, 27, [(.tmp 4)]) := by kernel_rfl

/-- dactyllaw11.lives -/
def c18 : CCode :=
  (.seq (.region [⟨(some 0), none, .mov (.const (.bool false))⟩])
  (.seq (.region [⟨(some 8), none, .bslice 3 1 [(.const (.int .i64 3)), (.const (.int .i64 2)), (.const (.int .i64 5))]⟩,
    ⟨(some 9), none, .call (.func 21) [(T 8)]⟩,
    ⟨(some 1), none, .mov (T 9)⟩])
  (.seq (.region [⟨(some 11), none, .mov (T 1)⟩,
    ⟨(some 12), none, .call (.func 13) [(T 11), (.const (.int .i64 6))]⟩,
    ⟨(some 10), none, .mov (T 12)⟩,
    ⟨(some 13), none, .extract (T 10) 0⟩,
    ⟨(some 14), none, .extract (T 10) 1⟩,
    ⟨(some 2), none, .alloc 30 (.agg [(.val (.slice none 0 0)), (.val (.slice none 0 0))])⟩,
    ⟨none, none, .store 2 (T 2) (T 13)⟩,
    ⟨(some 3), none, .mov (T 14)⟩])
  (.seq (.region [⟨(some 16), none, .mov (T 1)⟩,
    ⟨(some 17), none, .call (.func 13) [(T 16), (.const (.int .i64 5))]⟩,
    ⟨(some 15), none, .mov (T 17)⟩,
    ⟨(some 18), none, .extract (T 15) 0⟩,
    ⟨(some 19), none, .extract (T 15) 1⟩,
    ⟨(some 4), none, .alloc 30 (.agg [(.val (.slice none 0 0)), (.val (.slice none 0 0))])⟩,
    ⟨none, none, .store 2 (T 4) (T 18)⟩,
    ⟨(some 5), none, .mov (T 19)⟩])
  (.seq (.region [⟨(some 21), none, .bslice 3 1 [(.const (.int .i64 4)), (.const (.int .i64 7))]⟩,
    ⟨(some 22), none, .bslice 3 1 [(.const (.int .i64 3))]⟩,
    ⟨(some 23), none, .bslice 22 1 [(T 21), (T 22)]⟩,
    ⟨(some 24), none, .build [(.val (.slice none 0 0))] [(0, (1, (T 23)))]⟩,
    ⟨(some 25), none, .bslice 42 1 [(T 24)]⟩,
    ⟨(some 26), none, .call (.func 13) [(T 25), (.const (.int .i64 5))]⟩,
    ⟨(some 20), none, .mov (T 26)⟩,
    ⟨(some 27), none, .extract (T 20) 0⟩,
    ⟨(some 28), none, .extract (T 20) 1⟩,
    ⟨(some 6), none, .alloc 30 (.agg [(.val (.slice none 0 0)), (.val (.slice none 0 0))])⟩,
    ⟨none, none, .store 2 (T 6) (T 27)⟩,
    ⟨(some 7), none, .mov (T 28)⟩])
  (.seq (.seq (.region [⟨(some 29), none, .mov (T 3)⟩,
    ⟨(some 30), none, .ibin .neq (T 29) (.const (.int .i64 0))⟩,
    ⟨(some 31), none, .mov (T 30)⟩,
    ⟨(some 32), (some (31, false)), .mov (T 5)⟩,
    ⟨(some 33), (some (31, false)), .ibin .neq (T 32) (.const (.int .i64 0))⟩,
    ⟨(some 34), none, .pick (T 31) (.const (.bool true)) (T 33)⟩,
    ⟨(some 35), none, .mov (T 34)⟩,
    ⟨(some 36), (some (35, false)), .mov (T 7)⟩,
    ⟨(some 37), (some (35, false)), .ibin .neq (T 36) (.const (.int .i64 0))⟩,
    ⟨(some 38), none, .pick (T 35) (.const (.bool true)) (T 37)⟩,
    ⟨(some 39), none, .mov (T 38)⟩,
    ⟨(some 40), (some (39, false)), .fieldAddr 0 (T 2)⟩,
    ⟨(some 41), (some (39, false)), .load false 1 (T 40)⟩,
    ⟨(some 42), (some (39, false)), .len (T 41)⟩,
    ⟨(some 43), (some (39, false)), .ibin .neq (T 42) (.const (.int .i64 2))⟩,
    ⟨(some 44), none, .pick (T 39) (.const (.bool true)) (T 43)⟩,
    ⟨(some 45), none, .mov (T 44)⟩,
    ⟨(some 46), (some (45, false)), .fieldAddr 0 (T 4)⟩,
    ⟨(some 47), (some (45, false)), .load false 1 (T 46)⟩,
    ⟨(some 48), (some (45, false)), .len (T 47)⟩,
    ⟨(some 49), (some (45, false)), .ibin .neq (T 48) (.const (.int .i64 3))⟩,
    ⟨(some 50), none, .pick (T 45) (.const (.bool true)) (T 49)⟩,
    ⟨(some 51), none, .mov (T 50)⟩,
    ⟨(some 52), (some (51, false)), .fieldAddr 0 (T 6)⟩,
    ⟨(some 53), (some (51, false)), .load false 1 (T 52)⟩,
    ⟨(some 54), (some (51, false)), .len (T 53)⟩,
    ⟨(some 55), (some (51, false)), .ibin .neq (T 54) (.const (.int .i64 2))⟩,
    ⟨(some 56), none, .pick (T 51) (.const (.bool true)) (T 55)⟩,
    ⟨(some 57), none, .mov (T 56)⟩,
    ⟨(some 58), (some (57, false)), .fieldAddr 1 (T 4)⟩,
    ⟨(some 59), (some (57, false)), .load false 1 (T 58)⟩,
    ⟨(some 60), (some (57, false)), .len (T 59)⟩,
    ⟨(some 61), (some (57, false)), .ibin .neq (T 60) (.const (.int .i64 3))⟩,
    ⟨(some 62), none, .pick (T 57) (.const (.bool true)) (T 61)⟩,
    ⟨(some 63), none, .mov (T 62)⟩,
    ⟨(some 64), (some (63, false)), .fieldAddr 1 (T 4)⟩,
    ⟨(some 65), (some (63, false)), .load false 1 (T 64)⟩,
    ⟨(some 66), (some (63, false)), .idxS 1 (T 65) (.const (.int .i64 0))⟩,
    ⟨(some 67), (some (63, false)), .load false 1 (T 66)⟩,
    ⟨(some 68), (some (63, false)), .len (T 67)⟩,
    ⟨(some 69), (some (63, false)), .ibin .neq (T 68) (.const (.int .i64 1))⟩,
    ⟨(some 70), none, .pick (T 63) (.const (.bool true)) (T 69)⟩])
  (.cond (T 70)
    (.seq (.region [⟨(some 0), none, .mov (.const (.bool false))⟩])
    .ret)
    .skip))
  (.seq (.region [⟨(some 71), none, .fieldAddr 0 (T 2)⟩,
    ⟨(some 72), none, .load false 1 (T 71)⟩,
    ⟨(some 73), none, .idxS 2 (T 72) (.const (.int .i64 0))⟩,
    ⟨(some 74), none, .load true 2 (T 73)⟩,
    ⟨(some 75), none, .build [(.val (.int .i64 0)), (.val (.int .i64 0))] [(0, (1, (.const (.int .i64 2)))), (1, (1, (.const (.int .i64 0))))]⟩,
    ⟨(some 76), none, .aeq false 2 (T 74) (T 75)⟩,
    ⟨(some 77), none, .mov (T 76)⟩,
    ⟨(some 78), (some (77, true)), .fieldAddr 0 (T 2)⟩,
    ⟨(some 79), (some (77, true)), .load false 1 (T 78)⟩,
    ⟨(some 80), (some (77, true)), .idxS 2 (T 79) (.const (.int .i64 1))⟩,
    ⟨(some 81), (some (77, true)), .load true 2 (T 80)⟩,
    ⟨(some 82), (some (77, true)), .build [(.val (.int .i64 0)), (.val (.int .i64 0))] [(0, (1, (.const (.int .i64 3)))), (1, (1, (.const (.int .i64 0))))]⟩,
    ⟨(some 83), (some (77, true)), .aeq false 2 (T 81) (T 82)⟩,
    ⟨(some 84), none, .pick (T 77) (T 83) (.const (.bool false))⟩,
    ⟨(some 85), none, .mov (T 84)⟩,
    ⟨(some 86), (some (85, true)), .fieldAddr 1 (T 4)⟩,
    ⟨(some 87), (some (85, true)), .load false 1 (T 86)⟩,
    ⟨(some 88), (some (85, true)), .idxS 1 (T 87) (.const (.int .i64 0))⟩,
    ⟨(some 89), (some (85, true)), .load false 1 (T 88)⟩,
    ⟨(some 90), (some (85, true)), .idxS 1 (T 89) (.const (.int .i64 0))⟩,
    ⟨(some 91), (some (85, true)), .load false 1 (T 90)⟩,
    ⟨(some 92), (some (85, true)), .ibin .eql (T 91) (.const (.int .i64 12884901901))⟩,
    ⟨(some 93), none, .pick (T 85) (T 92) (.const (.bool false))⟩,
    ⟨(some 94), none, .mov (T 93)⟩,
    ⟨(some 95), (some (94, true)), .fieldAddr 0 (T 6)⟩,
    ⟨(some 96), (some (94, true)), .load false 1 (T 95)⟩,
    ⟨(some 97), (some (94, true)), .idxS 2 (T 96) (.const (.int .i64 0))⟩,
    ⟨(some 98), (some (94, true)), .load true 2 (T 97)⟩,
    ⟨(some 99), (some (94, true)), .build [(.val (.int .i64 0)), (.val (.int .i64 0))] [(0, (1, (.const (.int .i64 0)))), (1, (1, (.const (.int .i64 1))))]⟩,
    ⟨(some 100), (some (94, true)), .aeq false 2 (T 98) (T 99)⟩,
    ⟨(some 101), none, .pick (T 94) (T 100) (.const (.bool false))⟩,
    ⟨(some 102), none, .mov (T 101)⟩,
    ⟨(some 103), (some (102, true)), .fieldAddr 0 (T 6)⟩,
    ⟨(some 104), (some (102, true)), .load false 1 (T 103)⟩,
    ⟨(some 105), (some (102, true)), .idxS 2 (T 104) (.const (.int .i64 1))⟩,
    ⟨(some 106), (some (102, true)), .load true 2 (T 105)⟩,
    ⟨(some 107), (some (102, true)), .build [(.val (.int .i64 0)), (.val (.int .i64 0))] [(0, (1, (.const (.int .i64 1)))), (1, (1, (.const (.int .i64 0))))]⟩,
    ⟨(some 108), (some (102, true)), .aeq false 2 (T 106) (T 107)⟩,
    ⟨(some 109), none, .pick (T 102) (T 108) (.const (.bool false))⟩,
    ⟨(some 0), none, .mov (T 109)⟩])
  .ret)))))))
theorem f18 : fnC Try.prog 18 = some (c18, 110, [(.tmp 0)]) := by kernel_rfl

/-- dactylref01.Around -/
def c19 : CCode :=
  (.seq (.region [⟨(some 4), none, .mov (.const (.int .i64 0))⟩])
  (.seq (.seq (.region [⟨(some 5), none, .mov (T 0)⟩,
    ⟨(some 6), none, .ibin .lss (T 5) (.const (.int .i64 0))⟩])
  (.cond (T 6)
    (.region [⟨(some 7), none, .mov (T 0)⟩,
      ⟨(some 8), none, .ibin .add (T 7) (.const (.int .i64 1))⟩,
      ⟨(some 9), none, .neg (T 8)⟩,
      ⟨(some 0), none, .mov (T 9)⟩])
    .skip))
  (.seq (.seq (.region [⟨(some 10), none, .mov (T 1)⟩,
    ⟨(some 11), none, .ibin .lss (T 10) (.const (.int .i64 1))⟩])
  (.cond (T 11)
    (.seq (.region [⟨(some 4), none, .mov (.const (.int .i64 0))⟩])
    .ret)
    .skip))
  (.seq (.region [⟨(some 12), none, .mov (T 0)⟩,
    ⟨(some 13), none, .mov (T 1)⟩,
    ⟨(some 14), none, .ibin .rem (T 12) (T 13)⟩,
    ⟨(some 4), none, .mov (T 14)⟩])
  .ret))))
theorem f19 : fnC Try.prog 19 = some (c19, 15, [(.tmp 4)]) := by kernel_rfl

/-- dactylref11.Merged -/
def c20 : CCode :=
  (.seq (.region [⟨(some 2), none, .box 47 (T 0)⟩,
    ⟨(some 4), none, .alloc 47 (.agg [(.val (.slice none 0 0))])⟩])
  (.seq (.region [⟨(some 11), none, .fieldAddr 0 (T 2)⟩,
    ⟨(some 12), none, .load false 1 (T 11)⟩,
    ⟨(some 13), none, .len (T 12)⟩,
    ⟨(some 5), none, .mov (T 13)⟩])
  (.seq (.seq (.region [⟨(some 14), none, .mov (T 5)⟩,
    ⟨(some 15), none, .ibin .lss (T 14) (.const (.int .i64 2))⟩])
  (.cond (T 15)
    (.seq (.region [⟨(some 16), none, .load true 1 (T 2)⟩,
      ⟨none, none, .store 1 (T 4) (T 16)⟩])
    .ret)
    .skip))
  (.seq (.region [⟨(some 17), none, .mov (T 1)⟩,
    ⟨(some 18), none, .mov (T 5)⟩,
    ⟨(some 19), none, .ibin .sub (T 18) (.const (.int .i64 1))⟩,
    ⟨(some 20), none, .call (.func 19) [(T 17), (T 19)]⟩,
    ⟨(some 21), none, .ibin .add (.const (.int .i64 1)) (T 20)⟩,
    ⟨(some 6), none, .mov (T 21)⟩])
  (.seq (.region [⟨(some 7), none, .alloc 47 (.agg [(.val (.slice none 0 0))])⟩])
  (.seq (.seq (.region [⟨(some 8), none, .mov (.const (.int .i64 0))⟩])
  (.block 0 (.loop
    (.seq (.seq (.region [⟨(some 22), none, .mov (T 8)⟩,
      ⟨(some 23), none, .mov (T 5)⟩,
      ⟨(some 24), none, .ibin .lss (T 22) (T 23)⟩])
    (.cond (T 24)
      .skip
      (.exit 0)))
    (.seq (.block 1 (.seq (.seq (.region [⟨(some 27), none, .mov (T 8)⟩,
      ⟨(some 28), none, .mov (T 6)⟩,
      ⟨(some 29), none, .ibin .eql (T 27) (T 28)⟩])
    (.cond (T 29)
      (.exit 1)
      .skip))
    (.seq (.region [⟨(some 9), none, .mov (.const (.slice none 0 0))⟩])
    (.seq (.seq (.region [⟨(some 30), none, .mov (T 8)⟩,
      ⟨(some 10), none, .mov (T 30)⟩])
    (.block 2 (.loop
      (.seq (.seq (.region [⟨(some 31), none, .mov (T 10)⟩,
        ⟨(some 32), none, .mov (T 5)⟩,
        ⟨(some 33), none, .ibin .lss (T 31) (T 32)⟩])
      (.cond (T 33)
        .skip
        (.exit 2)))
      (.seq (.block 3 (.seq (.region [⟨(some 36), none, .mov (T 10)⟩,
        ⟨(some 37), none, .ibin .add (T 36) (.const (.int .i64 1))⟩,
        ⟨(some 38), none, .mov (T 6)⟩,
        ⟨(some 39), none, .ibin .neq (T 37) (T 38)⟩])
      (.cond (T 39)
        (.region [⟨(some 40), none, .mov (T 9)⟩,
          ⟨(some 41), none, .fieldAddr 0 (T 2)⟩,
          ⟨(some 42), none, .load false 1 (T 41)⟩,
          ⟨(some 43), none, .mov (T 8)⟩,
          ⟨(some 44), none, .idxS 1 (T 42) (T 43)⟩,
          ⟨(some 45), none, .load false 1 (T 44)⟩,
          ⟨(some 46), none, .mov (T 10)⟩,
          ⟨(some 47), none, .mov (T 8)⟩,
          ⟨(some 48), none, .ibin .sub (T 46) (T 47)⟩,
          ⟨(some 49), none, .idxS 1 (T 45) (T 48)⟩,
          ⟨(some 50), none, .load false 1 (T 49)⟩,
          ⟨(some 51), none, .bslice 3 1 [(T 50)]⟩,
          ⟨(some 52), none, .append 3 1 8 (T 40) (T 51)⟩,
          ⟨(some 9), none, .mov (T 52)⟩])
        .skip)))
      (.region [⟨(some 34), none, .mov (T 10)⟩,
        ⟨(some 35), none, .ibin .add (T 34) (.const (.int .i64 1))⟩,
        ⟨(some 10), none, .mov (T 35)⟩]))))))
    (.region [⟨(some 53), none, .fieldAddr 0 (T 7)⟩,
      ⟨(some 54), none, .load false 1 (T 53)⟩,
      ⟨(some 55), none, .mov (T 9)⟩,
      ⟨(some 56), none, .bslice 22 1 [(T 55)]⟩,
      ⟨(some 57), none, .append 22 1 24 (T 54) (T 56)⟩,
      ⟨(some 58), none, .fieldAddr 0 (T 7)⟩,
      ⟨none, none, .store 1 (T 58) (T 57)⟩])))))
    (.region [⟨(some 25), none, .mov (T 8)⟩,
      ⟨(some 26), none, .ibin .add (T 25) (.const (.int .i64 1))⟩,
      ⟨(some 8), none, .mov (T 26)⟩]))))))
  (.seq (.region [⟨(some 59), none, .load true 1 (T 7)⟩,
    ⟨none, none, .store 1 (T 4) (T 59)⟩])
  .ret)))))))
theorem f20 : fnC Try.prog 20 = some (c20, 60, [(.cell 4 true 1)]) := by kernel_rfl

/-- dactyllaw11.simple -/
def c21 : CCode :=
  (.seq (.region [⟨(some 2), none, .mov (.const (.slice none 0 0))⟩])
  (.seq (.region [⟨(some 3), none, .mov (.const (.slice none 0 0))⟩])
  (.seq (.seq (.region [⟨(some 4), none, .mov (.const (.int .i64 0))⟩])
  (.block 0 (.loop
    (.seq (.seq (.region [⟨(some 5), none, .mov (T 4)⟩,
      ⟨(some 6), none, .mov (T 0)⟩,
      ⟨(some 7), none, .len (T 6)⟩,
      ⟨(some 8), none, .ibin .lss (T 5) (T 7)⟩])
    (.cond (T 8)
      .skip
      (.exit 0)))
    (.seq (.block 1 (.region [⟨(some 11), none, .mov (T 3)⟩,
      ⟨(some 12), none, .mov (T 0)⟩,
      ⟨(some 13), none, .mov (T 4)⟩,
      ⟨(some 14), none, .idxS 1 (T 12) (T 13)⟩,
      ⟨(some 15), none, .load false 1 (T 14)⟩,
      ⟨(some 16), none, .bslice 3 1 [(T 15)]⟩,
      ⟨(some 17), none, .bslice 22 1 [(T 16)]⟩,
      ⟨(some 18), none, .build [(.val (.slice none 0 0))] [(0, (1, (T 17)))]⟩,
      ⟨(some 19), none, .bslice 42 1 [(T 18)]⟩,
      ⟨(some 20), none, .append 42 1 24 (T 11) (T 19)⟩,
      ⟨(some 3), none, .mov (T 20)⟩]))
    (.region [⟨(some 9), none, .mov (T 4)⟩,
      ⟨(some 10), none, .ibin .add (T 9) (.const (.int .i64 1))⟩,
      ⟨(some 4), none, .mov (T 10)⟩]))))))
  (.seq (.region [⟨(some 21), none, .mov (T 3)⟩,
    ⟨(some 2), none, .mov (T 21)⟩])
  .ret))))
theorem f21 : fnC Try.prog 21 = some (c21, 22, [(.tmp 2)]) := by kernel_rfl

/-- dactylref11.Keep -/
def c22 : CCode :=
  (.seq (.region [⟨(some 4), none, .mov (.const (.slice none 0 0))⟩])
  (.seq (.region [⟨(some 5), none, .mov (.const (.slice none 0 0))⟩])
  (.seq (.seq (.region [⟨(some 6), none, .mov (.const (.int .i64 0))⟩])
  (.block 0 (.loop
    (.seq (.seq (.region [⟨(some 7), none, .mov (T 6)⟩,
      ⟨(some 8), none, .mov (T 0)⟩,
      ⟨(some 9), none, .mov (T 1)⟩,
      ⟨(some 10), none, .ibin .add (T 9) (.const (.int .i64 1))⟩,
      ⟨(some 11), none, .call (.func 34) [(T 8), (.const (.int .i64 0)), (T 10)]⟩,
      ⟨(some 12), none, .ibin .lss (T 7) (T 11)⟩])
    (.cond (T 12)
      .skip
      (.exit 0)))
    (.seq (.block 1 (.region [⟨(some 15), none, .mov (T 5)⟩,
      ⟨(some 16), none, .mov (T 0)⟩,
      ⟨(some 17), none, .mov (T 6)⟩,
      ⟨(some 18), none, .ibin .add (.const (.int .i64 1)) (T 17)⟩,
      ⟨(some 19), none, .call (.func 34) [(T 16), (T 18), (.const (.int .i64 3))]⟩,
      ⟨(some 20), none, .ibin .eql (T 19) (.const (.int .i64 0))⟩,
      ⟨(some 21), none, .bslice 4 1 [(T 20)]⟩,
      ⟨(some 22), none, .append 4 1 1 (T 15) (T 21)⟩,
      ⟨(some 5), none, .mov (T 22)⟩]))
    (.region [⟨(some 13), none, .mov (T 6)⟩,
      ⟨(some 14), none, .ibin .add (T 13) (.const (.int .i64 1))⟩,
      ⟨(some 6), none, .mov (T 14)⟩]))))))
  (.seq (.region [⟨(some 23), none, .mov (T 5)⟩,
    ⟨(some 4), none, .mov (T 23)⟩])
  .ret))))
theorem f22 : fnC Try.prog 22 = some (c22, 24, [(.tmp 4)]) := by kernel_rfl

/-- breaks.Pages -/
def c23 : CCode :=
  (.seq (.region [⟨(some 4), none, .mov (.const (.slice none 0 0))⟩,
    ⟨(some 5), none, .mov (.const (.int .i64 0))⟩])
  (.seq (.seq (.region [⟨(some 9), none, .mov (T 1)⟩,
    ⟨(some 10), none, .ibin .lss (T 9) (.const (.int .i64 1))⟩,
    ⟨(some 11), none, .mov (T 10)⟩,
    ⟨(some 12), (some (11, false)), .mov (T 1)⟩,
    ⟨(some 13), (some (11, false)), .ibin .gtr (T 12) (.const (.int .i64 1000))⟩,
    ⟨(some 14), none, .pick (T 11) (.const (.bool true)) (T 13)⟩,
    ⟨(some 15), none, .mov (T 14)⟩,
    ⟨(some 16), (some (15, false)), .mov (T 0)⟩,
    ⟨(some 17), (some (15, false)), .len (T 16)⟩,
    ⟨(some 18), (some (15, false)), .ibin .gtr (T 17) (.const (.int .i64 4096))⟩,
    ⟨(some 19), none, .pick (T 15) (.const (.bool true)) (T 18)⟩])
  (.cond (T 19)
    (.seq (.region [⟨(some 4), none, .mov (.const (.slice none 0 0))⟩,
      ⟨(some 5), none, .mov (.const (.int .i64 1))⟩])
    .ret)
    .skip))
  (.seq (.region [⟨(some 6), none, .mov (.const (.slice none 0 0))⟩])
  (.seq (.seq (.region [⟨(some 7), none, .mov (.const (.int .i64 0))⟩])
  (.block 0 (.loop
    (.seq (.seq (.region [⟨(some 20), none, .mov (T 7)⟩,
      ⟨(some 21), none, .mov (T 0)⟩,
      ⟨(some 22), none, .len (T 21)⟩,
      ⟨(some 23), none, .ibin .lss (T 20) (T 22)⟩])
    (.cond (T 23)
      .skip
      (.exit 0)))
    (.block 1 (.seq (.region [⟨(some 24), none, .mov (T 6)⟩,
      ⟨(some 25), none, .mov (T 7)⟩,
      ⟨(some 26), none, .bslice 3 1 [(T 25)]⟩,
      ⟨(some 27), none, .append 3 1 8 (T 24) (T 26)⟩,
      ⟨(some 6), none, .mov (T 27)⟩])
    (.seq (.region [⟨(some 28), none, .mov (T 7)⟩,
      ⟨(some 29), none, .mov (T 1)⟩,
      ⟨(some 30), none, .ibin .add (T 28) (T 29)⟩,
      ⟨(some 31), none, .mov (T 0)⟩,
      ⟨(some 32), none, .len (T 31)⟩,
      ⟨(some 33), none, .imin (T 30) (T 32)⟩,
      ⟨(some 8), none, .mov (T 33)⟩])
    (.seq (.block 2 (.loop
      (.seq (.seq (.region [⟨(some 34), none, .mov (T 8)⟩,
        ⟨(some 35), none, .mov (T 0)⟩,
        ⟨(some 36), none, .len (T 35)⟩,
        ⟨(some 37), none, .ibin .lss (T 34) (T 36)⟩,
        ⟨(some 38), none, .mov (T 37)⟩,
        ⟨(some 39), (some (38, true)), .mov (T 8)⟩,
        ⟨(some 40), (some (38, true)), .mov (T 7)⟩,
        ⟨(some 41), (some (38, true)), .ibin .gtr (T 39) (T 40)⟩,
        ⟨(some 42), none, .pick (T 38) (T 41) (.const (.bool false))⟩,
        ⟨(some 43), none, .mov (T 42)⟩,
        ⟨(some 44), (some (43, true)), .mov (T 0)⟩,
        ⟨(some 45), (some (43, true)), .mov (T 8)⟩,
        ⟨(some 46), (some (43, true)), .idxS 1 (T 44) (T 45)⟩,
        ⟨(some 47), (some (43, true)), .load false 1 (T 46)⟩,
        ⟨(some 48), none, .pick (T 43) (T 47) (.const (.bool false))⟩])
      (.cond (T 48)
        .skip
        (.exit 2)))
      (.block 3 (.region [⟨(some 49), none, .mov (T 8)⟩,
        ⟨(some 50), none, .ibin .sub (T 49) (.const (.int .i64 1))⟩,
        ⟨(some 8), none, .mov (T 50)⟩])))))
    (.seq (.seq (.region [⟨(some 51), none, .mov (T 8)⟩,
      ⟨(some 52), none, .mov (T 7)⟩,
      ⟨(some 53), none, .ibin .eql (T 51) (T 52)⟩])
    (.cond (T 53)
      (.seq (.region [⟨(some 4), none, .mov (.const (.slice none 0 0))⟩,
        ⟨(some 5), none, .mov (.const (.int .i64 14))⟩])
      .ret)
      .skip))
    (.region [⟨(some 54), none, .mov (T 8)⟩,
      ⟨(some 7), none, .mov (T 54)⟩]))))))))))
  (.seq (.region [⟨(some 55), none, .mov (T 6)⟩,
    ⟨(some 4), none, .mov (T 55)⟩,
    ⟨(some 5), none, .mov (.const (.int .i64 0))⟩])
  .ret)))))
theorem f23 : fnC Try.prog 23 = some (c23, 56, [(.tmp 4), (.tmp 5)]) := by kernel_rfl

/-- dactylref11.Pages -/
def c24 : CCode :=
  (.seq (.region [⟨(some 4), none, .mov (.const (.slice none 0 0))⟩,
    ⟨(some 5), none, .mov (.const (.int .i64 0))⟩])
  (.seq (.seq (.region [⟨(some 16), none, .mov (T 1)⟩,
    ⟨(some 17), none, .ibin .lss (T 16) (.const (.int .i64 1))⟩,
    ⟨(some 18), none, .mov (T 17)⟩,
    ⟨(some 19), (some (18, false)), .mov (T 1)⟩,
    ⟨(some 20), (some (18, false)), .ibin .gtr (T 19) (.const (.int .i64 1000))⟩,
    ⟨(some 21), none, .pick (T 18) (.const (.bool true)) (T 20)⟩,
    ⟨(some 22), none, .mov (T 21)⟩,
    ⟨(some 23), (some (22, false)), .mov (T 0)⟩,
    ⟨(some 24), (some (22, false)), .len (T 23)⟩,
    ⟨(some 25), (some (22, false)), .ibin .gtr (T 24) (.const (.int .i64 4096))⟩,
    ⟨(some 26), none, .pick (T 22) (.const (.bool true)) (T 25)⟩])
  (.cond (T 26)
    (.seq (.region [⟨(some 4), none, .mov (.const (.slice none 0 0))⟩,
      ⟨(some 5), none, .mov (.const (.int .i64 1))⟩])
    .ret)
    .skip))
  (.seq (.region [⟨(some 27), none, .mov (T 0)⟩,
    ⟨(some 28), none, .len (T 27)⟩,
    ⟨(some 6), none, .mov (T 28)⟩])
  (.seq (.region [⟨(some 29), none, .mov (T 6)⟩,
    ⟨(some 30), none, .ibin .add (T 29) (.const (.int .i64 1))⟩,
    ⟨(some 31), none, .mkslice 3 1 8 (.val (.int .i64 0)) (T 30) (T 30)⟩,
    ⟨(some 7), none, .mov (T 31)⟩])
  (.seq (.seq (.region [⟨(some 32), none, .mov (T 6)⟩,
    ⟨(some 33), none, .ibin .sub (T 32) (.const (.int .i64 1))⟩,
    ⟨(some 8), none, .mov (T 33)⟩])
  (.block 0 (.loop
    (.seq (.seq (.region [⟨(some 34), none, .mov (T 8)⟩,
      ⟨(some 35), none, .ibin .geq (T 34) (.const (.int .i64 0))⟩])
    (.cond (T 35)
      .skip
      (.exit 0)))
    (.seq (.block 1 (.seq (.region [⟨(some 38), none, .mov (T 7)⟩,
      ⟨(some 39), none, .mov (T 8)⟩,
      ⟨(some 40), none, .idxS 1 (T 38) (T 39)⟩,
      ⟨none, none, .store 1 (T 40) (.const (.int .i64 (-1)))⟩])
    (.seq (.region [⟨(some 41), none, .mov (T 8)⟩,
      ⟨(some 42), none, .ibin .add (T 41) (.const (.int .i64 1))⟩,
      ⟨(some 9), none, .mov (T 42)⟩])
    (.block 2 (.loop
      (.seq (.seq (.region [⟨(some 43), none, .mov (T 9)⟩,
        ⟨(some 44), none, .mov (T 6)⟩,
        ⟨(some 45), none, .ibin .leq (T 43) (T 44)⟩,
        ⟨(some 46), none, .mov (T 45)⟩,
        ⟨(some 47), (some (46, true)), .mov (T 9)⟩,
        ⟨(some 48), (some (46, true)), .mov (T 8)⟩,
        ⟨(some 49), (some (46, true)), .mov (T 1)⟩,
        ⟨(some 50), (some (46, true)), .ibin .add (T 48) (T 49)⟩,
        ⟨(some 51), (some (46, true)), .ibin .leq (T 47) (T 50)⟩,
        ⟨(some 52), none, .pick (T 46) (T 51) (.const (.bool false))⟩])
      (.cond (T 52)
        .skip
        (.exit 2)))
      (.seq (.block 3 (.seq (.region [⟨(some 55), none, .mov (T 9)⟩,
        ⟨(some 56), none, .mov (T 6)⟩,
        ⟨(some 57), none, .ibin .eql (T 55) (T 56)⟩,
        ⟨(some 58), none, .mov (T 57)⟩,
        ⟨(some 59), (some (58, false)), .mov (T 0)⟩,
        ⟨(some 60), (some (58, false)), .mov (T 9)⟩,
        ⟨(some 61), (some (58, false)), .mov (T 6)⟩,
        ⟨(some 62), (some (58, false)), .ibin .sub (T 61) (.const (.int .i64 1))⟩,
        ⟨(some 63), (some (58, false)), .imin (T 60) (T 62)⟩,
        ⟨(some 64), (some (58, false)), .idxS 1 (T 59) (T 63)⟩,
        ⟨(some 65), (some (58, false)), .load false 1 (T 64)⟩,
        ⟨(some 66), (some (58, false)), .lnot (T 65)⟩,
        ⟨(some 67), none, .pick (T 58) (.const (.bool true)) (T 66)⟩,
        ⟨(some 10), none, .mov (T 67)⟩])
      (.seq (.drawn [⟨(some 68), none, .mov (T 10)⟩,
        ⟨(some 69), none, .mov (T 68)⟩,
        ⟨(some 70), (some (69, true)), .mov (T 7)⟩,
        ⟨(some 71), (some (69, true)), .mov (T 9)⟩,
        ⟨(some 72), (some (69, true)), .idxS 1 (T 70) (T 71)⟩,
        ⟨(some 73), (some (69, true)), .load false 1 (T 72)⟩,
        ⟨(some 74), (some (69, true)), .ibin .geq (T 73) (.const (.int .i64 0))⟩,
        ⟨(some 75), none, .pick (T 69) (T 74) (.const (.bool false))⟩,
        ⟨(some 76), none, .mov (T 75)⟩,
        ⟨(some 77), (some (76, true)), .mov (T 7)⟩,
        ⟨(some 78), (some (76, true)), .mov (T 8)⟩,
        ⟨(some 79), (some (76, true)), .idxS 1 (T 77) (T 78)⟩,
        ⟨(some 80), (some (76, true)), .load false 1 (T 79)⟩,
        ⟨(some 81), (some (76, true)), .ibin .lss (T 80) (.const (.int .i64 0))⟩,
        ⟨(some 82), (some (76, true)), .mov (T 81)⟩,
        ⟨(some 83), (some (82, false)), .mov (T 7)⟩,
        ⟨(some 84), (some (82, false)), .mov (T 9)⟩,
        ⟨(some 85), (some (82, false)), .idxS 1 (T 83) (T 84)⟩,
        ⟨(some 86), (some (82, false)), .load false 1 (T 85)⟩,
        ⟨(some 87), (some (82, false)), .ibin .add (T 86) (.const (.int .i64 1))⟩,
        ⟨(some 88), (some (82, false)), .mov (T 7)⟩,
        ⟨(some 89), (some (82, false)), .mov (T 8)⟩,
        ⟨(some 90), (some (82, false)), .idxS 1 (T 88) (T 89)⟩,
        ⟨(some 91), (some (82, false)), .load false 1 (T 90)⟩,
        ⟨(some 92), (some (82, false)), .ibin .lss (T 87) (T 91)⟩,
        ⟨(some 93), (some (76, true)), .pick (T 82) (.const (.bool true)) (T 92)⟩,
        ⟨(some 94), none, .pick (T 76) (T 93) (.const (.bool false))⟩] [])
      (.cond (T 94)
        (.region [⟨(some 95), none, .mov (T 7)⟩,
          ⟨(some 96), none, .mov (T 8)⟩,
          ⟨(some 97), none, .mov (T 7)⟩,
          ⟨(some 98), none, .mov (T 9)⟩,
          ⟨(some 99), none, .idxS 1 (T 97) (T 98)⟩,
          ⟨(some 100), none, .load false 1 (T 99)⟩,
          ⟨(some 101), none, .ibin .add (T 100) (.const (.int .i64 1))⟩,
          ⟨(some 102), none, .idxS 1 (T 95) (T 96)⟩,
          ⟨none, none, .store 1 (T 102) (T 101)⟩])
        .skip))))
      (.region [⟨(some 53), none, .mov (T 9)⟩,
        ⟨(some 54), none, .ibin .add (T 53) (.const (.int .i64 1))⟩,
        ⟨(some 9), none, .mov (T 54)⟩]))))))))
    (.region [⟨(some 36), none, .mov (T 8)⟩,
      ⟨(some 37), none, .ibin .sub (T 36) (.const (.int .i64 1))⟩,
      ⟨(some 8), none, .mov (T 37)⟩]))))))
  (.seq (.seq (.region [⟨(some 103), none, .mov (T 7)⟩,
    ⟨(some 104), none, .idxS 1 (T 103) (.const (.int .i64 0))⟩,
    ⟨(some 105), none, .load false 1 (T 104)⟩,
    ⟨(some 106), none, .ibin .lss (T 105) (.const (.int .i64 0))⟩])
  (.cond (T 106)
    (.seq (.region [⟨(some 4), none, .mov (.const (.slice none 0 0))⟩,
      ⟨(some 5), none, .mov (.const (.int .i64 14))⟩])
    .ret)
    .skip))
  (.seq (.region [⟨(some 11), none, .mov (.const (.slice none 0 0))⟩])
  (.seq (.region [⟨(some 12), none, .mov (.const (.int .i64 0))⟩])
  (.seq (.block 4 (.loop
    (.seq (.seq (.region [⟨(some 107), none, .mov (T 12)⟩,
      ⟨(some 108), none, .mov (T 6)⟩,
      ⟨(some 109), none, .ibin .lss (T 107) (T 108)⟩])
    (.cond (T 109)
      .skip
      (.exit 4)))
    (.block 5 (.seq (.region [⟨(some 110), none, .mov (T 11)⟩,
      ⟨(some 111), none, .mov (T 12)⟩,
      ⟨(some 112), none, .bslice 3 1 [(T 111)]⟩,
      ⟨(some 113), none, .append 3 1 8 (T 110) (T 112)⟩,
      ⟨(some 11), none, .mov (T 113)⟩])
    (.seq (.region [⟨(some 114), none, .mov (T 12)⟩,
      ⟨(some 13), none, .mov (T 114)⟩])
    (.seq (.seq (.region [⟨(some 115), none, .mov (T 12)⟩,
      ⟨(some 116), none, .ibin .add (T 115) (.const (.int .i64 1))⟩,
      ⟨(some 14), none, .mov (T 116)⟩])
    (.block 6 (.loop
      (.seq (.seq (.region [⟨(some 117), none, .mov (T 14)⟩,
        ⟨(some 118), none, .mov (T 6)⟩,
        ⟨(some 119), none, .ibin .leq (T 117) (T 118)⟩,
        ⟨(some 120), none, .mov (T 119)⟩,
        ⟨(some 121), (some (120, true)), .mov (T 14)⟩,
        ⟨(some 122), (some (120, true)), .mov (T 12)⟩,
        ⟨(some 123), (some (120, true)), .mov (T 1)⟩,
        ⟨(some 124), (some (120, true)), .ibin .add (T 122) (T 123)⟩,
        ⟨(some 125), (some (120, true)), .ibin .leq (T 121) (T 124)⟩,
        ⟨(some 126), none, .pick (T 120) (T 125) (.const (.bool false))⟩])
      (.cond (T 126)
        .skip
        (.exit 6)))
      (.seq (.block 7 (.seq (.region [⟨(some 129), none, .mov (T 14)⟩,
        ⟨(some 130), none, .mov (T 6)⟩,
        ⟨(some 131), none, .ibin .eql (T 129) (T 130)⟩,
        ⟨(some 132), none, .mov (T 131)⟩,
        ⟨(some 133), (some (132, false)), .mov (T 0)⟩,
        ⟨(some 134), (some (132, false)), .mov (T 14)⟩,
        ⟨(some 135), (some (132, false)), .mov (T 6)⟩,
        ⟨(some 136), (some (132, false)), .ibin .sub (T 135) (.const (.int .i64 1))⟩,
        ⟨(some 137), (some (132, false)), .imin (T 134) (T 136)⟩,
        ⟨(some 138), (some (132, false)), .idxS 1 (T 133) (T 137)⟩,
        ⟨(some 139), (some (132, false)), .load false 1 (T 138)⟩,
        ⟨(some 140), (some (132, false)), .lnot (T 139)⟩,
        ⟨(some 141), none, .pick (T 132) (.const (.bool true)) (T 140)⟩,
        ⟨(some 15), none, .mov (T 141)⟩])
      (.seq (.drawn [⟨(some 142), none, .mov (T 15)⟩,
        ⟨(some 143), none, .mov (T 142)⟩,
        ⟨(some 144), (some (143, true)), .mov (T 7)⟩,
        ⟨(some 145), (some (143, true)), .mov (T 14)⟩,
        ⟨(some 146), (some (143, true)), .idxS 1 (T 144) (T 145)⟩,
        ⟨(some 147), (some (143, true)), .load false 1 (T 146)⟩,
        ⟨(some 148), (some (143, true)), .mov (T 7)⟩,
        ⟨(some 149), (some (143, true)), .mov (T 12)⟩,
        ⟨(some 150), (some (143, true)), .idxS 1 (T 148) (T 149)⟩,
        ⟨(some 151), (some (143, true)), .load false 1 (T 150)⟩,
        ⟨(some 152), (some (143, true)), .ibin .sub (T 151) (.const (.int .i64 1))⟩,
        ⟨(some 153), (some (143, true)), .ibin .eql (T 147) (T 152)⟩,
        ⟨(some 154), none, .pick (T 143) (T 153) (.const (.bool false))⟩] [])
      (.cond (T 154)
        (.region [⟨(some 155), none, .mov (T 14)⟩,
          ⟨(some 13), none, .mov (T 155)⟩])
        .skip))))
      (.region [⟨(some 127), none, .mov (T 14)⟩,
        ⟨(some 128), none, .ibin .add (T 127) (.const (.int .i64 1))⟩,
        ⟨(some 14), none, .mov (T 128)⟩]))))))
    (.region [⟨(some 156), none, .mov (T 13)⟩,
      ⟨(some 12), none, .mov (T 156)⟩]))))))))
  (.seq (.region [⟨(some 157), none, .mov (T 11)⟩,
    ⟨(some 4), none, .mov (T 157)⟩,
    ⟨(some 5), none, .mov (.const (.int .i64 0))⟩])
  .ret))))))))))
theorem f24 : fnC Try.prog 24 = some (c24, 158, [(.tmp 4), (.tmp 5)]) := by kernel_rfl

/-- dactylref01.SameInts -/
def c25 : CCode :=
  (.seq (.region [⟨(some 4), none, .mov (.const (.bool false))⟩])
  (.seq (.seq (.region [⟨(some 6), none, .mov (T 0)⟩,
    ⟨(some 7), none, .len (T 6)⟩,
    ⟨(some 8), none, .mov (T 1)⟩,
    ⟨(some 9), none, .len (T 8)⟩,
    ⟨(some 10), none, .ibin .neq (T 7) (T 9)⟩])
  (.cond (T 10)
    (.seq (.region [⟨(some 4), none, .mov (.const (.bool false))⟩])
    .ret)
    .skip))
  (.seq (.seq (.region [⟨(some 5), none, .mov (.const (.int .i64 0))⟩])
  (.block 0 (.loop
    (.seq (.seq (.region [⟨(some 11), none, .mov (T 5)⟩,
      ⟨(some 12), none, .mov (T 0)⟩,
      ⟨(some 13), none, .len (T 12)⟩,
      ⟨(some 14), none, .ibin .lss (T 11) (T 13)⟩])
    (.cond (T 14)
      .skip
      (.exit 0)))
    (.seq (.block 1 (.seq (.drawn [⟨(some 17), none, .mov (T 0)⟩,
      ⟨(some 18), none, .mov (T 5)⟩,
      ⟨(some 19), none, .idxS 1 (T 17) (T 18)⟩,
      ⟨(some 20), none, .load false 1 (T 19)⟩,
      ⟨(some 21), none, .mov (T 1)⟩,
      ⟨(some 22), none, .mov (T 5)⟩,
      ⟨(some 23), none, .idxS 1 (T 21) (T 22)⟩,
      ⟨(some 24), none, .load false 1 (T 23)⟩,
      ⟨(some 25), none, .ibin .neq (T 20) (T 24)⟩] [])
    (.cond (T 25)
      (.seq (.region [⟨(some 4), none, .mov (.const (.bool false))⟩])
      .ret)
      .skip)))
    (.region [⟨(some 15), none, .mov (T 5)⟩,
      ⟨(some 16), none, .ibin .add (T 15) (.const (.int .i64 1))⟩,
      ⟨(some 5), none, .mov (T 16)⟩]))))))
  (.seq (.region [⟨(some 4), none, .mov (.const (.bool true))⟩])
  .ret))))
theorem f25 : fnC Try.prog 25 = some (c25, 26, [(.tmp 4)]) := by kernel_rfl

/-- dactylref01.Take -/
def c26 : CCode :=
  (.seq (.region [⟨(some 4), none, .mov (.const (.slice none 0 0))⟩])
  (.seq (.region [⟨(some 5), none, .mov (.const (.slice none 0 0))⟩])
  (.seq (.region [⟨(some 6), none, .mov (T 5)⟩,
    ⟨(some 7), none, .mov (T 0)⟩,
    ⟨(some 8), none, .mov (T 0)⟩,
    ⟨(some 9), none, .len (T 8)⟩,
    ⟨(some 10), none, .mov (T 1)⟩,
    ⟨(some 11), none, .imin (T 9) (T 10)⟩,
    ⟨(some 12), none, .slice 1 (T 7) none (some (T 11))⟩,
    ⟨(some 13), none, .append 3 1 8 (T 6) (T 12)⟩,
    ⟨(some 4), none, .mov (T 13)⟩])
  .ret)))
theorem f26 : fnC Try.prog 26 = some (c26, 14, [(.tmp 4)]) := by kernel_rfl

/-- breaks.Paged -/
def c27 : CCode :=
  (.seq (.region [⟨(some 6), none, .mov (.const (.int .i64 0))⟩])
  (.seq (.region [⟨(some 13), none, .mov (T 0)⟩,
    ⟨(some 14), none, .mov (T 1)⟩,
    ⟨(some 15), none, .call (.func 23) [(T 13), (T 14)]⟩,
    ⟨(some 12), none, .mov (T 15)⟩,
    ⟨(some 16), none, .extract (T 12) 0⟩,
    ⟨(some 17), none, .extract (T 12) 1⟩,
    ⟨(some 7), none, .mov (T 16)⟩,
    ⟨(some 8), none, .mov (T 17)⟩])
  (.seq (.seq (.region [⟨(some 18), none, .mov (T 8)⟩,
    ⟨(some 19), none, .ibin .neq (T 18) (.const (.int .i64 0))⟩])
  (.cond (T 19)
    (.seq (.region [⟨(some 20), none, .mov (T 8)⟩,
      ⟨(some 6), none, .mov (T 20)⟩])
    .ret)
    .skip))
  (.seq (.seq (.region [⟨(some 21), none, .mov (T 2)⟩,
    ⟨(some 22), none, .len (T 21)⟩,
    ⟨(some 23), none, .mov (T 7)⟩,
    ⟨(some 24), none, .len (T 23)⟩,
    ⟨(some 25), none, .ibin .neq (T 22) (T 24)⟩])
  (.cond (T 25)
    (.seq (.region [⟨(some 6), none, .mov (.const (.int .i64 19))⟩])
    .ret)
    .skip))
  (.seq (.seq (.region [⟨(some 26), none, .mov (T 2)⟩,
    ⟨(some 27), none, .len (T 26)⟩,
    ⟨(some 28), none, .mov (.const (.int .i64 0))⟩])
  (.block 0 (.loop
    (.seq (.region [⟨(some 29), none, .ibin .lss (T 28) (T 27)⟩])
    (.seq (.cond (T 29)
      .skip
      (.exit 0))
    (.seq (.block 1 (.seq (.region [⟨(some 30), none, .mov (T 28)⟩,
      ⟨(some 31), none, .idxS 1 (T 26) (T 28)⟩,
      ⟨(some 32), none, .load false 1 (T 31)⟩,
      ⟨(some 9), none, .mov (T 30)⟩,
      ⟨(some 10), none, .mov (T 32)⟩])
    (.seq (.region [⟨(some 33), none, .mov (T 0)⟩,
      ⟨(some 34), none, .len (T 33)⟩,
      ⟨(some 11), none, .mov (T 34)⟩])
    (.seq (.seq (.region [⟨(some 35), none, .mov (T 9)⟩,
      ⟨(some 36), none, .ibin .add (T 35) (.const (.int .i64 1))⟩,
      ⟨(some 37), none, .mov (T 2)⟩,
      ⟨(some 38), none, .len (T 37)⟩,
      ⟨(some 39), none, .ibin .lss (T 36) (T 38)⟩])
    (.cond (T 39)
      (.region [⟨(some 40), none, .mov (T 2)⟩,
        ⟨(some 41), none, .mov (T 9)⟩,
        ⟨(some 42), none, .ibin .add (T 41) (.const (.int .i64 1))⟩,
        ⟨(some 43), none, .idxS 1 (T 40) (T 42)⟩,
        ⟨(some 44), none, .load false 1 (T 43)⟩,
        ⟨(some 11), none, .mov (T 44)⟩])
      .skip))
    (.seq (.region [⟨(some 45), none, .mov (T 9)⟩,
      ⟨(some 46), none, .ibin .eql (T 45) (.const (.int .i64 0))⟩,
      ⟨(some 47), none, .mov (T 46)⟩,
      ⟨(some 48), (some (47, true)), .mov (T 10)⟩,
      ⟨(some 49), (some (47, true)), .ibin .neq (T 48) (.const (.int .i64 0))⟩,
      ⟨(some 50), none, .pick (T 47) (T 49) (.const (.bool false))⟩,
      ⟨(some 51), none, .mov (T 50)⟩,
      ⟨(some 52), (some (51, false)), .mov (T 10)⟩,
      ⟨(some 53), (some (51, false)), .ibin .lss (T 52) (.const (.int .i64 0))⟩,
      ⟨(some 54), none, .pick (T 51) (.const (.bool true)) (T 53)⟩,
      ⟨(some 55), none, .mov (T 54)⟩,
      ⟨(some 56), (some (55, false)), .mov (T 10)⟩,
      ⟨(some 57), (some (55, false)), .mov (T 0)⟩,
      ⟨(some 58), (some (55, false)), .len (T 57)⟩,
      ⟨(some 59), (some (55, false)), .ibin .geq (T 56) (T 58)⟩,
      ⟨(some 60), none, .pick (T 55) (.const (.bool true)) (T 59)⟩,
      ⟨(some 61), none, .mov (T 60)⟩,
      ⟨(some 62), (some (61, false)), .mov (T 9)⟩,
      ⟨(some 63), (some (61, false)), .ibin .gtr (T 62) (.const (.int .i64 0))⟩,
      ⟨(some 64), (some (61, false)), .mov (T 63)⟩,
      ⟨(some 65), (some (64, true)), .mov (T 0)⟩,
      ⟨(some 66), (some (64, true)), .mov (T 10)⟩,
      ⟨(some 67), (some (64, true)), .idxS 1 (T 65) (T 66)⟩,
      ⟨(some 68), (some (64, true)), .load false 1 (T 67)⟩,
      ⟨(some 69), (some (61, false)), .pick (T 64) (T 68) (.const (.bool false))⟩,
      ⟨(some 70), none, .pick (T 61) (.const (.bool true)) (T 69)⟩,
      ⟨(some 71), none, .mov (T 70)⟩,
      ⟨(some 72), (some (71, false)), .mov (T 11)⟩,
      ⟨(some 73), (some (71, false)), .mov (T 10)⟩,
      ⟨(some 74), (some (71, false)), .ibin .leq (T 72) (T 73)⟩,
      ⟨(some 75), none, .pick (T 71) (.const (.bool true)) (T 74)⟩,
      ⟨(some 76), none, .mov (T 75)⟩,
      ⟨(some 77), (some (76, false)), .mov (T 11)⟩,
      ⟨(some 78), (some (76, false)), .mov (T 10)⟩,
      ⟨(some 79), (some (76, false)), .ibin .sub (T 77) (T 78)⟩,
      ⟨(some 80), (some (76, false)), .mov (T 1)⟩,
      ⟨(some 81), (some (76, false)), .ibin .gtr (T 79) (T 80)⟩,
      ⟨(some 82), none, .pick (T 76) (.const (.bool true)) (T 81)⟩])
    (.cond (T 82)
      (.seq (.region [⟨(some 6), none, .mov (.const (.int .i64 19))⟩])
      .ret)
      .skip))))))
    (.region [⟨(some 83), none, .ibin .add (T 28) (.const (.int .i64 1))⟩,
      ⟨(some 28), none, .mov (T 83)⟩])))))))
  (.seq (.region [⟨(some 6), none, .mov (.const (.int .i64 0))⟩])
  .ret))))))
theorem f27 : fnC Try.prog 27 = some (c27, 84, [(.tmp 6)]) := by kernel_rfl

/-- dactylref11.Paged -/
def c28 : CCode :=
  (.seq (.region [⟨(some 6), none, .mov (.const (.int .i64 0))⟩])
  (.seq (.region [⟨(some 12), none, .mov (T 0)⟩,
    ⟨(some 13), none, .mov (T 1)⟩,
    ⟨(some 14), none, .call (.func 24) [(T 12), (T 13)]⟩,
    ⟨(some 11), none, .mov (T 14)⟩,
    ⟨(some 15), none, .extract (T 11) 0⟩,
    ⟨(some 16), none, .extract (T 11) 1⟩,
    ⟨(some 7), none, .mov (T 15)⟩,
    ⟨(some 8), none, .mov (T 16)⟩])
  (.seq (.seq (.region [⟨(some 17), none, .mov (T 8)⟩,
    ⟨(some 18), none, .ibin .neq (T 17) (.const (.int .i64 0))⟩])
  (.cond (T 18)
    (.seq (.region [⟨(some 19), none, .mov (T 8)⟩,
      ⟨(some 6), none, .mov (T 19)⟩])
    .ret)
    .skip))
  (.seq (.seq (.region [⟨(some 20), none, .mov (T 2)⟩,
    ⟨(some 21), none, .len (T 20)⟩,
    ⟨(some 22), none, .mov (T 7)⟩,
    ⟨(some 23), none, .len (T 22)⟩,
    ⟨(some 24), none, .ibin .neq (T 21) (T 23)⟩,
    ⟨(some 25), none, .mov (T 24)⟩,
    ⟨(some 26), (some (25, false)), .mov (T 2)⟩,
    ⟨(some 27), (some (25, false)), .len (T 26)⟩,
    ⟨(some 28), (some (25, false)), .ibin .gtr (T 27) (.const (.int .i64 0))⟩,
    ⟨(some 29), (some (25, false)), .mov (T 28)⟩,
    ⟨(some 30), (some (29, true)), .mov (T 2)⟩,
    ⟨(some 31), (some (29, true)), .idxS 1 (T 30) (.const (.int .i64 0))⟩,
    ⟨(some 32), (some (29, true)), .load false 1 (T 31)⟩,
    ⟨(some 33), (some (29, true)), .ibin .neq (T 32) (.const (.int .i64 0))⟩,
    ⟨(some 34), (some (25, false)), .pick (T 29) (T 33) (.const (.bool false))⟩,
    ⟨(some 35), none, .pick (T 25) (.const (.bool true)) (T 34)⟩])
  (.cond (T 35)
    (.seq (.region [⟨(some 6), none, .mov (.const (.int .i64 19))⟩])
    .ret)
    .skip))
  (.seq (.seq (.region [⟨(some 9), none, .mov (.const (.int .i64 0))⟩])
  (.block 0 (.loop
    (.seq (.seq (.region [⟨(some 36), none, .mov (T 9)⟩,
      ⟨(some 37), none, .mov (T 2)⟩,
      ⟨(some 38), none, .len (T 37)⟩,
      ⟨(some 39), none, .ibin .lss (T 36) (T 38)⟩])
    (.cond (T 39)
      .skip
      (.exit 0)))
    (.seq (.block 1 (.seq (.region [⟨(some 42), none, .mov (T 0)⟩,
      ⟨(some 43), none, .len (T 42)⟩,
      ⟨(some 10), none, .mov (T 43)⟩])
    (.seq (.seq (.region [⟨(some 44), none, .mov (T 9)⟩,
      ⟨(some 45), none, .ibin .add (T 44) (.const (.int .i64 1))⟩,
      ⟨(some 46), none, .mov (T 2)⟩,
      ⟨(some 47), none, .len (T 46)⟩,
      ⟨(some 48), none, .ibin .lss (T 45) (T 47)⟩])
    (.cond (T 48)
      (.region [⟨(some 49), none, .mov (T 2)⟩,
        ⟨(some 50), none, .mov (T 9)⟩,
        ⟨(some 51), none, .ibin .add (T 50) (.const (.int .i64 1))⟩,
        ⟨(some 52), none, .idxS 1 (T 49) (T 51)⟩,
        ⟨(some 53), none, .load false 1 (T 52)⟩,
        ⟨(some 10), none, .mov (T 53)⟩])
      .skip))
    (.seq (.region [⟨(some 54), none, .mov (T 2)⟩,
      ⟨(some 55), none, .mov (T 9)⟩,
      ⟨(some 56), none, .idxS 1 (T 54) (T 55)⟩,
      ⟨(some 57), none, .load false 1 (T 56)⟩,
      ⟨(some 58), none, .ibin .lss (T 57) (.const (.int .i64 0))⟩,
      ⟨(some 59), none, .mov (T 58)⟩,
      ⟨(some 60), (some (59, false)), .mov (T 2)⟩,
      ⟨(some 61), (some (59, false)), .mov (T 9)⟩,
      ⟨(some 62), (some (59, false)), .idxS 1 (T 60) (T 61)⟩,
      ⟨(some 63), (some (59, false)), .load false 1 (T 62)⟩,
      ⟨(some 64), (some (59, false)), .mov (T 0)⟩,
      ⟨(some 65), (some (59, false)), .len (T 64)⟩,
      ⟨(some 66), (some (59, false)), .ibin .geq (T 63) (T 65)⟩,
      ⟨(some 67), none, .pick (T 59) (.const (.bool true)) (T 66)⟩,
      ⟨(some 68), none, .mov (T 67)⟩,
      ⟨(some 69), (some (68, false)), .mov (T 0)⟩,
      ⟨(some 70), (some (68, false)), .mov (T 1)⟩,
      ⟨(some 71), (some (68, false)), .mov (T 2)⟩,
      ⟨(some 72), (some (68, false)), .mov (T 9)⟩,
      ⟨(some 73), (some (68, false)), .idxS 1 (T 71) (T 72)⟩,
      ⟨(some 74), (some (68, false)), .load false 1 (T 73)⟩,
      ⟨(some 75), (some (68, false)), .mov (T 10)⟩,
      ⟨(some 76), (some (68, false)), .call (.func 45) [(T 69), (T 70), (T 74), (T 75)]⟩,
      ⟨(some 77), (some (68, false)), .lnot (T 76)⟩,
      ⟨(some 78), none, .pick (T 68) (.const (.bool true)) (T 77)⟩])
    (.cond (T 78)
      (.seq (.region [⟨(some 6), none, .mov (.const (.int .i64 19))⟩])
      .ret)
      .skip)))))
    (.region [⟨(some 40), none, .mov (T 9)⟩,
      ⟨(some 41), none, .ibin .add (T 40) (.const (.int .i64 1))⟩,
      ⟨(some 9), none, .mov (T 41)⟩]))))))
  (.seq (.region [⟨(some 6), none, .mov (.const (.int .i64 0))⟩])
  .ret))))))
theorem f28 : fnC Try.prog 28 = some (c28, 79, [(.tmp 6)]) := by kernel_rfl

/-- dactyllaw11.bent -/
def c29 : CCode :=
  (.seq (.region [⟨(some 4), none, .box 36 (T 0)⟩,
    ⟨(some 8), none, .alloc 36 (.agg [(.val (.slice none 0 0)), (.val (.slice none 0 0))])⟩])
  (.seq (.region [⟨(some 14), none, .bslice 64 2 []⟩,
    ⟨(some 15), none, .fieldAddr 0 (T 4)⟩,
    ⟨(some 16), none, .load false 1 (T 15)⟩,
    ⟨(some 17), none, .append 64 2 16 (T 14) (T 16)⟩,
    ⟨(some 18), none, .build [(.val (.slice none 0 0)), (.val (.slice none 0 0))] [(0, (1, (T 17)))]⟩,
    ⟨(some 9), none, .alloc 36 (.agg [(.val (.slice none 0 0)), (.val (.slice none 0 0))])⟩,
    ⟨none, none, .store 2 (T 9) (T 18)⟩])
  (.seq (.seq (.region [⟨(some 10), none, .mov (.const (.int .i64 0))⟩])
  (.block 0 (.loop
    (.seq (.seq (.region [⟨(some 19), none, .mov (T 10)⟩,
      ⟨(some 20), none, .fieldAddr 1 (T 4)⟩,
      ⟨(some 21), none, .load false 1 (T 20)⟩,
      ⟨(some 22), none, .len (T 21)⟩,
      ⟨(some 23), none, .ibin .lss (T 19) (T 22)⟩])
    (.cond (T 23)
      .skip
      (.exit 0)))
    (.seq (.block 1 (.drawn [⟨(some 26), none, .fieldAddr 1 (T 9)⟩,
      ⟨(some 27), none, .load false 1 (T 26)⟩,
      ⟨(some 28), none, .bslice 3 1 []⟩,
      ⟨(some 29), none, .fieldAddr 1 (T 4)⟩,
      ⟨(some 30), none, .load false 1 (T 29)⟩,
      ⟨(some 31), none, .mov (T 10)⟩,
      ⟨(some 32), none, .idxS 1 (T 30) (T 31)⟩,
      ⟨(some 33), none, .load false 1 (T 32)⟩] [(⟨(some 34), none, .append 3 1 8 (T 28) (T 33)⟩, [⟨(some 26), none, .fieldAddr 1 (T 9)⟩, ⟨(some 27), none, .load false 1 (T 26)⟩]), (⟨(some 35), none, .bslice 22 1 [(T 34)]⟩, [⟨(some 26), none, .fieldAddr 1 (T 9)⟩, ⟨(some 27), none, .load false 1 (T 26)⟩]), (⟨(some 36), none, .append 22 1 24 (T 27) (T 35)⟩, []), (⟨(some 37), none, .fieldAddr 1 (T 9)⟩, []), (⟨none, none, .store 1 (T 37) (T 36)⟩, [])]))
    (.region [⟨(some 24), none, .mov (T 10)⟩,
      ⟨(some 25), none, .ibin .add (T 24) (.const (.int .i64 1))⟩,
      ⟨(some 10), none, .mov (T 25)⟩]))))))
  (.seq (.seq (.region [⟨(some 38), none, .mov (T 2)⟩,
    ⟨(some 39), none, .call (.func 19) [(T 38), (.const (.int .i64 5))]⟩])
  (.block 2 (.seq (.region [⟨(some 47), none, .ibin .eql (T 39) (.const (.int .i64 0))⟩,
    ⟨(some 46), none, .mov (T 47)⟩])
  (.cond (T 46)
    (.seq (.region [⟨(some 48), none, .fieldAddr 1 (T 9)⟩,
      ⟨(some 49), none, .load false 1 (T 48)⟩,
      ⟨(some 50), none, .len (T 49)⟩,
      ⟨(some 51), none, .ibin .gtr (T 50) (.const (.int .i64 0))⟩])
    (.cond (T 51)
      (.seq (.region [⟨(some 52), none, .mov (T 1)⟩,
        ⟨(some 53), none, .fieldAddr 1 (T 9)⟩,
        ⟨(some 54), none, .load false 1 (T 53)⟩,
        ⟨(some 55), none, .len (T 54)⟩,
        ⟨(some 56), none, .call (.func 19) [(T 52), (T 55)]⟩,
        ⟨(some 11), none, .mov (T 56)⟩])
      (.seq (.region [⟨(some 57), none, .mov (T 3)⟩,
        ⟨(some 58), none, .fieldAddr 1 (T 9)⟩,
        ⟨(some 59), none, .load false 1 (T 58)⟩,
        ⟨(some 60), none, .mov (T 11)⟩,
        ⟨(some 61), none, .idxS 1 (T 59) (T 60)⟩,
        ⟨(some 62), none, .load false 1 (T 61)⟩,
        ⟨(some 63), none, .len (T 62)⟩,
        ⟨(some 64), none, .call (.func 19) [(T 57), (T 63)]⟩,
        ⟨(some 12), none, .mov (T 64)⟩])
      (.drawn [⟨(some 65), none, .fieldAddr 1 (T 9)⟩,
        ⟨(some 66), none, .load false 1 (T 65)⟩,
        ⟨(some 67), none, .mov (T 11)⟩,
        ⟨(some 68), none, .idxS 1 (T 66) (T 67)⟩,
        ⟨(some 69), none, .load false 1 (T 68)⟩,
        ⟨(some 70), none, .mov (T 12)⟩,
        ⟨(some 71), none, .fieldAddr 1 (T 9)⟩,
        ⟨(some 72), none, .load false 1 (T 71)⟩,
        ⟨(some 73), none, .mov (T 11)⟩,
        ⟨(some 74), none, .idxS 1 (T 72) (T 73)⟩,
        ⟨(some 75), none, .load false 1 (T 74)⟩,
        ⟨(some 76), none, .mov (T 12)⟩,
        ⟨(some 77), none, .idxS 1 (T 75) (T 76)⟩,
        ⟨(some 78), none, .load false 1 (T 77)⟩,
        ⟨(some 79), none, .mov (T 3)⟩,
        ⟨(some 80), none, .call (.func 19) [(T 79), (.const (.int .i64 5))]⟩,
        ⟨(some 81), none, .ibin .add (T 78) (T 80)⟩,
        ⟨(some 82), none, .ibin .sub (T 81) (.const (.int .i64 2))⟩,
        ⟨(some 83), none, .idxS 1 (T 69) (T 70)⟩] [(⟨none, none, .store 1 (T 83) (T 82)⟩, [])])))
      .skip))
    (.seq (.region [⟨(some 85), none, .ibin .eql (T 39) (.const (.int .i64 1))⟩,
      ⟨(some 84), none, .mov (T 85)⟩])
    (.cond (T 84)
      (.seq (.region [⟨(some 86), none, .fieldAddr 0 (T 9)⟩,
        ⟨(some 87), none, .load false 1 (T 86)⟩,
        ⟨(some 88), none, .len (T 87)⟩,
        ⟨(some 89), none, .ibin .gtr (T 88) (.const (.int .i64 0))⟩])
      (.cond (T 89)
        (.drawn [⟨(some 90), none, .fieldAddr 0 (T 9)⟩,
          ⟨(some 91), none, .load false 1 (T 90)⟩,
          ⟨(some 92), none, .mov (T 1)⟩,
          ⟨(some 93), none, .fieldAddr 0 (T 9)⟩,
          ⟨(some 94), none, .load false 1 (T 93)⟩,
          ⟨(some 95), none, .len (T 94)⟩,
          ⟨(some 96), none, .call (.func 19) [(T 92), (T 95)]⟩,
          ⟨(some 97), none, .mov (T 3)⟩,
          ⟨(some 98), none, .call (.func 19) [(T 97), (.const (.int .i64 2))]⟩,
          ⟨(some 99), none, .mov (T 3)⟩,
          ⟨(some 100), none, .ibin .quo (T 99) (.const (.int .i64 2))⟩,
          ⟨(some 101), none, .call (.func 19) [(T 100), (.const (.int .i64 14))]⟩,
          ⟨(some 102), none, .ibin .sub (T 101) (.const (.int .i64 1))⟩,
          ⟨(some 103), none, .idxS 2 (T 91) (T 96)⟩,
          ⟨(some 104), none, .idxA 2 1 (T 103) (T 98)⟩] [(⟨none, none, .store 1 (T 104) (T 102)⟩, [])])
        .skip))
      (.seq (.region [⟨(some 106), none, .ibin .eql (T 39) (.const (.int .i64 2))⟩,
        ⟨(some 105), none, .mov (T 106)⟩])
      (.cond (T 105)
        (.seq (.region [⟨(some 107), none, .fieldAddr 0 (T 9)⟩,
          ⟨(some 108), none, .load false 1 (T 107)⟩,
          ⟨(some 109), none, .len (T 108)⟩,
          ⟨(some 110), none, .ibin .gtr (T 109) (.const (.int .i64 0))⟩])
        (.cond (T 110)
          (.seq (.region [⟨(some 111), none, .mov (T 1)⟩,
            ⟨(some 112), none, .fieldAddr 0 (T 9)⟩,
            ⟨(some 113), none, .load false 1 (T 112)⟩,
            ⟨(some 114), none, .len (T 113)⟩,
            ⟨(some 115), none, .call (.func 19) [(T 111), (T 114)]⟩,
            ⟨(some 13), none, .mov (T 115)⟩])
          (.drawn [⟨(some 116), none, .fieldAddr 0 (T 9)⟩,
            ⟨(some 117), none, .load false 1 (T 116)⟩,
            ⟨(some 118), none, .mov (T 13)⟩,
            ⟨(some 119), none, .slice 2 (T 117) none (some (T 118))⟩,
            ⟨(some 120), none, .fieldAddr 0 (T 9)⟩,
            ⟨(some 121), none, .load false 1 (T 120)⟩,
            ⟨(some 122), none, .mov (T 13)⟩,
            ⟨(some 123), none, .ibin .add (T 122) (.const (.int .i64 1))⟩,
            ⟨(some 124), none, .fieldAddr 0 (T 9)⟩,
            ⟨(some 125), none, .load false 1 (T 124)⟩,
            ⟨(some 126), none, .len (T 125)⟩,
            ⟨(some 127), none, .imin (T 123) (T 126)⟩,
            ⟨(some 128), none, .slice 2 (T 121) (some (T 127)) none⟩] [(⟨(some 129), none, .append 64 2 16 (T 119) (T 128)⟩, []), (⟨(some 130), none, .fieldAddr 0 (T 9)⟩, []), (⟨none, none, .store 1 (T 130) (T 129)⟩, [])]))
          .skip))
        (.seq (.region [⟨(some 132), none, .ibin .eql (T 39) (.const (.int .i64 3))⟩,
          ⟨(some 131), none, .mov (T 132)⟩])
        (.cond (T 131)
          (.region [⟨(some 133), none, .fieldAddr 0 (T 9)⟩,
            ⟨(some 134), none, .load false 1 (T 133)⟩,
            ⟨(some 135), none, .mov (T 3)⟩,
            ⟨(some 136), none, .build [(.val (.int .i64 0)), (.val (.int .i64 0))] [(0, (1, (T 135))), (1, (1, (.const (.int .i64 0))))]⟩,
            ⟨(some 137), none, .bslice 64 2 [(T 136)]⟩,
            ⟨(some 138), none, .append 64 2 16 (T 134) (T 137)⟩,
            ⟨(some 139), none, .fieldAddr 0 (T 9)⟩,
            ⟨none, none, .store 1 (T 139) (T 138)⟩])
          (.region [⟨(some 40), none, .fieldAddr 1 (T 9)⟩,
            ⟨(some 41), none, .load false 1 (T 40)⟩,
            ⟨(some 42), none, .bslice 3 1 [(.const (.int .i64 0))]⟩,
            ⟨(some 43), none, .bslice 22 1 [(T 42)]⟩,
            ⟨(some 44), none, .append 22 1 24 (T 41) (T 43)⟩,
            ⟨(some 45), none, .fieldAddr 1 (T 9)⟩,
            ⟨none, none, .store 1 (T 45) (T 44)⟩])))))))))))
  (.seq (.region [⟨(some 140), none, .load true 2 (T 9)⟩,
    ⟨none, none, .store 2 (T 8) (T 140)⟩])
  .ret)))))
theorem f29 : fnC Try.prog 29 = some (c29, 141, [(.cell 8 true 2)]) := by kernel_rfl

/-- dactyllaw11.given -/
def c31 : CCode :=
  (.seq (.region [⟨(some 1), none, .box 36 (T 0)⟩,
    ⟨(some 2), none, .alloc 30 (.agg [(.val (.slice none 0 0)), (.val (.slice none 0 0))])⟩])
  (.seq (.region [⟨(some 3), none, .fieldAddr 0 (T 1)⟩,
    ⟨(some 4), none, .load false 1 (T 3)⟩,
    ⟨(some 5), none, .fieldAddr 1 (T 1)⟩,
    ⟨(some 6), none, .load false 1 (T 5)⟩,
    ⟨(some 7), none, .build [(.val (.slice none 0 0)), (.val (.slice none 0 0))] [(0, (1, (T 4))), (1, (1, (T 6)))]⟩,
    ⟨none, none, .store 2 (T 2) (T 7)⟩])
  .ret))
theorem f31 : fnC Try.prog 31 = some (c31, 8, [(.cell 2 true 2)]) := by kernel_rfl

/-- dactylref11.Check -/
def c32 : CCode :=
  (.seq (.region [⟨(some 5), none, .box 36 (T 2)⟩,
    ⟨(some 6), none, .mov (.const (.int .i64 0))⟩])
  (.seq (.seq (.region [⟨(some 9), none, .mov (T 0)⟩,
    ⟨(some 10), none, .mov (T 1)⟩,
    ⟨(some 11), none, .call (.func 42) [(T 9), (T 10)]⟩,
    ⟨(some 12), none, .lnot (T 11)⟩])
  (.cond (T 12)
    (.seq (.region [⟨(some 6), none, .mov (.const (.int .i64 1))⟩])
    .ret)
    .skip))
  (.seq (.region [⟨(some 13), none, .mov (T 0)⟩,
    ⟨(some 14), none, .mov (T 1)⟩,
    ⟨(some 15), none, .call (.func 43) [(T 13), (T 14)]⟩,
    ⟨(some 7), none, .mov (T 15)⟩])
  (.seq (.region [⟨(some 8), none, .mov (.const (.int .i64 0))⟩])
  (.seq (.seq (.region [⟨(some 16), none, .mov (T 0)⟩,
    ⟨(some 17), none, .len (T 16)⟩,
    ⟨(some 18), none, .ibin .gtr (T 17) (.const (.int .i64 0))⟩])
  (.cond (T 18)
    (.region [⟨(some 19), none, .mov (T 7)⟩,
      ⟨(some 20), none, .idxS 1 (T 19) (.const (.int .i64 0))⟩,
      ⟨(some 21), none, .load false 1 (T 20)⟩,
      ⟨(some 22), none, .idxS 1 (T 21) (.const (.int .i64 0))⟩,
      ⟨(some 23), none, .load false 1 (T 22)⟩,
      ⟨(some 8), none, .mov (T 23)⟩])
    .skip))
  (.seq (.seq (.region [⟨(some 24), none, .fieldAddr 1 (T 5)⟩,
    ⟨(some 25), none, .load false 1 (T 24)⟩,
    ⟨(some 26), none, .mov (T 7)⟩,
    ⟨(some 27), none, .call (.func 17) [(T 25), (T 26)]⟩,
    ⟨(some 28), none, .lnot (T 27)⟩,
    ⟨(some 29), none, .mov (T 28)⟩,
    ⟨(some 30), (some (29, false)), .mov (T 8)⟩,
    ⟨(some 31), (some (29, false)), .ibin .lss (T 30) (.const (.int .i64 0))⟩,
    ⟨(some 32), none, .pick (T 29) (.const (.bool true)) (T 31)⟩,
    ⟨(some 33), none, .mov (T 32)⟩,
    ⟨(some 34), (some (33, false)), .mov (T 0)⟩,
    ⟨(some 35), (some (33, false)), .mov (T 1)⟩,
    ⟨(some 36), (some (33, false)), .fieldAddr 0 (T 5)⟩,
    ⟨(some 37), (some (33, false)), .load false 1 (T 36)⟩,
    ⟨(some 38), (some (33, false)), .call (.func 36) [(T 34), (T 35), (T 37)]⟩,
    ⟨(some 39), (some (33, false)), .mov (T 8)⟩,
    ⟨(some 40), (some (33, false)), .ibin .neq (T 38) (T 39)⟩,
    ⟨(some 41), none, .pick (T 33) (.const (.bool true)) (T 40)⟩])
  (.cond (T 41)
    (.seq (.region [⟨(some 6), none, .mov (.const (.int .i64 19))⟩])
    .ret)
    .skip))
  (.seq (.region [⟨(some 6), none, .mov (.const (.int .i64 0))⟩])
  .ret)))))))
theorem f32 : fnC Try.prog 32 = some (c32, 42, [(.tmp 6)]) := by kernel_rfl

/-- dactylref11.Next -/
def c33 : CCode :=
  (.seq (.region [⟨(some 3), none, .box 64 (T 1)⟩,
    ⟨(some 4), none, .alloc 64 (.agg [(.val (.int .i64 0)), (.val (.int .i64 0))])⟩])
  (.seq (.seq (.drawn [⟨(some 5), none, .idxA 2 1 (T 3) (.const (.int .i64 1))⟩,
    ⟨(some 6), none, .load false 1 (T 5)⟩,
    ⟨(some 7), none, .ibin .add (T 6) (.const (.int .i64 1))⟩,
    ⟨(some 8), none, .mov (T 0)⟩,
    ⟨(some 9), none, .idxA 2 1 (T 3) (.const (.int .i64 0))⟩,
    ⟨(some 10), none, .load false 1 (T 9)⟩,
    ⟨(some 11), none, .idxS 1 (T 8) (T 10)⟩,
    ⟨(some 12), none, .fieldAddr 0 (T 11)⟩,
    ⟨(some 13), none, .load false 1 (T 12)⟩,
    ⟨(some 14), none, .len (T 13)⟩,
    ⟨(some 15), none, .ibin .lss (T 7) (T 14)⟩] [])
  (.cond (T 15)
    (.seq (.region [⟨(some 16), none, .idxA 2 1 (T 3) (.const (.int .i64 0))⟩,
      ⟨(some 17), none, .load false 1 (T 16)⟩,
      ⟨(some 18), none, .idxA 2 1 (T 3) (.const (.int .i64 1))⟩,
      ⟨(some 19), none, .load false 1 (T 18)⟩,
      ⟨(some 20), none, .ibin .add (T 19) (.const (.int .i64 1))⟩,
      ⟨(some 21), none, .build [(.val (.int .i64 0)), (.val (.int .i64 0))] [(0, (1, (T 17))), (1, (1, (T 20)))]⟩,
      ⟨none, none, .store 2 (T 4) (T 21)⟩])
    .ret)
    .skip))
  (.seq (.region [⟨(some 22), none, .idxA 2 1 (T 3) (.const (.int .i64 0))⟩,
    ⟨(some 23), none, .load false 1 (T 22)⟩,
    ⟨(some 24), none, .ibin .add (T 23) (.const (.int .i64 1))⟩,
    ⟨(some 25), none, .build [(.val (.int .i64 0)), (.val (.int .i64 0))] [(0, (1, (T 24))), (1, (1, (.const (.int .i64 0))))]⟩,
    ⟨none, none, .store 2 (T 4) (T 25)⟩])
  .ret)))
theorem f33 : fnC Try.prog 33 = some (c33, 26, [(.cell 4 true 2)]) := by kernel_rfl

/-- dactylref01.At -/
def c34 : CCode :=
  (.seq (.region [⟨(some 6), none, .mov (.const (.int .i64 0))⟩])
  (.seq (.seq (.region [⟨(some 7), none, .mov (T 1)⟩,
    ⟨(some 8), none, .ibin .lss (T 7) (.const (.int .i64 0))⟩,
    ⟨(some 9), none, .mov (T 8)⟩,
    ⟨(some 10), (some (9, false)), .mov (T 1)⟩,
    ⟨(some 11), (some (9, false)), .mov (T 0)⟩,
    ⟨(some 12), (some (9, false)), .len (T 11)⟩,
    ⟨(some 13), (some (9, false)), .ibin .geq (T 10) (T 12)⟩,
    ⟨(some 14), none, .pick (T 9) (.const (.bool true)) (T 13)⟩])
  (.cond (T 14)
    (.seq (.region [⟨(some 6), none, .mov (.const (.int .i64 0))⟩])
    .ret)
    .skip))
  (.seq (.region [⟨(some 15), none, .mov (T 0)⟩,
    ⟨(some 16), none, .mov (T 1)⟩,
    ⟨(some 17), none, .idxS 1 (T 15) (T 16)⟩,
    ⟨(some 18), none, .load false 1 (T 17)⟩,
    ⟨(some 19), none, .mov (T 2)⟩,
    ⟨(some 20), none, .call (.func 19) [(T 18), (T 19)]⟩,
    ⟨(some 6), none, .mov (T 20)⟩])
  .ret)))
theorem f34 : fnC Try.prog 34 = some (c34, 21, [(.tmp 6)]) := by kernel_rfl

/-- dactylref11.Size -/
def c35 : CCode :=
  (.seq (.region [⟨(some 4), none, .box 64 (T 1)⟩,
    ⟨(some 5), none, .box 64 (T 2)⟩,
    ⟨(some 6), none, .mov (.const (.int .i64 0))⟩])
  (.seq (.seq (.region [⟨(some 10), none, .idxA 2 1 (T 4) (.const (.int .i64 0))⟩,
    ⟨(some 11), none, .load false 1 (T 10)⟩,
    ⟨(some 12), none, .idxA 2 1 (T 5) (.const (.int .i64 0))⟩,
    ⟨(some 13), none, .load false 1 (T 12)⟩,
    ⟨(some 14), none, .ibin .eql (T 11) (T 13)⟩])
  (.cond (T 14)
    (.seq (.drawn [⟨(some 15), none, .mov (T 0)⟩,
      ⟨(some 16), none, .idxA 2 1 (T 4) (.const (.int .i64 0))⟩,
      ⟨(some 17), none, .load false 1 (T 16)⟩,
      ⟨(some 18), none, .idxS 1 (T 15) (T 17)⟩,
      ⟨(some 19), none, .fieldAddr 0 (T 18)⟩,
      ⟨(some 20), none, .load false 1 (T 19)⟩,
      ⟨(some 21), none, .idxA 2 1 (T 4) (.const (.int .i64 1))⟩,
      ⟨(some 22), none, .load false 1 (T 21)⟩,
      ⟨(some 23), none, .idxS 1 (T 20) (T 22)⟩,
      ⟨(some 24), none, .load false 1 (T 23)⟩,
      ⟨(some 25), none, .idxA 2 1 (T 5) (.const (.int .i64 1))⟩,
      ⟨(some 26), none, .load false 1 (T 25)⟩,
      ⟨(some 27), none, .idxA 2 1 (T 4) (.const (.int .i64 1))⟩,
      ⟨(some 28), none, .load false 1 (T 27)⟩,
      ⟨(some 29), none, .ibin .sub (T 26) (T 28)⟩,
      ⟨(some 30), none, .ibin .sub (T 29) (.const (.int .i64 1))⟩,
      ⟨(some 31), none, .idxS 1 (T 24) (T 30)⟩,
      ⟨(some 32), none, .load false 1 (T 31)⟩,
      ⟨(some 33), none, .ibin .add (T 32) (.const (.int .i64 1))⟩,
      ⟨(some 6), none, .mov (T 33)⟩] [])
    .ret)
    .skip))
  (.seq (.drawn [⟨(some 34), none, .mov (T 0)⟩,
    ⟨(some 35), none, .idxA 2 1 (T 4) (.const (.int .i64 0))⟩,
    ⟨(some 36), none, .load false 1 (T 35)⟩,
    ⟨(some 37), none, .idxS 1 (T 34) (T 36)⟩,
    ⟨(some 38), none, .fieldAddr 0 (T 37)⟩,
    ⟨(some 39), none, .load false 1 (T 38)⟩,
    ⟨(some 40), none, .idxA 2 1 (T 4) (.const (.int .i64 1))⟩,
    ⟨(some 41), none, .load false 1 (T 40)⟩,
    ⟨(some 42), none, .idxS 1 (T 39) (T 41)⟩,
    ⟨(some 43), none, .load false 1 (T 42)⟩,
    ⟨(some 7), none, .mov (T 43)⟩] [])
  (.seq (.region [⟨(some 44), none, .mov (T 7)⟩,
    ⟨(some 45), none, .mov (T 7)⟩,
    ⟨(some 46), none, .len (T 45)⟩,
    ⟨(some 47), none, .ibin .sub (T 46) (.const (.int .i64 1))⟩,
    ⟨(some 48), none, .idxS 1 (T 44) (T 47)⟩,
    ⟨(some 49), none, .load false 1 (T 48)⟩,
    ⟨(some 8), none, .mov (T 49)⟩])
  (.seq (.seq (.region [⟨(some 50), none, .idxA 2 1 (T 4) (.const (.int .i64 0))⟩,
    ⟨(some 51), none, .load false 1 (T 50)⟩,
    ⟨(some 52), none, .ibin .add (T 51) (.const (.int .i64 1))⟩,
    ⟨(some 9), none, .mov (T 52)⟩])
  (.block 0 (.loop
    (.seq (.seq (.region [⟨(some 53), none, .mov (T 9)⟩,
      ⟨(some 54), none, .idxA 2 1 (T 5) (.const (.int .i64 0))⟩,
      ⟨(some 55), none, .load false 1 (T 54)⟩,
      ⟨(some 56), none, .ibin .lss (T 53) (T 55)⟩])
    (.cond (T 56)
      .skip
      (.exit 0)))
    (.seq (.block 1 (.seq (.region [⟨(some 59), none, .mov (T 0)⟩,
      ⟨(some 60), none, .mov (T 9)⟩,
      ⟨(some 61), none, .idxS 1 (T 59) (T 60)⟩,
      ⟨(some 62), none, .fieldAddr 0 (T 61)⟩,
      ⟨(some 63), none, .load false 1 (T 62)⟩,
      ⟨(some 64), none, .idxS 1 (T 63) (.const (.int .i64 0))⟩,
      ⟨(some 65), none, .load false 1 (T 64)⟩,
      ⟨(some 7), none, .mov (T 65)⟩])
    (.region [⟨(some 66), none, .mov (T 8)⟩,
      ⟨(some 67), none, .ibin .add (T 66) (.const (.int .i64 1))⟩,
      ⟨(some 68), none, .mov (T 7)⟩,
      ⟨(some 69), none, .mov (T 7)⟩,
      ⟨(some 70), none, .len (T 69)⟩,
      ⟨(some 71), none, .ibin .sub (T 70) (.const (.int .i64 1))⟩,
      ⟨(some 72), none, .idxS 1 (T 68) (T 71)⟩,
      ⟨(some 73), none, .load false 1 (T 72)⟩,
      ⟨(some 74), none, .ibin .add (T 67) (T 73)⟩,
      ⟨(some 8), none, .mov (T 74)⟩])))
    (.region [⟨(some 57), none, .mov (T 9)⟩,
      ⟨(some 58), none, .ibin .add (T 57) (.const (.int .i64 1))⟩,
      ⟨(some 9), none, .mov (T 58)⟩]))))))
  (.seq (.seq (.region [⟨(some 75), none, .idxA 2 1 (T 5) (.const (.int .i64 1))⟩,
    ⟨(some 76), none, .load false 1 (T 75)⟩,
    ⟨(some 77), none, .ibin .gtr (T 76) (.const (.int .i64 0))⟩])
  (.cond (T 77)
    (.drawn [⟨(some 78), none, .mov (T 8)⟩,
      ⟨(some 79), none, .ibin .add (T 78) (.const (.int .i64 1))⟩,
      ⟨(some 80), none, .mov (T 0)⟩,
      ⟨(some 81), none, .idxA 2 1 (T 5) (.const (.int .i64 0))⟩,
      ⟨(some 82), none, .load false 1 (T 81)⟩,
      ⟨(some 83), none, .idxS 1 (T 80) (T 82)⟩,
      ⟨(some 84), none, .fieldAddr 0 (T 83)⟩,
      ⟨(some 85), none, .load false 1 (T 84)⟩,
      ⟨(some 86), none, .idxS 1 (T 85) (.const (.int .i64 0))⟩,
      ⟨(some 87), none, .load false 1 (T 86)⟩,
      ⟨(some 88), none, .idxA 2 1 (T 5) (.const (.int .i64 1))⟩,
      ⟨(some 89), none, .load false 1 (T 88)⟩,
      ⟨(some 90), none, .ibin .sub (T 89) (.const (.int .i64 1))⟩,
      ⟨(some 91), none, .idxS 1 (T 87) (T 90)⟩,
      ⟨(some 92), none, .load false 1 (T 91)⟩,
      ⟨(some 93), none, .ibin .add (T 79) (T 92)⟩,
      ⟨(some 94), none, .ibin .add (T 93) (.const (.int .i64 1))⟩,
      ⟨(some 8), none, .mov (T 94)⟩] [])
    .skip))
  (.seq (.region [⟨(some 95), none, .mov (T 8)⟩,
    ⟨(some 6), none, .mov (T 95)⟩])
  .ret)))))))
theorem f35 : fnC Try.prog 35 = some (c35, 96, [(.tmp 6)]) := by kernel_rfl

/-- dactylref11.Cost -/
def c36 : CCode :=
  (.seq (.region [⟨(some 6), none, .mov (.const (.int .i64 0))⟩])
  (.seq (.region [⟨(some 10), none, .build [(.val (.int .i64 0)), (.val (.int .i64 0))] []⟩,
    ⟨(some 7), none, .alloc 64 (.agg [(.val (.int .i64 0)), (.val (.int .i64 0))])⟩,
    ⟨none, none, .store 2 (T 7) (T 10)⟩])
  (.seq (.region [⟨(some 8), none, .mov (.const (.int .i64 0))⟩])
  (.seq (.seq (.region [⟨(some 9), none, .mov (.const (.int .i64 0))⟩])
  (.block 0 (.loop
    (.seq (.seq (.region [⟨(some 11), none, .mov (T 9)⟩,
      ⟨(some 12), none, .mov (T 2)⟩,
      ⟨(some 13), none, .len (T 12)⟩,
      ⟨(some 14), none, .ibin .lss (T 11) (T 13)⟩])
    (.cond (T 14)
      .skip
      (.exit 0)))
    (.seq (.block 1 (.seq (.seq (.drawn [⟨(some 17), none, .mov (T 0)⟩,
      ⟨(some 18), none, .mov (T 2)⟩,
      ⟨(some 19), none, .mov (T 9)⟩,
      ⟨(some 20), none, .idxS 2 (T 18) (T 19)⟩,
      ⟨(some 21), none, .load true 2 (T 20)⟩,
      ⟨(some 22), none, .call (.func 48) [(T 17), (T 21)]⟩,
      ⟨(some 23), none, .lnot (T 22)⟩,
      ⟨(some 24), none, .mov (T 23)⟩,
      ⟨(some 25), (some (24, false)), .load true 2 (T 7)⟩,
      ⟨(some 26), (some (24, false)), .mov (T 2)⟩,
      ⟨(some 27), (some (24, false)), .mov (T 9)⟩,
      ⟨(some 28), (some (24, false)), .idxS 2 (T 26) (T 27)⟩,
      ⟨(some 29), (some (24, false)), .load true 2 (T 28)⟩,
      ⟨(some 30), (some (24, false)), .call (.func 49) [(T 25), (T 29)]⟩,
      ⟨(some 31), (some (24, false)), .lnot (T 30)⟩,
      ⟨(some 32), none, .pick (T 24) (.const (.bool true)) (T 31)⟩,
      ⟨(some 33), none, .mov (T 32)⟩,
      ⟨(some 34), (some (33, false)), .mov (T 0)⟩,
      ⟨(some 35), (some (33, false)), .load true 2 (T 7)⟩,
      ⟨(some 36), (some (33, false)), .mov (T 2)⟩,
      ⟨(some 37), (some (33, false)), .mov (T 9)⟩,
      ⟨(some 38), (some (33, false)), .idxS 2 (T 36) (T 37)⟩,
      ⟨(some 39), (some (33, false)), .load true 2 (T 38)⟩,
      ⟨(some 40), (some (33, false)), .call (.func 35) [(T 34), (T 35), (T 39)]⟩,
      ⟨(some 41), (some (33, false)), .mov (T 1)⟩,
      ⟨(some 42), (some (33, false)), .ibin .gtr (T 40) (T 41)⟩,
      ⟨(some 43), none, .pick (T 33) (.const (.bool true)) (T 42)⟩] [])
    (.cond (T 43)
      (.seq (.region [⟨(some 6), none, .mov (.const (.int .i64 (-1)))⟩])
      .ret)
      .skip))
    (.seq (.drawn [⟨(some 44), none, .mov (T 8)⟩,
      ⟨(some 45), none, .mov (T 0)⟩,
      ⟨(some 46), none, .mov (T 1)⟩,
      ⟨(some 47), none, .load true 2 (T 7)⟩,
      ⟨(some 48), none, .mov (T 2)⟩,
      ⟨(some 49), none, .mov (T 9)⟩,
      ⟨(some 50), none, .idxS 2 (T 48) (T 49)⟩,
      ⟨(some 51), none, .load true 2 (T 50)⟩,
      ⟨(some 52), none, .call (.func 50) [(T 45), (T 46), (T 47), (T 51)]⟩,
      ⟨(some 53), none, .ibin .add (T 44) (T 52)⟩,
      ⟨(some 8), none, .mov (T 53)⟩] [])
    (.region [⟨(some 54), none, .mov (T 2)⟩,
      ⟨(some 55), none, .mov (T 9)⟩,
      ⟨(some 56), none, .idxS 2 (T 54) (T 55)⟩,
      ⟨(some 57), none, .load true 2 (T 56)⟩,
      ⟨none, none, .store 2 (T 7) (T 57)⟩]))))
    (.region [⟨(some 15), none, .mov (T 9)⟩,
      ⟨(some 16), none, .ibin .add (T 15) (.const (.int .i64 1))⟩,
      ⟨(some 9), none, .mov (T 16)⟩]))))))
  (.seq (.seq (.region [⟨(some 58), none, .load true 2 (T 7)⟩,
    ⟨(some 59), none, .mov (T 0)⟩,
    ⟨(some 60), none, .len (T 59)⟩,
    ⟨(some 61), none, .build [(.val (.int .i64 0)), (.val (.int .i64 0))] [(0, (1, (T 60))), (1, (1, (.const (.int .i64 0))))]⟩,
    ⟨(some 62), none, .aeq true 2 (T 58) (T 61)⟩])
  (.cond (T 62)
    (.seq (.region [⟨(some 6), none, .mov (.const (.int .i64 (-1)))⟩])
    .ret)
    .skip))
  (.seq (.region [⟨(some 63), none, .mov (T 8)⟩,
    ⟨(some 6), none, .mov (T 63)⟩])
  .ret))))))
theorem f36 : fnC Try.prog 36 = some (c36, 64, [(.tmp 6)]) := by kernel_rfl

/-- breaks.valid -/
def c37 : CCode :=
  (.seq (.region [⟨(some 4), none, .mov (.const (.bool false))⟩])
  (.seq (.region [⟨(some 5), none, .mov (T 0)⟩,
    ⟨(some 6), none, .len (T 5)⟩,
    ⟨(some 7), none, .ibin .leq (T 6) (.const (.int .i64 512))⟩,
    ⟨(some 8), none, .mov (T 7)⟩,
    ⟨(some 9), (some (8, true)), .mov (T 1)⟩,
    ⟨(some 10), (some (8, true)), .ibin .geq (T 9) (.const (.int .i64 1))⟩,
    ⟨(some 11), none, .pick (T 8) (T 10) (.const (.bool false))⟩,
    ⟨(some 12), none, .mov (T 11)⟩,
    ⟨(some 13), (some (12, true)), .mov (T 1)⟩,
    ⟨(some 14), (some (12, true)), .ibin .leq (T 13) (.const (.int .i64 512))⟩,
    ⟨(some 15), none, .pick (T 12) (T 14) (.const (.bool false))⟩,
    ⟨(some 16), none, .mov (T 15)⟩,
    ⟨(some 17), (some (16, true)), .mov (T 0)⟩,
    ⟨(some 18), (some (16, true)), .call (.func 51) [(T 17), (.func 52)]⟩,
    ⟨(some 19), (some (16, true)), .lnot (T 18)⟩,
    ⟨(some 20), none, .pick (T 16) (T 19) (.const (.bool false))⟩,
    ⟨(some 4), none, .mov (T 20)⟩])
  .ret))
theorem f37 : fnC Try.prog 37 = some (c37, 21, [(.tmp 4)]) := by kernel_rfl

/-- breaks.lines -/
def c40 : CCode :=
  (.seq (.region [⟨(some 3), none, .box 34 (T 0)⟩,
    ⟨(some 4), none, .box 3 (T 1)⟩,
    ⟨(some 5), none, .box 64 (T 2)⟩,
    ⟨(some 6), none, .mov (.const .nilFunc)⟩])
  (.seq (.region [⟨(some 7), none, .mkfunc (.func 54) [(T 5), (T 3), (T 4)]⟩,
    ⟨(some 6), none, .mov (T 7)⟩])
  .ret))
theorem f40 : fnC Try.prog 40 = some (c40, 8, [(.tmp 6)]) := by kernel_rfl

/-- breaks.price -/
def c41 : CCode :=
  (.seq (.region [⟨(some 4), none, .mov (.const (.int .i64 0))⟩])
  (.seq (.seq (.region [⟨(some 5), none, .mov (T 0)⟩])
  (.cond (T 5)
    (.seq (.region [⟨(some 4), none, .mov (.const (.int .i64 4294967296))⟩])
    .ret)
    .skip))
  (.seq (.region [⟨(some 6), none, .mov (T 1)⟩,
    ⟨(some 7), none, .mov (T 1)⟩,
    ⟨(some 8), none, .ibin .mul (T 6) (T 7)⟩,
    ⟨(some 9), none, .ibin .add (.const (.int .i64 4294967296)) (T 8)⟩,
    ⟨(some 4), none, .mov (T 9)⟩])
  .ret)))
theorem f41 : fnC Try.prog 41 = some (c41, 10, [(.tmp 4)]) := by kernel_rfl

/-- dactylref11.Valid -/
def c42 : CCode :=
  (.seq (.region [⟨(some 4), none, .mov (.const (.bool false))⟩])
  (.seq (.seq (.region [⟨(some 9), none, .mov (T 0)⟩,
    ⟨(some 10), none, .len (T 9)⟩,
    ⟨(some 11), none, .ibin .gtr (T 10) (.const (.int .i64 512))⟩,
    ⟨(some 12), none, .mov (T 11)⟩,
    ⟨(some 13), (some (12, false)), .mov (T 1)⟩,
    ⟨(some 14), (some (12, false)), .ibin .lss (T 13) (.const (.int .i64 1))⟩,
    ⟨(some 15), none, .pick (T 12) (.const (.bool true)) (T 14)⟩,
    ⟨(some 16), none, .mov (T 15)⟩,
    ⟨(some 17), (some (16, false)), .mov (T 1)⟩,
    ⟨(some 18), (some (16, false)), .ibin .gtr (T 17) (.const (.int .i64 512))⟩,
    ⟨(some 19), none, .pick (T 16) (.const (.bool true)) (T 18)⟩])
  (.cond (T 19)
    (.seq (.region [⟨(some 4), none, .mov (.const (.bool false))⟩])
    .ret)
    .skip))
  (.seq (.seq (.region [⟨(some 5), none, .mov (.const (.int .i64 0))⟩])
  (.block 0 (.loop
    (.seq (.seq (.region [⟨(some 20), none, .mov (T 5)⟩,
      ⟨(some 21), none, .mov (T 0)⟩,
      ⟨(some 22), none, .len (T 21)⟩,
      ⟨(some 23), none, .ibin .lss (T 20) (T 22)⟩])
    (.cond (T 23)
      .skip
      (.exit 0)))
    (.seq (.block 1 (.seq (.region [⟨(some 26), none, .mov (T 0)⟩,
      ⟨(some 27), none, .mov (T 5)⟩,
      ⟨(some 28), none, .idxS 1 (T 26) (T 27)⟩,
      ⟨(some 29), none, .fieldAddr 0 (T 28)⟩,
      ⟨(some 30), none, .load false 1 (T 29)⟩,
      ⟨(some 31), none, .len (T 30)⟩,
      ⟨(some 6), none, .mov (T 31)⟩])
    (.seq (.seq (.region [⟨(some 32), none, .mov (T 6)⟩,
      ⟨(some 33), none, .ibin .lss (T 32) (.const (.int .i64 1))⟩,
      ⟨(some 34), none, .mov (T 33)⟩,
      ⟨(some 35), (some (34, false)), .mov (T 6)⟩,
      ⟨(some 36), (some (34, false)), .ibin .gtr (T 35) (.const (.int .i64 16))⟩,
      ⟨(some 37), none, .pick (T 34) (.const (.bool true)) (T 36)⟩])
    (.cond (T 37)
      (.seq (.region [⟨(some 4), none, .mov (.const (.bool false))⟩])
      .ret)
      .skip))
    (.seq (.region [⟨(some 7), none, .mov (.const (.int .i64 0))⟩])
    (.block 2 (.loop
      (.seq (.seq (.region [⟨(some 38), none, .mov (T 7)⟩,
        ⟨(some 39), none, .mov (T 6)⟩,
        ⟨(some 40), none, .ibin .lss (T 38) (T 39)⟩])
      (.cond (T 40)
        .skip
        (.exit 2)))
      (.seq (.block 3 (.seq (.seq (.region [⟨(some 43), none, .mov (T 0)⟩,
        ⟨(some 44), none, .mov (T 5)⟩,
        ⟨(some 45), none, .idxS 1 (T 43) (T 44)⟩,
        ⟨(some 46), none, .fieldAddr 0 (T 45)⟩,
        ⟨(some 47), none, .load false 1 (T 46)⟩,
        ⟨(some 48), none, .mov (T 7)⟩,
        ⟨(some 49), none, .idxS 1 (T 47) (T 48)⟩,
        ⟨(some 50), none, .load false 1 (T 49)⟩,
        ⟨(some 51), none, .len (T 50)⟩,
        ⟨(some 52), none, .mov (T 6)⟩,
        ⟨(some 53), none, .mov (T 7)⟩,
        ⟨(some 54), none, .ibin .sub (T 52) (T 53)⟩,
        ⟨(some 55), none, .ibin .neq (T 51) (T 54)⟩])
      (.cond (T 55)
        (.seq (.region [⟨(some 4), none, .mov (.const (.bool false))⟩])
        .ret)
        .skip))
      (.seq (.region [⟨(some 8), none, .mov (.const (.int .i64 0))⟩])
      (.block 4 (.loop
        (.seq (.seq (.region [⟨(some 56), none, .mov (T 8)⟩,
          ⟨(some 57), none, .mov (T 6)⟩,
          ⟨(some 58), none, .mov (T 7)⟩,
          ⟨(some 59), none, .ibin .sub (T 57) (T 58)⟩,
          ⟨(some 60), none, .ibin .lss (T 56) (T 59)⟩])
        (.cond (T 60)
          .skip
          (.exit 4)))
        (.seq (.block 5 (.seq (.region [⟨(some 63), none, .mov (T 0)⟩,
          ⟨(some 64), none, .mov (T 5)⟩,
          ⟨(some 65), none, .idxS 1 (T 63) (T 64)⟩,
          ⟨(some 66), none, .fieldAddr 0 (T 65)⟩,
          ⟨(some 67), none, .load false 1 (T 66)⟩,
          ⟨(some 68), none, .mov (T 7)⟩,
          ⟨(some 69), none, .idxS 1 (T 67) (T 68)⟩,
          ⟨(some 70), none, .load false 1 (T 69)⟩,
          ⟨(some 71), none, .mov (T 8)⟩,
          ⟨(some 72), none, .idxS 1 (T 70) (T 71)⟩,
          ⟨(some 73), none, .load false 1 (T 72)⟩,
          ⟨(some 74), none, .ibin .lss (T 73) (.const (.int .i64 0))⟩,
          ⟨(some 75), none, .mov (T 74)⟩,
          ⟨(some 76), (some (75, false)), .mov (T 0)⟩,
          ⟨(some 77), (some (75, false)), .mov (T 5)⟩,
          ⟨(some 78), (some (75, false)), .idxS 1 (T 76) (T 77)⟩,
          ⟨(some 79), (some (75, false)), .fieldAddr 0 (T 78)⟩,
          ⟨(some 80), (some (75, false)), .load false 1 (T 79)⟩,
          ⟨(some 81), (some (75, false)), .mov (T 7)⟩,
          ⟨(some 82), (some (75, false)), .idxS 1 (T 80) (T 81)⟩,
          ⟨(some 83), (some (75, false)), .load false 1 (T 82)⟩,
          ⟨(some 84), (some (75, false)), .mov (T 8)⟩,
          ⟨(some 85), (some (75, false)), .idxS 1 (T 83) (T 84)⟩,
          ⟨(some 86), (some (75, false)), .load false 1 (T 85)⟩,
          ⟨(some 87), (some (75, false)), .ibin .gtr (T 86) (.const (.int .i64 4096))⟩,
          ⟨(some 88), none, .pick (T 75) (.const (.bool true)) (T 87)⟩])
        (.cond (T 88)
          (.seq (.region [⟨(some 4), none, .mov (.const (.bool false))⟩])
          .ret)
          .skip)))
        (.region [⟨(some 61), none, .mov (T 8)⟩,
          ⟨(some 62), none, .ibin .add (T 61) (.const (.int .i64 1))⟩,
          ⟨(some 8), none, .mov (T 62)⟩]))))))))
      (.region [⟨(some 41), none, .mov (T 7)⟩,
        ⟨(some 42), none, .ibin .add (T 41) (.const (.int .i64 1))⟩,
        ⟨(some 7), none, .mov (T 42)⟩])))))))))
    (.region [⟨(some 24), none, .mov (T 5)⟩,
      ⟨(some 25), none, .ibin .add (T 24) (.const (.int .i64 1))⟩,
      ⟨(some 5), none, .mov (T 25)⟩]))))))
  (.seq (.region [⟨(some 4), none, .mov (.const (.bool true))⟩])
  .ret))))
theorem f42 : fnC Try.prog 42 = some (c42, 89, [(.tmp 4)]) := by kernel_rfl

/-- dactylref11.Table -/
def c43 : CCode :=
  (.seq (.region [⟨(some 4), none, .mov (.const (.slice none 0 0))⟩])
  (.seq (.region [⟨(some 5), none, .mov (.const (.slice none 0 0))⟩])
  (.seq (.seq (.region [⟨(some 6), none, .mov (.const (.int .i64 0))⟩])
  (.block 0 (.loop
    (.seq (.seq (.region [⟨(some 9), none, .mov (T 6)⟩,
      ⟨(some 10), none, .mov (T 0)⟩,
      ⟨(some 11), none, .len (T 10)⟩,
      ⟨(some 12), none, .ibin .lss (T 9) (T 11)⟩])
    (.cond (T 12)
      .skip
      (.exit 0)))
    (.seq (.block 1 (.region [⟨(some 15), none, .mov (T 5)⟩,
      ⟨(some 16), none, .mov (T 0)⟩,
      ⟨(some 17), none, .mov (T 6)⟩,
      ⟨(some 18), none, .idxS 1 (T 16) (T 17)⟩,
      ⟨(some 19), none, .fieldAddr 0 (T 18)⟩,
      ⟨(some 20), none, .load false 1 (T 19)⟩,
      ⟨(some 21), none, .len (T 20)⟩,
      ⟨(some 22), none, .mkslice 3 1 8 (.val (.int .i64 0)) (T 21) (T 21)⟩,
      ⟨(some 23), none, .bslice 22 1 [(T 22)]⟩,
      ⟨(some 24), none, .append 22 1 24 (T 15) (T 23)⟩,
      ⟨(some 5), none, .mov (T 24)⟩]))
    (.region [⟨(some 13), none, .mov (T 6)⟩,
      ⟨(some 14), none, .ibin .add (T 13) (.const (.int .i64 1))⟩,
      ⟨(some 6), none, .mov (T 14)⟩]))))))
  (.seq (.seq (.region [⟨(some 25), none, .mov (T 0)⟩,
    ⟨(some 26), none, .len (T 25)⟩,
    ⟨(some 27), none, .ibin .sub (T 26) (.const (.int .i64 1))⟩,
    ⟨(some 7), none, .mov (T 27)⟩])
  (.block 2 (.loop
    (.seq (.seq (.region [⟨(some 28), none, .mov (T 7)⟩,
      ⟨(some 29), none, .ibin .geq (T 28) (.const (.int .i64 0))⟩])
    (.cond (T 29)
      .skip
      (.exit 2)))
    (.seq (.block 3 (.seq (.region [⟨(some 32), none, .mov (T 0)⟩,
      ⟨(some 33), none, .mov (T 7)⟩,
      ⟨(some 34), none, .idxS 1 (T 32) (T 33)⟩,
      ⟨(some 35), none, .fieldAddr 0 (T 34)⟩,
      ⟨(some 36), none, .load false 1 (T 35)⟩,
      ⟨(some 37), none, .len (T 36)⟩,
      ⟨(some 38), none, .ibin .sub (T 37) (.const (.int .i64 1))⟩,
      ⟨(some 8), none, .mov (T 38)⟩])
    (.block 4 (.loop
      (.seq (.seq (.region [⟨(some 39), none, .mov (T 8)⟩,
        ⟨(some 40), none, .ibin .geq (T 39) (.const (.int .i64 0))⟩])
      (.cond (T 40)
        .skip
        (.exit 4)))
      (.seq (.block 5 (.drawn [⟨(some 44), none, .mov (T 5)⟩,
        ⟨(some 45), none, .mov (T 7)⟩,
        ⟨(some 46), none, .idxS 1 (T 44) (T 45)⟩,
        ⟨(some 47), none, .load false 1 (T 46)⟩,
        ⟨(some 48), none, .mov (T 8)⟩,
        ⟨(some 49), none, .mov (T 0)⟩,
        ⟨(some 50), none, .mov (T 1)⟩,
        ⟨(some 51), none, .mov (T 5)⟩,
        ⟨(some 52), none, .mov (T 7)⟩,
        ⟨(some 53), none, .mov (T 8)⟩,
        ⟨(some 54), none, .build [(.val (.int .i64 0)), (.val (.int .i64 0))] [(0, (1, (T 52))), (1, (1, (T 53)))]⟩,
        ⟨(some 55), none, .call (.func 44) [(T 49), (T 50), (T 51), (T 54)]⟩,
        ⟨(some 43), none, .mov (T 55)⟩,
        ⟨(some 56), none, .extract (T 43) 0⟩,
        ⟨(some 57), none, .extract (T 43) 1⟩,
        ⟨(some 58), none, .idxS 1 (T 47) (T 48)⟩] [(⟨none, none, .store 1 (T 58) (T 56)⟩, [⟨(some 57), none, .extract (T 43) 1⟩])]))
      (.region [⟨(some 41), none, .mov (T 8)⟩,
        ⟨(some 42), none, .ibin .sub (T 41) (.const (.int .i64 1))⟩,
        ⟨(some 8), none, .mov (T 42)⟩])))))))
    (.region [⟨(some 30), none, .mov (T 7)⟩,
      ⟨(some 31), none, .ibin .sub (T 30) (.const (.int .i64 1))⟩,
      ⟨(some 7), none, .mov (T 31)⟩]))))))
  (.seq (.region [⟨(some 59), none, .mov (T 5)⟩,
    ⟨(some 4), none, .mov (T 59)⟩])
  .ret)))))
theorem f43 : fnC Try.prog 43 = some (c43, 60, [(.tmp 4)]) := by kernel_rfl

/-- dactylref11.Least -/
def c44 : CCode :=
  (.seq (.region [⟨(some 7), none, .box 64 (T 3)⟩,
    ⟨(some 8), none, .mov (.const (.int .i64 0))⟩,
    ⟨(some 9), none, .alloc 64 (.agg [(.val (.int .i64 0)), (.val (.int .i64 0))])⟩])
  (.seq (.region [⟨(some 15), none, .mov (T 0)⟩,
    ⟨(some 16), none, .len (T 15)⟩,
    ⟨(some 17), none, .build [(.val (.int .i64 0)), (.val (.int .i64 0))] [(0, (1, (T 16))), (1, (1, (.const (.int .i64 0))))]⟩,
    ⟨(some 10), none, .alloc 64 (.agg [(.val (.int .i64 0)), (.val (.int .i64 0))])⟩,
    ⟨none, none, .store 2 (T 10) (T 17)⟩])
  (.seq (.region [⟨(some 11), none, .mov (.const (.int .i64 (-1)))⟩])
  (.seq (.region [⟨(some 18), none, .load true 2 (T 7)⟩,
    ⟨(some 12), none, .alloc 64 (.agg [(.val (.int .i64 0)), (.val (.int .i64 0))])⟩,
    ⟨none, none, .store 2 (T 12) (T 18)⟩])
  (.seq (.region [⟨(some 19), none, .load true 2 (T 7)⟩,
    ⟨(some 13), none, .alloc 64 (.agg [(.val (.int .i64 0)), (.val (.int .i64 0))])⟩,
    ⟨none, none, .store 2 (T 13) (T 19)⟩])
  (.seq (.block 0 (.loop
    (.seq (.seq (.region [⟨(some 20), none, .load true 2 (T 13)⟩,
      ⟨(some 21), none, .load true 2 (T 10)⟩,
      ⟨(some 22), none, .aeq true 2 (T 20) (T 21)⟩])
    (.cond (T 22)
      .skip
      (.exit 0)))
    (.block 1 (.seq (.region [⟨(some 23), none, .mov (T 0)⟩,
      ⟨(some 24), none, .load true 2 (T 13)⟩,
      ⟨(some 25), none, .call (.func 33) [(T 23), (T 24)]⟩,
      ⟨none, none, .store 2 (T 13) (T 25)⟩])
    (.seq (.seq (.region [⟨(some 26), none, .mov (T 0)⟩,
      ⟨(some 27), none, .load true 2 (T 7)⟩,
      ⟨(some 28), none, .load true 2 (T 13)⟩,
      ⟨(some 29), none, .call (.func 35) [(T 26), (T 27), (T 28)]⟩,
      ⟨(some 30), none, .mov (T 1)⟩,
      ⟨(some 31), none, .ibin .gtr (T 29) (T 30)⟩])
    (.cond (T 31)
      (.exit 1)
      .skip))
    (.seq (.region [⟨(some 14), none, .mov (.const (.int .i64 0))⟩])
    (.seq (.seq (.region [⟨(some 32), none, .load true 2 (T 13)⟩,
      ⟨(some 33), none, .load true 2 (T 10)⟩,
      ⟨(some 34), none, .aeq true 2 (T 32) (T 33)⟩])
    (.cond (T 34)
      (.drawn [⟨(some 35), none, .mov (T 2)⟩,
        ⟨(some 36), none, .idxA 2 1 (T 13) (.const (.int .i64 0))⟩,
        ⟨(some 37), none, .load false 1 (T 36)⟩,
        ⟨(some 38), none, .idxS 1 (T 35) (T 37)⟩,
        ⟨(some 39), none, .load false 1 (T 38)⟩,
        ⟨(some 40), none, .idxA 2 1 (T 13) (.const (.int .i64 1))⟩,
        ⟨(some 41), none, .load false 1 (T 40)⟩,
        ⟨(some 42), none, .idxS 1 (T 39) (T 41)⟩,
        ⟨(some 43), none, .load false 1 (T 42)⟩,
        ⟨(some 14), none, .mov (T 43)⟩] [])
      .skip))
    (.seq (.seq (.region [⟨(some 44), none, .mov (T 14)⟩,
      ⟨(some 45), none, .ibin .lss (T 44) (.const (.int .i64 0))⟩])
    (.cond (T 45)
      (.exit 1)
      .skip))
    (.seq (.region [⟨(some 46), none, .mov (T 14)⟩,
      ⟨(some 47), none, .mov (T 0)⟩,
      ⟨(some 48), none, .mov (T 1)⟩,
      ⟨(some 49), none, .load true 2 (T 7)⟩,
      ⟨(some 50), none, .load true 2 (T 13)⟩,
      ⟨(some 51), none, .call (.func 50) [(T 47), (T 48), (T 49), (T 50)]⟩,
      ⟨(some 52), none, .ibin .add (T 46) (T 51)⟩,
      ⟨(some 14), none, .mov (T 52)⟩])
    (.seq (.region [⟨(some 53), none, .mov (T 11)⟩,
      ⟨(some 54), none, .ibin .lss (T 53) (.const (.int .i64 0))⟩,
      ⟨(some 55), none, .mov (T 54)⟩,
      ⟨(some 56), (some (55, false)), .mov (T 14)⟩,
      ⟨(some 57), (some (55, false)), .mov (T 11)⟩,
      ⟨(some 58), (some (55, false)), .ibin .leq (T 56) (T 57)⟩,
      ⟨(some 59), none, .pick (T 55) (.const (.bool true)) (T 58)⟩])
    (.cond (T 59)
      (.seq (.region [⟨(some 60), none, .mov (T 14)⟩,
        ⟨(some 11), none, .mov (T 60)⟩])
      (.region [⟨(some 61), none, .load true 2 (T 13)⟩,
        ⟨none, none, .store 2 (T 12) (T 61)⟩]))
      .skip))))))))))))
  (.seq (.drawn [⟨(some 62), none, .mov (T 11)⟩,
    ⟨(some 63), none, .load true 2 (T 12)⟩,
    ⟨(some 8), none, .mov (T 62)⟩] [(⟨none, none, .store 2 (T 9) (T 63)⟩, [])])
  .ret)))))))
theorem f44 : fnC Try.prog 44 = some (c44, 64, [(.tmp 8), (.cell 9 true 2)]) := by kernel_rfl

/-- dactylref11.Fits -/
def c45 : CCode :=
  (.seq (.region [⟨(some 8), none, .mov (.const (.bool false))⟩])
  (.seq (.region [⟨(some 9), none, .mov (T 2)⟩,
    ⟨(some 10), none, .mov (T 3)⟩,
    ⟨(some 11), none, .ibin .lss (T 9) (T 10)⟩,
    ⟨(some 12), none, .mov (T 11)⟩,
    ⟨(some 13), (some (12, true)), .mov (T 3)⟩,
    ⟨(some 14), (some (12, true)), .mov (T 2)⟩,
    ⟨(some 15), (some (12, true)), .ibin .sub (T 13) (T 14)⟩,
    ⟨(some 16), (some (12, true)), .mov (T 1)⟩,
    ⟨(some 17), (some (12, true)), .ibin .leq (T 15) (T 16)⟩,
    ⟨(some 18), none, .pick (T 12) (T 17) (.const (.bool false))⟩,
    ⟨(some 19), none, .mov (T 18)⟩,
    ⟨(some 20), (some (19, true)), .mov (T 2)⟩,
    ⟨(some 21), (some (19, true)), .ibin .eql (T 20) (.const (.int .i64 0))⟩,
    ⟨(some 22), (some (19, true)), .mov (T 21)⟩,
    ⟨(some 23), (some (22, false)), .mov (T 0)⟩,
    ⟨(some 24), (some (22, false)), .mov (T 2)⟩,
    ⟨(some 25), (some (22, false)), .idxS 1 (T 23) (T 24)⟩,
    ⟨(some 26), (some (22, false)), .load false 1 (T 25)⟩,
    ⟨(some 27), (some (22, false)), .lnot (T 26)⟩,
    ⟨(some 28), (some (19, true)), .pick (T 22) (.const (.bool true)) (T 27)⟩,
    ⟨(some 29), none, .pick (T 19) (T 28) (.const (.bool false))⟩,
    ⟨(some 8), none, .mov (T 29)⟩])
  .ret))
theorem f45 : fnC Try.prog 45 = some (c45, 30, [(.tmp 8)]) := by kernel_rfl

/-- slices.EqualFunc[[][]int,[][]int,[]int,[]int] -/
def c46 : CCode :=
  (.seq (.region [⟨(some 6), none, .mov (.const (.bool false))⟩])
  (.seq (.seq (.region [⟨(some 10), none, .mov (T 0)⟩,
    ⟨(some 11), none, .len (T 10)⟩,
    ⟨(some 12), none, .mov (T 1)⟩,
    ⟨(some 13), none, .len (T 12)⟩,
    ⟨(some 14), none, .ibin .neq (T 11) (T 13)⟩])
  (.cond (T 14)
    (.seq (.region [⟨(some 6), none, .mov (.const (.bool false))⟩])
    .ret)
    .skip))
  (.seq (.seq (.region [⟨(some 15), none, .mov (T 0)⟩,
    ⟨(some 16), none, .len (T 15)⟩,
    ⟨(some 17), none, .mov (.const (.int .i64 0))⟩])
  (.block 0 (.loop
    (.seq (.region [⟨(some 18), none, .ibin .lss (T 17) (T 16)⟩])
    (.seq (.cond (T 18)
      .skip
      (.exit 0))
    (.seq (.block 1 (.seq (.region [⟨(some 19), none, .mov (T 17)⟩,
      ⟨(some 20), none, .idxS 1 (T 15) (T 17)⟩,
      ⟨(some 21), none, .load false 1 (T 20)⟩,
      ⟨(some 7), none, .mov (T 19)⟩,
      ⟨(some 8), none, .mov (T 21)⟩])
    (.seq (.region [⟨(some 22), none, .mov (T 1)⟩,
      ⟨(some 23), none, .mov (T 7)⟩,
      ⟨(some 24), none, .idxS 1 (T 22) (T 23)⟩,
      ⟨(some 25), none, .load false 1 (T 24)⟩,
      ⟨(some 9), none, .mov (T 25)⟩])
    (.seq (.region [⟨(some 26), none, .mov (T 2)⟩,
      ⟨(some 27), none, .mov (T 8)⟩,
      ⟨(some 28), none, .mov (T 9)⟩,
      ⟨(some 29), none, .call (T 26) [(T 27), (T 28)]⟩,
      ⟨(some 30), none, .lnot (T 29)⟩])
    (.cond (T 30)
      (.seq (.region [⟨(some 6), none, .mov (.const (.bool false))⟩])
      .ret)
      .skip)))))
    (.region [⟨(some 31), none, .ibin .add (T 17) (.const (.int .i64 1))⟩,
      ⟨(some 17), none, .mov (T 31)⟩])))))))
  (.seq (.region [⟨(some 6), none, .mov (.const (.bool true))⟩])
  .ret))))
theorem f46 : fnC Try.prog 46 = some (c46, 32, [(.tmp 6)]) := by kernel_rfl

/-- slices.Equal[[]int,int] -/
def c47 : CCode :=
  (.seq (.region [⟨(some 4), none, .mov (.const (.bool false))⟩])
  (.seq (.seq (.region [⟨(some 6), none, .mov (T 0)⟩,
    ⟨(some 7), none, .len (T 6)⟩,
    ⟨(some 8), none, .mov (T 1)⟩,
    ⟨(some 9), none, .len (T 8)⟩,
    ⟨(some 10), none, .ibin .neq (T 7) (T 9)⟩])
  (.cond (T 10)
    (.seq (.region [⟨(some 4), none, .mov (.const (.bool false))⟩])
    .ret)
    .skip))
  (.seq (.seq (.region [⟨(some 11), none, .mov (T 0)⟩,
    ⟨(some 12), none, .len (T 11)⟩,
    ⟨(some 13), none, .mov (.const (.int .i64 0))⟩])
  (.block 0 (.loop
    (.seq (.region [⟨(some 14), none, .ibin .lss (T 13) (T 12)⟩])
    (.seq (.cond (T 14)
      .skip
      (.exit 0))
    (.seq (.block 1 (.seq (.region [⟨(some 15), none, .mov (T 13)⟩,
      ⟨(some 5), none, .mov (T 15)⟩])
    (.seq (.drawn [⟨(some 16), none, .mov (T 0)⟩,
      ⟨(some 17), none, .mov (T 5)⟩,
      ⟨(some 18), none, .idxS 1 (T 16) (T 17)⟩,
      ⟨(some 19), none, .load false 1 (T 18)⟩,
      ⟨(some 20), none, .mov (T 1)⟩,
      ⟨(some 21), none, .mov (T 5)⟩,
      ⟨(some 22), none, .idxS 1 (T 20) (T 21)⟩,
      ⟨(some 23), none, .load false 1 (T 22)⟩,
      ⟨(some 24), none, .ibin .neq (T 19) (T 23)⟩] [])
    (.cond (T 24)
      (.seq (.region [⟨(some 4), none, .mov (.const (.bool false))⟩])
      .ret)
      .skip))))
    (.region [⟨(some 25), none, .ibin .add (T 13) (.const (.int .i64 1))⟩,
      ⟨(some 13), none, .mov (T 25)⟩])))))))
  (.seq (.region [⟨(some 4), none, .mov (.const (.bool true))⟩])
  .ret))))
theorem f47 : fnC Try.prog 47 = some (c47, 26, [(.tmp 4)]) := by kernel_rfl

/-- dactylref11.Is -/
def c48 : CCode :=
  (.seq (.region [⟨(some 3), none, .box 64 (T 1)⟩,
    ⟨(some 4), none, .mov (.const (.bool false))⟩])
  (.seq (.drawn [⟨(some 5), none, .idxA 2 1 (T 3) (.const (.int .i64 0))⟩,
    ⟨(some 6), none, .load false 1 (T 5)⟩,
    ⟨(some 7), none, .ibin .geq (T 6) (.const (.int .i64 0))⟩,
    ⟨(some 8), none, .mov (T 7)⟩,
    ⟨(some 9), (some (8, true)), .idxA 2 1 (T 3) (.const (.int .i64 0))⟩,
    ⟨(some 10), (some (8, true)), .load false 1 (T 9)⟩,
    ⟨(some 11), (some (8, true)), .mov (T 0)⟩,
    ⟨(some 12), (some (8, true)), .len (T 11)⟩,
    ⟨(some 13), (some (8, true)), .ibin .lss (T 10) (T 12)⟩,
    ⟨(some 14), none, .pick (T 8) (T 13) (.const (.bool false))⟩,
    ⟨(some 15), none, .mov (T 14)⟩,
    ⟨(some 16), (some (15, true)), .idxA 2 1 (T 3) (.const (.int .i64 1))⟩,
    ⟨(some 17), (some (15, true)), .load false 1 (T 16)⟩,
    ⟨(some 18), (some (15, true)), .ibin .geq (T 17) (.const (.int .i64 0))⟩,
    ⟨(some 19), none, .pick (T 15) (T 18) (.const (.bool false))⟩,
    ⟨(some 20), none, .mov (T 19)⟩,
    ⟨(some 21), (some (20, true)), .idxA 2 1 (T 3) (.const (.int .i64 1))⟩,
    ⟨(some 22), (some (20, true)), .load false 1 (T 21)⟩,
    ⟨(some 23), (some (20, true)), .mov (T 0)⟩,
    ⟨(some 24), (some (20, true)), .idxA 2 1 (T 3) (.const (.int .i64 0))⟩,
    ⟨(some 25), (some (20, true)), .load false 1 (T 24)⟩,
    ⟨(some 26), (some (20, true)), .imax (T 25) (.const (.int .i64 0))⟩,
    ⟨(some 27), (some (20, true)), .mov (T 0)⟩,
    ⟨(some 28), (some (20, true)), .len (T 27)⟩,
    ⟨(some 29), (some (20, true)), .ibin .sub (T 28) (.const (.int .i64 1))⟩,
    ⟨(some 30), (some (20, true)), .imin (T 26) (T 29)⟩,
    ⟨(some 31), (some (20, true)), .idxS 1 (T 23) (T 30)⟩,
    ⟨(some 32), (some (20, true)), .fieldAddr 0 (T 31)⟩,
    ⟨(some 33), (some (20, true)), .load false 1 (T 32)⟩,
    ⟨(some 34), (some (20, true)), .len (T 33)⟩,
    ⟨(some 35), (some (20, true)), .ibin .lss (T 22) (T 34)⟩,
    ⟨(some 36), none, .pick (T 20) (T 35) (.const (.bool false))⟩,
    ⟨(some 37), none, .mov (T 36)⟩,
    ⟨(some 38), (some (37, false)), .load true 2 (T 3)⟩,
    ⟨(some 39), (some (37, false)), .mov (T 0)⟩,
    ⟨(some 40), (some (37, false)), .len (T 39)⟩,
    ⟨(some 41), (some (37, false)), .build [(.val (.int .i64 0)), (.val (.int .i64 0))] [(0, (1, (T 40))), (1, (1, (.const (.int .i64 0))))]⟩,
    ⟨(some 42), (some (37, false)), .aeq false 2 (T 38) (T 41)⟩,
    ⟨(some 43), none, .pick (T 37) (.const (.bool true)) (T 42)⟩,
    ⟨(some 4), none, .mov (T 43)⟩] [])
  .ret))
theorem f48 : fnC Try.prog 48 = some (c48, 44, [(.tmp 4)]) := by kernel_rfl

/-- dactylref11.Before -/
def c49 : CCode :=
  (.seq (.region [⟨(some 2), none, .box 64 (T 0)⟩,
    ⟨(some 3), none, .box 64 (T 1)⟩,
    ⟨(some 4), none, .mov (.const (.bool false))⟩])
  (.seq (.region [⟨(some 5), none, .idxA 2 1 (T 2) (.const (.int .i64 0))⟩,
    ⟨(some 6), none, .load false 1 (T 5)⟩,
    ⟨(some 7), none, .idxA 2 1 (T 3) (.const (.int .i64 0))⟩,
    ⟨(some 8), none, .load false 1 (T 7)⟩,
    ⟨(some 9), none, .ibin .lss (T 6) (T 8)⟩,
    ⟨(some 10), none, .mov (T 9)⟩,
    ⟨(some 11), (some (10, false)), .idxA 2 1 (T 2) (.const (.int .i64 0))⟩,
    ⟨(some 12), (some (10, false)), .load false 1 (T 11)⟩,
    ⟨(some 13), (some (10, false)), .idxA 2 1 (T 3) (.const (.int .i64 0))⟩,
    ⟨(some 14), (some (10, false)), .load false 1 (T 13)⟩,
    ⟨(some 15), (some (10, false)), .ibin .eql (T 12) (T 14)⟩,
    ⟨(some 16), (some (10, false)), .mov (T 15)⟩,
    ⟨(some 17), (some (16, true)), .idxA 2 1 (T 2) (.const (.int .i64 1))⟩,
    ⟨(some 18), (some (16, true)), .load false 1 (T 17)⟩,
    ⟨(some 19), (some (16, true)), .idxA 2 1 (T 3) (.const (.int .i64 1))⟩,
    ⟨(some 20), (some (16, true)), .load false 1 (T 19)⟩,
    ⟨(some 21), (some (16, true)), .ibin .lss (T 18) (T 20)⟩,
    ⟨(some 22), (some (10, false)), .pick (T 16) (T 21) (.const (.bool false))⟩,
    ⟨(some 23), none, .pick (T 10) (.const (.bool true)) (T 22)⟩,
    ⟨(some 4), none, .mov (T 23)⟩])
  .ret))
theorem f49 : fnC Try.prog 49 = some (c49, 24, [(.tmp 4)]) := by kernel_rfl

/-- dactylref11.Price -/
def c50 : CCode :=
  (.seq (.region [⟨(some 6), none, .box 64 (T 2)⟩,
    ⟨(some 7), none, .box 64 (T 3)⟩,
    ⟨(some 8), none, .mov (.const (.int .i64 0))⟩])
  (.seq (.region [⟨(some 10), none, .mov (T 1)⟩,
    ⟨(some 11), none, .mov (T 0)⟩,
    ⟨(some 12), none, .load true 2 (T 6)⟩,
    ⟨(some 13), none, .load true 2 (T 7)⟩,
    ⟨(some 14), none, .call (.func 35) [(T 11), (T 12), (T 13)]⟩,
    ⟨(some 15), none, .ibin .sub (T 10) (T 14)⟩,
    ⟨(some 9), none, .mov (T 15)⟩])
  (.seq (.seq (.region [⟨(some 16), none, .load true 2 (T 7)⟩,
    ⟨(some 17), none, .mov (T 0)⟩,
    ⟨(some 18), none, .len (T 17)⟩,
    ⟨(some 19), none, .build [(.val (.int .i64 0)), (.val (.int .i64 0))] [(0, (1, (T 18))), (1, (1, (.const (.int .i64 0))))]⟩,
    ⟨(some 20), none, .aeq false 2 (T 16) (T 19)⟩])
  (.cond (T 20)
    (.seq (.region [⟨(some 8), none, .mov (.const (.int .i64 4294967296))⟩])
    .ret)
    .skip))
  (.seq (.region [⟨(some 21), none, .mov (T 9)⟩,
    ⟨(some 22), none, .mov (T 9)⟩,
    ⟨(some 23), none, .ibin .mul (T 21) (T 22)⟩,
    ⟨(some 24), none, .ibin .add (.const (.int .i64 4294967296)) (T 23)⟩,
    ⟨(some 8), none, .mov (T 24)⟩])
  .ret))))
theorem f50 : fnC Try.prog 50 = some (c50, 25, [(.tmp 8)]) := by kernel_rfl

/-- slices.ContainsFunc[[]breaks.Word,breaks.Word] -/
def c51 : CCode :=
  (.seq (.region [⟨(some 4), none, .mov (.const (.bool false))⟩])
  (.seq (.region [⟨(some 5), none, .mov (T 0)⟩,
    ⟨(some 6), none, .mov (T 1)⟩,
    ⟨(some 7), none, .call (.func 55) [(T 5), (T 6)]⟩,
    ⟨(some 8), none, .ibin .geq (T 7) (.const (.int .i64 0))⟩,
    ⟨(some 4), none, .mov (T 8)⟩])
  .ret))
theorem f51 : fnC Try.prog 51 = some (c51, 9, [(.tmp 4)]) := by kernel_rfl

/-- breaks.valid$1 -/
def c52 : CCode :=
  (.seq (.region [⟨(some 1), none, .box 42 (T 0)⟩,
    ⟨(some 2), none, .mov (.const (.bool false))⟩])
  (.seq (.region [⟨(some 3), none, .load true 1 (T 1)⟩,
    ⟨(some 4), none, .call (.func 53) [(T 3)]⟩,
    ⟨(some 5), none, .lnot (T 4)⟩,
    ⟨(some 2), none, .mov (T 5)⟩])
  .ret))
theorem f52 : fnC Try.prog 52 = some (c52, 6, [(.tmp 2)]) := by kernel_rfl

/-- (breaks.Word).valid -/
def c53 : CCode :=
  (.seq (.region [⟨(some 1), none, .box 42 (T 0)⟩,
    ⟨(some 2), none, .mov (.const (.bool false))⟩])
  (.seq (.region [⟨(some 6), none, .fieldAddr 0 (T 1)⟩,
    ⟨(some 7), none, .load false 1 (T 6)⟩,
    ⟨(some 8), none, .len (T 7)⟩,
    ⟨(some 3), none, .mov (T 8)⟩])
  (.seq (.seq (.region [⟨(some 9), none, .fieldAddr 0 (T 1)⟩,
    ⟨(some 10), none, .load false 1 (T 9)⟩,
    ⟨(some 11), none, .len (T 10)⟩,
    ⟨(some 12), none, .mov (.const (.int .i64 0))⟩])
  (.block 0 (.loop
    (.seq (.region [⟨(some 13), none, .ibin .lss (T 12) (T 11)⟩])
    (.seq (.cond (T 13)
      .skip
      (.exit 0))
    (.seq (.block 1 (.seq (.region [⟨(some 14), none, .mov (T 12)⟩,
      ⟨(some 15), none, .idxS 1 (T 10) (T 12)⟩,
      ⟨(some 16), none, .load false 1 (T 15)⟩,
      ⟨(some 4), none, .mov (T 14)⟩,
      ⟨(some 5), none, .mov (T 16)⟩])
    (.seq (.region [⟨(some 17), none, .mov (T 5)⟩,
      ⟨(some 18), none, .len (T 17)⟩,
      ⟨(some 19), none, .mov (T 3)⟩,
      ⟨(some 20), none, .mov (T 4)⟩,
      ⟨(some 21), none, .ibin .sub (T 19) (T 20)⟩,
      ⟨(some 22), none, .ibin .neq (T 18) (T 21)⟩,
      ⟨(some 23), none, .mov (T 22)⟩,
      ⟨(some 24), (some (23, false)), .mov (T 5)⟩,
      ⟨(some 25), (some (23, false)), .call (.func 56) [(T 24), (.func 57)]⟩,
      ⟨(some 26), none, .pick (T 23) (.const (.bool true)) (T 25)⟩])
    (.cond (T 26)
      (.seq (.region [⟨(some 2), none, .mov (.const (.bool false))⟩])
      .ret)
      .skip))))
    (.region [⟨(some 27), none, .ibin .add (T 12) (.const (.int .i64 1))⟩,
      ⟨(some 12), none, .mov (T 27)⟩])))))))
  (.seq (.region [⟨(some 28), none, .mov (T 3)⟩,
    ⟨(some 29), none, .ibin .geq (T 28) (.const (.int .i64 1))⟩,
    ⟨(some 30), none, .mov (T 29)⟩,
    ⟨(some 31), (some (30, true)), .mov (T 3)⟩,
    ⟨(some 32), (some (30, true)), .ibin .leq (T 31) (.const (.int .i64 16))⟩,
    ⟨(some 33), none, .pick (T 30) (T 32) (.const (.bool false))⟩,
    ⟨(some 2), none, .mov (T 33)⟩])
  .ret))))
theorem f53 : fnC Try.prog 53 = some (c53, 34, [(.tmp 2)]) := by kernel_rfl

/-- breaks.lines$1 -/
def c54 : CCode :=
  (.seq (.region [⟨(some 5), none, .mov (.const (.int .i64 0))⟩])
  (.seq (.region [⟨(some 13), none, .idxA 2 1 (T 1) (.const (.int .i64 0))⟩,
    ⟨(some 14), none, .load false 1 (T 13)⟩,
    ⟨(some 6), none, .mov (T 14)⟩])
  (.block 0 (.loop
    (.seq (.seq (.region [⟨(some 15), none, .mov (T 6)⟩,
      ⟨(some 16), none, .load false 1 (T 2)⟩,
      ⟨(some 17), none, .len (T 16)⟩,
      ⟨(some 18), none, .ibin .lss (T 15) (T 17)⟩])
    (.cond (T 18)
      .skip
      (.exit 0)))
    (.seq (.block 1 (.seq (.region [⟨(some 7), none, .mov (.const (.int .i64 0))⟩])
    (.seq (.seq (.region [⟨(some 21), none, .mov (T 6)⟩,
      ⟨(some 22), none, .idxA 2 1 (T 1) (.const (.int .i64 0))⟩,
      ⟨(some 23), none, .load false 1 (T 22)⟩,
      ⟨(some 24), none, .ibin .eql (T 21) (T 23)⟩])
    (.cond (T 24)
      (.region [⟨(some 25), none, .idxA 2 1 (T 1) (.const (.int .i64 1))⟩,
        ⟨(some 26), none, .load false 1 (T 25)⟩,
        ⟨(some 7), none, .mov (T 26)⟩])
      (.region [⟨(some 27), none, .mov (T 5)⟩,
        ⟨(some 28), none, .ibin .add (T 27) (.const (.int .i64 1))⟩,
        ⟨(some 5), none, .mov (T 28)⟩])))
    (.seq (.region [⟨(some 29), none, .load false 1 (T 2)⟩,
      ⟨(some 30), none, .mov (T 6)⟩,
      ⟨(some 31), none, .idxS 1 (T 29) (T 30)⟩,
      ⟨(some 32), none, .fieldAddr 0 (T 31)⟩,
      ⟨(some 33), none, .load false 1 (T 32)⟩,
      ⟨(some 34), none, .mov (T 7)⟩,
      ⟨(some 35), none, .idxS 1 (T 33) (T 34)⟩,
      ⟨(some 36), none, .load false 1 (T 35)⟩,
      ⟨(some 8), none, .mov (T 36)⟩])
    (.seq (.seq (.region [⟨(some 37), none, .mov (T 8)⟩,
      ⟨(some 38), none, .len (T 37)⟩,
      ⟨(some 39), none, .mov (.const (.int .i64 0))⟩])
    (.block 2 (.loop
      (.seq (.region [⟨(some 40), none, .ibin .lss (T 39) (T 38)⟩])
      (.seq (.cond (T 40)
        .skip
        (.exit 2))
      (.seq (.block 3 (.seq (.region [⟨(some 41), none, .mov (T 39)⟩,
        ⟨(some 42), none, .idxS 1 (T 37) (T 39)⟩,
        ⟨(some 43), none, .load false 1 (T 42)⟩,
        ⟨(some 9), none, .mov (T 41)⟩,
        ⟨(some 10), none, .mov (T 43)⟩])
      (.seq (.region [⟨(some 44), none, .mov (T 6)⟩,
        ⟨(some 45), none, .mov (T 7)⟩,
        ⟨(some 46), none, .mov (T 9)⟩,
        ⟨(some 47), none, .ibin .add (T 45) (T 46)⟩,
        ⟨(some 48), none, .ibin .add (T 47) (.const (.int .i64 1))⟩,
        ⟨(some 49), none, .build [(.val (.int .i64 0)), (.val (.int .i64 0))] [(0, (1, (T 44))), (1, (1, (T 48)))]⟩,
        ⟨(some 50), none, .mov (T 5)⟩,
        ⟨(some 51), none, .mov (T 10)⟩,
        ⟨(some 52), none, .ibin .add (T 50) (T 51)⟩,
        ⟨(some 53), none, .ibin .add (T 52) (.const (.int .i64 1))⟩,
        ⟨(some 11), none, .alloc 64 (.agg [(.val (.int .i64 0)), (.val (.int .i64 0))])⟩,
        ⟨none, none, .store 2 (T 11) (T 49)⟩,
        ⟨(some 12), none, .mov (T 53)⟩])
      (.seq (.seq (.region [⟨(some 54), none, .mov (T 9)⟩,
        ⟨(some 55), none, .mov (T 8)⟩,
        ⟨(some 56), none, .len (T 55)⟩,
        ⟨(some 57), none, .ibin .sub (T 56) (.const (.int .i64 1))⟩,
        ⟨(some 58), none, .ibin .eql (T 54) (T 57)⟩])
      (.cond (T 58)
        (.region [⟨(some 59), none, .mov (T 6)⟩,
          ⟨(some 60), none, .ibin .add (T 59) (.const (.int .i64 1))⟩,
          ⟨(some 61), none, .build [(.val (.int .i64 0)), (.val (.int .i64 0))] [(0, (1, (T 60))), (1, (1, (.const (.int .i64 0))))]⟩,
          ⟨(some 62), none, .mov (T 5)⟩,
          ⟨(some 63), none, .mov (T 10)⟩,
          ⟨(some 64), none, .ibin .add (T 62) (T 63)⟩,
          ⟨none, none, .store 2 (T 11) (T 61)⟩,
          ⟨(some 12), none, .mov (T 64)⟩])
        .skip))
      (.seq (.region [⟨(some 65), none, .mov (T 12)⟩,
        ⟨(some 66), none, .load false 1 (T 3)⟩,
        ⟨(some 67), none, .ibin .leq (T 65) (T 66)⟩,
        ⟨(some 68), none, .mov (T 67)⟩,
        ⟨(some 69), (some (68, true)), .mov (T 0)⟩,
        ⟨(some 70), (some (68, true)), .load true 2 (T 11)⟩,
        ⟨(some 71), (some (68, true)), .mov (T 12)⟩,
        ⟨(some 72), (some (68, true)), .call (T 69) [(T 70), (T 71)]⟩,
        ⟨(some 73), (some (68, true)), .lnot (T 72)⟩,
        ⟨(some 74), none, .pick (T 68) (T 73) (.const (.bool false))⟩])
      (.cond (T 74)
        .ret
        .skip))))))
      (.region [⟨(some 75), none, .ibin .add (T 39) (.const (.int .i64 1))⟩,
        ⟨(some 39), none, .mov (T 75)⟩])))))))
    (.seq (.region [⟨(some 76), none, .mov (T 5)⟩,
      ⟨(some 77), none, .mov (T 8)⟩,
      ⟨(some 78), none, .mov (T 8)⟩,
      ⟨(some 79), none, .len (T 78)⟩,
      ⟨(some 80), none, .ibin .sub (T 79) (.const (.int .i64 1))⟩,
      ⟨(some 81), none, .idxS 1 (T 77) (T 80)⟩,
      ⟨(some 82), none, .load false 1 (T 81)⟩,
      ⟨(some 83), none, .ibin .add (T 76) (T 82)⟩,
      ⟨(some 5), none, .mov (T 83)⟩])
    (.seq (.region [⟨(some 84), none, .mov (T 5)⟩,
      ⟨(some 85), none, .load false 1 (T 3)⟩,
      ⟨(some 86), none, .ibin .gtr (T 84) (T 85)⟩])
    (.cond (T 86)
      .ret
      .skip))))))))
    (.region [⟨(some 19), none, .mov (T 6)⟩,
      ⟨(some 20), none, .ibin .add (T 19) (.const (.int .i64 1))⟩,
      ⟨(some 6), none, .mov (T 20)⟩])))))))
theorem f54 : fnC Try.prog 54 = some (c54, 87, []) := by kernel_rfl

/-- slices.IndexFunc[[]breaks.Word,breaks.Word] -/
def c55 : CCode :=
  (.seq (.region [⟨(some 4), none, .mov (.const (.int .i64 0))⟩])
  (.seq (.seq (.region [⟨(some 6), none, .mov (T 0)⟩,
    ⟨(some 7), none, .len (T 6)⟩,
    ⟨(some 8), none, .mov (.const (.int .i64 0))⟩])
  (.block 0 (.loop
    (.seq (.region [⟨(some 9), none, .ibin .lss (T 8) (T 7)⟩])
    (.seq (.cond (T 9)
      .skip
      (.exit 0))
    (.seq (.block 1 (.seq (.region [⟨(some 10), none, .mov (T 8)⟩,
      ⟨(some 5), none, .mov (T 10)⟩])
    (.seq (.region [⟨(some 11), none, .mov (T 1)⟩,
      ⟨(some 12), none, .mov (T 0)⟩,
      ⟨(some 13), none, .mov (T 5)⟩,
      ⟨(some 14), none, .idxS 1 (T 12) (T 13)⟩,
      ⟨(some 15), none, .load true 1 (T 14)⟩,
      ⟨(some 16), none, .call (T 11) [(T 15)]⟩])
    (.cond (T 16)
      (.seq (.region [⟨(some 17), none, .mov (T 5)⟩,
        ⟨(some 4), none, .mov (T 17)⟩])
      .ret)
      .skip))))
    (.region [⟨(some 18), none, .ibin .add (T 8) (.const (.int .i64 1))⟩,
      ⟨(some 8), none, .mov (T 18)⟩])))))))
  (.seq (.region [⟨(some 4), none, .mov (.const (.int .i64 (-1)))⟩])
  .ret)))
theorem f55 : fnC Try.prog 55 = some (c55, 19, [(.tmp 4)]) := by kernel_rfl

/-- slices.ContainsFunc[[]int,int] -/
def c56 : CCode :=
  (.seq (.region [⟨(some 4), none, .mov (.const (.bool false))⟩])
  (.seq (.region [⟨(some 5), none, .mov (T 0)⟩,
    ⟨(some 6), none, .mov (T 1)⟩,
    ⟨(some 7), none, .call (.func 58) [(T 5), (T 6)]⟩,
    ⟨(some 8), none, .ibin .geq (T 7) (.const (.int .i64 0))⟩,
    ⟨(some 4), none, .mov (T 8)⟩])
  .ret))
theorem f56 : fnC Try.prog 56 = some (c56, 9, [(.tmp 4)]) := by kernel_rfl

/-- (breaks.Word).valid$1 -/
def c57 : CCode :=
  (.seq (.region [⟨(some 2), none, .mov (.const (.bool false))⟩])
  (.seq (.region [⟨(some 3), none, .mov (T 0)⟩,
    ⟨(some 4), none, .ibin .lss (T 3) (.const (.int .i64 0))⟩,
    ⟨(some 5), none, .mov (T 4)⟩,
    ⟨(some 6), (some (5, false)), .mov (T 0)⟩,
    ⟨(some 7), (some (5, false)), .ibin .gtr (T 6) (.const (.int .i64 4096))⟩,
    ⟨(some 8), none, .pick (T 5) (.const (.bool true)) (T 7)⟩,
    ⟨(some 2), none, .mov (T 8)⟩])
  .ret))
theorem f57 : fnC Try.prog 57 = some (c57, 9, [(.tmp 2)]) := by kernel_rfl

/-- slices.IndexFunc[[]int,int] -/
def c58 : CCode :=
  (.seq (.region [⟨(some 4), none, .mov (.const (.int .i64 0))⟩])
  (.seq (.seq (.region [⟨(some 6), none, .mov (T 0)⟩,
    ⟨(some 7), none, .len (T 6)⟩,
    ⟨(some 8), none, .mov (.const (.int .i64 0))⟩])
  (.block 0 (.loop
    (.seq (.region [⟨(some 9), none, .ibin .lss (T 8) (T 7)⟩])
    (.seq (.cond (T 9)
      .skip
      (.exit 0))
    (.seq (.block 1 (.seq (.region [⟨(some 10), none, .mov (T 8)⟩,
      ⟨(some 5), none, .mov (T 10)⟩])
    (.seq (.region [⟨(some 11), none, .mov (T 1)⟩,
      ⟨(some 12), none, .mov (T 0)⟩,
      ⟨(some 13), none, .mov (T 5)⟩,
      ⟨(some 14), none, .idxS 1 (T 12) (T 13)⟩,
      ⟨(some 15), none, .load false 1 (T 14)⟩,
      ⟨(some 16), none, .call (T 11) [(T 15)]⟩])
    (.cond (T 16)
      (.seq (.region [⟨(some 17), none, .mov (T 5)⟩,
        ⟨(some 4), none, .mov (T 17)⟩])
      .ret)
      .skip))))
    (.region [⟨(some 18), none, .ibin .add (T 8) (.const (.int .i64 1))⟩,
      ⟨(some 8), none, .mov (T 18)⟩])))))))
  (.seq (.region [⟨(some 4), none, .mov (.const (.int .i64 (-1)))⟩])
  .ret)))
theorem f58 : fnC Try.prog 58 = some (c58, 19, [(.tmp 4)]) := by kernel_rfl

end Go.Proofs.Ytehelanfgepcmaa
