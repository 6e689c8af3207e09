/- The codes of the functions, with what the program's tables say of their types. -/
import Derived.Test.YtphcaelkpgdbcaaProg
import Derived.Test.YtphcaelkpgdbcaaDt
namespace Go.Proofs.Ytphcaelkpgdbcaa
open Dak

/-- dactyllaw32.AllowFinds -/
def c3 : CCode :=
  (.seq (.region [⟨(some 12), none, .mov (.const (.bool false))⟩])
  (.seq (.region [⟨(some 24), none, .mov (T 0)⟩,
    ⟨(some 25), none, .mov (T 1)⟩,
    ⟨(some 26), none, .mov (T 2)⟩,
    ⟨(some 27), none, .call (.func 8) [(T 24), (T 25), (T 26)]⟩,
    ⟨(some 23), none, .mov (T 27)⟩,
    ⟨(some 28), none, .extract (T 23) 0⟩,
    ⟨(some 29), none, .extract (T 23) 1⟩,
    ⟨(some 13), none, .mov (T 28)⟩,
    ⟨(some 14), none, .mov (T 29)⟩])
  (.seq (.drawn [⟨(some 30), none, .mov (T 13)⟩,
    ⟨(some 31), none, .mov (T 14)⟩,
    ⟨(some 32), none, .bslice 22 1 [(T 30), (T 31)]⟩,
    ⟨(some 33), none, .mov (T 13)⟩,
    ⟨(some 34), none, .mov (T 4)⟩,
    ⟨(some 35), none, .mov (T 5)⟩,
    ⟨(some 36), none, .call (.func 9) [(T 33), (T 34), (T 35)]⟩,
    ⟨(some 37), none, .mov (T 14)⟩,
    ⟨(some 38), none, .bslice 22 1 [(T 36), (T 37)]⟩,
    ⟨(some 39), none, .mov (T 13)⟩,
    ⟨(some 40), none, .mov (T 14)⟩,
    ⟨(some 41), none, .mov (T 4)⟩,
    ⟨(some 42), none, .mov (T 5)⟩,
    ⟨(some 43), none, .call (.func 9) [(T 40), (T 41), (T 42)]⟩,
    ⟨(some 44), none, .bslice 22 1 [(T 39), (T 43)]⟩,
    ⟨(some 45), none, .mov (T 13)⟩,
    ⟨(some 46), none, .mov (T 4)⟩,
    ⟨(some 47), none, .mov (T 5)⟩,
    ⟨(some 48), none, .call (.func 9) [(T 45), (T 46), (T 47)]⟩,
    ⟨(some 49), none, .mov (T 14)⟩,
    ⟨(some 50), none, .mov (T 5)⟩,
    ⟨(some 51), none, .mov (T 4)⟩,
    ⟨(some 52), none, .call (.func 9) [(T 49), (T 50), (T 51)]⟩,
    ⟨(some 53), none, .bslice 22 1 [(T 48), (T 52)]⟩,
    ⟨(some 54), none, .mkslice 3 1 8 (.val (.int .i64 0)) (.const (.int .i64 49)) (.const (.int .i64 49))⟩,
    ⟨(some 55), none, .mkslice 3 1 8 (.val (.int .i64 0)) (.const (.int .i64 49)) (.const (.int .i64 49))⟩,
    ⟨(some 56), none, .bslice 22 1 [(T 54), (T 55)]⟩,
    ⟨(some 57), none, .bslice 25 1 [(T 32), (T 38), (T 44), (T 53), (T 56)]⟩,
    ⟨(some 15), none, .mov (T 57)⟩] [])
  (.seq (.region [⟨(some 58), none, .mov (T 3)⟩,
    ⟨(some 59), none, .call (.func 10) [(T 58), (.const (.int .i64 40))]⟩,
    ⟨(some 60), none, .bslice 3 1 [(.const (.int .i64 (-1))), (.const (.int .i64 2048)), (.const (.int .i64 2049)), (.const (.int .i64 0))]⟩,
    ⟨(some 61), none, .mov (T 3)⟩,
    ⟨(some 62), none, .call (.func 10) [(T 61), (.const (.int .i64 4))]⟩,
    ⟨(some 63), none, .idxS 1 (T 60) (T 62)⟩,
    ⟨(some 64), none, .load false 1 (T 63)⟩,
    ⟨(some 65), none, .bslice 3 1 [(T 59), (T 64)]⟩,
    ⟨(some 16), none, .mov (T 65)⟩])
  (.seq (.seq (.region [⟨(some 17), none, .mov (.const (.int .i64 0))⟩])
  (.block 0 (.loop
    (.seq (.seq (.region [⟨(some 66), none, .mov (T 17)⟩,
      ⟨(some 67), none, .mov (T 15)⟩,
      ⟨(some 68), none, .len (T 67)⟩,
      ⟨(some 69), none, .ibin .lss (T 66) (T 68)⟩])
    (.cond (T 69)
      .skip
      (.exit 0)))
    (.seq (.block 1 (.seq (.region [⟨(some 18), none, .mov (.const (.int .i64 0))⟩])
    (.block 2 (.loop
      (.seq (.seq (.region [⟨(some 72), none, .mov (T 18)⟩,
        ⟨(some 73), none, .ibin .lss (T 72) (.const (.int .i64 2))⟩])
      (.cond (T 73)
        .skip
        (.exit 2)))
      (.seq (.block 3 (.seq (.drawn [⟨(some 77), none, .mov (T 15)⟩,
        ⟨(some 78), none, .mov (T 17)⟩,
        ⟨(some 79), none, .idxS 1 (T 77) (T 78)⟩,
        ⟨(some 80), none, .load false 1 (T 79)⟩,
        ⟨(some 81), none, .idxS 1 (T 80) (.const (.int .i64 0))⟩,
        ⟨(some 82), none, .load false 1 (T 81)⟩,
        ⟨(some 83), none, .mov (T 15)⟩,
        ⟨(some 84), none, .mov (T 17)⟩,
        ⟨(some 85), none, .idxS 1 (T 83) (T 84)⟩,
        ⟨(some 86), none, .load false 1 (T 85)⟩,
        ⟨(some 87), none, .idxS 1 (T 86) (.const (.int .i64 1))⟩,
        ⟨(some 88), none, .load false 1 (T 87)⟩,
        ⟨(some 89), none, .mov (T 16)⟩,
        ⟨(some 90), none, .mov (T 18)⟩,
        ⟨(some 91), none, .idxS 1 (T 89) (T 90)⟩,
        ⟨(some 92), none, .load false 1 (T 91)⟩,
        ⟨(some 93), none, .call (.func 11) [(T 82), (T 88), (T 92)]⟩,
        ⟨(some 76), none, .mov (T 93)⟩,
        ⟨(some 94), none, .extract (T 76) 0⟩,
        ⟨(some 95), none, .extract (T 76) 1⟩,
        ⟨(some 19), none, .alloc 30 (.agg [(.val (.int .i64 0)), (.val (.slice none 0 0)), (.val (.slice none 0 0))])⟩] [(⟨none, none, .store 3 (T 19) (T 94)⟩, [⟨(some 95), none, .extract (T 76) 1⟩]), (⟨(some 20), none, .mov (T 95)⟩, [])])
      (.seq (.drawn [⟨(some 97), none, .mov (T 15)⟩,
        ⟨(some 98), none, .mov (T 17)⟩,
        ⟨(some 99), none, .idxS 1 (T 97) (T 98)⟩,
        ⟨(some 100), none, .load false 1 (T 99)⟩,
        ⟨(some 101), none, .idxS 1 (T 100) (.const (.int .i64 0))⟩,
        ⟨(some 102), none, .load false 1 (T 101)⟩,
        ⟨(some 103), none, .mov (T 15)⟩,
        ⟨(some 104), none, .mov (T 17)⟩,
        ⟨(some 105), none, .idxS 1 (T 103) (T 104)⟩,
        ⟨(some 106), none, .load false 1 (T 105)⟩,
        ⟨(some 107), none, .idxS 1 (T 106) (.const (.int .i64 1))⟩,
        ⟨(some 108), none, .load false 1 (T 107)⟩,
        ⟨(some 109), none, .mov (T 16)⟩,
        ⟨(some 110), none, .mov (T 18)⟩,
        ⟨(some 111), none, .idxS 1 (T 109) (T 110)⟩,
        ⟨(some 112), none, .load false 1 (T 111)⟩,
        ⟨(some 113), none, .call (.func 12) [(T 102), (T 108), (T 112)]⟩,
        ⟨(some 96), none, .mov (T 113)⟩,
        ⟨(some 114), none, .extract (T 96) 0⟩,
        ⟨(some 115), none, .extract (T 96) 1⟩,
        ⟨(some 21), none, .alloc 34 (.agg [(.val (.int .i64 0)), (.val (.slice none 0 0)), (.val (.slice none 0 0))])⟩] [(⟨none, none, .store 3 (T 21) (T 114)⟩, [⟨(some 115), none, .extract (T 96) 1⟩]), (⟨(some 22), none, .mov (T 115)⟩, [])])
      (.seq (.region [⟨(some 116), none, .mov (T 20)⟩,
        ⟨(some 117), none, .mov (T 22)⟩,
        ⟨(some 118), none, .ibin .neq (T 116) (T 117)⟩,
        ⟨(some 119), none, .mov (T 118)⟩,
        ⟨(some 120), (some (119, false)), .fieldAddr 0 (T 19)⟩,
        ⟨(some 121), (some (119, false)), .load false 1 (T 120)⟩,
        ⟨(some 122), (some (119, false)), .fieldAddr 0 (T 21)⟩,
        ⟨(some 123), (some (119, false)), .load false 1 (T 122)⟩,
        ⟨(some 124), (some (119, false)), .ibin .neq (T 121) (T 123)⟩,
        ⟨(some 125), none, .pick (T 119) (.const (.bool true)) (T 124)⟩,
        ⟨(some 126), none, .mov (T 125)⟩,
        ⟨(some 127), (some (126, false)), .fieldAddr 1 (T 19)⟩,
        ⟨(some 128), (some (126, false)), .load false 1 (T 127)⟩,
        ⟨(some 129), (some (126, false)), .fieldAddr 1 (T 21)⟩,
        ⟨(some 130), (some (126, false)), .load false 1 (T 129)⟩,
        ⟨(some 131), (some (126, false)), .call (.func 13) [(T 128), (T 130)]⟩,
        ⟨(some 132), (some (126, false)), .lnot (T 131)⟩,
        ⟨(some 133), none, .pick (T 126) (.const (.bool true)) (T 132)⟩,
        ⟨(some 134), none, .mov (T 133)⟩,
        ⟨(some 135), (some (134, false)), .fieldAddr 2 (T 19)⟩,
        ⟨(some 136), (some (134, false)), .load false 1 (T 135)⟩,
        ⟨(some 137), (some (134, false)), .fieldAddr 2 (T 21)⟩,
        ⟨(some 138), (some (134, false)), .load false 1 (T 137)⟩,
        ⟨(some 139), (some (134, false)), .call (.func 14) [(T 136), (T 138)]⟩,
        ⟨(some 140), (some (134, false)), .lnot (T 139)⟩,
        ⟨(some 141), none, .pick (T 134) (.const (.bool true)) (T 140)⟩])
      (.cond (T 141)
        (.seq (.region [⟨(some 12), none, .mov (.const (.bool false))⟩])
        .ret)
        .skip)))))
      (.region [⟨(some 74), none, .mov (T 18)⟩,
        ⟨(some 75), none, .ibin .add (T 74) (.const (.int .i64 1))⟩,
        ⟨(some 18), none, .mov (T 75)⟩])))))))
    (.region [⟨(some 70), none, .mov (T 17)⟩,
      ⟨(some 71), none, .ibin .add (T 70) (.const (.int .i64 1))⟩,
      ⟨(some 17), none, .mov (T 71)⟩]))))))
  (.seq (.region [⟨(some 142), none, .call (.func 15) []⟩,
    ⟨(some 12), none, .mov (T 142)⟩])
  .ret))))))
theorem f3 : fnC Try.prog 3 = some (c3, 143, [(.tmp 12)]) := by kernel_rfl

/-- dactyllaw32.AllowChecks -/
def c4 : CCode :=
  (.seq (.region [⟨(some 14), none, .mov (.const (.bool false))⟩])
  (.seq (.region [⟨(some 26), none, .mov (T 0)⟩,
    ⟨(some 27), none, .mov (T 1)⟩,
    ⟨(some 28), none, .mov (T 2)⟩,
    ⟨(some 29), none, .call (.func 8) [(T 26), (T 27), (T 28)]⟩,
    ⟨(some 25), none, .mov (T 29)⟩,
    ⟨(some 30), none, .extract (T 25) 0⟩,
    ⟨(some 31), none, .extract (T 25) 1⟩,
    ⟨(some 15), none, .mov (T 30)⟩,
    ⟨(some 16), none, .mov (T 31)⟩])
  (.seq (.region [⟨(some 32), none, .mov (T 3)⟩,
    ⟨(some 33), none, .call (.func 10) [(T 32), (.const (.int .i64 40))]⟩,
    ⟨(some 17), none, .mov (T 33)⟩])
  (.seq (.region [⟨(some 35), none, .mov (T 15)⟩,
    ⟨(some 36), none, .mov (T 16)⟩,
    ⟨(some 37), none, .mov (T 17)⟩,
    ⟨(some 38), none, .call (.func 12) [(T 35), (T 36), (T 37)]⟩,
    ⟨(some 34), none, .mov (T 38)⟩,
    ⟨(some 39), none, .extract (T 34) 0⟩,
    ⟨(some 40), none, .extract (T 34) 1⟩,
    ⟨(some 18), none, .alloc 34 (.agg [(.val (.int .i64 0)), (.val (.slice none 0 0)), (.val (.slice none 0 0))])⟩,
    ⟨none, none, .store 3 (T 18) (T 39)⟩,
    ⟨(some 19), none, .mov (T 40)⟩])
  (.seq (.region [⟨(some 41), none, .load true 3 (T 18)⟩,
    ⟨(some 42), none, .mov (T 4)⟩,
    ⟨(some 43), none, .mov (T 5)⟩,
    ⟨(some 44), none, .mov (T 6)⟩,
    ⟨(some 45), none, .call (.func 16) [(T 41), (T 42), (T 43), (T 44)]⟩,
    ⟨(some 20), none, .alloc 34 (.agg [(.val (.int .i64 0)), (.val (.slice none 0 0)), (.val (.slice none 0 0))])⟩,
    ⟨none, none, .store 3 (T 20) (T 45)⟩])
  (.seq (.drawn [⟨(some 46), none, .load true 3 (T 18)⟩,
    ⟨(some 47), none, .load true 3 (T 20)⟩,
    ⟨(some 48), none, .load true 3 (T 20)⟩,
    ⟨(some 49), none, .mov (T 6)⟩,
    ⟨(some 50), none, .mov (T 4)⟩,
    ⟨(some 51), none, .mov (T 5)⟩,
    ⟨(some 52), none, .call (.func 16) [(T 48), (T 49), (T 50), (T 51)]⟩,
    ⟨(some 53), none, .build [(.val (.int .i64 0)), (.val (.slice none 0 0)), (.val (.slice none 0 0))] []⟩,
    ⟨(some 54), none, .bslice 34 3 [(T 46), (T 47), (T 52), (T 53)]⟩,
    ⟨(some 21), none, .mov (T 54)⟩] [])
  (.seq (.seq (.region [⟨(some 22), none, .mov (.const (.int .i64 0))⟩])
  (.block 0 (.loop
    (.seq (.seq (.region [⟨(some 55), none, .mov (T 22)⟩,
      ⟨(some 56), none, .mov (T 21)⟩,
      ⟨(some 57), none, .len (T 56)⟩,
      ⟨(some 58), none, .ibin .lss (T 55) (T 57)⟩])
    (.cond (T 58)
      .skip
      (.exit 0)))
    (.seq (.block 1 (.seq (.drawn [⟨(some 61), none, .mov (T 15)⟩,
      ⟨(some 62), none, .mov (T 16)⟩,
      ⟨(some 63), none, .mov (T 17)⟩,
      ⟨(some 64), none, .mov (T 21)⟩,
      ⟨(some 65), none, .mov (T 22)⟩,
      ⟨(some 66), none, .idxS 3 (T 64) (T 65)⟩,
      ⟨(some 67), none, .load true 3 (T 66)⟩,
      ⟨(some 68), none, .call (.func 18) [(T 67)]⟩,
      ⟨(some 69), none, .call (.func 17) [(T 61), (T 62), (T 63), (T 68)]⟩,
      ⟨(some 70), none, .mov (T 15)⟩,
      ⟨(some 71), none, .mov (T 16)⟩,
      ⟨(some 72), none, .mov (T 17)⟩,
      ⟨(some 73), none, .mov (T 21)⟩,
      ⟨(some 74), none, .mov (T 22)⟩,
      ⟨(some 75), none, .idxS 3 (T 73) (T 74)⟩,
      ⟨(some 76), none, .load true 3 (T 75)⟩,
      ⟨(some 77), none, .call (.func 19) [(T 70), (T 71), (T 72), (T 76)]⟩,
      ⟨(some 78), none, .ibin .neq (T 69) (T 77)⟩] [])
    (.cond (T 78)
      (.seq (.region [⟨(some 14), none, .mov (.const (.bool false))⟩])
      .ret)
      .skip)))
    (.region [⟨(some 59), none, .mov (T 22)⟩,
      ⟨(some 60), none, .ibin .add (T 59) (.const (.int .i64 1))⟩,
      ⟨(some 22), none, .mov (T 60)⟩]))))))
  (.seq (.region [⟨(some 80), none, .mov (T 15)⟩,
    ⟨(some 81), none, .mov (T 16)⟩,
    ⟨(some 82), none, .mov (T 17)⟩,
    ⟨(some 83), none, .call (.func 11) [(T 80), (T 81), (T 82)]⟩,
    ⟨(some 79), none, .mov (T 83)⟩,
    ⟨(some 84), none, .extract (T 79) 0⟩,
    ⟨(some 85), none, .extract (T 79) 1⟩,
    ⟨(some 23), none, .alloc 30 (.agg [(.val (.int .i64 0)), (.val (.slice none 0 0)), (.val (.slice none 0 0))])⟩,
    ⟨none, none, .store 3 (T 23) (T 84)⟩,
    ⟨(some 24), none, .mov (T 85)⟩])
  (.seq (.seq (.region [⟨(some 86), none, .mov (T 19)⟩,
    ⟨(some 87), none, .ibin .neq (T 86) (.const (.int .i64 0))⟩,
    ⟨(some 88), none, .mov (T 87)⟩,
    ⟨(some 89), (some (88, false)), .mov (T 24)⟩,
    ⟨(some 90), (some (88, false)), .ibin .neq (T 89) (.const (.int .i64 0))⟩,
    ⟨(some 91), none, .pick (T 88) (.const (.bool true)) (T 90)⟩,
    ⟨(some 92), none, .mov (T 91)⟩,
    ⟨(some 93), (some (92, false)), .mov (T 15)⟩,
    ⟨(some 94), (some (92, false)), .mov (T 16)⟩,
    ⟨(some 95), (some (92, false)), .mov (T 17)⟩,
    ⟨(some 96), (some (92, false)), .load true 3 (T 23)⟩,
    ⟨(some 97), (some (92, false)), .call (.func 17) [(T 93), (T 94), (T 95), (T 96)]⟩,
    ⟨(some 98), (some (92, false)), .ibin .neq (T 97) (.const (.int .i64 0))⟩,
    ⟨(some 99), none, .pick (T 92) (.const (.bool true)) (T 98)⟩])
  (.cond (T 99)
    (.seq (.region [⟨(some 14), none, .mov (.const (.bool false))⟩])
    .ret)
    .skip))
  (.seq (.region [⟨(some 100), none, .fieldAddr 0 (T 23)⟩,
    ⟨(some 101), none, .load false 1 (T 100)⟩,
    ⟨(some 102), none, .ibin .add (T 101) (.const (.int .i64 1))⟩,
    ⟨(some 103), none, .fieldAddr 0 (T 23)⟩,
    ⟨none, none, .store 1 (T 103) (T 102)⟩])
  (.seq (.drawn [⟨(some 104), none, .mov (T 15)⟩,
    ⟨(some 105), none, .mov (T 16)⟩,
    ⟨(some 106), none, .mov (T 17)⟩,
    ⟨(some 107), none, .load true 3 (T 23)⟩,
    ⟨(some 108), none, .call (.func 17) [(T 104), (T 105), (T 106), (T 107)]⟩,
    ⟨(some 109), none, .ibin .eql (T 108) (.const (.int .i64 19))⟩,
    ⟨(some 110), none, .mov (T 109)⟩,
    ⟨(some 111), (some (110, true)), .mov (T 15)⟩,
    ⟨(some 112), (some (110, true)), .mov (T 4)⟩,
    ⟨(some 113), (some (110, true)), .call (.func 9) [(T 111), (T 112), (.const (.int .i64 0))]⟩,
    ⟨(some 114), (some (110, true)), .mov (T 16)⟩,
    ⟨(some 115), (some (110, true)), .mov (T 17)⟩,
    ⟨(some 116), (some (110, true)), .load true 3 (T 23)⟩,
    ⟨(some 117), (some (110, true)), .call (.func 17) [(T 113), (T 114), (T 115), (T 116)]⟩,
    ⟨(some 118), (some (110, true)), .ibin .eql (T 117) (.const (.int .i64 1))⟩,
    ⟨(some 119), none, .pick (T 110) (T 118) (.const (.bool false))⟩,
    ⟨(some 120), none, .mov (T 119)⟩,
    ⟨(some 121), (some (120, true)), .call (.func 15) []⟩,
    ⟨(some 122), none, .pick (T 120) (T 121) (.const (.bool false))⟩,
    ⟨(some 14), none, .mov (T 122)⟩] [])
  .ret)))))))))))
theorem f4 : fnC Try.prog 4 = some (c4, 123, [(.tmp 14)]) := by kernel_rfl

/-- dactyllaw32.AllowBest -/
def c5 : CCode :=
  (.seq (.region [⟨(some 10), none, .mov (.const (.bool false))⟩])
  (.seq (.region [⟨(some 23), none, .mov (T 0)⟩,
    ⟨(some 24), none, .mov (T 1)⟩,
    ⟨(some 25), none, .mov (T 2)⟩,
    ⟨(some 26), none, .call (.func 8) [(T 23), (T 24), (T 25)]⟩,
    ⟨(some 22), none, .mov (T 26)⟩,
    ⟨(some 27), none, .extract (T 22) 0⟩,
    ⟨(some 28), none, .extract (T 22) 1⟩,
    ⟨(some 11), none, .mov (T 27)⟩,
    ⟨(some 12), none, .mov (T 28)⟩])
  (.seq (.region [⟨(some 29), none, .mov (T 3)⟩,
    ⟨(some 30), none, .call (.func 10) [(T 29), (.const (.int .i64 40))]⟩,
    ⟨(some 13), none, .mov (T 30)⟩])
  (.seq (.region [⟨(some 32), none, .mov (T 11)⟩,
    ⟨(some 33), none, .mov (T 12)⟩,
    ⟨(some 34), none, .mov (T 13)⟩,
    ⟨(some 35), none, .call (.func 11) [(T 32), (T 33), (T 34)]⟩,
    ⟨(some 31), none, .mov (T 35)⟩,
    ⟨(some 36), none, .extract (T 31) 0⟩,
    ⟨(some 37), none, .extract (T 31) 1⟩,
    ⟨(some 14), none, .alloc 30 (.agg [(.val (.int .i64 0)), (.val (.slice none 0 0)), (.val (.slice none 0 0))])⟩,
    ⟨none, none, .store 3 (T 14) (T 36)⟩,
    ⟨(some 15), none, .mov (T 37)⟩])
  (.seq (.seq (.region [⟨(some 38), none, .mov (T 15)⟩,
    ⟨(some 39), none, .ibin .neq (T 38) (.const (.int .i64 0))⟩])
  (.cond (T 39)
    (.seq (.region [⟨(some 10), none, .mov (.const (.bool false))⟩])
    .ret)
    .skip))
  (.seq (.region [⟨(some 16), none, .mov (.const (.slice none 0 0))⟩])
  (.seq (.seq (.region [⟨(some 17), none, .mov (.const (.int .i64 0))⟩])
  (.block 0 (.loop
    (.seq (.seq (.region [⟨(some 40), none, .mov (T 17)⟩,
      ⟨(some 41), none, .mov (T 11)⟩,
      ⟨(some 42), none, .len (T 41)⟩,
      ⟨(some 43), none, .ibin .lss (T 40) (T 42)⟩])
    (.cond (T 43)
      .skip
      (.exit 0)))
    (.seq (.block 1 (.seq (.region [⟨(some 46), none, .mov (T 4)⟩,
      ⟨(some 47), none, .mov (T 17)⟩,
      ⟨(some 48), none, .call (.func 20) [(T 46), (T 47), (.const (.int .i64 2))]⟩,
      ⟨(some 49), none, .ibin .eql (T 48) (.const (.int .i64 1))⟩])
    (.cond (T 49)
      (.region [⟨(some 50), none, .mov (T 16)⟩,
        ⟨(some 51), none, .mov (T 17)⟩,
        ⟨(some 52), none, .bslice 3 1 [(T 51)]⟩,
        ⟨(some 53), none, .append 3 1 8 (T 50) (T 52)⟩,
        ⟨(some 16), none, .mov (T 53)⟩])
      .skip)))
    (.region [⟨(some 44), none, .mov (T 17)⟩,
      ⟨(some 45), none, .ibin .add (T 44) (.const (.int .i64 1))⟩,
      ⟨(some 17), none, .mov (T 45)⟩]))))))
  (.seq (.region [⟨(some 54), none, .mov (T 11)⟩,
    ⟨(some 55), none, .mov (T 16)⟩,
    ⟨(some 56), none, .call (.func 21) [(T 54), (T 55)]⟩,
    ⟨(some 18), none, .mov (T 56)⟩])
  (.seq (.region [⟨(some 57), none, .mov (T 12)⟩,
    ⟨(some 58), none, .mov (T 16)⟩,
    ⟨(some 59), none, .call (.func 21) [(T 57), (T 58)]⟩,
    ⟨(some 19), none, .mov (T 59)⟩])
  (.seq (.region [⟨(some 20), none, .mov (.const (.int .i64 19))⟩])
  (.seq (.seq (.region [⟨(some 60), none, .mov (T 18)⟩,
    ⟨(some 61), none, .mov (T 13)⟩,
    ⟨(some 62), none, .ibin .leq (T 60) (T 61)⟩,
    ⟨(some 63), none, .mov (T 62)⟩,
    ⟨(some 64), (some (63, true)), .mov (T 19)⟩,
    ⟨(some 65), (some (63, true)), .fieldAddr 0 (T 14)⟩,
    ⟨(some 66), (some (63, true)), .load false 1 (T 65)⟩,
    ⟨(some 67), (some (63, true)), .ibin .eql (T 64) (T 66)⟩,
    ⟨(some 68), none, .pick (T 63) (T 67) (.const (.bool false))⟩])
  (.cond (T 68)
    (.region [⟨(some 20), none, .mov (.const (.int .i64 0))⟩])
    .skip))
  (.seq (.region [⟨(some 69), none, .load true 3 (T 14)⟩,
    ⟨(some 21), none, .alloc 30 (.agg [(.val (.int .i64 0)), (.val (.slice none 0 0)), (.val (.slice none 0 0))])⟩,
    ⟨none, none, .store 3 (T 21) (T 69)⟩])
  (.seq (.region [⟨(some 70), none, .mov (T 16)⟩,
    ⟨(some 71), none, .fieldAddr 1 (T 21)⟩,
    ⟨none, none, .store 1 (T 71) (T 70)⟩])
  (.seq (.seq (.region [⟨(some 72), none, .mov (T 11)⟩,
    ⟨(some 73), none, .mov (T 12)⟩,
    ⟨(some 74), none, .mov (T 13)⟩,
    ⟨(some 75), none, .load true 3 (T 21)⟩,
    ⟨(some 76), none, .call (.func 17) [(T 72), (T 73), (T 74), (T 75)]⟩,
    ⟨(some 77), none, .mov (T 20)⟩,
    ⟨(some 78), none, .ibin .neq (T 76) (T 77)⟩])
  (.cond (T 78)
    (.seq (.region [⟨(some 10), none, .mov (.const (.bool false))⟩])
    .ret)
    .skip))
  (.seq (.drawn [⟨(some 79), none, .mov (T 18)⟩,
    ⟨(some 80), none, .mov (T 13)⟩,
    ⟨(some 81), none, .ibin .gtr (T 79) (T 80)⟩,
    ⟨(some 82), none, .mov (T 81)⟩,
    ⟨(some 83), (some (82, false)), .mov (T 19)⟩,
    ⟨(some 84), (some (82, false)), .fieldAddr 0 (T 14)⟩,
    ⟨(some 85), (some (82, false)), .load false 1 (T 84)⟩,
    ⟨(some 86), (some (82, false)), .ibin .leq (T 83) (T 85)⟩,
    ⟨(some 87), none, .pick (T 82) (.const (.bool true)) (T 86)⟩,
    ⟨(some 88), none, .mov (T 87)⟩,
    ⟨(some 89), (some (88, true)), .mov (T 11)⟩,
    ⟨(some 90), (some (88, true)), .fieldAddr 1 (T 14)⟩,
    ⟨(some 91), (some (88, true)), .load false 1 (T 90)⟩,
    ⟨(some 92), (some (88, true)), .call (.func 21) [(T 89), (T 91)]⟩,
    ⟨(some 93), (some (88, true)), .mov (T 13)⟩,
    ⟨(some 94), (some (88, true)), .ibin .leq (T 92) (T 93)⟩,
    ⟨(some 95), none, .pick (T 88) (T 94) (.const (.bool false))⟩,
    ⟨(some 96), none, .mov (T 95)⟩,
    ⟨(some 97), (some (96, true)), .mov (T 12)⟩,
    ⟨(some 98), (some (96, true)), .fieldAddr 1 (T 14)⟩,
    ⟨(some 99), (some (96, true)), .load false 1 (T 98)⟩,
    ⟨(some 100), (some (96, true)), .call (.func 21) [(T 97), (T 99)]⟩,
    ⟨(some 101), (some (96, true)), .fieldAddr 0 (T 14)⟩,
    ⟨(some 102), (some (96, true)), .load false 1 (T 101)⟩,
    ⟨(some 103), (some (96, true)), .ibin .eql (T 100) (T 102)⟩,
    ⟨(some 104), none, .pick (T 96) (T 103) (.const (.bool false))⟩,
    ⟨(some 105), none, .mov (T 104)⟩,
    ⟨(some 106), (some (105, true)), .call (.func 15) []⟩,
    ⟨(some 107), none, .pick (T 105) (T 106) (.const (.bool false))⟩,
    ⟨(some 10), none, .mov (T 107)⟩] [])
  .ret)))))))))))))))
theorem f5 : fnC Try.prog 5 = some (c5, 108, [(.tmp 10)]) := by kernel_rfl

/-- dactyllaw32.AllowMore -/
def c6 : CCode :=
  (.seq (.region [⟨(some 14), none, .mov (.const (.bool false))⟩])
  (.seq (.region [⟨(some 33), none, .mov (T 0)⟩,
    ⟨(some 34), none, .mov (T 1)⟩,
    ⟨(some 35), none, .mov (T 2)⟩,
    ⟨(some 36), none, .call (.func 8) [(T 33), (T 34), (T 35)]⟩,
    ⟨(some 32), none, .mov (T 36)⟩,
    ⟨(some 37), none, .extract (T 32) 0⟩,
    ⟨(some 38), none, .extract (T 32) 1⟩,
    ⟨(some 15), none, .mov (T 37)⟩,
    ⟨(some 16), none, .mov (T 38)⟩])
  (.seq (.region [⟨(some 39), none, .mov (T 3)⟩,
    ⟨(some 40), none, .call (.func 10) [(T 39), (.const (.int .i64 40))]⟩,
    ⟨(some 17), none, .mov (T 40)⟩])
  (.seq (.region [⟨(some 41), none, .mov (T 4)⟩,
    ⟨(some 42), none, .call (.func 10) [(T 41), (.const (.int .i64 40))]⟩,
    ⟨(some 18), none, .mov (T 42)⟩])
  (.seq (.region [⟨(some 44), none, .mov (T 15)⟩,
    ⟨(some 45), none, .mov (T 16)⟩,
    ⟨(some 46), none, .mov (T 17)⟩,
    ⟨(some 47), none, .call (.func 11) [(T 44), (T 45), (T 46)]⟩,
    ⟨(some 43), none, .mov (T 47)⟩,
    ⟨(some 48), none, .extract (T 43) 0⟩,
    ⟨(some 49), none, .extract (T 43) 1⟩,
    ⟨(some 19), none, .alloc 30 (.agg [(.val (.int .i64 0)), (.val (.slice none 0 0)), (.val (.slice none 0 0))])⟩,
    ⟨none, none, .store 3 (T 19) (T 48)⟩,
    ⟨(some 20), none, .mov (T 49)⟩])
  (.seq (.region [⟨(some 51), none, .mov (T 15)⟩,
    ⟨(some 52), none, .mov (T 16)⟩,
    ⟨(some 53), none, .mov (T 18)⟩,
    ⟨(some 54), none, .call (.func 11) [(T 51), (T 52), (T 53)]⟩,
    ⟨(some 50), none, .mov (T 54)⟩,
    ⟨(some 55), none, .extract (T 50) 0⟩,
    ⟨(some 56), none, .extract (T 50) 1⟩,
    ⟨(some 21), none, .alloc 30 (.agg [(.val (.int .i64 0)), (.val (.slice none 0 0)), (.val (.slice none 0 0))])⟩,
    ⟨none, none, .store 3 (T 21) (T 55)⟩,
    ⟨(some 22), none, .mov (T 56)⟩])
  (.seq (.region [⟨(some 58), none, .mov (T 15)⟩,
    ⟨(some 59), none, .mov (T 16)⟩,
    ⟨(some 60), none, .mov (T 17)⟩,
    ⟨(some 61), none, .mov (T 18)⟩,
    ⟨(some 62), none, .ibin .add (T 60) (T 61)⟩,
    ⟨(some 63), none, .call (.func 11) [(T 58), (T 59), (T 62)]⟩,
    ⟨(some 57), none, .mov (T 63)⟩,
    ⟨(some 64), none, .extract (T 57) 0⟩,
    ⟨(some 65), none, .extract (T 57) 1⟩,
    ⟨(some 23), none, .alloc 30 (.agg [(.val (.int .i64 0)), (.val (.slice none 0 0)), (.val (.slice none 0 0))])⟩,
    ⟨none, none, .store 3 (T 23) (T 64)⟩,
    ⟨(some 24), none, .mov (T 65)⟩])
  (.seq (.region [⟨(some 25), none, .mov (.const (.slice none 0 0))⟩])
  (.seq (.region [⟨(some 66), none, .mov (T 5)⟩,
    ⟨(some 67), none, .call (.func 10) [(T 66), (.const (.int .i64 20))]⟩,
    ⟨(some 26), none, .mov (T 67)⟩])
  (.seq (.seq (.region [⟨(some 27), none, .mov (.const (.int .i64 0))⟩])
  (.block 0 (.loop
    (.seq (.seq (.region [⟨(some 68), none, .mov (T 27)⟩,
      ⟨(some 69), none, .mov (T 16)⟩,
      ⟨(some 70), none, .len (T 69)⟩,
      ⟨(some 71), none, .ibin .lss (T 68) (T 70)⟩])
    (.cond (T 71)
      .skip
      (.exit 0)))
    (.seq (.block 1 (.region [⟨(some 74), none, .mov (T 25)⟩,
      ⟨(some 75), none, .mov (T 26)⟩,
      ⟨(some 76), none, .mov (T 16)⟩,
      ⟨(some 77), none, .mov (T 27)⟩,
      ⟨(some 78), none, .idxS 1 (T 76) (T 77)⟩,
      ⟨(some 79), none, .load false 1 (T 78)⟩,
      ⟨(some 80), none, .ibin .mul (T 75) (T 79)⟩,
      ⟨(some 81), none, .bslice 3 1 [(T 80)]⟩,
      ⟨(some 82), none, .append 3 1 8 (T 74) (T 81)⟩,
      ⟨(some 25), none, .mov (T 82)⟩]))
    (.region [⟨(some 72), none, .mov (T 27)⟩,
      ⟨(some 73), none, .ibin .add (T 72) (.const (.int .i64 1))⟩,
      ⟨(some 27), none, .mov (T 73)⟩]))))))
  (.seq (.region [⟨(some 84), none, .mov (T 15)⟩,
    ⟨(some 85), none, .mov (T 25)⟩,
    ⟨(some 86), none, .mov (T 17)⟩,
    ⟨(some 87), none, .call (.func 11) [(T 84), (T 85), (T 86)]⟩,
    ⟨(some 83), none, .mov (T 87)⟩,
    ⟨(some 88), none, .extract (T 83) 0⟩,
    ⟨(some 89), none, .extract (T 83) 1⟩,
    ⟨(some 28), none, .alloc 30 (.agg [(.val (.int .i64 0)), (.val (.slice none 0 0)), (.val (.slice none 0 0))])⟩,
    ⟨none, none, .store 3 (T 28) (T 88)⟩,
    ⟨(some 29), none, .mov (T 89)⟩])
  (.seq (.region [⟨(some 91), none, .bslice 3 1 []⟩,
    ⟨(some 92), none, .mov (T 15)⟩,
    ⟨(some 93), none, .append 3 1 8 (T 91) (T 92)⟩,
    ⟨(some 94), none, .mov (T 6)⟩,
    ⟨(some 95), none, .call (.func 10) [(T 94), (.const (.int .i64 12))]⟩,
    ⟨(some 96), none, .bslice 3 1 [(T 95)]⟩,
    ⟨(some 97), none, .append 3 1 8 (T 93) (T 96)⟩,
    ⟨(some 98), none, .bslice 3 1 []⟩,
    ⟨(some 99), none, .mov (T 16)⟩,
    ⟨(some 100), none, .append 3 1 8 (T 98) (T 99)⟩,
    ⟨(some 101), none, .mov (T 6)⟩,
    ⟨(some 102), none, .ibin .quo (T 101) (.const (.int .i64 12))⟩,
    ⟨(some 103), none, .call (.func 10) [(T 102), (.const (.int .i64 40))]⟩,
    ⟨(some 104), none, .bslice 3 1 [(T 103)]⟩,
    ⟨(some 105), none, .append 3 1 8 (T 100) (T 104)⟩,
    ⟨(some 106), none, .mov (T 17)⟩,
    ⟨(some 107), none, .call (.func 11) [(T 97), (T 105), (T 106)]⟩,
    ⟨(some 90), none, .mov (T 107)⟩,
    ⟨(some 108), none, .extract (T 90) 0⟩,
    ⟨(some 109), none, .extract (T 90) 1⟩,
    ⟨(some 30), none, .alloc 30 (.agg [(.val (.int .i64 0)), (.val (.slice none 0 0)), (.val (.slice none 0 0))])⟩,
    ⟨none, none, .store 3 (T 30) (T 108)⟩,
    ⟨(some 31), none, .mov (T 109)⟩])
  (.seq (.region [⟨(some 110), none, .mov (T 20)⟩,
    ⟨(some 111), none, .ibin .eql (T 110) (.const (.int .i64 0))⟩,
    ⟨(some 112), none, .mov (T 111)⟩,
    ⟨(some 113), (some (112, true)), .mov (T 22)⟩,
    ⟨(some 114), (some (112, true)), .ibin .eql (T 113) (.const (.int .i64 0))⟩,
    ⟨(some 115), none, .pick (T 112) (T 114) (.const (.bool false))⟩,
    ⟨(some 116), none, .mov (T 115)⟩,
    ⟨(some 117), (some (116, true)), .mov (T 24)⟩,
    ⟨(some 118), (some (116, true)), .ibin .eql (T 117) (.const (.int .i64 0))⟩,
    ⟨(some 119), none, .pick (T 116) (T 118) (.const (.bool false))⟩,
    ⟨(some 120), none, .mov (T 119)⟩,
    ⟨(some 121), (some (120, true)), .mov (T 29)⟩,
    ⟨(some 122), (some (120, true)), .ibin .eql (T 121) (.const (.int .i64 0))⟩,
    ⟨(some 123), none, .pick (T 120) (T 122) (.const (.bool false))⟩,
    ⟨(some 124), none, .mov (T 123)⟩,
    ⟨(some 125), (some (124, true)), .mov (T 31)⟩,
    ⟨(some 126), (some (124, true)), .ibin .eql (T 125) (.const (.int .i64 0))⟩,
    ⟨(some 127), none, .pick (T 124) (T 126) (.const (.bool false))⟩,
    ⟨(some 128), none, .mov (T 127)⟩,
    ⟨(some 129), (some (128, true)), .fieldAddr 0 (T 23)⟩,
    ⟨(some 130), (some (128, true)), .load false 1 (T 129)⟩,
    ⟨(some 131), (some (128, true)), .fieldAddr 0 (T 19)⟩,
    ⟨(some 132), (some (128, true)), .load false 1 (T 131)⟩,
    ⟨(some 133), (some (128, true)), .ibin .geq (T 130) (T 132)⟩,
    ⟨(some 134), none, .pick (T 128) (T 133) (.const (.bool false))⟩,
    ⟨(some 135), none, .mov (T 134)⟩,
    ⟨(some 136), (some (135, true)), .fieldAddr 0 (T 23)⟩,
    ⟨(some 137), (some (135, true)), .load false 1 (T 136)⟩,
    ⟨(some 138), (some (135, true)), .fieldAddr 0 (T 21)⟩,
    ⟨(some 139), (some (135, true)), .load false 1 (T 138)⟩,
    ⟨(some 140), (some (135, true)), .ibin .geq (T 137) (T 139)⟩,
    ⟨(some 141), none, .pick (T 135) (T 140) (.const (.bool false))⟩,
    ⟨(some 142), none, .mov (T 141)⟩,
    ⟨(some 143), (some (142, true)), .fieldAddr 0 (T 28)⟩,
    ⟨(some 144), (some (142, true)), .load false 1 (T 143)⟩,
    ⟨(some 145), (some (142, true)), .mov (T 26)⟩,
    ⟨(some 146), (some (142, true)), .fieldAddr 0 (T 19)⟩,
    ⟨(some 147), (some (142, true)), .load false 1 (T 146)⟩,
    ⟨(some 148), (some (142, true)), .ibin .mul (T 145) (T 147)⟩,
    ⟨(some 149), (some (142, true)), .ibin .eql (T 144) (T 148)⟩,
    ⟨(some 150), none, .pick (T 142) (T 149) (.const (.bool false))⟩,
    ⟨(some 151), none, .mov (T 150)⟩,
    ⟨(some 152), (some (151, true)), .fieldAddr 0 (T 30)⟩,
    ⟨(some 153), (some (151, true)), .load false 1 (T 152)⟩,
    ⟨(some 154), (some (151, true)), .fieldAddr 0 (T 19)⟩,
    ⟨(some 155), (some (151, true)), .load false 1 (T 154)⟩,
    ⟨(some 156), (some (151, true)), .ibin .geq (T 153) (T 155)⟩,
    ⟨(some 157), none, .pick (T 151) (T 156) (.const (.bool false))⟩,
    ⟨(some 158), none, .mov (T 157)⟩,
    ⟨(some 159), (some (158, true)), .call (.func 15) []⟩,
    ⟨(some 160), none, .pick (T 158) (T 159) (.const (.bool false))⟩,
    ⟨(some 14), none, .mov (T 160)⟩])
  .ret)))))))))))))
theorem f6 : fnC Try.prog 6 = some (c6, 161, [(.tmp 14)]) := by kernel_rfl

/-- dactyllaw32.AllowFactors -/
def c7 : CCode :=
  (.seq (.region [⟨(some 14), none, .mov (.const (.bool false))⟩])
  (.seq (.region [⟨(some 38), none, .mov (T 0)⟩,
    ⟨(some 39), none, .mov (T 1)⟩,
    ⟨(some 40), none, .mov (T 2)⟩,
    ⟨(some 41), none, .call (.func 8) [(T 38), (T 39), (T 40)]⟩,
    ⟨(some 37), none, .mov (T 41)⟩,
    ⟨(some 42), none, .extract (T 37) 0⟩,
    ⟨(some 43), none, .extract (T 37) 1⟩,
    ⟨(some 15), none, .mov (T 42)⟩,
    ⟨(some 16), none, .mov (T 43)⟩])
  (.seq (.region [⟨(some 44), none, .mov (T 3)⟩,
    ⟨(some 45), none, .call (.func 10) [(T 44), (.const (.int .i64 40))]⟩,
    ⟨(some 46), none, .bslice 3 1 [(.const (.int .i64 (-1))), (.const (.int .i64 2048)), (.const (.int .i64 2049)), (.const (.int .i64 0))]⟩,
    ⟨(some 47), none, .mov (T 3)⟩,
    ⟨(some 48), none, .call (.func 10) [(T 47), (.const (.int .i64 4))]⟩,
    ⟨(some 49), none, .idxS 1 (T 46) (T 48)⟩,
    ⟨(some 50), none, .load false 1 (T 49)⟩,
    ⟨(some 51), none, .bslice 3 1 [(T 45), (T 50)]⟩,
    ⟨(some 17), none, .mov (T 51)⟩])
  (.seq (.region [⟨(some 52), none, .mov (T 15)⟩,
    ⟨(some 53), none, .mov (T 16)⟩,
    ⟨(some 54), none, .bslice 22 1 [(T 52), (T 53)]⟩,
    ⟨(some 55), none, .mov (T 15)⟩,
    ⟨(some 56), none, .mov (T 4)⟩,
    ⟨(some 57), none, .mov (T 5)⟩,
    ⟨(some 58), none, .call (.func 9) [(T 55), (T 56), (T 57)]⟩,
    ⟨(some 59), none, .mov (T 16)⟩,
    ⟨(some 60), none, .bslice 22 1 [(T 58), (T 59)]⟩,
    ⟨(some 61), none, .mov (T 15)⟩,
    ⟨(some 62), none, .mov (T 16)⟩,
    ⟨(some 63), none, .mov (T 4)⟩,
    ⟨(some 64), none, .mov (T 5)⟩,
    ⟨(some 65), none, .call (.func 9) [(T 62), (T 63), (T 64)]⟩,
    ⟨(some 66), none, .bslice 22 1 [(T 61), (T 65)]⟩,
    ⟨(some 67), none, .bslice 25 1 [(T 54), (T 60), (T 66)]⟩,
    ⟨(some 18), none, .mov (T 67)⟩])
  (.seq (.seq (.region [⟨(some 19), none, .mov (.const (.int .i64 0))⟩])
  (.block 0 (.loop
    (.seq (.seq (.region [⟨(some 68), none, .mov (T 19)⟩,
      ⟨(some 69), none, .mov (T 18)⟩,
      ⟨(some 70), none, .len (T 69)⟩,
      ⟨(some 71), none, .ibin .lss (T 68) (T 70)⟩])
    (.cond (T 71)
      .skip
      (.exit 0)))
    (.seq (.block 1 (.seq (.region [⟨(some 20), none, .mov (.const (.int .i64 0))⟩])
    (.block 2 (.loop
      (.seq (.seq (.region [⟨(some 74), none, .mov (T 20)⟩,
        ⟨(some 75), none, .ibin .lss (T 74) (.const (.int .i64 2))⟩])
      (.cond (T 75)
        .skip
        (.exit 2)))
      (.seq (.block 3 (.seq (.drawn [⟨(some 79), none, .mov (T 18)⟩,
        ⟨(some 80), none, .mov (T 19)⟩,
        ⟨(some 81), none, .idxS 1 (T 79) (T 80)⟩,
        ⟨(some 82), none, .load false 1 (T 81)⟩,
        ⟨(some 83), none, .idxS 1 (T 82) (.const (.int .i64 0))⟩,
        ⟨(some 84), none, .load false 1 (T 83)⟩,
        ⟨(some 85), none, .mov (T 18)⟩,
        ⟨(some 86), none, .mov (T 19)⟩,
        ⟨(some 87), none, .idxS 1 (T 85) (T 86)⟩,
        ⟨(some 88), none, .load false 1 (T 87)⟩,
        ⟨(some 89), none, .idxS 1 (T 88) (.const (.int .i64 1))⟩,
        ⟨(some 90), none, .load false 1 (T 89)⟩,
        ⟨(some 91), none, .mov (T 17)⟩,
        ⟨(some 92), none, .mov (T 20)⟩,
        ⟨(some 93), none, .idxS 1 (T 91) (T 92)⟩,
        ⟨(some 94), none, .load false 1 (T 93)⟩,
        ⟨(some 95), none, .call (.func 22) [(T 84), (T 90), (T 94)]⟩,
        ⟨(some 78), none, .mov (T 95)⟩,
        ⟨(some 96), none, .extract (T 78) 0⟩,
        ⟨(some 97), none, .extract (T 78) 1⟩,
        ⟨(some 98), none, .extract (T 78) 2⟩,
        ⟨(some 21), none, .mov (T 96)⟩,
        ⟨(some 22), none, .mov (T 97)⟩,
        ⟨(some 23), none, .mov (T 98)⟩] [])
      (.seq (.drawn [⟨(some 100), none, .mov (T 18)⟩,
        ⟨(some 101), none, .mov (T 19)⟩,
        ⟨(some 102), none, .idxS 1 (T 100) (T 101)⟩,
        ⟨(some 103), none, .load false 1 (T 102)⟩,
        ⟨(some 104), none, .idxS 1 (T 103) (.const (.int .i64 0))⟩,
        ⟨(some 105), none, .load false 1 (T 104)⟩,
        ⟨(some 106), none, .mov (T 18)⟩,
        ⟨(some 107), none, .mov (T 19)⟩,
        ⟨(some 108), none, .idxS 1 (T 106) (T 107)⟩,
        ⟨(some 109), none, .load false 1 (T 108)⟩,
        ⟨(some 110), none, .idxS 1 (T 109) (.const (.int .i64 1))⟩,
        ⟨(some 111), none, .load false 1 (T 110)⟩,
        ⟨(some 112), none, .mov (T 17)⟩,
        ⟨(some 113), none, .mov (T 20)⟩,
        ⟨(some 114), none, .idxS 1 (T 112) (T 113)⟩,
        ⟨(some 115), none, .load false 1 (T 114)⟩,
        ⟨(some 116), none, .call (.func 23) [(T 105), (T 111), (T 115)]⟩,
        ⟨(some 99), none, .mov (T 116)⟩,
        ⟨(some 117), none, .extract (T 99) 0⟩,
        ⟨(some 118), none, .extract (T 99) 1⟩,
        ⟨(some 119), none, .extract (T 99) 2⟩,
        ⟨(some 24), none, .mov (T 117)⟩,
        ⟨(some 25), none, .mov (T 118)⟩,
        ⟨(some 26), none, .mov (T 119)⟩] [])
      (.seq (.region [⟨(some 120), none, .mov (T 21)⟩,
        ⟨(some 121), none, .mov (T 24)⟩,
        ⟨(some 122), none, .ibin .neq (T 120) (T 121)⟩,
        ⟨(some 123), none, .mov (T 122)⟩,
        ⟨(some 124), (some (123, false)), .mov (T 22)⟩,
        ⟨(some 125), (some (123, false)), .mov (T 25)⟩,
        ⟨(some 126), (some (123, false)), .ibin .neq (T 124) (T 125)⟩,
        ⟨(some 127), none, .pick (T 123) (.const (.bool true)) (T 126)⟩,
        ⟨(some 128), none, .mov (T 127)⟩,
        ⟨(some 129), (some (128, false)), .mov (T 23)⟩,
        ⟨(some 130), (some (128, false)), .mov (T 26)⟩,
        ⟨(some 131), (some (128, false)), .ibin .neq (T 129) (T 130)⟩,
        ⟨(some 132), none, .pick (T 128) (.const (.bool true)) (T 131)⟩])
      (.cond (T 132)
        (.seq (.region [⟨(some 14), none, .mov (.const (.bool false))⟩])
        .ret)
        .skip)))))
      (.region [⟨(some 76), none, .mov (T 20)⟩,
        ⟨(some 77), none, .ibin .add (T 76) (.const (.int .i64 1))⟩,
        ⟨(some 20), none, .mov (T 77)⟩])))))))
    (.region [⟨(some 72), none, .mov (T 19)⟩,
      ⟨(some 73), none, .ibin .add (T 72) (.const (.int .i64 1))⟩,
      ⟨(some 19), none, .mov (T 73)⟩]))))))
  (.seq (.region [⟨(some 134), none, .mov (T 15)⟩,
    ⟨(some 135), none, .mov (T 16)⟩,
    ⟨(some 136), none, .mov (T 17)⟩,
    ⟨(some 137), none, .idxS 1 (T 136) (.const (.int .i64 0))⟩,
    ⟨(some 138), none, .load false 1 (T 137)⟩,
    ⟨(some 139), none, .call (.func 22) [(T 134), (T 135), (T 138)]⟩,
    ⟨(some 133), none, .mov (T 139)⟩,
    ⟨(some 140), none, .extract (T 133) 0⟩,
    ⟨(some 141), none, .extract (T 133) 1⟩,
    ⟨(some 142), none, .extract (T 133) 2⟩,
    ⟨(some 27), none, .mov (T 140)⟩,
    ⟨(some 28), none, .mov (T 141)⟩,
    ⟨(some 29), none, .mov (T 142)⟩])
  (.seq (.seq (.region [⟨(some 143), none, .mov (T 29)⟩,
    ⟨(some 144), none, .ibin .eql (T 143) (.const (.int .i64 0))⟩])
  (.cond (T 144)
    (.seq (.region [⟨(some 145), none, .mov (T 27)⟩,
      ⟨(some 146), none, .ibin .eql (T 145) (.const (.int .i64 0))⟩,
      ⟨(some 30), none, .mov (T 146)⟩])
    (.seq (.region [⟨(some 148), none, .mov (T 15)⟩,
      ⟨(some 149), none, .mov (T 16)⟩,
      ⟨(some 150), none, .mov (T 17)⟩,
      ⟨(some 151), none, .idxS 1 (T 150) (.const (.int .i64 0))⟩,
      ⟨(some 152), none, .load false 1 (T 151)⟩,
      ⟨(some 153), none, .call (.func 11) [(T 148), (T 149), (T 152)]⟩,
      ⟨(some 147), none, .mov (T 153)⟩,
      ⟨(some 154), none, .extract (T 147) 0⟩,
      ⟨(some 155), none, .extract (T 147) 1⟩,
      ⟨(some 31), none, .alloc 30 (.agg [(.val (.int .i64 0)), (.val (.slice none 0 0)), (.val (.slice none 0 0))])⟩,
      ⟨none, none, .store 3 (T 31) (T 154)⟩,
      ⟨(some 32), none, .mov (T 155)⟩])
    (.seq (.seq (.region [⟨(some 156), none, .mov (T 32)⟩,
      ⟨(some 157), none, .ibin .neq (T 156) (.const (.int .i64 0))⟩,
      ⟨(some 158), none, .mov (T 157)⟩,
      ⟨(some 159), (some (158, false)), .mov (T 28)⟩,
      ⟨(some 160), (some (158, false)), .ibin .lss (T 159) (.const (.int .i64 1))⟩,
      ⟨(some 161), none, .pick (T 158) (.const (.bool true)) (T 160)⟩,
      ⟨(some 162), none, .mov (T 161)⟩,
      ⟨(some 163), (some (162, false)), .fieldAddr 2 (T 31)⟩,
      ⟨(some 164), (some (162, false)), .load false 1 (T 163)⟩,
      ⟨(some 165), (some (162, false)), .len (T 164)⟩,
      ⟨(some 166), (some (162, false)), .ibin .eql (T 165) (.const (.int .i64 0))⟩,
      ⟨(some 167), none, .pick (T 162) (.const (.bool true)) (T 166)⟩])
    (.cond (T 167)
      (.seq (.region [⟨(some 14), none, .mov (.const (.bool false))⟩])
      .ret)
      .skip))
    (.seq (.seq (.region [⟨(some 33), none, .mov (.const (.int .i64 0))⟩])
    (.block 4 (.loop
      (.seq (.seq (.region [⟨(some 168), none, .mov (T 33)⟩,
        ⟨(some 169), none, .fieldAddr 2 (T 31)⟩,
        ⟨(some 170), none, .load false 1 (T 169)⟩,
        ⟨(some 171), none, .idxS 1 (T 170) (.const (.int .i64 0))⟩,
        ⟨(some 172), none, .load false 1 (T 171)⟩,
        ⟨(some 173), none, .len (T 172)⟩,
        ⟨(some 174), none, .ibin .lss (T 168) (T 173)⟩])
      (.cond (T 174)
        .skip
        (.exit 4)))
      (.seq (.block 5 (.seq (.seq (.region [⟨(some 177), none, .fieldAddr 2 (T 31)⟩,
        ⟨(some 178), none, .load false 1 (T 177)⟩,
        ⟨(some 179), none, .idxS 1 (T 178) (.const (.int .i64 0))⟩,
        ⟨(some 180), none, .load false 1 (T 179)⟩,
        ⟨(some 181), none, .mov (T 33)⟩,
        ⟨(some 182), none, .idxS 1 (T 180) (T 181)⟩,
        ⟨(some 183), none, .load false 1 (T 182)⟩,
        ⟨(some 184), none, .mov (T 28)⟩,
        ⟨(some 185), none, .ibin .mul (T 183) (T 184)⟩,
        ⟨(some 186), none, .mov (T 27)⟩,
        ⟨(some 187), none, .mov (T 33)⟩,
        ⟨(some 188), none, .ibin .mul (T 186) (T 187)⟩,
        ⟨(some 189), none, .ibin .gtr (T 185) (T 188)⟩])
      (.cond (T 189)
        (.seq (.region [⟨(some 14), none, .mov (.const (.bool false))⟩])
        .ret)
        .skip))
      (.region [⟨(some 190), none, .mov (T 30)⟩,
        ⟨(some 191), none, .mov (T 190)⟩,
        ⟨(some 192), (some (191, false)), .mov (T 33)⟩,
        ⟨(some 193), (some (191, false)), .ibin .gtr (T 192) (.const (.int .i64 0))⟩,
        ⟨(some 194), (some (191, false)), .mov (T 193)⟩,
        ⟨(some 195), (some (194, true)), .fieldAddr 2 (T 31)⟩,
        ⟨(some 196), (some (194, true)), .load false 1 (T 195)⟩,
        ⟨(some 197), (some (194, true)), .idxS 1 (T 196) (.const (.int .i64 0))⟩,
        ⟨(some 198), (some (194, true)), .load false 1 (T 197)⟩,
        ⟨(some 199), (some (194, true)), .mov (T 33)⟩,
        ⟨(some 200), (some (194, true)), .idxS 1 (T 198) (T 199)⟩,
        ⟨(some 201), (some (194, true)), .load false 1 (T 200)⟩,
        ⟨(some 202), (some (194, true)), .mov (T 28)⟩,
        ⟨(some 203), (some (194, true)), .ibin .mul (T 201) (T 202)⟩,
        ⟨(some 204), (some (194, true)), .mov (T 27)⟩,
        ⟨(some 205), (some (194, true)), .mov (T 33)⟩,
        ⟨(some 206), (some (194, true)), .ibin .mul (T 204) (T 205)⟩,
        ⟨(some 207), (some (194, true)), .ibin .eql (T 203) (T 206)⟩,
        ⟨(some 208), (some (191, false)), .pick (T 194) (T 207) (.const (.bool false))⟩,
        ⟨(some 209), none, .pick (T 191) (.const (.bool true)) (T 208)⟩,
        ⟨(some 30), none, .mov (T 209)⟩])))
      (.region [⟨(some 175), none, .mov (T 33)⟩,
        ⟨(some 176), none, .ibin .add (T 175) (.const (.int .i64 1))⟩,
        ⟨(some 33), none, .mov (T 176)⟩]))))))
    (.seq (.region [⟨(some 210), none, .mov (T 30)⟩,
      ⟨(some 211), none, .lnot (T 210)⟩])
    (.cond (T 211)
      (.seq (.region [⟨(some 14), none, .mov (.const (.bool false))⟩])
      .ret)
      .skip))))))
    .skip))
  (.seq (.region [⟨(some 212), none, .mov (T 6)⟩,
    ⟨(some 213), none, .call (.func 10) [(T 212), (.const (.int .i64 9))]⟩,
    ⟨(some 34), none, .mov (T 213)⟩])
  (.seq (.region [⟨(some 35), none, .mov (.const (.slice none 0 0))⟩])
  (.seq (.seq (.region [⟨(some 36), none, .mov (.const (.int .i64 0))⟩])
  (.block 6 (.loop
    (.seq (.seq (.region [⟨(some 214), none, .mov (T 36)⟩,
      ⟨(some 215), none, .mov (T 15)⟩,
      ⟨(some 216), none, .len (T 215)⟩,
      ⟨(some 217), none, .ibin .lss (T 214) (T 216)⟩])
    (.cond (T 217)
      .skip
      (.exit 6)))
    (.seq (.block 7 (.drawn [⟨(some 220), none, .mov (T 35)⟩,
      ⟨(some 221), none, .mov (T 16)⟩,
      ⟨(some 222), none, .mov (T 36)⟩,
      ⟨(some 223), none, .idxS 1 (T 221) (T 222)⟩,
      ⟨(some 224), none, .load false 1 (T 223)⟩,
      ⟨(some 225), none, .mov (T 34)⟩,
      ⟨(some 226), none, .mov (T 15)⟩,
      ⟨(some 227), none, .mov (T 36)⟩,
      ⟨(some 228), none, .idxS 1 (T 226) (T 227)⟩,
      ⟨(some 229), none, .load false 1 (T 228)⟩,
      ⟨(some 230), none, .ibin .mul (T 225) (T 229)⟩,
      ⟨(some 231), none, .imin (T 224) (T 230)⟩,
      ⟨(some 232), none, .bslice 3 1 [(T 231)]⟩] [(⟨(some 233), none, .append 3 1 8 (T 220) (T 232)⟩, []), (⟨(some 35), none, .mov (T 233)⟩, [])]))
    (.region [⟨(some 218), none, .mov (T 36)⟩,
      ⟨(some 219), none, .ibin .add (T 218) (.const (.int .i64 1))⟩,
      ⟨(some 36), none, .mov (T 219)⟩]))))))
  (.seq (.region [⟨(some 235), none, .mov (T 15)⟩,
    ⟨(some 236), none, .mov (T 35)⟩,
    ⟨(some 237), none, .mov (T 17)⟩,
    ⟨(some 238), none, .idxS 1 (T 237) (.const (.int .i64 0))⟩,
    ⟨(some 239), none, .load false 1 (T 238)⟩,
    ⟨(some 240), none, .call (.func 22) [(T 235), (T 236), (T 239)]⟩,
    ⟨(some 234), none, .mov (T 240)⟩,
    ⟨(some 241), none, .extract (T 234) 0⟩,
    ⟨(some 242), none, .extract (T 234) 1⟩,
    ⟨(some 243), none, .extract (T 234) 2⟩,
    ⟨(some 27), none, .mov (T 241)⟩,
    ⟨(some 28), none, .mov (T 242)⟩,
    ⟨(some 29), none, .mov (T 243)⟩])
  (.seq (.region [⟨(some 244), none, .mov (T 29)⟩,
    ⟨(some 245), none, .ibin .eql (T 244) (.const (.int .i64 0))⟩,
    ⟨(some 246), none, .mov (T 245)⟩,
    ⟨(some 247), (some (246, true)), .mov (T 27)⟩,
    ⟨(some 248), (some (246, true)), .mov (T 34)⟩,
    ⟨(some 249), (some (246, true)), .mov (T 28)⟩,
    ⟨(some 250), (some (246, true)), .ibin .mul (T 248) (T 249)⟩,
    ⟨(some 251), (some (246, true)), .ibin .leq (T 247) (T 250)⟩,
    ⟨(some 252), none, .pick (T 246) (T 251) (.const (.bool false))⟩,
    ⟨(some 253), none, .mov (T 252)⟩,
    ⟨(some 254), (some (253, true)), .call (.func 15) []⟩,
    ⟨(some 255), none, .pick (T 253) (T 254) (.const (.bool false))⟩,
    ⟨(some 14), none, .mov (T 255)⟩])
  .ret))))))))))))
theorem f7 : fnC Try.prog 7 = some (c7, 256, [(.tmp 14)]) := by kernel_rfl

/-- dactyllaw32.questions -/
def c8 : CCode :=
  (.seq (.region [⟨(some 6), none, .mov (.const (.slice none 0 0))⟩,
    ⟨(some 7), none, .mov (.const (.slice none 0 0))⟩])
  (.seq (.region [⟨(some 9), none, .mov (T 2)⟩,
    ⟨(some 10), none, .call (.func 10) [(T 9), (.const (.int .i64 9))]⟩,
    ⟨(some 8), none, .mov (T 10)⟩])
  (.seq (.region [⟨(some 11), none, .mov (T 0)⟩,
    ⟨(some 12), none, .mov (T 8)⟩,
    ⟨(some 13), none, .call (.func 24) [(T 11), (T 12), (.const (.int .i64 12))]⟩,
    ⟨(some 14), none, .mov (T 1)⟩,
    ⟨(some 15), none, .mov (T 8)⟩,
    ⟨(some 16), none, .call (.func 24) [(T 14), (T 15), (.const (.int .i64 40))]⟩,
    ⟨(some 6), none, .mov (T 13)⟩,
    ⟨(some 7), none, .mov (T 16)⟩])
  .ret)))
theorem f8 : fnC Try.prog 8 = some (c8, 17, [(.tmp 6), (.tmp 7)]) := by kernel_rfl

/-- dactyllaw32.odd -/
def c9 : CCode :=
  (.seq (.region [⟨(some 6), none, .mov (.const (.slice none 0 0))⟩])
  (.seq (.region [⟨(some 8), none, .bslice 3 1 []⟩,
    ⟨(some 9), none, .mov (T 0)⟩,
    ⟨(some 10), none, .append 3 1 8 (T 8) (T 9)⟩,
    ⟨(some 7), none, .mov (T 10)⟩])
  (.seq (.seq (.region [⟨(some 11), none, .mov (T 7)⟩,
    ⟨(some 12), none, .len (T 11)⟩,
    ⟨(some 13), none, .ibin .eql (T 12) (.const (.int .i64 0))⟩,
    ⟨(some 14), none, .mov (T 13)⟩,
    ⟨(some 15), (some (14, false)), .mov (T 2)⟩,
    ⟨(some 16), (some (14, false)), .ibin .rem (T 15) (.const (.int .i64 3))⟩,
    ⟨(some 17), (some (14, false)), .ibin .eql (T 16) (.const (.int .i64 0))⟩,
    ⟨(some 18), none, .pick (T 14) (.const (.bool true)) (T 17)⟩])
  (.cond (T 18)
    (.seq (.region [⟨(some 19), none, .mov (T 7)⟩,
      ⟨(some 20), none, .bslice 3 1 [(.const (.int .i64 1))]⟩,
      ⟨(some 21), none, .append 3 1 8 (T 19) (T 20)⟩,
      ⟨(some 6), none, .mov (T 21)⟩])
    .ret)
    .skip))
  (.seq (.region [⟨(some 22), none, .mov (T 7)⟩,
    ⟨(some 23), none, .mov (T 1)⟩,
    ⟨(some 24), none, .mov (T 7)⟩,
    ⟨(some 25), none, .len (T 24)⟩,
    ⟨(some 26), none, .call (.func 10) [(T 23), (T 25)]⟩,
    ⟨(some 27), none, .mov (T 2)⟩,
    ⟨(some 28), none, .bslice 3 1 [(.const (.int .i64 (-1))), (.const (.int .i64 1000000)), (.const (.int .i64 1000001)), (T 27)]⟩,
    ⟨(some 29), none, .mov (T 2)⟩,
    ⟨(some 30), none, .call (.func 10) [(T 29), (.const (.int .i64 4))]⟩,
    ⟨(some 31), none, .idxS 1 (T 28) (T 30)⟩,
    ⟨(some 32), none, .load false 1 (T 31)⟩,
    ⟨(some 33), none, .idxS 1 (T 22) (T 26)⟩,
    ⟨none, none, .store 1 (T 33) (T 32)⟩])
  (.seq (.region [⟨(some 34), none, .mov (T 7)⟩,
    ⟨(some 6), none, .mov (T 34)⟩])
  .ret)))))
theorem f9 : fnC Try.prog 9 = some (c9, 35, [(.tmp 6)]) := by kernel_rfl

/-- dactylref01.Around -/
def c10 : CCode :=
  (.seq (.region [⟨(some 4), none, .mov (.const (.int .i64 0))⟩])
  (.seq (.seq (.region [⟨(some 5), none, .mov (T 0)⟩,
    ⟨(some 6), none, .ibin .lss (T 5) (.const (.int .i64 0))⟩])
  (.cond (T 6)
    (.region [⟨(some 7), none, .mov (T 0)⟩,
      ⟨(some 8), none, .ibin .add (T 7) (.const (.int .i64 1))⟩,
      ⟨(some 9), none, .neg (T 8)⟩,
      ⟨(some 0), none, .mov (T 9)⟩])
    .skip))
  (.seq (.seq (.region [⟨(some 10), none, .mov (T 1)⟩,
    ⟨(some 11), none, .ibin .lss (T 10) (.const (.int .i64 1))⟩])
  (.cond (T 11)
    (.seq (.region [⟨(some 4), none, .mov (.const (.int .i64 0))⟩])
    .ret)
    .skip))
  (.seq (.region [⟨(some 12), none, .mov (T 0)⟩,
    ⟨(some 13), none, .mov (T 1)⟩,
    ⟨(some 14), none, .ibin .rem (T 12) (T 13)⟩,
    ⟨(some 4), none, .mov (T 14)⟩])
  .ret))))
theorem f10 : fnC Try.prog 10 = some (c10, 15, [(.tmp 4)]) := by kernel_rfl

/-- allow.Least -/
def c11 : CCode :=
  (.seq (.region [⟨(some 6), none, .alloc 30 (.agg [(.val (.int .i64 0)), (.val (.slice none 0 0)), (.val (.slice none 0 0))])⟩,
    ⟨(some 7), none, .mov (.const (.int .i64 0))⟩])
  (.seq (.seq (.region [⟨(some 9), none, .mov (T 0)⟩,
    ⟨(some 10), none, .mov (T 1)⟩,
    ⟨(some 11), none, .mov (T 2)⟩,
    ⟨(some 12), none, .call (.func 25) [(T 9), (T 10), (T 11)]⟩,
    ⟨(some 13), none, .lnot (T 12)⟩])
  (.cond (T 13)
    (.seq (.region [⟨(some 14), none, .build [(.val (.int .i64 0)), (.val (.slice none 0 0)), (.val (.slice none 0 0))] []⟩,
      ⟨none, none, .store 3 (T 6) (T 14)⟩,
      ⟨(some 7), none, .mov (.const (.int .i64 1))⟩])
    .ret)
    .skip))
  (.seq (.region [⟨(some 15), none, .mov (T 0)⟩,
    ⟨(some 16), none, .mov (T 1)⟩,
    ⟨(some 17), none, .mov (T 2)⟩,
    ⟨(some 18), none, .call (.func 26) [(T 15), (T 16), (T 17)]⟩,
    ⟨(some 8), none, .mov (T 18)⟩])
  (.seq (.drawn [⟨(some 19), none, .mov (T 8)⟩,
    ⟨(some 20), none, .idxS 1 (T 19) (.const (.int .i64 0))⟩,
    ⟨(some 21), none, .load false 1 (T 20)⟩,
    ⟨(some 22), none, .mov (T 2)⟩,
    ⟨(some 23), none, .idxS 1 (T 21) (T 22)⟩,
    ⟨(some 24), none, .load false 1 (T 23)⟩,
    ⟨(some 25), none, .mov (T 0)⟩,
    ⟨(some 26), none, .mov (T 1)⟩,
    ⟨(some 27), none, .mov (T 8)⟩,
    ⟨(some 28), none, .mov (T 2)⟩,
    ⟨(some 29), none, .call (.func 27) [(T 25), (T 26), (T 27), (T 28)]⟩,
    ⟨(some 30), none, .mov (T 8)⟩,
    ⟨(some 31), none, .build [(.val (.int .i64 0)), (.val (.slice none 0 0)), (.val (.slice none 0 0))] [(0, (1, (T 24))), (1, (1, (T 29))), (2, (1, (T 30)))]⟩] [(⟨none, none, .store 3 (T 6) (T 31)⟩, []), (⟨(some 7), none, .mov (.const (.int .i64 0))⟩, [])])
  .ret))))
theorem f11 : fnC Try.prog 11 = some (c11, 32, [(.cell 6 true 3), (.tmp 7)]) := by kernel_rfl

/-- dactylref32.Least -/
def c12 : CCode :=
  (.seq (.region [⟨(some 6), none, .alloc 34 (.agg [(.val (.int .i64 0)), (.val (.slice none 0 0)), (.val (.slice none 0 0))])⟩,
    ⟨(some 7), none, .mov (.const (.int .i64 0))⟩])
  (.seq (.seq (.region [⟨(some 9), none, .mov (T 0)⟩,
    ⟨(some 10), none, .mov (T 1)⟩,
    ⟨(some 11), none, .mov (T 2)⟩,
    ⟨(some 12), none, .call (.func 28) [(T 9), (T 10), (T 11)]⟩,
    ⟨(some 13), none, .lnot (T 12)⟩])
  (.cond (T 13)
    (.seq (.region [⟨(some 14), none, .build [(.val (.int .i64 0)), (.val (.slice none 0 0)), (.val (.slice none 0 0))] []⟩,
      ⟨none, none, .store 3 (T 6) (T 14)⟩,
      ⟨(some 7), none, .mov (.const (.int .i64 1))⟩])
    .ret)
    .skip))
  (.seq (.region [⟨(some 15), none, .mov (T 0)⟩,
    ⟨(some 16), none, .mov (T 1)⟩,
    ⟨(some 17), none, .mov (T 2)⟩,
    ⟨(some 18), none, .call (.func 29) [(T 15), (T 16), (T 17)]⟩,
    ⟨(some 8), none, .mov (T 18)⟩])
  (.seq (.drawn [⟨(some 19), none, .mov (T 8)⟩,
    ⟨(some 20), none, .idxS 1 (T 19) (.const (.int .i64 0))⟩,
    ⟨(some 21), none, .load false 1 (T 20)⟩,
    ⟨(some 22), none, .mov (T 2)⟩,
    ⟨(some 23), none, .idxS 1 (T 21) (T 22)⟩,
    ⟨(some 24), none, .load false 1 (T 23)⟩,
    ⟨(some 25), none, .mov (T 0)⟩,
    ⟨(some 26), none, .mov (T 1)⟩,
    ⟨(some 27), none, .mov (T 8)⟩,
    ⟨(some 28), none, .mov (T 2)⟩,
    ⟨(some 29), none, .call (.func 30) [(T 25), (T 26), (T 27), (T 28)]⟩,
    ⟨(some 30), none, .mov (T 8)⟩,
    ⟨(some 31), none, .build [(.val (.int .i64 0)), (.val (.slice none 0 0)), (.val (.slice none 0 0))] [(0, (1, (T 24))), (1, (1, (T 29))), (2, (1, (T 30)))]⟩] [(⟨none, none, .store 3 (T 6) (T 31)⟩, []), (⟨(some 7), none, .mov (.const (.int .i64 0))⟩, [])])
  .ret))))
theorem f12 : fnC Try.prog 12 = some (c12, 32, [(.cell 6 true 3), (.tmp 7)]) := by kernel_rfl

/-- dactylref01.SameInts -/
def c13 : CCode :=
  (.seq (.region [⟨(some 4), none, .mov (.const (.bool false))⟩])
  (.seq (.seq (.region [⟨(some 6), none, .mov (T 0)⟩,
    ⟨(some 7), none, .len (T 6)⟩,
    ⟨(some 8), none, .mov (T 1)⟩,
    ⟨(some 9), none, .len (T 8)⟩,
    ⟨(some 10), none, .ibin .neq (T 7) (T 9)⟩])
  (.cond (T 10)
    (.seq (.region [⟨(some 4), none, .mov (.const (.bool false))⟩])
    .ret)
    .skip))
  (.seq (.seq (.region [⟨(some 5), none, .mov (.const (.int .i64 0))⟩])
  (.block 0 (.loop
    (.seq (.seq (.region [⟨(some 11), none, .mov (T 5)⟩,
      ⟨(some 12), none, .mov (T 0)⟩,
      ⟨(some 13), none, .len (T 12)⟩,
      ⟨(some 14), none, .ibin .lss (T 11) (T 13)⟩])
    (.cond (T 14)
      .skip
      (.exit 0)))
    (.seq (.block 1 (.seq (.drawn [⟨(some 17), none, .mov (T 0)⟩,
      ⟨(some 18), none, .mov (T 5)⟩,
      ⟨(some 19), none, .idxS 1 (T 17) (T 18)⟩,
      ⟨(some 20), none, .load false 1 (T 19)⟩,
      ⟨(some 21), none, .mov (T 1)⟩,
      ⟨(some 22), none, .mov (T 5)⟩,
      ⟨(some 23), none, .idxS 1 (T 21) (T 22)⟩,
      ⟨(some 24), none, .load false 1 (T 23)⟩,
      ⟨(some 25), none, .ibin .neq (T 20) (T 24)⟩] [])
    (.cond (T 25)
      (.seq (.region [⟨(some 4), none, .mov (.const (.bool false))⟩])
      .ret)
      .skip)))
    (.region [⟨(some 15), none, .mov (T 5)⟩,
      ⟨(some 16), none, .ibin .add (T 15) (.const (.int .i64 1))⟩,
      ⟨(some 5), none, .mov (T 16)⟩]))))))
  (.seq (.region [⟨(some 4), none, .mov (.const (.bool true))⟩])
  .ret))))
theorem f13 : fnC Try.prog 13 = some (c13, 26, [(.tmp 4)]) := by kernel_rfl

/-- dactylref32.Same -/
def c14 : CCode :=
  (.seq (.region [⟨(some 4), none, .mov (.const (.bool false))⟩])
  (.seq (.seq (.region [⟨(some 6), none, .mov (T 0)⟩,
    ⟨(some 7), none, .len (T 6)⟩,
    ⟨(some 8), none, .mov (T 1)⟩,
    ⟨(some 9), none, .len (T 8)⟩,
    ⟨(some 10), none, .ibin .neq (T 7) (T 9)⟩])
  (.cond (T 10)
    (.seq (.region [⟨(some 4), none, .mov (.const (.bool false))⟩])
    .ret)
    .skip))
  (.seq (.seq (.region [⟨(some 5), none, .mov (.const (.int .i64 0))⟩])
  (.block 0 (.loop
    (.seq (.seq (.region [⟨(some 11), none, .mov (T 5)⟩,
      ⟨(some 12), none, .mov (T 0)⟩,
      ⟨(some 13), none, .len (T 12)⟩,
      ⟨(some 14), none, .ibin .lss (T 11) (T 13)⟩])
    (.cond (T 14)
      .skip
      (.exit 0)))
    (.seq (.block 1 (.seq (.drawn [⟨(some 17), none, .mov (T 0)⟩,
      ⟨(some 18), none, .mov (T 5)⟩,
      ⟨(some 19), none, .idxS 1 (T 17) (T 18)⟩,
      ⟨(some 20), none, .load false 1 (T 19)⟩,
      ⟨(some 21), none, .mov (T 1)⟩,
      ⟨(some 22), none, .mov (T 5)⟩,
      ⟨(some 23), none, .idxS 1 (T 21) (T 22)⟩,
      ⟨(some 24), none, .load false 1 (T 23)⟩,
      ⟨(some 25), none, .call (.func 13) [(T 20), (T 24)]⟩,
      ⟨(some 26), none, .lnot (T 25)⟩] [])
    (.cond (T 26)
      (.seq (.region [⟨(some 4), none, .mov (.const (.bool false))⟩])
      .ret)
      .skip)))
    (.region [⟨(some 15), none, .mov (T 5)⟩,
      ⟨(some 16), none, .ibin .add (T 15) (.const (.int .i64 1))⟩,
      ⟨(some 5), none, .mov (T 16)⟩]))))))
  (.seq (.region [⟨(some 4), none, .mov (.const (.bool true))⟩])
  .ret))))
theorem f14 : fnC Try.prog 14 = some (c14, 27, [(.tmp 4)]) := by kernel_rfl

/-- dactyllaw32.lives -/
def c15 : CCode :=
  (.seq (.region [⟨(some 0), none, .mov (.const (.bool false))⟩])
  (.seq (.region [⟨(some 8), none, .bslice 3 1 [(.const (.int .i64 2)), (.const (.int .i64 3)), (.const (.int .i64 4))]⟩,
    ⟨(some 1), none, .mov (T 8)⟩])
  (.seq (.region [⟨(some 9), none, .bslice 3 1 [(.const (.int .i64 5)), (.const (.int .i64 9)), (.const (.int .i64 10))]⟩,
    ⟨(some 2), none, .mov (T 9)⟩])
  (.seq (.region [⟨(some 11), none, .mov (T 1)⟩,
    ⟨(some 12), none, .mov (T 2)⟩,
    ⟨(some 13), none, .call (.func 11) [(T 11), (T 12), (.const (.int .i64 6))]⟩,
    ⟨(some 10), none, .mov (T 13)⟩,
    ⟨(some 14), none, .extract (T 10) 0⟩,
    ⟨(some 15), none, .extract (T 10) 1⟩,
    ⟨(some 3), none, .alloc 30 (.agg [(.val (.int .i64 0)), (.val (.slice none 0 0)), (.val (.slice none 0 0))])⟩,
    ⟨none, none, .store 3 (T 3) (T 14)⟩,
    ⟨(some 4), none, .mov (T 15)⟩])
  (.seq (.region [⟨(some 17), none, .mov (T 1)⟩,
    ⟨(some 18), none, .mov (T 2)⟩,
    ⟨(some 19), none, .call (.func 22) [(T 17), (T 18), (.const (.int .i64 6))]⟩,
    ⟨(some 16), none, .mov (T 19)⟩,
    ⟨(some 20), none, .extract (T 16) 0⟩,
    ⟨(some 21), none, .extract (T 16) 1⟩,
    ⟨(some 22), none, .extract (T 16) 2⟩,
    ⟨(some 5), none, .mov (T 20)⟩,
    ⟨(some 6), none, .mov (T 21)⟩,
    ⟨(some 7), none, .mov (T 22)⟩])
  (.seq (.region [⟨(some 23), none, .mov (T 4)⟩,
    ⟨(some 24), none, .ibin .eql (T 23) (.const (.int .i64 0))⟩,
    ⟨(some 25), none, .mov (T 24)⟩,
    ⟨(some 26), (some (25, true)), .mov (T 7)⟩,
    ⟨(some 27), (some (25, true)), .ibin .eql (T 26) (.const (.int .i64 0))⟩,
    ⟨(some 28), none, .pick (T 25) (T 27) (.const (.bool false))⟩,
    ⟨(some 29), none, .mov (T 28)⟩,
    ⟨(some 30), (some (29, true)), .fieldAddr 0 (T 3)⟩,
    ⟨(some 31), (some (29, true)), .load false 1 (T 30)⟩,
    ⟨(some 32), (some (29, true)), .ibin .eql (T 31) (.const (.int .i64 15))⟩,
    ⟨(some 33), none, .pick (T 29) (T 32) (.const (.bool false))⟩,
    ⟨(some 34), none, .mov (T 33)⟩,
    ⟨(some 35), (some (34, true)), .fieldAddr 1 (T 3)⟩,
    ⟨(some 36), (some (34, true)), .load false 1 (T 35)⟩,
    ⟨(some 37), (some (34, true)), .bslice 3 1 [(.const (.int .i64 0)), (.const (.int .i64 2))]⟩,
    ⟨(some 38), (some (34, true)), .call (.func 13) [(T 36), (T 37)]⟩,
    ⟨(some 39), none, .pick (T 34) (T 38) (.const (.bool false))⟩,
    ⟨(some 40), none, .mov (T 39)⟩,
    ⟨(some 41), (some (40, true)), .mov (T 5)⟩,
    ⟨(some 42), (some (40, true)), .ibin .eql (T 41) (.const (.int .i64 3))⟩,
    ⟨(some 43), none, .pick (T 40) (T 42) (.const (.bool false))⟩,
    ⟨(some 44), none, .mov (T 43)⟩,
    ⟨(some 45), (some (44, true)), .mov (T 6)⟩,
    ⟨(some 46), (some (44, true)), .ibin .eql (T 45) (.const (.int .i64 1))⟩,
    ⟨(some 47), none, .pick (T 44) (T 46) (.const (.bool false))⟩,
    ⟨(some 48), none, .mov (T 47)⟩,
    ⟨(some 49), (some (48, true)), .mov (T 1)⟩,
    ⟨(some 50), (some (48, true)), .mov (T 2)⟩,
    ⟨(some 51), (some (48, true)), .load true 3 (T 3)⟩,
    ⟨(some 52), (some (48, true)), .call (.func 17) [(T 49), (T 50), (.const (.int .i64 6)), (T 51)]⟩,
    ⟨(some 53), (some (48, true)), .ibin .eql (T 52) (.const (.int .i64 0))⟩,
    ⟨(some 54), none, .pick (T 48) (T 53) (.const (.bool false))⟩,
    ⟨(some 0), none, .mov (T 54)⟩])
  .ret))))))
theorem f15 : fnC Try.prog 15 = some (c15, 55, [(.tmp 0)]) := by kernel_rfl

/-- dactyllaw32.bent -/
def c16 : CCode :=
  (.seq (.region [⟨(some 4), none, .box 34 (T 0)⟩,
    ⟨(some 8), none, .alloc 34 (.agg [(.val (.int .i64 0)), (.val (.slice none 0 0)), (.val (.slice none 0 0))])⟩])
  (.seq (.drawn [⟨(some 14), none, .fieldAddr 0 (T 4)⟩,
    ⟨(some 15), none, .load false 1 (T 14)⟩,
    ⟨(some 16), none, .empS⟩,
    ⟨(some 17), none, .fieldAddr 1 (T 4)⟩,
    ⟨(some 18), none, .load false 1 (T 17)⟩,
    ⟨(some 19), none, .appE 3 1 8 (T 16) (T 18)⟩,
    ⟨(some 20), none, .empS⟩,
    ⟨(some 21), none, .fieldAddr 2 (T 4)⟩,
    ⟨(some 22), none, .load false 1 (T 21)⟩,
    ⟨(some 23), none, .appE 22 1 24 (T 20) (T 22)⟩,
    ⟨(some 24), none, .build [(.val (.int .i64 0)), (.val (.slice none 0 0)), (.val (.slice none 0 0))] [(0, (1, (T 15))), (1, (1, (T 19))), (2, (1, (T 23)))]⟩,
    ⟨(some 9), none, .alloc 34 (.agg [(.val (.int .i64 0)), (.val (.slice none 0 0)), (.val (.slice none 0 0))])⟩] [(⟨none, none, .store 3 (T 9) (T 24)⟩, [])])
  (.seq (.seq (.region [⟨(some 25), none, .mov (T 2)⟩,
    ⟨(some 26), none, .call (.func 10) [(T 25), (.const (.int .i64 4))]⟩])
  (.block 0 (.seq (.region [⟨(some 35), none, .ibin .eql (T 26) (.const (.int .i64 0))⟩,
    ⟨(some 34), none, .mov (T 35)⟩])
  (.cond (T 34)
    (.drawn [⟨(some 36), none, .fieldAddr 0 (T 9)⟩,
      ⟨(some 37), none, .load false 1 (T 36)⟩,
      ⟨(some 38), none, .mov (T 3)⟩,
      ⟨(some 39), none, .call (.func 10) [(T 38), (.const (.int .i64 5))]⟩,
      ⟨(some 40), none, .ibin .add (T 37) (T 39)⟩,
      ⟨(some 41), none, .ibin .sub (T 40) (.const (.int .i64 2))⟩,
      ⟨(some 42), none, .fieldAddr 0 (T 9)⟩] [(⟨none, none, .store 1 (T 42) (T 41)⟩, [])])
    (.seq (.region [⟨(some 44), none, .ibin .eql (T 26) (.const (.int .i64 1))⟩,
      ⟨(some 43), none, .mov (T 44)⟩])
    (.cond (T 43)
      (.seq (.region [⟨(some 45), none, .fieldAddr 1 (T 9)⟩,
        ⟨(some 46), none, .load false 1 (T 45)⟩,
        ⟨(some 47), none, .len (T 46)⟩,
        ⟨(some 48), none, .ibin .gtr (T 47) (.const (.int .i64 0))⟩])
      (.cond (T 48)
        (.seq (.region [⟨(some 49), none, .mov (T 1)⟩,
          ⟨(some 50), none, .fieldAddr 1 (T 9)⟩,
          ⟨(some 51), none, .load false 1 (T 50)⟩,
          ⟨(some 52), none, .len (T 51)⟩,
          ⟨(some 53), none, .call (.func 10) [(T 49), (T 52)]⟩,
          ⟨(some 10), none, .mov (T 53)⟩])
        (.drawn [⟨(some 54), none, .fieldAddr 1 (T 9)⟩,
          ⟨(some 55), none, .load false 1 (T 54)⟩,
          ⟨(some 56), none, .mov (T 10)⟩,
          ⟨(some 57), none, .fieldAddr 1 (T 9)⟩,
          ⟨(some 58), none, .load false 1 (T 57)⟩,
          ⟨(some 59), none, .mov (T 10)⟩,
          ⟨(some 60), none, .idxS 1 (T 58) (T 59)⟩,
          ⟨(some 61), none, .load false 1 (T 60)⟩,
          ⟨(some 62), none, .mov (T 3)⟩,
          ⟨(some 63), none, .call (.func 10) [(T 62), (.const (.int .i64 5))]⟩,
          ⟨(some 64), none, .ibin .add (T 61) (T 63)⟩,
          ⟨(some 65), none, .ibin .sub (T 64) (.const (.int .i64 2))⟩,
          ⟨(some 66), none, .idxS 1 (T 55) (T 56)⟩] [(⟨none, none, .store 1 (T 66) (T 65)⟩, [])]))
        .skip))
      (.seq (.region [⟨(some 68), none, .ibin .eql (T 26) (.const (.int .i64 2))⟩,
        ⟨(some 67), none, .mov (T 68)⟩])
      (.cond (T 67)
        (.seq (.region [⟨(some 69), none, .fieldAddr 2 (T 9)⟩,
          ⟨(some 70), none, .load false 1 (T 69)⟩,
          ⟨(some 71), none, .len (T 70)⟩,
          ⟨(some 72), none, .ibin .gtr (T 71) (.const (.int .i64 0))⟩])
        (.cond (T 72)
          (.seq (.region [⟨(some 73), none, .mov (T 1)⟩,
            ⟨(some 74), none, .fieldAddr 2 (T 9)⟩,
            ⟨(some 75), none, .load false 1 (T 74)⟩,
            ⟨(some 76), none, .len (T 75)⟩,
            ⟨(some 77), none, .call (.func 10) [(T 73), (T 76)]⟩,
            ⟨(some 11), none, .mov (T 77)⟩])
          (.seq (.region [⟨(some 78), none, .bslice 3 1 []⟩,
            ⟨(some 79), none, .fieldAddr 2 (T 9)⟩,
            ⟨(some 80), none, .load false 1 (T 79)⟩,
            ⟨(some 81), none, .mov (T 11)⟩,
            ⟨(some 82), none, .idxS 1 (T 80) (T 81)⟩,
            ⟨(some 83), none, .load false 1 (T 82)⟩,
            ⟨(some 84), none, .append 3 1 8 (T 78) (T 83)⟩,
            ⟨(some 12), none, .mov (T 84)⟩])
          (.seq (.seq (.region [⟨(some 85), none, .mov (T 12)⟩,
            ⟨(some 86), none, .len (T 85)⟩,
            ⟨(some 87), none, .ibin .gtr (T 86) (.const (.int .i64 0))⟩])
          (.cond (T 87)
            (.seq (.region [⟨(some 88), none, .mov (T 3)⟩,
              ⟨(some 89), none, .mov (T 12)⟩,
              ⟨(some 90), none, .len (T 89)⟩,
              ⟨(some 91), none, .call (.func 10) [(T 88), (T 90)]⟩,
              ⟨(some 13), none, .mov (T 91)⟩])
            (.drawn [⟨(some 92), none, .mov (T 12)⟩,
              ⟨(some 93), none, .mov (T 13)⟩,
              ⟨(some 94), none, .mov (T 12)⟩,
              ⟨(some 95), none, .mov (T 13)⟩,
              ⟨(some 96), none, .idxS 1 (T 94) (T 95)⟩,
              ⟨(some 97), none, .load false 1 (T 96)⟩,
              ⟨(some 98), none, .mov (T 3)⟩,
              ⟨(some 99), none, .ibin .quo (T 98) (.const (.int .i64 7))⟩,
              ⟨(some 100), none, .call (.func 10) [(T 99), (.const (.int .i64 5))]⟩,
              ⟨(some 101), none, .ibin .add (T 97) (T 100)⟩,
              ⟨(some 102), none, .ibin .sub (T 101) (.const (.int .i64 2))⟩,
              ⟨(some 103), none, .idxS 1 (T 92) (T 93)⟩] [(⟨none, none, .store 1 (T 103) (T 102)⟩, [])]))
            .skip))
          (.region [⟨(some 104), none, .fieldAddr 2 (T 9)⟩,
            ⟨(some 105), none, .load false 1 (T 104)⟩,
            ⟨(some 106), none, .mov (T 11)⟩,
            ⟨(some 107), none, .mov (T 12)⟩,
            ⟨(some 108), none, .idxS 1 (T 105) (T 106)⟩,
            ⟨none, none, .store 1 (T 108) (T 107)⟩]))))
          .skip))
        (.drawn [⟨(some 27), none, .fieldAddr 1 (T 9)⟩,
          ⟨(some 28), none, .load false 1 (T 27)⟩,
          ⟨(some 29), none, .mov (T 3)⟩,
          ⟨(some 30), none, .call (.func 10) [(T 29), (.const (.int .i64 9))]⟩,
          ⟨(some 31), none, .bslice 3 1 [(T 30)]⟩] [(⟨(some 32), none, .append 3 1 8 (T 28) (T 31)⟩, []), (⟨(some 33), none, .fieldAddr 1 (T 9)⟩, []), (⟨none, none, .store 1 (T 33) (T 32)⟩, [])])))))))))
  (.seq (.region [⟨(some 109), none, .load true 3 (T 9)⟩,
    ⟨none, none, .store 3 (T 8) (T 109)⟩])
  .ret))))
theorem f16 : fnC Try.prog 16 = some (c16, 110, [(.cell 8 true 3)]) := by kernel_rfl

/-- allow.Check -/
def c17 : CCode :=
  (.seq (.region [⟨(some 7), none, .box 30 (T 3)⟩,
    ⟨(some 8), none, .mov (.const (.int .i64 0))⟩])
  (.seq (.seq (.region [⟨(some 15), none, .mov (T 0)⟩,
    ⟨(some 16), none, .mov (T 1)⟩,
    ⟨(some 17), none, .mov (T 2)⟩,
    ⟨(some 18), none, .call (.func 25) [(T 15), (T 16), (T 17)]⟩,
    ⟨(some 19), none, .lnot (T 18)⟩])
  (.cond (T 19)
    (.seq (.region [⟨(some 8), none, .mov (.const (.int .i64 1))⟩])
    .ret)
    .skip))
  (.seq (.region [⟨(some 20), none, .mov (T 0)⟩,
    ⟨(some 21), none, .mov (T 1)⟩,
    ⟨(some 22), none, .mov (T 2)⟩,
    ⟨(some 23), none, .call (.func 26) [(T 20), (T 21), (T 22)]⟩,
    ⟨(some 9), none, .mov (T 23)⟩])
  (.seq (.seq (.drawn [⟨(some 24), none, .fieldAddr 0 (T 7)⟩,
    ⟨(some 25), none, .load false 1 (T 24)⟩,
    ⟨(some 26), none, .mov (T 9)⟩,
    ⟨(some 27), none, .idxS 1 (T 26) (.const (.int .i64 0))⟩,
    ⟨(some 28), none, .load false 1 (T 27)⟩,
    ⟨(some 29), none, .mov (T 2)⟩,
    ⟨(some 30), none, .idxS 1 (T 28) (T 29)⟩,
    ⟨(some 31), none, .load false 1 (T 30)⟩,
    ⟨(some 32), none, .ibin .neq (T 25) (T 31)⟩,
    ⟨(some 33), none, .mov (T 32)⟩,
    ⟨(some 34), (some (33, false)), .fieldAddr 2 (T 7)⟩,
    ⟨(some 35), (some (33, false)), .load false 1 (T 34)⟩,
    ⟨(some 36), (some (33, false)), .mov (T 9)⟩,
    ⟨(some 37), (some (33, false)), .call (.func 31) [(T 35), (T 36), (.func 32)]⟩,
    ⟨(some 38), (some (33, false)), .lnot (T 37)⟩,
    ⟨(some 39), none, .pick (T 33) (.const (.bool true)) (T 38)⟩] [])
  (.cond (T 39)
    (.seq (.region [⟨(some 8), none, .mov (.const (.int .i64 19))⟩])
    .ret)
    .skip))
  (.seq (.region [⟨(some 10), none, .mov (.const (.int .i64 (-1)))⟩,
    ⟨(some 11), none, .mov (.const (.int .i64 0))⟩,
    ⟨(some 12), none, .mov (.const (.int .i64 0))⟩])
  (.seq (.seq (.region [⟨(some 40), none, .fieldAddr 1 (T 7)⟩,
    ⟨(some 41), none, .load false 1 (T 40)⟩,
    ⟨(some 42), none, .len (T 41)⟩,
    ⟨(some 43), none, .mov (.const (.int .i64 0))⟩])
  (.block 0 (.loop
    (.seq (.region [⟨(some 44), none, .ibin .lss (T 43) (T 42)⟩])
    (.seq (.cond (T 44)
      .skip
      (.exit 0))
    (.seq (.block 1 (.seq (.region [⟨(some 45), none, .idxS 1 (T 41) (T 43)⟩,
      ⟨(some 46), none, .load false 1 (T 45)⟩,
      ⟨(some 14), none, .mov (T 46)⟩])
    (.seq (.seq (.region [⟨(some 47), none, .mov (T 14)⟩,
      ⟨(some 48), none, .mov (T 10)⟩,
      ⟨(some 49), none, .ibin .leq (T 47) (T 48)⟩,
      ⟨(some 50), none, .mov (T 49)⟩,
      ⟨(some 51), (some (50, false)), .mov (T 14)⟩,
      ⟨(some 52), (some (50, false)), .mov (T 0)⟩,
      ⟨(some 53), (some (50, false)), .len (T 52)⟩,
      ⟨(some 54), (some (50, false)), .ibin .geq (T 51) (T 53)⟩,
      ⟨(some 55), none, .pick (T 50) (.const (.bool true)) (T 54)⟩])
    (.cond (T 55)
      (.seq (.region [⟨(some 8), none, .mov (.const (.int .i64 19))⟩])
      .ret)
      .skip))
    (.drawn [⟨(some 56), none, .mov (T 14)⟩,
      ⟨(some 57), none, .mov (T 11)⟩,
      ⟨(some 58), none, .mov (T 0)⟩,
      ⟨(some 59), none, .mov (T 14)⟩,
      ⟨(some 60), none, .idxS 1 (T 58) (T 59)⟩,
      ⟨(some 61), none, .load false 1 (T 60)⟩,
      ⟨(some 62), none, .ibin .add (T 57) (T 61)⟩,
      ⟨(some 63), none, .mov (T 12)⟩,
      ⟨(some 64), none, .mov (T 1)⟩,
      ⟨(some 65), none, .mov (T 14)⟩,
      ⟨(some 66), none, .idxS 1 (T 64) (T 65)⟩,
      ⟨(some 67), none, .load false 1 (T 66)⟩,
      ⟨(some 68), none, .ibin .add (T 63) (T 67)⟩,
      ⟨(some 10), none, .mov (T 56)⟩,
      ⟨(some 11), none, .mov (T 62)⟩,
      ⟨(some 12), none, .mov (T 68)⟩] []))))
    (.region [⟨(some 69), none, .ibin .add (T 43) (.const (.int .i64 1))⟩,
      ⟨(some 43), none, .mov (T 69)⟩])))))))
  (.seq (.seq (.region [⟨(some 70), none, .mov (T 11)⟩,
    ⟨(some 71), none, .mov (T 2)⟩,
    ⟨(some 72), none, .ibin .gtr (T 70) (T 71)⟩,
    ⟨(some 73), none, .mov (T 72)⟩,
    ⟨(some 74), (some (73, false)), .mov (T 12)⟩,
    ⟨(some 75), (some (73, false)), .fieldAddr 0 (T 7)⟩,
    ⟨(some 76), (some (73, false)), .load false 1 (T 75)⟩,
    ⟨(some 77), (some (73, false)), .ibin .neq (T 74) (T 76)⟩,
    ⟨(some 78), none, .pick (T 73) (.const (.bool true)) (T 77)⟩])
  (.cond (T 78)
    (.seq (.region [⟨(some 8), none, .mov (.const (.int .i64 19))⟩])
    .ret)
    .skip))
  (.seq (.region [⟨(some 8), none, .mov (.const (.int .i64 0))⟩])
  .ret))))))))
theorem f17 : fnC Try.prog 17 = some (c17, 79, [(.tmp 8)]) := by kernel_rfl

/-- dactyllaw32.given -/
def c18 : CCode :=
  (.seq (.region [⟨(some 1), none, .box 34 (T 0)⟩,
    ⟨(some 2), none, .alloc 30 (.agg [(.val (.int .i64 0)), (.val (.slice none 0 0)), (.val (.slice none 0 0))])⟩])
  (.seq (.region [⟨(some 3), none, .fieldAddr 0 (T 1)⟩,
    ⟨(some 4), none, .load false 1 (T 3)⟩,
    ⟨(some 5), none, .fieldAddr 1 (T 1)⟩,
    ⟨(some 6), none, .load false 1 (T 5)⟩,
    ⟨(some 7), none, .fieldAddr 2 (T 1)⟩,
    ⟨(some 8), none, .load false 1 (T 7)⟩,
    ⟨(some 9), none, .build [(.val (.int .i64 0)), (.val (.slice none 0 0)), (.val (.slice none 0 0))] [(0, (1, (T 4))), (1, (1, (T 6))), (2, (1, (T 8)))]⟩,
    ⟨none, none, .store 3 (T 2) (T 9)⟩])
  .ret))
theorem f18 : fnC Try.prog 18 = some (c18, 10, [(.cell 2 true 3)]) := by kernel_rfl

/-- dactylref32.Check -/
def c19 : CCode :=
  (.seq (.region [⟨(some 7), none, .box 34 (T 3)⟩,
    ⟨(some 8), none, .mov (.const (.int .i64 0))⟩])
  (.seq (.seq (.region [⟨(some 11), none, .mov (T 0)⟩,
    ⟨(some 12), none, .mov (T 1)⟩,
    ⟨(some 13), none, .mov (T 2)⟩,
    ⟨(some 14), none, .call (.func 28) [(T 11), (T 12), (T 13)]⟩,
    ⟨(some 15), none, .lnot (T 14)⟩])
  (.cond (T 15)
    (.seq (.region [⟨(some 8), none, .mov (.const (.int .i64 1))⟩])
    .ret)
    .skip))
  (.seq (.region [⟨(some 16), none, .mov (T 0)⟩,
    ⟨(some 17), none, .mov (T 1)⟩,
    ⟨(some 18), none, .mov (T 2)⟩,
    ⟨(some 19), none, .call (.func 29) [(T 16), (T 17), (T 18)]⟩,
    ⟨(some 9), none, .mov (T 19)⟩])
  (.seq (.region [⟨(some 20), none, .mov (T 0)⟩,
    ⟨(some 21), none, .fieldAddr 1 (T 7)⟩,
    ⟨(some 22), none, .load false 1 (T 21)⟩,
    ⟨(some 23), none, .call (.func 21) [(T 20), (T 22)]⟩,
    ⟨(some 10), none, .mov (T 23)⟩])
  (.seq (.seq (.drawn [⟨(some 24), none, .fieldAddr 0 (T 7)⟩,
    ⟨(some 25), none, .load false 1 (T 24)⟩,
    ⟨(some 26), none, .mov (T 9)⟩,
    ⟨(some 27), none, .idxS 1 (T 26) (.const (.int .i64 0))⟩,
    ⟨(some 28), none, .load false 1 (T 27)⟩,
    ⟨(some 29), none, .mov (T 2)⟩,
    ⟨(some 30), none, .idxS 1 (T 28) (T 29)⟩,
    ⟨(some 31), none, .load false 1 (T 30)⟩,
    ⟨(some 32), none, .ibin .neq (T 25) (T 31)⟩,
    ⟨(some 33), none, .mov (T 32)⟩,
    ⟨(some 34), (some (33, false)), .fieldAddr 2 (T 7)⟩,
    ⟨(some 35), (some (33, false)), .load false 1 (T 34)⟩,
    ⟨(some 36), (some (33, false)), .mov (T 9)⟩,
    ⟨(some 37), (some (33, false)), .call (.func 14) [(T 35), (T 36)]⟩,
    ⟨(some 38), (some (33, false)), .lnot (T 37)⟩,
    ⟨(some 39), none, .pick (T 33) (.const (.bool true)) (T 38)⟩,
    ⟨(some 40), none, .mov (T 39)⟩,
    ⟨(some 41), (some (40, false)), .mov (T 10)⟩,
    ⟨(some 42), (some (40, false)), .ibin .lss (T 41) (.const (.int .i64 0))⟩,
    ⟨(some 43), none, .pick (T 40) (.const (.bool true)) (T 42)⟩,
    ⟨(some 44), none, .mov (T 43)⟩,
    ⟨(some 45), (some (44, false)), .mov (T 10)⟩,
    ⟨(some 46), (some (44, false)), .mov (T 2)⟩,
    ⟨(some 47), (some (44, false)), .ibin .gtr (T 45) (T 46)⟩,
    ⟨(some 48), none, .pick (T 44) (.const (.bool true)) (T 47)⟩,
    ⟨(some 49), none, .mov (T 48)⟩,
    ⟨(some 50), (some (49, false)), .mov (T 1)⟩,
    ⟨(some 51), (some (49, false)), .fieldAddr 1 (T 7)⟩,
    ⟨(some 52), (some (49, false)), .load false 1 (T 51)⟩,
    ⟨(some 53), (some (49, false)), .call (.func 21) [(T 50), (T 52)]⟩,
    ⟨(some 54), (some (49, false)), .fieldAddr 0 (T 7)⟩,
    ⟨(some 55), (some (49, false)), .load false 1 (T 54)⟩,
    ⟨(some 56), (some (49, false)), .ibin .neq (T 53) (T 55)⟩,
    ⟨(some 57), none, .pick (T 49) (.const (.bool true)) (T 56)⟩] [])
  (.cond (T 57)
    (.seq (.region [⟨(some 8), none, .mov (.const (.int .i64 19))⟩])
    .ret)
    .skip))
  (.seq (.region [⟨(some 8), none, .mov (.const (.int .i64 0))⟩])
  .ret))))))
theorem f19 : fnC Try.prog 19 = some (c19, 58, [(.tmp 8)]) := by kernel_rfl

/-- dactylref01.At -/
def c20 : CCode :=
  (.seq (.region [⟨(some 6), none, .mov (.const (.int .i64 0))⟩])
  (.seq (.seq (.region [⟨(some 7), none, .mov (T 1)⟩,
    ⟨(some 8), none, .ibin .lss (T 7) (.const (.int .i64 0))⟩,
    ⟨(some 9), none, .mov (T 8)⟩,
    ⟨(some 10), (some (9, false)), .mov (T 1)⟩,
    ⟨(some 11), (some (9, false)), .mov (T 0)⟩,
    ⟨(some 12), (some (9, false)), .len (T 11)⟩,
    ⟨(some 13), (some (9, false)), .ibin .geq (T 10) (T 12)⟩,
    ⟨(some 14), none, .pick (T 9) (.const (.bool true)) (T 13)⟩])
  (.cond (T 14)
    (.seq (.region [⟨(some 6), none, .mov (.const (.int .i64 0))⟩])
    .ret)
    .skip))
  (.seq (.region [⟨(some 15), none, .mov (T 0)⟩,
    ⟨(some 16), none, .mov (T 1)⟩,
    ⟨(some 17), none, .idxS 1 (T 15) (T 16)⟩,
    ⟨(some 18), none, .load false 1 (T 17)⟩,
    ⟨(some 19), none, .mov (T 2)⟩,
    ⟨(some 20), none, .call (.func 10) [(T 18), (T 19)]⟩,
    ⟨(some 6), none, .mov (T 20)⟩])
  .ret)))
theorem f20 : fnC Try.prog 20 = some (c20, 21, [(.tmp 6)]) := by kernel_rfl

/-- dactylref32.Sum -/
def c21 : CCode :=
  (.seq (.region [⟨(some 4), none, .mov (.const (.int .i64 0))⟩])
  (.seq (.region [⟨(some 5), none, .mov (.const (.int .i64 0))⟩])
  (.seq (.seq (.region [⟨(some 6), none, .mov (.const (.int .i64 0))⟩])
  (.block 0 (.loop
    (.seq (.seq (.region [⟨(some 7), none, .mov (T 6)⟩,
      ⟨(some 8), none, .mov (T 1)⟩,
      ⟨(some 9), none, .len (T 8)⟩,
      ⟨(some 10), none, .ibin .lss (T 7) (T 9)⟩])
    (.cond (T 10)
      .skip
      (.exit 0)))
    (.seq (.block 1 (.seq (.seq (.drawn [⟨(some 13), none, .mov (T 1)⟩,
      ⟨(some 14), none, .mov (T 6)⟩,
      ⟨(some 15), none, .idxS 1 (T 13) (T 14)⟩,
      ⟨(some 16), none, .load false 1 (T 15)⟩,
      ⟨(some 17), none, .ibin .lss (T 16) (.const (.int .i64 0))⟩,
      ⟨(some 18), none, .mov (T 17)⟩,
      ⟨(some 19), (some (18, false)), .mov (T 1)⟩,
      ⟨(some 20), (some (18, false)), .mov (T 6)⟩,
      ⟨(some 21), (some (18, false)), .idxS 1 (T 19) (T 20)⟩,
      ⟨(some 22), (some (18, false)), .load false 1 (T 21)⟩,
      ⟨(some 23), (some (18, false)), .mov (T 0)⟩,
      ⟨(some 24), (some (18, false)), .len (T 23)⟩,
      ⟨(some 25), (some (18, false)), .ibin .geq (T 22) (T 24)⟩,
      ⟨(some 26), none, .pick (T 18) (.const (.bool true)) (T 25)⟩,
      ⟨(some 27), none, .mov (T 26)⟩,
      ⟨(some 28), (some (27, false)), .mov (T 6)⟩,
      ⟨(some 29), (some (27, false)), .ibin .gtr (T 28) (.const (.int .i64 0))⟩,
      ⟨(some 30), (some (27, false)), .mov (T 29)⟩,
      ⟨(some 31), (some (30, true)), .mov (T 1)⟩,
      ⟨(some 32), (some (30, true)), .mov (T 6)⟩,
      ⟨(some 33), (some (30, true)), .idxS 1 (T 31) (T 32)⟩,
      ⟨(some 34), (some (30, true)), .load false 1 (T 33)⟩,
      ⟨(some 35), (some (30, true)), .mov (T 1)⟩,
      ⟨(some 36), (some (30, true)), .mov (T 6)⟩,
      ⟨(some 37), (some (30, true)), .ibin .sub (T 36) (.const (.int .i64 1))⟩,
      ⟨(some 38), (some (30, true)), .imax (T 37) (.const (.int .i64 0))⟩,
      ⟨(some 39), (some (30, true)), .idxS 1 (T 35) (T 38)⟩,
      ⟨(some 40), (some (30, true)), .load false 1 (T 39)⟩,
      ⟨(some 41), (some (30, true)), .ibin .leq (T 34) (T 40)⟩,
      ⟨(some 42), (some (27, false)), .pick (T 30) (T 41) (.const (.bool false))⟩,
      ⟨(some 43), none, .pick (T 27) (.const (.bool true)) (T 42)⟩] [])
    (.cond (T 43)
      (.seq (.region [⟨(some 4), none, .mov (.const (.int .i64 (-1)))⟩])
      .ret)
      .skip))
    (.region [⟨(some 44), none, .mov (T 5)⟩,
      ⟨(some 45), none, .mov (T 0)⟩,
      ⟨(some 46), none, .mov (T 1)⟩,
      ⟨(some 47), none, .mov (T 6)⟩,
      ⟨(some 48), none, .idxS 1 (T 46) (T 47)⟩,
      ⟨(some 49), none, .load false 1 (T 48)⟩,
      ⟨(some 50), none, .idxS 1 (T 45) (T 49)⟩,
      ⟨(some 51), none, .load false 1 (T 50)⟩,
      ⟨(some 52), none, .ibin .add (T 44) (T 51)⟩,
      ⟨(some 5), none, .mov (T 52)⟩])))
    (.region [⟨(some 11), none, .mov (T 6)⟩,
      ⟨(some 12), none, .ibin .add (T 11) (.const (.int .i64 1))⟩,
      ⟨(some 6), none, .mov (T 12)⟩]))))))
  (.seq (.region [⟨(some 53), none, .mov (T 5)⟩,
    ⟨(some 4), none, .mov (T 53)⟩])
  .ret))))
theorem f21 : fnC Try.prog 21 = some (c21, 54, [(.tmp 4)]) := by kernel_rfl

/-- allow.Factor -/
def c22 : CCode :=
  (.seq (.region [⟨(some 6), none, .mov (.const (.int .i64 0))⟩,
    ⟨(some 7), none, .mov (.const (.int .i64 0))⟩,
    ⟨(some 8), none, .mov (.const (.int .i64 0))⟩])
  (.seq (.seq (.region [⟨(some 15), none, .mov (T 0)⟩,
    ⟨(some 16), none, .mov (T 1)⟩,
    ⟨(some 17), none, .mov (T 2)⟩,
    ⟨(some 18), none, .call (.func 25) [(T 15), (T 16), (T 17)]⟩,
    ⟨(some 19), none, .lnot (T 18)⟩])
  (.cond (T 19)
    (.seq (.region [⟨(some 6), none, .mov (.const (.int .i64 0))⟩,
      ⟨(some 7), none, .mov (.const (.int .i64 0))⟩,
      ⟨(some 8), none, .mov (.const (.int .i64 1))⟩])
    .ret)
    .skip))
  (.seq (.region [⟨(some 20), none, .mov (T 0)⟩,
    ⟨(some 21), none, .mov (T 1)⟩,
    ⟨(some 22), none, .mov (T 2)⟩,
    ⟨(some 23), none, .call (.func 26) [(T 20), (T 21), (T 22)]⟩,
    ⟨(some 24), none, .idxS 1 (T 23) (.const (.int .i64 0))⟩,
    ⟨(some 25), none, .load false 1 (T 24)⟩,
    ⟨(some 9), none, .mov (T 25)⟩])
  (.seq (.seq (.region [⟨(some 26), none, .mov (T 9)⟩,
    ⟨(some 27), none, .idxS 1 (T 26) (.const (.int .i64 0))⟩,
    ⟨(some 28), none, .load false 1 (T 27)⟩,
    ⟨(some 29), none, .ibin .gtr (T 28) (.const (.int .i64 0))⟩])
  (.cond (T 29)
    (.seq (.region [⟨(some 6), none, .mov (.const (.int .i64 0))⟩,
      ⟨(some 7), none, .mov (.const (.int .i64 0))⟩,
      ⟨(some 8), none, .mov (.const (.int .i64 6))⟩])
    .ret)
    .skip))
  (.seq (.region [⟨(some 10), none, .mov (.const (.int .i64 0))⟩,
    ⟨(some 11), none, .mov (.const (.int .i64 1))⟩])
  (.seq (.seq (.region [⟨(some 30), none, .mov (T 9)⟩,
    ⟨(some 31), none, .len (T 30)⟩,
    ⟨(some 32), none, .mov (.const (.int .i64 0))⟩])
  (.block 0 (.loop
    (.seq (.region [⟨(some 33), none, .ibin .lss (T 32) (T 31)⟩])
    (.seq (.cond (T 33)
      .skip
      (.exit 0))
    (.seq (.block 1 (.seq (.region [⟨(some 34), none, .mov (T 32)⟩,
      ⟨(some 35), none, .idxS 1 (T 30) (T 32)⟩,
      ⟨(some 36), none, .load false 1 (T 35)⟩,
      ⟨(some 12), none, .mov (T 34)⟩,
      ⟨(some 13), none, .mov (T 36)⟩])
    (.seq (.region [⟨(some 37), none, .mov (T 13)⟩,
      ⟨(some 38), none, .mov (T 11)⟩,
      ⟨(some 39), none, .ibin .mul (T 37) (T 38)⟩,
      ⟨(some 40), none, .mov (T 10)⟩,
      ⟨(some 41), none, .mov (T 12)⟩,
      ⟨(some 42), none, .ibin .mul (T 40) (T 41)⟩,
      ⟨(some 43), none, .ibin .gtr (T 39) (T 42)⟩])
    (.cond (T 43)
      (.region [⟨(some 44), none, .mov (T 13)⟩,
        ⟨(some 45), none, .mov (T 12)⟩,
        ⟨(some 10), none, .mov (T 44)⟩,
        ⟨(some 11), none, .mov (T 45)⟩])
      .skip))))
    (.region [⟨(some 46), none, .ibin .add (T 32) (.const (.int .i64 1))⟩,
      ⟨(some 32), none, .mov (T 46)⟩])))))))
  (.seq (.region [⟨(some 47), none, .mov (T 10)⟩,
    ⟨(some 48), none, .mov (T 11)⟩,
    ⟨(some 49), none, .call (.func 33) [(T 47), (T 48)]⟩,
    ⟨(some 14), none, .mov (T 49)⟩])
  (.seq (.drawn [⟨(some 50), none, .mov (T 10)⟩,
    ⟨(some 51), none, .mov (T 14)⟩,
    ⟨(some 52), none, .ibin .quo (T 50) (T 51)⟩,
    ⟨(some 53), none, .mov (T 11)⟩,
    ⟨(some 54), none, .mov (T 14)⟩,
    ⟨(some 55), none, .ibin .quo (T 53) (T 54)⟩,
    ⟨(some 6), none, .mov (T 52)⟩,
    ⟨(some 7), none, .mov (T 55)⟩,
    ⟨(some 8), none, .mov (.const (.int .i64 0))⟩] [])
  .ret))))))))
theorem f22 : fnC Try.prog 22 = some (c22, 56, [(.tmp 6), (.tmp 7), (.tmp 8)]) := by kernel_rfl

/-- dactylref32.Factor -/
def c23 : CCode :=
  (.seq (.region [⟨(some 6), none, .mov (.const (.int .i64 0))⟩,
    ⟨(some 7), none, .mov (.const (.int .i64 0))⟩,
    ⟨(some 8), none, .mov (.const (.int .i64 0))⟩])
  (.seq (.seq (.region [⟨(some 14), none, .mov (T 0)⟩,
    ⟨(some 15), none, .mov (T 1)⟩,
    ⟨(some 16), none, .mov (T 2)⟩,
    ⟨(some 17), none, .call (.func 28) [(T 14), (T 15), (T 16)]⟩,
    ⟨(some 18), none, .lnot (T 17)⟩])
  (.cond (T 18)
    (.seq (.region [⟨(some 6), none, .mov (.const (.int .i64 0))⟩,
      ⟨(some 7), none, .mov (.const (.int .i64 0))⟩,
      ⟨(some 8), none, .mov (.const (.int .i64 1))⟩])
    .ret)
    .skip))
  (.seq (.region [⟨(some 19), none, .mov (T 0)⟩,
    ⟨(some 20), none, .mov (T 1)⟩,
    ⟨(some 21), none, .mov (T 2)⟩,
    ⟨(some 22), none, .call (.func 29) [(T 19), (T 20), (T 21)]⟩,
    ⟨(some 23), none, .idxS 1 (T 22) (.const (.int .i64 0))⟩,
    ⟨(some 24), none, .load false 1 (T 23)⟩,
    ⟨(some 9), none, .mov (T 24)⟩])
  (.seq (.seq (.region [⟨(some 25), none, .mov (T 9)⟩,
    ⟨(some 26), none, .idxS 1 (T 25) (.const (.int .i64 0))⟩,
    ⟨(some 27), none, .load false 1 (T 26)⟩,
    ⟨(some 28), none, .ibin .neq (T 27) (.const (.int .i64 0))⟩])
  (.cond (T 28)
    (.seq (.region [⟨(some 6), none, .mov (.const (.int .i64 0))⟩,
      ⟨(some 7), none, .mov (.const (.int .i64 0))⟩,
      ⟨(some 8), none, .mov (.const (.int .i64 6))⟩])
    .ret)
    .skip))
  (.seq (.region [⟨(some 10), none, .mov (.const (.int .i64 0))⟩])
  (.seq (.region [⟨(some 11), none, .mov (.const (.int .i64 1))⟩])
  (.seq (.seq (.region [⟨(some 12), none, .mov (.const (.int .i64 1))⟩])
  (.block 0 (.loop
    (.seq (.seq (.region [⟨(some 29), none, .mov (T 12)⟩,
      ⟨(some 30), none, .mov (T 2)⟩,
      ⟨(some 31), none, .ibin .leq (T 29) (T 30)⟩])
    (.cond (T 31)
      .skip
      (.exit 0)))
    (.seq (.block 1 (.seq (.region [⟨(some 34), none, .mov (T 9)⟩,
      ⟨(some 35), none, .mov (T 12)⟩,
      ⟨(some 36), none, .idxS 1 (T 34) (T 35)⟩,
      ⟨(some 37), none, .load false 1 (T 36)⟩,
      ⟨(some 38), none, .mov (T 11)⟩,
      ⟨(some 39), none, .ibin .mul (T 37) (T 38)⟩,
      ⟨(some 40), none, .mov (T 10)⟩,
      ⟨(some 41), none, .mov (T 12)⟩,
      ⟨(some 42), none, .ibin .mul (T 40) (T 41)⟩,
      ⟨(some 43), none, .ibin .gtr (T 39) (T 42)⟩])
    (.cond (T 43)
      (.seq (.region [⟨(some 44), none, .mov (T 9)⟩,
        ⟨(some 45), none, .mov (T 12)⟩,
        ⟨(some 46), none, .idxS 1 (T 44) (T 45)⟩,
        ⟨(some 47), none, .load false 1 (T 46)⟩,
        ⟨(some 10), none, .mov (T 47)⟩])
      (.region [⟨(some 48), none, .mov (T 12)⟩,
        ⟨(some 11), none, .mov (T 48)⟩]))
      .skip)))
    (.region [⟨(some 32), none, .mov (T 12)⟩,
      ⟨(some 33), none, .ibin .add (T 32) (.const (.int .i64 1))⟩,
      ⟨(some 12), none, .mov (T 33)⟩]))))))
  (.seq (.seq (.region [⟨(some 49), none, .mov (T 10)⟩,
    ⟨(some 50), none, .mov (T 11)⟩,
    ⟨(some 51), none, .imin (T 49) (T 50)⟩,
    ⟨(some 13), none, .mov (T 51)⟩])
  (.block 2 (.loop
    (.seq (.seq (.region [⟨(some 52), none, .mov (T 13)⟩,
      ⟨(some 53), none, .ibin .gtr (T 52) (.const (.int .i64 1))⟩])
    (.cond (T 53)
      .skip
      (.exit 2)))
    (.seq (.block 3 (.seq (.region [⟨(some 56), none, .mov (T 10)⟩,
      ⟨(some 57), none, .mov (T 13)⟩,
      ⟨(some 58), none, .ibin .rem (T 56) (T 57)⟩,
      ⟨(some 59), none, .ibin .eql (T 58) (.const (.int .i64 0))⟩,
      ⟨(some 60), none, .mov (T 59)⟩,
      ⟨(some 61), (some (60, true)), .mov (T 11)⟩,
      ⟨(some 62), (some (60, true)), .mov (T 13)⟩,
      ⟨(some 63), (some (60, true)), .ibin .rem (T 61) (T 62)⟩,
      ⟨(some 64), (some (60, true)), .ibin .eql (T 63) (.const (.int .i64 0))⟩,
      ⟨(some 65), none, .pick (T 60) (T 64) (.const (.bool false))⟩])
    (.cond (T 65)
      (.seq (.drawn [⟨(some 66), none, .mov (T 10)⟩,
        ⟨(some 67), none, .mov (T 13)⟩,
        ⟨(some 68), none, .ibin .quo (T 66) (T 67)⟩,
        ⟨(some 69), none, .mov (T 11)⟩,
        ⟨(some 70), none, .mov (T 13)⟩,
        ⟨(some 71), none, .ibin .quo (T 69) (T 70)⟩,
        ⟨(some 6), none, .mov (T 68)⟩,
        ⟨(some 7), none, .mov (T 71)⟩,
        ⟨(some 8), none, .mov (.const (.int .i64 0))⟩] [])
      .ret)
      .skip)))
    (.region [⟨(some 54), none, .mov (T 13)⟩,
      ⟨(some 55), none, .ibin .sub (T 54) (.const (.int .i64 1))⟩,
      ⟨(some 13), none, .mov (T 55)⟩]))))))
  (.seq (.seq (.region [⟨(some 72), none, .mov (T 10)⟩,
    ⟨(some 73), none, .ibin .eql (T 72) (.const (.int .i64 0))⟩])
  (.cond (T 73)
    (.seq (.region [⟨(some 6), none, .mov (.const (.int .i64 0))⟩,
      ⟨(some 7), none, .mov (.const (.int .i64 1))⟩,
      ⟨(some 8), none, .mov (.const (.int .i64 0))⟩])
    .ret)
    .skip))
  (.seq (.region [⟨(some 74), none, .mov (T 10)⟩,
    ⟨(some 75), none, .mov (T 11)⟩,
    ⟨(some 6), none, .mov (T 74)⟩,
    ⟨(some 7), none, .mov (T 75)⟩,
    ⟨(some 8), none, .mov (.const (.int .i64 0))⟩])
  .ret))))))))))
theorem f23 : fnC Try.prog 23 = some (c23, 76, [(.tmp 6), (.tmp 7), (.tmp 8)]) := by kernel_rfl

/-- dactylref32.Steps -/
def c24 : CCode :=
  (.seq (.region [⟨(some 6), none, .mov (.const (.slice none 0 0))⟩])
  (.seq (.region [⟨(some 7), none, .mov (.const (.slice none 0 0))⟩])
  (.seq (.seq (.region [⟨(some 8), none, .mov (.const (.int .i64 0))⟩])
  (.block 0 (.loop
    (.seq (.seq (.region [⟨(some 9), none, .mov (T 8)⟩,
      ⟨(some 10), none, .mov (T 1)⟩,
      ⟨(some 11), none, .ibin .lss (T 9) (T 10)⟩])
    (.cond (T 11)
      .skip
      (.exit 0)))
    (.seq (.block 1 (.region [⟨(some 14), none, .mov (T 7)⟩,
      ⟨(some 15), none, .mov (T 0)⟩,
      ⟨(some 16), none, .mov (T 8)⟩,
      ⟨(some 17), none, .mov (T 2)⟩,
      ⟨(some 18), none, .call (.func 20) [(T 15), (T 16), (T 17)]⟩,
      ⟨(some 19), none, .bslice 3 1 [(T 18)]⟩,
      ⟨(some 20), none, .append 3 1 8 (T 14) (T 19)⟩,
      ⟨(some 7), none, .mov (T 20)⟩]))
    (.region [⟨(some 12), none, .mov (T 8)⟩,
      ⟨(some 13), none, .ibin .add (T 12) (.const (.int .i64 1))⟩,
      ⟨(some 8), none, .mov (T 13)⟩]))))))
  (.seq (.region [⟨(some 21), none, .mov (T 7)⟩,
    ⟨(some 6), none, .mov (T 21)⟩])
  .ret))))
theorem f24 : fnC Try.prog 24 = some (c24, 22, [(.tmp 6)]) := by kernel_rfl

/-- allow.valid -/
def c25 : CCode :=
  (.seq (.region [⟨(some 6), none, .mov (.const (.bool false))⟩])
  (.seq (.region [⟨(some 7), none, .mov (T 0)⟩,
    ⟨(some 8), none, .len (T 7)⟩,
    ⟨(some 9), none, .mov (T 1)⟩,
    ⟨(some 10), none, .len (T 9)⟩,
    ⟨(some 11), none, .ibin .eql (T 8) (T 10)⟩,
    ⟨(some 12), none, .mov (T 11)⟩,
    ⟨(some 13), (some (12, true)), .mov (T 0)⟩,
    ⟨(some 14), (some (12, true)), .len (T 13)⟩,
    ⟨(some 15), (some (12, true)), .ibin .leq (T 14) (.const (.int .i64 48))⟩,
    ⟨(some 16), none, .pick (T 12) (T 15) (.const (.bool false))⟩,
    ⟨(some 17), none, .mov (T 16)⟩,
    ⟨(some 18), (some (17, true)), .mov (T 0)⟩,
    ⟨(some 19), (some (17, true)), .call (.func 34) [(T 18)]⟩,
    ⟨(some 20), none, .pick (T 17) (T 19) (.const (.bool false))⟩,
    ⟨(some 21), none, .mov (T 20)⟩,
    ⟨(some 22), (some (21, true)), .mov (T 1)⟩,
    ⟨(some 23), (some (21, true)), .call (.func 34) [(T 22)]⟩,
    ⟨(some 24), none, .pick (T 21) (T 23) (.const (.bool false))⟩,
    ⟨(some 25), none, .mov (T 24)⟩,
    ⟨(some 26), (some (25, true)), .mov (T 2)⟩,
    ⟨(some 27), (some (25, true)), .ibin .geq (T 26) (.const (.int .i64 0))⟩,
    ⟨(some 28), none, .pick (T 25) (T 27) (.const (.bool false))⟩,
    ⟨(some 29), none, .mov (T 28)⟩,
    ⟨(some 30), (some (29, true)), .mov (T 2)⟩,
    ⟨(some 31), (some (29, true)), .ibin .leq (T 30) (.const (.int .i64 2048))⟩,
    ⟨(some 32), none, .pick (T 29) (T 31) (.const (.bool false))⟩,
    ⟨(some 6), none, .mov (T 32)⟩])
  .ret))
theorem f25 : fnC Try.prog 25 = some (c25, 33, [(.tmp 6)]) := by kernel_rfl

/-- allow.table -/
def c26 : CCode :=
  (.seq (.region [⟨(some 3), none, .box 22 (T 0)⟩,
    ⟨(some 4), none, .box 22 (T 1)⟩,
    ⟨(some 5), none, .box 3 (T 2)⟩,
    ⟨(some 6), none, .mov (.const (.slice none 0 0))⟩])
  (.seq (.region [⟨(some 10), none, .load false 1 (T 3)⟩,
    ⟨(some 11), none, .len (T 10)⟩,
    ⟨(some 7), none, .alloc 3 (.val (.int .i64 0))⟩,
    ⟨none, none, .store 1 (T 7) (T 11)⟩])
  (.seq (.region [⟨(some 12), none, .load false 1 (T 7)⟩,
    ⟨(some 13), none, .ibin .add (T 12) (.const (.int .i64 1))⟩,
    ⟨(some 14), none, .mkslice 22 1 24 (.val (.slice none 0 0)) (T 13) (T 13)⟩,
    ⟨(some 8), none, .alloc 25 (.val (.slice none 0 0))⟩,
    ⟨none, none, .store 1 (T 8) (T 14)⟩])
  (.seq (.region [⟨(some 9), none, .alloc 57 (.val .nilFunc)⟩])
  (.seq (.region [⟨(some 15), none, .mkfunc (.func 35) [(T 8), (T 5), (T 7), (T 9), (T 3), (T 4)]⟩,
    ⟨none, none, .store 1 (T 9) (T 15)⟩])
  (.seq (.region [⟨(some 16), none, .load false 1 (T 9)⟩,
    ⟨(some 17), none, .call (T 16) [(.const (.int .i64 0))]⟩])
  (.seq (.region [⟨(some 18), none, .load false 1 (T 8)⟩,
    ⟨(some 6), none, .mov (T 18)⟩])
  .ret)))))))
theorem f26 : fnC Try.prog 26 = some (c26, 19, [(.tmp 6)]) := by kernel_rfl

/-- allow.set -/
def c27 : CCode :=
  (.seq (.region [⟨(some 8), none, .mov (.const (.slice none 0 0))⟩])
  (.seq (.region [⟨(some 14), none, .mov (T 0)⟩,
    ⟨(some 15), none, .len (T 14)⟩,
    ⟨(some 16), none, .mkslice 3 1 8 (.val (.int .i64 0)) (T 15) (T 15)⟩,
    ⟨(some 9), none, .mov (T 16)⟩])
  (.seq (.region [⟨(some 17), none, .mov (T 9)⟩,
    ⟨(some 18), none, .mov (T 0)⟩,
    ⟨(some 19), none, .len (T 18)⟩,
    ⟨(some 20), none, .slice3 1 (T 17) none (.const (.int .i64 0)) (T 19)⟩,
    ⟨(some 10), none, .mov (T 20)⟩])
  (.seq (.region [⟨(some 21), none, .mov (T 3)⟩,
    ⟨(some 11), none, .mov (T 21)⟩])
  (.seq (.seq (.region [⟨(some 22), none, .mov (T 0)⟩,
    ⟨(some 23), none, .len (T 22)⟩,
    ⟨(some 24), none, .mov (.const (.int .i64 0))⟩])
  (.block 0 (.loop
    (.seq (.region [⟨(some 25), none, .ibin .lss (T 24) (T 23)⟩])
    (.seq (.cond (T 25)
      .skip
      (.exit 0))
    (.seq (.block 1 (.seq (.region [⟨(some 26), none, .mov (T 24)⟩,
      ⟨(some 12), none, .mov (T 26)⟩])
    (.seq (.seq (.region [⟨(some 27), none, .mov (T 2)⟩,
      ⟨(some 28), none, .mov (T 12)⟩,
      ⟨(some 29), none, .idxS 1 (T 27) (T 28)⟩,
      ⟨(some 30), none, .load false 1 (T 29)⟩,
      ⟨(some 31), none, .mov (T 11)⟩,
      ⟨(some 32), none, .idxS 1 (T 30) (T 31)⟩,
      ⟨(some 33), none, .load false 1 (T 32)⟩,
      ⟨(some 34), none, .ibin .eql (T 33) (.const (.int .i64 0))⟩])
    (.cond (T 34)
      (.exit 0)
      .skip))
    (.seq (.region [⟨(some 35), none, .mov (T 11)⟩,
      ⟨(some 36), none, .mov (T 0)⟩,
      ⟨(some 37), none, .mov (T 12)⟩,
      ⟨(some 38), none, .idxS 1 (T 36) (T 37)⟩,
      ⟨(some 39), none, .load false 1 (T 38)⟩,
      ⟨(some 40), none, .ibin .sub (T 35) (T 39)⟩,
      ⟨(some 13), none, .mov (T 40)⟩])
    (.seq (.drawn [⟨(some 41), none, .mov (T 13)⟩,
      ⟨(some 42), none, .ibin .geq (T 41) (.const (.int .i64 0))⟩,
      ⟨(some 43), none, .mov (T 42)⟩,
      ⟨(some 44), (some (43, true)), .mov (T 1)⟩,
      ⟨(some 45), (some (43, true)), .mov (T 12)⟩,
      ⟨(some 46), (some (43, true)), .idxS 1 (T 44) (T 45)⟩,
      ⟨(some 47), (some (43, true)), .load false 1 (T 46)⟩,
      ⟨(some 48), (some (43, true)), .mov (T 2)⟩,
      ⟨(some 49), (some (43, true)), .mov (T 12)⟩,
      ⟨(some 50), (some (43, true)), .ibin .add (T 49) (.const (.int .i64 1))⟩,
      ⟨(some 51), (some (43, true)), .idxS 1 (T 48) (T 50)⟩,
      ⟨(some 52), (some (43, true)), .load false 1 (T 51)⟩,
      ⟨(some 53), (some (43, true)), .mov (T 13)⟩,
      ⟨(some 54), (some (43, true)), .idxS 1 (T 52) (T 53)⟩,
      ⟨(some 55), (some (43, true)), .load false 1 (T 54)⟩,
      ⟨(some 56), (some (43, true)), .ibin .add (T 47) (T 55)⟩,
      ⟨(some 57), (some (43, true)), .mov (T 2)⟩,
      ⟨(some 58), (some (43, true)), .mov (T 12)⟩,
      ⟨(some 59), (some (43, true)), .idxS 1 (T 57) (T 58)⟩,
      ⟨(some 60), (some (43, true)), .load false 1 (T 59)⟩,
      ⟨(some 61), (some (43, true)), .mov (T 11)⟩,
      ⟨(some 62), (some (43, true)), .idxS 1 (T 60) (T 61)⟩,
      ⟨(some 63), (some (43, true)), .load false 1 (T 62)⟩,
      ⟨(some 64), (some (43, true)), .ibin .eql (T 56) (T 63)⟩,
      ⟨(some 65), none, .pick (T 43) (T 64) (.const (.bool false))⟩] [])
    (.cond (T 65)
      (.region [⟨(some 66), none, .mov (T 10)⟩,
        ⟨(some 67), none, .mov (T 12)⟩,
        ⟨(some 68), none, .bslice 3 1 [(T 67)]⟩,
        ⟨(some 69), none, .append 3 1 8 (T 66) (T 68)⟩,
        ⟨(some 70), none, .mov (T 13)⟩,
        ⟨(some 10), none, .mov (T 69)⟩,
        ⟨(some 11), none, .mov (T 70)⟩])
      .skip))))))
    (.region [⟨(some 71), none, .ibin .add (T 24) (.const (.int .i64 1))⟩,
      ⟨(some 24), none, .mov (T 71)⟩])))))))
  (.seq (.region [⟨(some 72), none, .mov (T 10)⟩,
    ⟨(some 73), none, .call (.func 37) [(T 72)]⟩,
    ⟨(some 8), none, .mov (T 73)⟩])
  .ret))))))
theorem f27 : fnC Try.prog 27 = some (c27, 74, [(.tmp 8)]) := by kernel_rfl

/-- dactylref32.Valid -/
def c28 : CCode :=
  (.seq (.region [⟨(some 6), none, .mov (.const (.bool false))⟩])
  (.seq (.seq (.region [⟨(some 8), none, .mov (T 0)⟩,
    ⟨(some 9), none, .len (T 8)⟩,
    ⟨(some 10), none, .mov (T 1)⟩,
    ⟨(some 11), none, .len (T 10)⟩,
    ⟨(some 12), none, .ibin .neq (T 9) (T 11)⟩,
    ⟨(some 13), none, .mov (T 12)⟩,
    ⟨(some 14), (some (13, false)), .mov (T 0)⟩,
    ⟨(some 15), (some (13, false)), .len (T 14)⟩,
    ⟨(some 16), (some (13, false)), .ibin .gtr (T 15) (.const (.int .i64 48))⟩,
    ⟨(some 17), none, .pick (T 13) (.const (.bool true)) (T 16)⟩,
    ⟨(some 18), none, .mov (T 17)⟩,
    ⟨(some 19), (some (18, false)), .mov (T 2)⟩,
    ⟨(some 20), (some (18, false)), .ibin .lss (T 19) (.const (.int .i64 0))⟩,
    ⟨(some 21), none, .pick (T 18) (.const (.bool true)) (T 20)⟩,
    ⟨(some 22), none, .mov (T 21)⟩,
    ⟨(some 23), (some (22, false)), .mov (T 2)⟩,
    ⟨(some 24), (some (22, false)), .ibin .gtr (T 23) (.const (.int .i64 2048))⟩,
    ⟨(some 25), none, .pick (T 22) (.const (.bool true)) (T 24)⟩])
  (.cond (T 25)
    (.seq (.region [⟨(some 6), none, .mov (.const (.bool false))⟩])
    .ret)
    .skip))
  (.seq (.seq (.region [⟨(some 7), none, .mov (.const (.int .i64 0))⟩])
  (.block 0 (.loop
    (.seq (.seq (.region [⟨(some 26), none, .mov (T 7)⟩,
      ⟨(some 27), none, .mov (T 0)⟩,
      ⟨(some 28), none, .len (T 27)⟩,
      ⟨(some 29), none, .ibin .lss (T 26) (T 28)⟩])
    (.cond (T 29)
      .skip
      (.exit 0)))
    (.seq (.block 1 (.seq (.region [⟨(some 32), none, .mov (T 0)⟩,
      ⟨(some 33), none, .mov (T 7)⟩,
      ⟨(some 34), none, .idxS 1 (T 32) (T 33)⟩,
      ⟨(some 35), none, .load false 1 (T 34)⟩,
      ⟨(some 36), none, .ibin .lss (T 35) (.const (.int .i64 0))⟩,
      ⟨(some 37), none, .mov (T 36)⟩,
      ⟨(some 38), (some (37, false)), .mov (T 0)⟩,
      ⟨(some 39), (some (37, false)), .mov (T 7)⟩,
      ⟨(some 40), (some (37, false)), .idxS 1 (T 38) (T 39)⟩,
      ⟨(some 41), (some (37, false)), .load false 1 (T 40)⟩,
      ⟨(some 42), (some (37, false)), .ibin .gtr (T 41) (.const (.int .i64 1000000))⟩,
      ⟨(some 43), none, .pick (T 37) (.const (.bool true)) (T 42)⟩,
      ⟨(some 44), none, .mov (T 43)⟩,
      ⟨(some 45), (some (44, false)), .mov (T 1)⟩,
      ⟨(some 46), (some (44, false)), .mov (T 7)⟩,
      ⟨(some 47), (some (44, false)), .idxS 1 (T 45) (T 46)⟩,
      ⟨(some 48), (some (44, false)), .load false 1 (T 47)⟩,
      ⟨(some 49), (some (44, false)), .ibin .lss (T 48) (.const (.int .i64 0))⟩,
      ⟨(some 50), none, .pick (T 44) (.const (.bool true)) (T 49)⟩,
      ⟨(some 51), none, .mov (T 50)⟩,
      ⟨(some 52), (some (51, false)), .mov (T 1)⟩,
      ⟨(some 53), (some (51, false)), .mov (T 7)⟩,
      ⟨(some 54), (some (51, false)), .idxS 1 (T 52) (T 53)⟩,
      ⟨(some 55), (some (51, false)), .load false 1 (T 54)⟩,
      ⟨(some 56), (some (51, false)), .ibin .gtr (T 55) (.const (.int .i64 1000000))⟩,
      ⟨(some 57), none, .pick (T 51) (.const (.bool true)) (T 56)⟩])
    (.cond (T 57)
      (.seq (.region [⟨(some 6), none, .mov (.const (.bool false))⟩])
      .ret)
      .skip)))
    (.region [⟨(some 30), none, .mov (T 7)⟩,
      ⟨(some 31), none, .ibin .add (T 30) (.const (.int .i64 1))⟩,
      ⟨(some 7), none, .mov (T 31)⟩]))))))
  (.seq (.region [⟨(some 6), none, .mov (.const (.bool true))⟩])
  .ret))))
theorem f28 : fnC Try.prog 28 = some (c28, 58, [(.tmp 6)]) := by kernel_rfl

/-- dactylref32.Table -/
def c29 : CCode :=
  (.seq (.region [⟨(some 6), none, .mov (.const (.slice none 0 0))⟩])
  (.seq (.region [⟨(some 12), none, .mov (T 0)⟩,
    ⟨(some 13), none, .len (T 12)⟩,
    ⟨(some 7), none, .mov (T 13)⟩])
  (.seq (.region [⟨(some 14), none, .mov (T 7)⟩,
    ⟨(some 15), none, .ibin .add (T 14) (.const (.int .i64 1))⟩,
    ⟨(some 16), none, .mkslice 22 1 24 (.val (.slice none 0 0)) (T 15) (T 15)⟩,
    ⟨(some 8), none, .mov (T 16)⟩])
  (.seq (.region [⟨(some 17), none, .mov (T 8)⟩,
    ⟨(some 18), none, .mov (T 7)⟩,
    ⟨(some 19), none, .mov (T 2)⟩,
    ⟨(some 20), none, .ibin .add (T 19) (.const (.int .i64 1))⟩,
    ⟨(some 21), none, .mkslice 3 1 8 (.val (.int .i64 0)) (T 20) (T 20)⟩,
    ⟨(some 22), none, .idxS 1 (T 17) (T 18)⟩,
    ⟨none, none, .store 1 (T 22) (T 21)⟩])
  (.seq (.seq (.region [⟨(some 23), none, .mov (T 7)⟩,
    ⟨(some 24), none, .ibin .sub (T 23) (.const (.int .i64 1))⟩,
    ⟨(some 9), none, .mov (T 24)⟩])
  (.block 0 (.loop
    (.seq (.seq (.region [⟨(some 25), none, .mov (T 9)⟩,
      ⟨(some 26), none, .ibin .geq (T 25) (.const (.int .i64 0))⟩])
    (.cond (T 26)
      .skip
      (.exit 0)))
    (.seq (.block 1 (.seq (.region [⟨(some 29), none, .bslice 3 1 []⟩,
      ⟨(some 30), none, .mov (T 8)⟩,
      ⟨(some 31), none, .mov (T 9)⟩,
      ⟨(some 32), none, .ibin .add (T 31) (.const (.int .i64 1))⟩,
      ⟨(some 33), none, .idxS 1 (T 30) (T 32)⟩,
      ⟨(some 34), none, .load false 1 (T 33)⟩,
      ⟨(some 35), none, .append 3 1 8 (T 29) (T 34)⟩,
      ⟨(some 10), none, .mov (T 35)⟩])
    (.seq (.seq (.region [⟨(some 36), none, .mov (T 0)⟩,
      ⟨(some 37), none, .mov (T 9)⟩,
      ⟨(some 38), none, .idxS 1 (T 36) (T 37)⟩,
      ⟨(some 39), none, .load false 1 (T 38)⟩,
      ⟨(some 11), none, .mov (T 39)⟩])
    (.block 2 (.loop
      (.seq (.seq (.region [⟨(some 40), none, .mov (T 11)⟩,
        ⟨(some 41), none, .mov (T 2)⟩,
        ⟨(some 42), none, .ibin .leq (T 40) (T 41)⟩])
      (.cond (T 42)
        .skip
        (.exit 2)))
      (.seq (.block 3 (.drawn [⟨(some 45), none, .mov (T 10)⟩,
        ⟨(some 46), none, .mov (T 11)⟩,
        ⟨(some 47), none, .mov (T 10)⟩,
        ⟨(some 48), none, .mov (T 11)⟩,
        ⟨(some 49), none, .idxS 1 (T 47) (T 48)⟩,
        ⟨(some 50), none, .load false 1 (T 49)⟩,
        ⟨(some 51), none, .mov (T 1)⟩,
        ⟨(some 52), none, .mov (T 9)⟩,
        ⟨(some 53), none, .idxS 1 (T 51) (T 52)⟩,
        ⟨(some 54), none, .load false 1 (T 53)⟩,
        ⟨(some 55), none, .mov (T 8)⟩,
        ⟨(some 56), none, .mov (T 9)⟩,
        ⟨(some 57), none, .ibin .add (T 56) (.const (.int .i64 1))⟩,
        ⟨(some 58), none, .idxS 1 (T 55) (T 57)⟩,
        ⟨(some 59), none, .load false 1 (T 58)⟩,
        ⟨(some 60), none, .mov (T 11)⟩,
        ⟨(some 61), none, .mov (T 0)⟩,
        ⟨(some 62), none, .mov (T 9)⟩,
        ⟨(some 63), none, .idxS 1 (T 61) (T 62)⟩,
        ⟨(some 64), none, .load false 1 (T 63)⟩,
        ⟨(some 65), none, .ibin .sub (T 60) (T 64)⟩,
        ⟨(some 66), none, .idxS 1 (T 59) (T 65)⟩,
        ⟨(some 67), none, .load false 1 (T 66)⟩,
        ⟨(some 68), none, .ibin .add (T 54) (T 67)⟩,
        ⟨(some 69), none, .imax (T 50) (T 68)⟩,
        ⟨(some 70), none, .idxS 1 (T 45) (T 46)⟩] [(⟨none, none, .store 1 (T 70) (T 69)⟩, [])]))
      (.region [⟨(some 43), none, .mov (T 11)⟩,
        ⟨(some 44), none, .ibin .add (T 43) (.const (.int .i64 1))⟩,
        ⟨(some 11), none, .mov (T 44)⟩]))))))
    (.region [⟨(some 71), none, .mov (T 8)⟩,
      ⟨(some 72), none, .mov (T 9)⟩,
      ⟨(some 73), none, .mov (T 10)⟩,
      ⟨(some 74), none, .idxS 1 (T 71) (T 72)⟩,
      ⟨none, none, .store 1 (T 74) (T 73)⟩]))))
    (.region [⟨(some 27), none, .mov (T 9)⟩,
      ⟨(some 28), none, .ibin .sub (T 27) (.const (.int .i64 1))⟩,
      ⟨(some 9), none, .mov (T 28)⟩]))))))
  (.seq (.region [⟨(some 75), none, .mov (T 8)⟩,
    ⟨(some 6), none, .mov (T 75)⟩])
  .ret))))))
theorem f29 : fnC Try.prog 29 = some (c29, 76, [(.tmp 6)]) := by kernel_rfl

/-- dactylref32.Set -/
def c30 : CCode :=
  (.seq (.region [⟨(some 8), none, .mov (.const (.slice none 0 0))⟩])
  (.seq (.region [⟨(some 9), none, .mov (.const (.slice none 0 0))⟩])
  (.seq (.region [⟨(some 13), none, .mov (T 3)⟩,
    ⟨(some 10), none, .mov (T 13)⟩])
  (.seq (.region [⟨(some 14), none, .mov (T 2)⟩,
    ⟨(some 15), none, .idxS 1 (T 14) (.const (.int .i64 0))⟩,
    ⟨(some 16), none, .load false 1 (T 15)⟩,
    ⟨(some 17), none, .mov (T 3)⟩,
    ⟨(some 18), none, .idxS 1 (T 16) (T 17)⟩,
    ⟨(some 19), none, .load false 1 (T 18)⟩,
    ⟨(some 11), none, .mov (T 19)⟩])
  (.seq (.seq (.region [⟨(some 12), none, .mov (.const (.int .i64 0))⟩])
  (.block 0 (.loop
    (.seq (.seq (.region [⟨(some 20), none, .mov (T 12)⟩,
      ⟨(some 21), none, .mov (T 0)⟩,
      ⟨(some 22), none, .len (T 21)⟩,
      ⟨(some 23), none, .ibin .lss (T 20) (T 22)⟩,
      ⟨(some 24), none, .mov (T 23)⟩,
      ⟨(some 25), (some (24, true)), .mov (T 11)⟩,
      ⟨(some 26), (some (24, true)), .ibin .gtr (T 25) (.const (.int .i64 0))⟩,
      ⟨(some 27), none, .pick (T 24) (T 26) (.const (.bool false))⟩])
    (.cond (T 27)
      .skip
      (.exit 0)))
    (.seq (.block 1 (.seq (.seq (.region [⟨(some 30), none, .mov (T 0)⟩,
      ⟨(some 31), none, .mov (T 12)⟩,
      ⟨(some 32), none, .idxS 1 (T 30) (T 31)⟩,
      ⟨(some 33), none, .load false 1 (T 32)⟩,
      ⟨(some 34), none, .mov (T 10)⟩,
      ⟨(some 35), none, .ibin .gtr (T 33) (T 34)⟩])
    (.cond (T 35)
      (.exit 1)
      .skip))
    (.seq (.drawn [⟨(some 36), none, .mov (T 1)⟩,
      ⟨(some 37), none, .mov (T 12)⟩,
      ⟨(some 38), none, .idxS 1 (T 36) (T 37)⟩,
      ⟨(some 39), none, .load false 1 (T 38)⟩,
      ⟨(some 40), none, .mov (T 2)⟩,
      ⟨(some 41), none, .mov (T 12)⟩,
      ⟨(some 42), none, .ibin .add (T 41) (.const (.int .i64 1))⟩,
      ⟨(some 43), none, .idxS 1 (T 40) (T 42)⟩,
      ⟨(some 44), none, .load false 1 (T 43)⟩,
      ⟨(some 45), none, .mov (T 10)⟩,
      ⟨(some 46), none, .mov (T 0)⟩,
      ⟨(some 47), none, .mov (T 12)⟩,
      ⟨(some 48), none, .idxS 1 (T 46) (T 47)⟩,
      ⟨(some 49), none, .load false 1 (T 48)⟩,
      ⟨(some 50), none, .ibin .sub (T 45) (T 49)⟩,
      ⟨(some 51), none, .idxS 1 (T 44) (T 50)⟩,
      ⟨(some 52), none, .load false 1 (T 51)⟩,
      ⟨(some 53), none, .ibin .add (T 39) (T 52)⟩,
      ⟨(some 54), none, .mov (T 11)⟩,
      ⟨(some 55), none, .ibin .eql (T 53) (T 54)⟩] [])
    (.cond (T 55)
      (.seq (.region [⟨(some 56), none, .mov (T 9)⟩,
        ⟨(some 57), none, .mov (T 12)⟩,
        ⟨(some 58), none, .bslice 3 1 [(T 57)]⟩,
        ⟨(some 59), none, .append 3 1 8 (T 56) (T 58)⟩,
        ⟨(some 9), none, .mov (T 59)⟩])
      (.seq (.region [⟨(some 60), none, .mov (T 10)⟩,
        ⟨(some 61), none, .mov (T 0)⟩,
        ⟨(some 62), none, .mov (T 12)⟩,
        ⟨(some 63), none, .idxS 1 (T 61) (T 62)⟩,
        ⟨(some 64), none, .load false 1 (T 63)⟩,
        ⟨(some 65), none, .ibin .sub (T 60) (T 64)⟩,
        ⟨(some 10), none, .mov (T 65)⟩])
      (.region [⟨(some 66), none, .mov (T 11)⟩,
        ⟨(some 67), none, .mov (T 1)⟩,
        ⟨(some 68), none, .mov (T 12)⟩,
        ⟨(some 69), none, .idxS 1 (T 67) (T 68)⟩,
        ⟨(some 70), none, .load false 1 (T 69)⟩,
        ⟨(some 71), none, .ibin .sub (T 66) (T 70)⟩,
        ⟨(some 11), none, .mov (T 71)⟩])))
      .skip))))
    (.region [⟨(some 28), none, .mov (T 12)⟩,
      ⟨(some 29), none, .ibin .add (T 28) (.const (.int .i64 1))⟩,
      ⟨(some 12), none, .mov (T 29)⟩]))))))
  (.seq (.region [⟨(some 72), none, .mov (T 9)⟩,
    ⟨(some 8), none, .mov (T 72)⟩])
  .ret))))))
theorem f30 : fnC Try.prog 30 = some (c30, 73, [(.tmp 8)]) := by kernel_rfl

/-- slices.EqualFunc[[][]int,[][]int,[]int,[]int] -/
def c31 : CCode :=
  (.seq (.region [⟨(some 6), none, .mov (.const (.bool false))⟩])
  (.seq (.seq (.region [⟨(some 10), none, .mov (T 0)⟩,
    ⟨(some 11), none, .len (T 10)⟩,
    ⟨(some 12), none, .mov (T 1)⟩,
    ⟨(some 13), none, .len (T 12)⟩,
    ⟨(some 14), none, .ibin .neq (T 11) (T 13)⟩])
  (.cond (T 14)
    (.seq (.region [⟨(some 6), none, .mov (.const (.bool false))⟩])
    .ret)
    .skip))
  (.seq (.seq (.region [⟨(some 15), none, .mov (T 0)⟩,
    ⟨(some 16), none, .len (T 15)⟩,
    ⟨(some 17), none, .mov (.const (.int .i64 0))⟩])
  (.block 0 (.loop
    (.seq (.region [⟨(some 18), none, .ibin .lss (T 17) (T 16)⟩])
    (.seq (.cond (T 18)
      .skip
      (.exit 0))
    (.seq (.block 1 (.seq (.region [⟨(some 19), none, .mov (T 17)⟩,
      ⟨(some 20), none, .idxS 1 (T 15) (T 17)⟩,
      ⟨(some 21), none, .load false 1 (T 20)⟩,
      ⟨(some 7), none, .mov (T 19)⟩,
      ⟨(some 8), none, .mov (T 21)⟩])
    (.seq (.region [⟨(some 22), none, .mov (T 1)⟩,
      ⟨(some 23), none, .mov (T 7)⟩,
      ⟨(some 24), none, .idxS 1 (T 22) (T 23)⟩,
      ⟨(some 25), none, .load false 1 (T 24)⟩,
      ⟨(some 9), none, .mov (T 25)⟩])
    (.seq (.region [⟨(some 26), none, .mov (T 2)⟩,
      ⟨(some 27), none, .mov (T 8)⟩,
      ⟨(some 28), none, .mov (T 9)⟩,
      ⟨(some 29), none, .call (T 26) [(T 27), (T 28)]⟩,
      ⟨(some 30), none, .lnot (T 29)⟩])
    (.cond (T 30)
      (.seq (.region [⟨(some 6), none, .mov (.const (.bool false))⟩])
      .ret)
      .skip)))))
    (.region [⟨(some 31), none, .ibin .add (T 17) (.const (.int .i64 1))⟩,
      ⟨(some 17), none, .mov (T 31)⟩])))))))
  (.seq (.region [⟨(some 6), none, .mov (.const (.bool true))⟩])
  .ret))))
theorem f31 : fnC Try.prog 31 = some (c31, 32, [(.tmp 6)]) := by kernel_rfl

/-- slices.Equal[[]int,int] -/
def c32 : CCode :=
  (.seq (.region [⟨(some 4), none, .mov (.const (.bool false))⟩])
  (.seq (.seq (.region [⟨(some 6), none, .mov (T 0)⟩,
    ⟨(some 7), none, .len (T 6)⟩,
    ⟨(some 8), none, .mov (T 1)⟩,
    ⟨(some 9), none, .len (T 8)⟩,
    ⟨(some 10), none, .ibin .neq (T 7) (T 9)⟩])
  (.cond (T 10)
    (.seq (.region [⟨(some 4), none, .mov (.const (.bool false))⟩])
    .ret)
    .skip))
  (.seq (.seq (.region [⟨(some 11), none, .mov (T 0)⟩,
    ⟨(some 12), none, .len (T 11)⟩,
    ⟨(some 13), none, .mov (.const (.int .i64 0))⟩])
  (.block 0 (.loop
    (.seq (.region [⟨(some 14), none, .ibin .lss (T 13) (T 12)⟩])
    (.seq (.cond (T 14)
      .skip
      (.exit 0))
    (.seq (.block 1 (.seq (.region [⟨(some 15), none, .mov (T 13)⟩,
      ⟨(some 5), none, .mov (T 15)⟩])
    (.seq (.drawn [⟨(some 16), none, .mov (T 0)⟩,
      ⟨(some 17), none, .mov (T 5)⟩,
      ⟨(some 18), none, .idxS 1 (T 16) (T 17)⟩,
      ⟨(some 19), none, .load false 1 (T 18)⟩,
      ⟨(some 20), none, .mov (T 1)⟩,
      ⟨(some 21), none, .mov (T 5)⟩,
      ⟨(some 22), none, .idxS 1 (T 20) (T 21)⟩,
      ⟨(some 23), none, .load false 1 (T 22)⟩,
      ⟨(some 24), none, .ibin .neq (T 19) (T 23)⟩] [])
    (.cond (T 24)
      (.seq (.region [⟨(some 4), none, .mov (.const (.bool false))⟩])
      .ret)
      .skip))))
    (.region [⟨(some 25), none, .ibin .add (T 13) (.const (.int .i64 1))⟩,
      ⟨(some 13), none, .mov (T 25)⟩])))))))
  (.seq (.region [⟨(some 4), none, .mov (.const (.bool true))⟩])
  .ret))))
theorem f32 : fnC Try.prog 32 = some (c32, 26, [(.tmp 4)]) := by kernel_rfl

/-- allow.gcd -/
def c33 : CCode :=
  (.seq (.region [⟨(some 4), none, .mov (.const (.int .i64 0))⟩])
  (.seq (.block 0 (.loop
    (.seq (.seq (.region [⟨(some 5), none, .mov (T 1)⟩,
      ⟨(some 6), none, .ibin .neq (T 5) (.const (.int .i64 0))⟩])
    (.cond (T 6)
      .skip
      (.exit 0)))
    (.block 1 (.drawn [⟨(some 7), none, .mov (T 1)⟩,
      ⟨(some 8), none, .mov (T 0)⟩,
      ⟨(some 9), none, .mov (T 1)⟩,
      ⟨(some 10), none, .ibin .rem (T 8) (T 9)⟩,
      ⟨(some 0), none, .mov (T 7)⟩,
      ⟨(some 1), none, .mov (T 10)⟩] [])))))
  (.seq (.region [⟨(some 11), none, .mov (T 0)⟩,
    ⟨(some 4), none, .mov (T 11)⟩])
  .ret)))
theorem f33 : fnC Try.prog 33 = some (c33, 12, [(.tmp 4)]) := by kernel_rfl

/-- allow.steps -/
def c34 : CCode :=
  (.seq (.region [⟨(some 2), none, .mov (.const (.bool false))⟩])
  (.seq (.region [⟨(some 3), none, .mov (T 0)⟩,
    ⟨(some 4), none, .call (.func 38) [(T 3), (.func 39)]⟩,
    ⟨(some 5), none, .lnot (T 4)⟩,
    ⟨(some 2), none, .mov (T 5)⟩])
  .ret))
theorem f34 : fnC Try.prog 34 = some (c34, 6, [(.tmp 2)]) := by kernel_rfl

/-- allow.table$1 -/
def ca35 : List COper := [⟨(some 7), none, .box 3 (T 0)⟩, ⟨(some 8), none, .alloc 22 (.val (.slice none 0 0))⟩]
def cb35 : List COper := [⟨(some 12), none, .mkfunc (.func 36) [(T 8), (T 1), (T 7)]⟩]
def c35 : CCode :=
  (.seq (.region [⟨(some 13), none, .load false 1 (T 2)⟩,
    ⟨(some 14), none, .ibin .add (T 13) (.const (.int .i64 1))⟩,
    ⟨(some 15), none, .mkslice 3 1 8 (.val (.int .i64 0)) (T 14) (T 14)⟩,
    ⟨none, none, .store 1 (T 8) (T 15)⟩])
  (.seq (.seq (.region [⟨(some 16), none, .load false 1 (T 7)⟩,
    ⟨(some 17), none, .load false 1 (T 3)⟩,
    ⟨(some 18), none, .ibin .eql (T 16) (T 17)⟩])
  (.cond (T 18)
    (.seq (.region [⟨(some 19), none, .load false 1 (T 8)⟩,
      ⟨none, none, .store 1 (T 8) (T 19)⟩])
    .ret)
    .skip))
  (.seq (.seq (.region [⟨(some 20), none, .load false 1 (T 4)⟩,
    ⟨(some 21), none, .load false 1 (T 7)⟩,
    ⟨(some 22), none, .ibin .add (T 21) (.const (.int .i64 1))⟩,
    ⟨(some 23), none, .call (T 20) [(T 22)]⟩,
    ⟨(some 24), none, .len (T 23)⟩,
    ⟨(some 25), none, .mov (.const (.int .i64 0))⟩])
  (.block 0 (.loop
    (.seq (.region [⟨(some 26), none, .ibin .lss (T 25) (T 24)⟩])
    (.seq (.cond (T 26)
      .skip
      (.exit 0))
    (.seq (.block 1 (.seq (.region [⟨(some 27), none, .mov (T 25)⟩,
      ⟨(some 28), none, .idxS 1 (T 23) (T 25)⟩,
      ⟨(some 29), none, .load false 1 (T 28)⟩,
      ⟨(some 9), none, .mov (T 27)⟩,
      ⟨(some 10), none, .mov (T 29)⟩])
    (.seq (.region [⟨(some 30), none, .load false 1 (T 8)⟩,
      ⟨(some 31), none, .mov (T 9)⟩,
      ⟨(some 32), none, .mov (T 10)⟩,
      ⟨(some 33), none, .idxS 1 (T 30) (T 31)⟩,
      ⟨none, none, .store 1 (T 33) (T 32)⟩])
    (.seq (.region [⟨(some 34), none, .mov (T 9)⟩,
      ⟨(some 35), none, .load false 1 (T 5)⟩,
      ⟨(some 36), none, .load false 1 (T 7)⟩,
      ⟨(some 37), none, .idxS 1 (T 35) (T 36)⟩,
      ⟨(some 38), none, .load false 1 (T 37)⟩,
      ⟨(some 39), none, .ibin .sub (T 34) (T 38)⟩,
      ⟨(some 11), none, .mov (T 39)⟩])
    (.seq (.region [⟨(some 40), none, .mov (T 11)⟩,
      ⟨(some 41), none, .ibin .geq (T 40) (.const (.int .i64 0))⟩])
    (.cond (T 41)
      (.drawn [⟨(some 42), none, .load false 1 (T 8)⟩,
        ⟨(some 43), none, .mov (T 9)⟩,
        ⟨(some 44), none, .load false 1 (T 8)⟩,
        ⟨(some 45), none, .mov (T 9)⟩,
        ⟨(some 46), none, .idxS 1 (T 44) (T 45)⟩,
        ⟨(some 47), none, .load false 1 (T 46)⟩,
        ⟨(some 48), none, .load false 1 (T 6)⟩,
        ⟨(some 49), none, .load false 1 (T 7)⟩,
        ⟨(some 50), none, .idxS 1 (T 48) (T 49)⟩,
        ⟨(some 51), none, .load false 1 (T 50)⟩,
        ⟨(some 52), none, .load false 1 (T 1)⟩,
        ⟨(some 53), none, .load false 1 (T 7)⟩,
        ⟨(some 54), none, .ibin .add (T 53) (.const (.int .i64 1))⟩,
        ⟨(some 55), none, .idxS 1 (T 52) (T 54)⟩,
        ⟨(some 56), none, .load false 1 (T 55)⟩,
        ⟨(some 57), none, .mov (T 11)⟩,
        ⟨(some 58), none, .idxS 1 (T 56) (T 57)⟩,
        ⟨(some 59), none, .load false 1 (T 58)⟩,
        ⟨(some 60), none, .ibin .add (T 51) (T 59)⟩,
        ⟨(some 61), none, .imax (T 47) (T 60)⟩,
        ⟨(some 62), none, .idxS 1 (T 42) (T 43)⟩] [(⟨none, none, .store 1 (T 62) (T 61)⟩, [])])
      .skip))))))
    (.region [⟨(some 63), none, .ibin .add (T 25) (.const (.int .i64 1))⟩,
      ⟨(some 25), none, .mov (T 63)⟩])))))))
  (.seq (.region [⟨(some 64), none, .load false 1 (T 8)⟩,
    ⟨none, none, .store 1 (T 8) (T 64)⟩])
  .ret))))
theorem f35 : fnD Try.prog 35 = some (ca35, cb35, (T 12), c35, 65, [(.cell 8 false 1)]) := by kernel_rfl

/-- allow.table$1$1 -/
def c36 : CCode :=
  (.region [⟨(some 3), none, .load false 1 (T 1)⟩,
    ⟨(some 4), none, .load false 1 (T 2)⟩,
    ⟨(some 5), none, .load false 1 (T 0)⟩,
    ⟨(some 6), none, .idxS 1 (T 3) (T 4)⟩,
    ⟨none, none, .store 1 (T 6) (T 5)⟩])
theorem f36 : fnC Try.prog 36 = some (c36, 7, []) := by kernel_rfl

/-- slices.Clip[[]int,int] -/
def c37 : CCode :=
  (.seq (.region [⟨(some 2), none, .mov (.const (.slice none 0 0))⟩])
  (.seq (.region [⟨(some 3), none, .mov (T 0)⟩,
    ⟨(some 4), none, .mov (T 0)⟩,
    ⟨(some 5), none, .len (T 4)⟩,
    ⟨(some 6), none, .mov (T 0)⟩,
    ⟨(some 7), none, .len (T 6)⟩,
    ⟨(some 8), none, .slice3 1 (T 3) none (T 5) (T 7)⟩,
    ⟨(some 2), none, .mov (T 8)⟩])
  .ret))
theorem f37 : fnC Try.prog 37 = some (c37, 9, [(.tmp 2)]) := by kernel_rfl

/-- slices.ContainsFunc[[]int,int] -/
def c38 : CCode :=
  (.seq (.region [⟨(some 4), none, .mov (.const (.bool false))⟩])
  (.seq (.region [⟨(some 5), none, .mov (T 0)⟩,
    ⟨(some 6), none, .mov (T 1)⟩,
    ⟨(some 7), none, .call (.func 40) [(T 5), (T 6)]⟩,
    ⟨(some 8), none, .ibin .geq (T 7) (.const (.int .i64 0))⟩,
    ⟨(some 4), none, .mov (T 8)⟩])
  .ret))
theorem f38 : fnC Try.prog 38 = some (c38, 9, [(.tmp 4)]) := by kernel_rfl

/-- allow.steps$1 -/
def c39 : CCode :=
  (.seq (.region [⟨(some 2), none, .mov (.const (.bool false))⟩])
  (.seq (.region [⟨(some 3), none, .mov (T 0)⟩,
    ⟨(some 4), none, .ibin .lss (T 3) (.const (.int .i64 0))⟩,
    ⟨(some 5), none, .mov (T 4)⟩,
    ⟨(some 6), (some (5, false)), .mov (T 0)⟩,
    ⟨(some 7), (some (5, false)), .ibin .gtr (T 6) (.const (.int .i64 1000000))⟩,
    ⟨(some 8), none, .pick (T 5) (.const (.bool true)) (T 7)⟩,
    ⟨(some 2), none, .mov (T 8)⟩])
  .ret))
theorem f39 : fnC Try.prog 39 = some (c39, 9, [(.tmp 2)]) := by kernel_rfl

/-- slices.IndexFunc[[]int,int] -/
def c40 : CCode :=
  (.seq (.region [⟨(some 4), none, .mov (.const (.int .i64 0))⟩])
  (.seq (.seq (.region [⟨(some 6), none, .mov (T 0)⟩,
    ⟨(some 7), none, .len (T 6)⟩,
    ⟨(some 8), none, .mov (.const (.int .i64 0))⟩])
  (.block 0 (.loop
    (.seq (.region [⟨(some 9), none, .ibin .lss (T 8) (T 7)⟩])
    (.seq (.cond (T 9)
      .skip
      (.exit 0))
    (.seq (.block 1 (.seq (.region [⟨(some 10), none, .mov (T 8)⟩,
      ⟨(some 5), none, .mov (T 10)⟩])
    (.seq (.region [⟨(some 11), none, .mov (T 1)⟩,
      ⟨(some 12), none, .mov (T 0)⟩,
      ⟨(some 13), none, .mov (T 5)⟩,
      ⟨(some 14), none, .idxS 1 (T 12) (T 13)⟩,
      ⟨(some 15), none, .load false 1 (T 14)⟩,
      ⟨(some 16), none, .call (T 11) [(T 15)]⟩])
    (.cond (T 16)
      (.seq (.region [⟨(some 17), none, .mov (T 5)⟩,
        ⟨(some 4), none, .mov (T 17)⟩])
      .ret)
      .skip))))
    (.region [⟨(some 18), none, .ibin .add (T 8) (.const (.int .i64 1))⟩,
      ⟨(some 8), none, .mov (T 18)⟩])))))))
  (.seq (.region [⟨(some 4), none, .mov (.const (.int .i64 (-1)))⟩])
  .ret)))
theorem f40 : fnC Try.prog 40 = some (c40, 19, [(.tmp 4)]) := by kernel_rfl

end Go.Proofs.Ytphcaelkpgdbcaa
