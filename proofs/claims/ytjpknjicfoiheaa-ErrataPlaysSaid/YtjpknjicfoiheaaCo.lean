/- The codes of the functions, with what the program's tables say of their types. -/
import Derived.Test.YtjpknjicfoiheaaProg
import Derived.Test.YtjpknjicfoiheaaDt
namespace Go.Proofs.Ytjpknjicfoiheaa
open Dak

/-- dactyllaw41.ErrataFacts -/
def c3 : CCode :=
  (.seq (.region [⟨(some 4), none, .mov (.const (.bool false))⟩])
  (.seq (.region [⟨(some 18), none, .mov (T 1)⟩,
    ⟨(some 19), none, .call (.func 8) [(T 18), (.const (.int .i64 5))]⟩,
    ⟨(some 20), none, .ibin .add (.const (.int .i64 1)) (T 19)⟩,
    ⟨(some 5), none, .mov (T 20)⟩])
  (.seq (.region [⟨(some 22), none, .mov (T 5)⟩,
    ⟨(some 23), none, .call (.func 9) [(T 22)]⟩,
    ⟨(some 21), none, .mov (T 23)⟩,
    ⟨(some 24), none, .extract (T 21) 0⟩,
    ⟨(some 25), none, .extract (T 21) 1⟩,
    ⟨(some 6), none, .mov (T 24)⟩,
    ⟨(some 7), none, .mov (T 25)⟩])
  (.seq (.seq (.region [⟨(some 26), none, .mov (T 7)⟩,
    ⟨(some 27), none, .ibin .neq (T 26) (.const (.int .i64 0))⟩])
  (.cond (T 27)
    (.seq (.region [⟨(some 4), none, .mov (.const (.bool false))⟩])
    .ret)
    .skip))
  (.seq (.region [⟨(some 8), none, .mov (.const (.slice none 0 0))⟩])
  (.seq (.region [⟨(some 9), none, .mov (.const (.slice none 0 0))⟩])
  (.seq (.region [⟨(some 28), none, .mov (T 0)⟩,
    ⟨(some 29), none, .mov (T 5)⟩,
    ⟨(some 30), none, .call (.func 10) [(T 28), (T 29)]⟩,
    ⟨(some 10), none, .mov (T 30)⟩])
  (.seq (.seq (.region [⟨(some 11), none, .mov (.const (.int .i64 0))⟩])
  (.block 0 (.loop
    (.seq (.seq (.region [⟨(some 31), none, .mov (T 11)⟩,
      ⟨(some 32), none, .mov (T 10)⟩,
      ⟨(some 33), none, .len (T 32)⟩,
      ⟨(some 34), none, .ibin .lss (T 31) (T 33)⟩])
    (.cond (T 34)
      .skip
      (.exit 0)))
    (.seq (.block 1 (.seq (.region [⟨(some 37), none, .mov (T 6)⟩,
      ⟨(some 38), none, .mov (T 10)⟩,
      ⟨(some 39), none, .mov (T 11)⟩,
      ⟨(some 40), none, .idxS 6 (T 38) (T 39)⟩,
      ⟨(some 41), none, .fieldAddr 1 (T 40)⟩,
      ⟨(some 42), none, .fieldAddr 1 (T 41)⟩,
      ⟨(some 43), none, .load false 1 (T 42)⟩,
      ⟨(some 44), none, .call (.func 11) [(T 37), (T 43)]⟩,
      ⟨(some 12), none, .mov (T 44)⟩])
    (.seq (.region [⟨(some 45), none, .mov (T 6)⟩,
      ⟨(some 46), none, .call (.func 12) [(T 45)]⟩,
      ⟨(some 47), none, .len (T 46)⟩,
      ⟨(some 13), none, .mov (T 47)⟩])
    (.seq (.region [⟨(some 48), none, .mov (T 6)⟩,
      ⟨(some 49), none, .mov (T 10)⟩,
      ⟨(some 50), none, .mov (T 11)⟩,
      ⟨(some 51), none, .idxS 6 (T 49) (T 50)⟩,
      ⟨(some 52), none, .load true 6 (T 51)⟩,
      ⟨(some 53), none, .call (.func 13) [(T 48), (T 52)]⟩,
      ⟨(some 14), none, .mov (T 53)⟩])
    (.seq (.seq (.region [⟨(some 54), none, .mov (T 14)⟩,
      ⟨(some 55), none, .ibin .eql (T 54) (.const (.int .i64 0))⟩,
      ⟨(some 56), none, .mov (T 55)⟩,
      ⟨(some 57), (some (56, true)), .mov (T 10)⟩,
      ⟨(some 58), (some (56, true)), .mov (T 11)⟩,
      ⟨(some 59), (some (56, true)), .idxS 6 (T 57) (T 58)⟩,
      ⟨(some 60), (some (56, true)), .fieldAddr 0 (T 59)⟩,
      ⟨(some 61), (some (56, true)), .load false 1 (T 60)⟩,
      ⟨(some 62), (some (56, true)), .ibin .neq (T 61) (.const (.int .i64 0))⟩,
      ⟨(some 63), none, .pick (T 56) (T 62) (.const (.bool false))⟩])
    (.cond (T 63)
      (.region [⟨(some 64), none, .mov (T 8)⟩,
        ⟨(some 65), none, .mov (T 10)⟩,
        ⟨(some 66), none, .mov (T 11)⟩,
        ⟨(some 67), none, .idxS 6 (T 65) (T 66)⟩,
        ⟨(some 68), none, .fieldAddr 0 (T 67)⟩,
        ⟨(some 69), none, .load false 1 (T 68)⟩,
        ⟨(some 70), none, .bslice 3 1 [(T 69)]⟩,
        ⟨(some 71), none, .append 3 1 8 (T 64) (T 70)⟩,
        ⟨(some 8), none, .mov (T 71)⟩])
      .skip))
    (.seq (.region [⟨(some 72), none, .mov (T 6)⟩,
      ⟨(some 73), none, .call (.func 12) [(T 72)]⟩,
      ⟨(some 15), none, .mov (T 73)⟩])
    (.seq (.seq (.region [⟨(some 74), none, .mov (T 10)⟩,
      ⟨(some 75), none, .mov (T 11)⟩,
      ⟨(some 76), none, .idxS 6 (T 74) (T 75)⟩,
      ⟨(some 77), none, .fieldAddr 0 (T 76)⟩,
      ⟨(some 78), none, .load false 1 (T 77)⟩,
      ⟨(some 79), none, .ibin .eql (T 78) (.const (.int .i64 0))⟩,
      ⟨(some 80), none, .mov (T 79)⟩,
      ⟨(some 81), (some (80, true)), .mov (T 10)⟩,
      ⟨(some 82), (some (80, true)), .mov (T 11)⟩,
      ⟨(some 83), (some (80, true)), .idxS 6 (T 81) (T 82)⟩,
      ⟨(some 84), (some (80, true)), .fieldAddr 1 (T 83)⟩,
      ⟨(some 85), (some (80, true)), .fieldAddr 2 (T 84)⟩,
      ⟨(some 86), (some (80, true)), .load false 1 (T 85)⟩,
      ⟨(some 87), (some (80, true)), .ibin .eql (T 86) (.const (.int .i64 6))⟩,
      ⟨(some 88), none, .pick (T 80) (T 87) (.const (.bool false))⟩,
      ⟨(some 89), none, .mov (T 88)⟩,
      ⟨(some 90), (some (89, true)), .mov (T 14)⟩,
      ⟨(some 91), (some (89, true)), .ibin .eql (T 90) (.const (.int .i64 0))⟩,
      ⟨(some 92), none, .pick (T 89) (T 91) (.const (.bool false))⟩])
    (.cond (T 92)
      (.seq (.drawn [⟨(some 93), none, .mov (T 15)⟩,
        ⟨(some 94), none, .len (T 93)⟩,
        ⟨(some 95), none, .mov (T 13)⟩,
        ⟨(some 96), none, .ibin .add (T 95) (.const (.int .i64 1))⟩,
        ⟨(some 97), none, .ibin .neq (T 94) (T 96)⟩,
        ⟨(some 98), none, .mov (T 97)⟩,
        ⟨(some 99), (some (98, false)), .mov (T 15)⟩,
        ⟨(some 100), (some (98, false)), .mov (T 13)⟩,
        ⟨(some 101), (some (98, false)), .idxS 3 (T 99) (T 100)⟩,
        ⟨(some 102), (some (98, false)), .load true 3 (T 101)⟩,
        ⟨(some 103), (some (98, false)), .mov (T 10)⟩,
        ⟨(some 104), (some (98, false)), .mov (T 11)⟩,
        ⟨(some 105), (some (98, false)), .idxS 6 (T 103) (T 104)⟩,
        ⟨(some 106), (some (98, false)), .fieldAddr 1 (T 105)⟩,
        ⟨(some 107), (some (98, false)), .fieldAddr 1 (T 106)⟩,
        ⟨(some 108), (some (98, false)), .load false 1 (T 107)⟩,
        ⟨(some 109), (some (98, false)), .mov (T 10)⟩,
        ⟨(some 110), (some (98, false)), .mov (T 11)⟩,
        ⟨(some 111), (some (98, false)), .idxS 6 (T 109) (T 110)⟩,
        ⟨(some 112), (some (98, false)), .fieldAddr 1 (T 111)⟩,
        ⟨(some 113), (some (98, false)), .fieldAddr 3 (T 112)⟩,
        ⟨(some 114), (some (98, false)), .load false 1 (T 113)⟩,
        ⟨(some 115), (some (98, false)), .mov (T 12)⟩,
        ⟨(some 116), (some (98, false)), .len (T 115)⟩,
        ⟨(some 117), (some (98, false)), .build [(.val (.int .i64 0)), (.val (.int .i64 0)), (.val (.int .i64 0))] [(0, (1, (T 108))), (1, (1, (T 114))), (2, (1, (T 116)))]⟩,
        ⟨(some 118), (some (98, false)), .aeq true 3 (T 102) (T 117)⟩,
        ⟨(some 119), none, .pick (T 98) (.const (.bool true)) (T 118)⟩] [])
      (.cond (T 119)
        (.seq (.region [⟨(some 4), none, .mov (.const (.bool false))⟩])
        .ret)
        .skip))
      (.seq (.region [⟨(some 120), none, .mov (T 15)⟩,
        ⟨(some 121), none, .len (T 120)⟩,
        ⟨(some 122), none, .mov (T 13)⟩,
        ⟨(some 123), none, .ibin .neq (T 121) (T 122)⟩])
      (.cond (T 123)
        (.seq (.region [⟨(some 4), none, .mov (.const (.bool false))⟩])
        .ret)
        .skip))))
    (.seq (.seq (.region [⟨(some 16), none, .mov (.const (.int .i64 0))⟩])
    (.block 2 (.loop
      (.seq (.seq (.region [⟨(some 124), none, .mov (T 16)⟩,
        ⟨(some 125), none, .mov (T 5)⟩,
        ⟨(some 126), none, .ibin .lss (T 124) (T 125)⟩])
      (.cond (T 126)
        .skip
        (.exit 2)))
      (.seq (.block 3 (.seq (.region [⟨(some 129), none, .mov (T 6)⟩,
        ⟨(some 130), none, .mov (T 16)⟩,
        ⟨(some 131), none, .call (.func 11) [(T 129), (T 130)]⟩,
        ⟨(some 17), none, .mov (T 131)⟩])
      (.seq (.seq (.region [⟨(some 132), none, .mov (T 17)⟩,
        ⟨(some 133), none, .mov (T 9)⟩,
        ⟨(some 134), none, .call (.func 14) [(T 132), (T 133)]⟩,
        ⟨(some 135), none, .lnot (T 134)⟩,
        ⟨(some 136), none, .mov (T 135)⟩,
        ⟨(some 137), (some (136, true)), .mov (T 9)⟩,
        ⟨(some 138), (some (136, true)), .mov (T 17)⟩,
        ⟨(some 139), (some (136, true)), .call (.func 14) [(T 137), (T 138)]⟩,
        ⟨(some 140), (some (136, true)), .lnot (T 139)⟩,
        ⟨(some 141), none, .pick (T 136) (T 140) (.const (.bool false))⟩,
        ⟨(some 142), none, .mov (T 141)⟩,
        ⟨(some 143), (some (142, false)), .mov (T 17)⟩,
        ⟨(some 144), (some (142, false)), .mov (T 8)⟩,
        ⟨(some 145), (some (142, false)), .call (.func 14) [(T 143), (T 144)]⟩,
        ⟨(some 146), (some (142, false)), .lnot (T 145)⟩,
        ⟨(some 147), none, .pick (T 142) (.const (.bool true)) (T 146)⟩,
        ⟨(some 148), none, .mov (T 147)⟩,
        ⟨(some 149), (some (148, false)), .mov (T 17)⟩,
        ⟨(some 150), (some (148, false)), .len (T 149)⟩,
        ⟨(some 151), (some (148, false)), .mov (T 6)⟩,
        ⟨(some 152), (some (148, false)), .call (.func 15) [(T 151)]⟩,
        ⟨(some 153), (some (148, false)), .ibin .gtr (T 150) (T 152)⟩,
        ⟨(some 154), none, .pick (T 148) (.const (.bool true)) (T 153)⟩])
      (.cond (T 154)
        (.seq (.region [⟨(some 4), none, .mov (.const (.bool false))⟩])
        .ret)
        .skip))
      (.seq (.region [⟨(some 155), none, .mov (T 17)⟩,
        ⟨(some 156), none, .len (T 155)⟩,
        ⟨(some 157), none, .mov (T 9)⟩,
        ⟨(some 158), none, .len (T 157)⟩,
        ⟨(some 159), none, .ibin .gtr (T 156) (T 158)⟩])
      (.cond (T 159)
        (.region [⟨(some 160), none, .mov (T 17)⟩,
          ⟨(some 9), none, .mov (T 160)⟩])
        .skip)))))
      (.region [⟨(some 127), none, .mov (T 16)⟩,
        ⟨(some 128), none, .ibin .add (T 127) (.const (.int .i64 1))⟩,
        ⟨(some 16), none, .mov (T 128)⟩]))))))
    (.seq (.region [⟨(some 161), none, .mov (T 6)⟩,
      ⟨(some 162), none, .call (.func 15) [(T 161)]⟩,
      ⟨(some 163), none, .mov (T 8)⟩,
      ⟨(some 164), none, .len (T 163)⟩,
      ⟨(some 165), none, .ibin .gtr (T 162) (T 164)⟩])
    (.cond (T 165)
      (.seq (.region [⟨(some 4), none, .mov (.const (.bool false))⟩])
      .ret)
      .skip))))))))))
    (.region [⟨(some 35), none, .mov (T 11)⟩,
      ⟨(some 36), none, .ibin .add (T 35) (.const (.int .i64 1))⟩,
      ⟨(some 11), none, .mov (T 36)⟩]))))))
  (.seq (.region [⟨(some 166), none, .call (.func 16) []⟩,
    ⟨(some 4), none, .mov (T 166)⟩])
  .ret)))))))))
theorem f3 : fnC Try.prog 3 = some (c3, 167, [(.tmp 4)]) := by kernel_rfl

/-- dactyllaw41.ErrataMoment -/
def c4 : CCode :=
  (.seq (.region [⟨(some 4), none, .mov (.const (.bool false))⟩])
  (.seq (.region [⟨(some 15), none, .mov (T 1)⟩,
    ⟨(some 16), none, .call (.func 8) [(T 15), (.const (.int .i64 5))]⟩,
    ⟨(some 17), none, .ibin .add (.const (.int .i64 1)) (T 16)⟩,
    ⟨(some 5), none, .mov (T 17)⟩])
  (.seq (.region [⟨(some 19), none, .mov (T 5)⟩,
    ⟨(some 20), none, .call (.func 9) [(T 19)]⟩,
    ⟨(some 18), none, .mov (T 20)⟩,
    ⟨(some 21), none, .extract (T 18) 0⟩,
    ⟨(some 22), none, .extract (T 18) 1⟩,
    ⟨(some 6), none, .mov (T 21)⟩,
    ⟨(some 7), none, .mov (T 22)⟩])
  (.seq (.seq (.region [⟨(some 23), none, .mov (T 7)⟩,
    ⟨(some 24), none, .ibin .neq (T 23) (.const (.int .i64 0))⟩])
  (.cond (T 24)
    (.seq (.region [⟨(some 4), none, .mov (.const (.bool false))⟩])
    .ret)
    .skip))
  (.seq (.region [⟨(some 25), none, .mov (T 5)⟩,
    ⟨(some 26), none, .mkslice 4 1 1 (.val (.bool false)) (T 25) (T 25)⟩,
    ⟨(some 8), none, .mov (T 26)⟩])
  (.seq (.region [⟨(some 27), none, .mov (T 0)⟩,
    ⟨(some 28), none, .mov (T 5)⟩,
    ⟨(some 29), none, .call (.func 10) [(T 27), (T 28)]⟩,
    ⟨(some 9), none, .mov (T 29)⟩])
  (.seq (.seq (.region [⟨(some 10), none, .mov (.const (.int .i64 0))⟩])
  (.block 0 (.loop
    (.seq (.seq (.region [⟨(some 30), none, .mov (T 10)⟩,
      ⟨(some 31), none, .mov (T 9)⟩,
      ⟨(some 32), none, .len (T 31)⟩,
      ⟨(some 33), none, .ibin .lss (T 30) (T 32)⟩])
    (.cond (T 33)
      .skip
      (.exit 0)))
    (.seq (.block 1 (.seq (.region [⟨(some 36), none, .mov (T 9)⟩,
      ⟨(some 37), none, .mov (T 10)⟩,
      ⟨(some 38), none, .idxS 6 (T 36) (T 37)⟩,
      ⟨(some 39), none, .fieldAddr 1 (T 38)⟩,
      ⟨(some 40), none, .load true 5 (T 39)⟩,
      ⟨(some 11), none, .alloc 32 (.agg [(.val (.int .i64 0)), (.val (.int .i64 0)), (.val (.int .i64 0)), (.val (.int .i64 0)), (.val (.int .i64 0))])⟩,
      ⟨none, none, .store 5 (T 11) (T 40)⟩])
    (.seq (.region [⟨(some 41), none, .mov (T 6)⟩,
      ⟨(some 42), none, .fieldAddr 1 (T 11)⟩,
      ⟨(some 43), none, .load false 1 (T 42)⟩,
      ⟨(some 44), none, .call (.func 11) [(T 41), (T 43)]⟩,
      ⟨(some 12), none, .mov (T 44)⟩])
    (.seq (.region [⟨(some 45), none, .mov (T 12)⟩,
      ⟨(some 46), none, .len (T 45)⟩,
      ⟨(some 47), none, .mov (T 6)⟩,
      ⟨(some 48), none, .call (.func 15) [(T 47)]⟩,
      ⟨(some 49), none, .ibin .lss (T 46) (T 48)⟩,
      ⟨(some 13), none, .mov (T 49)⟩])
    (.seq (.region [⟨(some 50), none, .mov (T 6)⟩,
      ⟨(some 51), none, .mov (T 9)⟩,
      ⟨(some 52), none, .mov (T 10)⟩,
      ⟨(some 53), none, .idxS 6 (T 51) (T 52)⟩,
      ⟨(some 54), none, .load true 6 (T 53)⟩,
      ⟨(some 55), none, .call (.func 13) [(T 50), (T 54)]⟩,
      ⟨(some 14), none, .mov (T 55)⟩])
    (.seq (.seq (.region [⟨(some 56), none, .mov (T 14)⟩,
      ⟨(some 57), none, .ibin .neq (T 56) (.const (.int .i64 0))⟩,
      ⟨(some 58), none, .mov (T 57)⟩,
      ⟨(some 59), (some (58, false)), .mov (T 9)⟩,
      ⟨(some 60), (some (58, false)), .mov (T 10)⟩,
      ⟨(some 61), (some (58, false)), .idxS 6 (T 59) (T 60)⟩,
      ⟨(some 62), (some (58, false)), .fieldAddr 0 (T 61)⟩,
      ⟨(some 63), (some (58, false)), .load false 1 (T 62)⟩,
      ⟨(some 64), (some (58, false)), .ibin .neq (T 63) (.const (.int .i64 0))⟩,
      ⟨(some 65), none, .pick (T 58) (.const (.bool true)) (T 64)⟩])
    (.cond (T 65)
      (.exit 1)
      .skip))
    (.seq (.seq (.region [⟨(some 66), none, .fieldAddr 2 (T 11)⟩,
      ⟨(some 67), none, .load false 1 (T 66)⟩,
      ⟨(some 68), none, .ibin .eql (T 67) (.const (.int .i64 0))⟩,
      ⟨(some 69), none, .mov (T 68)⟩,
      ⟨(some 70), (some (69, false)), .fieldAddr 2 (T 11)⟩,
      ⟨(some 71), (some (69, false)), .load false 1 (T 70)⟩,
      ⟨(some 72), (some (69, false)), .ibin .eql (T 71) (.const (.int .i64 2))⟩,
      ⟨(some 73), none, .pick (T 69) (.const (.bool true)) (T 72)⟩,
      ⟨(some 74), none, .mov (T 73)⟩,
      ⟨(some 75), (some (74, true)), .fieldAddr 3 (T 11)⟩,
      ⟨(some 76), (some (74, true)), .load false 1 (T 75)⟩,
      ⟨(some 77), (some (74, true)), .ibin .eql (T 76) (.const (.int .i64 0))⟩,
      ⟨(some 78), none, .pick (T 74) (T 77) (.const (.bool false))⟩])
    (.cond (T 78)
      (.region [⟨(some 79), none, .mov (T 8)⟩,
        ⟨(some 80), none, .fieldAddr 1 (T 11)⟩,
        ⟨(some 81), none, .load false 1 (T 80)⟩,
        ⟨(some 82), none, .idxS 1 (T 79) (T 81)⟩,
        ⟨none, none, .store 1 (T 82) (.const (.bool true))⟩])
      .skip))
    (.seq (.seq (.region [⟨(some 83), none, .fieldAddr 2 (T 11)⟩,
      ⟨(some 84), none, .load false 1 (T 83)⟩,
      ⟨(some 85), none, .ibin .eql (T 84) (.const (.int .i64 0))⟩,
      ⟨(some 86), none, .mov (T 85)⟩,
      ⟨(some 87), (some (86, false)), .fieldAddr 2 (T 11)⟩,
      ⟨(some 88), (some (86, false)), .load false 1 (T 87)⟩,
      ⟨(some 89), (some (86, false)), .ibin .eql (T 88) (.const (.int .i64 2))⟩,
      ⟨(some 90), none, .pick (T 86) (.const (.bool true)) (T 89)⟩,
      ⟨(some 91), none, .mov (T 90)⟩,
      ⟨(some 92), (some (91, true)), .fieldAddr 3 (T 11)⟩,
      ⟨(some 93), (some (91, true)), .load false 1 (T 92)⟩,
      ⟨(some 94), (some (91, true)), .ibin .eql (T 93) (.const (.int .i64 2))⟩,
      ⟨(some 95), none, .pick (T 91) (T 94) (.const (.bool false))⟩,
      ⟨(some 96), none, .mov (T 95)⟩,
      ⟨(some 97), (some (96, false)), .fieldAddr 2 (T 11)⟩,
      ⟨(some 98), (some (96, false)), .load false 1 (T 97)⟩,
      ⟨(some 99), (some (96, false)), .ibin .eql (T 98) (.const (.int .i64 3))⟩,
      ⟨(some 100), none, .pick (T 96) (.const (.bool true)) (T 99)⟩])
    (.cond (T 100)
      (.region [⟨(some 101), none, .mov (T 8)⟩,
        ⟨(some 102), none, .fieldAddr 1 (T 11)⟩,
        ⟨(some 103), none, .load false 1 (T 102)⟩,
        ⟨(some 104), none, .idxS 1 (T 101) (T 103)⟩,
        ⟨none, none, .store 1 (T 104) (.const (.bool false))⟩])
      .skip))
    (.seq (.region [⟨(some 105), none, .fieldAddr 2 (T 11)⟩,
      ⟨(some 106), none, .load false 1 (T 105)⟩,
      ⟨(some 107), none, .ibin .eql (T 106) (.const (.int .i64 6))⟩,
      ⟨(some 108), none, .mov (T 107)⟩,
      ⟨(some 109), (some (108, true)), .mov (T 13)⟩,
      ⟨(some 110), none, .pick (T 108) (T 109) (.const (.bool false))⟩,
      ⟨(some 111), none, .mov (T 110)⟩,
      ⟨(some 112), (some (111, true)), .mov (T 8)⟩,
      ⟨(some 113), (some (111, true)), .fieldAddr 1 (T 11)⟩,
      ⟨(some 114), (some (111, true)), .load false 1 (T 113)⟩,
      ⟨(some 115), (some (111, true)), .idxS 1 (T 112) (T 114)⟩,
      ⟨(some 116), (some (111, true)), .load false 1 (T 115)⟩,
      ⟨(some 117), (some (111, true)), .lnot (T 116)⟩,
      ⟨(some 118), none, .pick (T 111) (T 117) (.const (.bool false))⟩])
    (.cond (T 118)
      (.seq (.region [⟨(some 4), none, .mov (.const (.bool false))⟩])
      .ret)
      .skip))))))))))
    (.region [⟨(some 34), none, .mov (T 10)⟩,
      ⟨(some 35), none, .ibin .add (T 34) (.const (.int .i64 1))⟩,
      ⟨(some 10), none, .mov (T 35)⟩]))))))
  (.seq (.region [⟨(some 119), none, .call (.func 16) []⟩,
    ⟨(some 4), none, .mov (T 119)⟩])
  .ret))))))))
theorem f4 : fnC Try.prog 4 = some (c4, 120, [(.tmp 4)]) := by kernel_rfl

/-- dactyllaw41.ErrataThrough -/
def c5 : CCode :=
  (.seq (.region [⟨(some 6), none, .mov (.const (.bool false))⟩])
  (.seq (.region [⟨(some 20), none, .mov (T 1)⟩,
    ⟨(some 21), none, .call (.func 8) [(T 20), (.const (.int .i64 5))]⟩,
    ⟨(some 22), none, .ibin .add (.const (.int .i64 1)) (T 21)⟩,
    ⟨(some 7), none, .mov (T 22)⟩])
  (.seq (.region [⟨(some 24), none, .mov (T 7)⟩,
    ⟨(some 25), none, .call (.func 9) [(T 24)]⟩,
    ⟨(some 23), none, .mov (T 25)⟩,
    ⟨(some 26), none, .extract (T 23) 0⟩,
    ⟨(some 27), none, .extract (T 23) 1⟩,
    ⟨(some 8), none, .mov (T 26)⟩,
    ⟨(some 9), none, .mov (T 27)⟩])
  (.seq (.seq (.region [⟨(some 28), none, .mov (T 9)⟩,
    ⟨(some 29), none, .ibin .neq (T 28) (.const (.int .i64 0))⟩])
  (.cond (T 29)
    (.seq (.region [⟨(some 6), none, .mov (.const (.bool false))⟩])
    .ret)
    .skip))
  (.seq (.region [⟨(some 10), none, .mov (.const (.int .i64 0))⟩])
  (.seq (.region [⟨(some 30), none, .mov (T 7)⟩,
    ⟨(some 31), none, .mkslice 4 1 1 (.val (.bool false)) (T 30) (T 30)⟩,
    ⟨(some 11), none, .mov (T 31)⟩])
  (.seq (.seq (.region [⟨(some 12), none, .mov (.const (.int .i64 0))⟩])
  (.block 0 (.loop
    (.seq (.seq (.region [⟨(some 32), none, .mov (T 12)⟩,
      ⟨(some 33), none, .mov (T 7)⟩,
      ⟨(some 34), none, .ibin .lss (T 32) (T 33)⟩])
    (.cond (T 34)
      .skip
      (.exit 0)))
    (.seq (.block 1 (.region [⟨(some 37), none, .mov (T 11)⟩,
      ⟨(some 38), none, .mov (T 12)⟩,
      ⟨(some 39), none, .idxS 1 (T 37) (T 38)⟩,
      ⟨none, none, .store 1 (T 39) (.const (.bool true))⟩]))
    (.region [⟨(some 35), none, .mov (T 12)⟩,
      ⟨(some 36), none, .ibin .add (T 35) (.const (.int .i64 1))⟩,
      ⟨(some 12), none, .mov (T 36)⟩]))))))
  (.seq (.region [⟨(some 40), none, .mov (T 0)⟩,
    ⟨(some 41), none, .mov (T 7)⟩,
    ⟨(some 42), none, .call (.func 10) [(T 40), (T 41)]⟩,
    ⟨(some 13), none, .mov (T 42)⟩])
  (.seq (.seq (.region [⟨(some 14), none, .mov (.const (.int .i64 0))⟩])
  (.block 2 (.loop
    (.seq (.seq (.region [⟨(some 43), none, .mov (T 14)⟩,
      ⟨(some 44), none, .mov (T 13)⟩,
      ⟨(some 45), none, .len (T 44)⟩,
      ⟨(some 46), none, .ibin .lss (T 43) (T 45)⟩])
    (.cond (T 46)
      .skip
      (.exit 2)))
    (.seq (.block 3 (.seq (.region [⟨(some 49), none, .mov (T 8)⟩,
      ⟨(some 50), none, .mov (T 13)⟩,
      ⟨(some 51), none, .mov (T 14)⟩,
      ⟨(some 52), none, .idxS 6 (T 50) (T 51)⟩,
      ⟨(some 53), none, .load true 6 (T 52)⟩,
      ⟨(some 54), none, .call (.func 13) [(T 49), (T 53)]⟩,
      ⟨(some 15), none, .mov (T 54)⟩])
    (.seq (.seq (.region [⟨(some 55), none, .mov (T 15)⟩,
      ⟨(some 56), none, .ibin .neq (T 55) (.const (.int .i64 0))⟩])
    (.cond (T 56)
      (.exit 3)
      .skip))
    (.seq (.region [⟨(some 57), none, .mov (T 13)⟩,
      ⟨(some 58), none, .mov (T 14)⟩,
      ⟨(some 59), none, .idxS 6 (T 57) (T 58)⟩,
      ⟨(some 60), none, .fieldAddr 0 (T 59)⟩,
      ⟨(some 61), none, .load false 1 (T 60)⟩,
      ⟨(some 62), none, .ibin .neq (T 61) (.const (.int .i64 0))⟩])
    (.cond (T 62)
      (.region [⟨(some 63), none, .mov (T 10)⟩,
        ⟨(some 64), none, .ibin .add (T 63) (.const (.int .i64 1))⟩,
        ⟨(some 10), none, .mov (T 64)⟩])
      (.seq (.region [⟨(some 65), none, .mov (T 13)⟩,
        ⟨(some 66), none, .mov (T 14)⟩,
        ⟨(some 67), none, .idxS 6 (T 65) (T 66)⟩,
        ⟨(some 68), none, .fieldAddr 1 (T 67)⟩,
        ⟨(some 69), none, .fieldAddr 2 (T 68)⟩,
        ⟨(some 70), none, .load false 1 (T 69)⟩,
        ⟨(some 71), none, .ibin .eql (T 70) (.const (.int .i64 3))⟩,
        ⟨(some 72), none, .mov (T 71)⟩,
        ⟨(some 73), (some (72, false)), .mov (T 13)⟩,
        ⟨(some 74), (some (72, false)), .mov (T 14)⟩,
        ⟨(some 75), (some (72, false)), .idxS 6 (T 73) (T 74)⟩,
        ⟨(some 76), (some (72, false)), .fieldAddr 1 (T 75)⟩,
        ⟨(some 77), (some (72, false)), .fieldAddr 2 (T 76)⟩,
        ⟨(some 78), (some (72, false)), .load false 1 (T 77)⟩,
        ⟨(some 79), (some (72, false)), .ibin .eql (T 78) (.const (.int .i64 4))⟩,
        ⟨(some 80), none, .pick (T 72) (.const (.bool true)) (T 79)⟩])
      (.cond (T 80)
        (.drawn [⟨(some 81), none, .mov (T 11)⟩,
          ⟨(some 82), none, .mov (T 13)⟩,
          ⟨(some 83), none, .mov (T 14)⟩,
          ⟨(some 84), none, .idxS 6 (T 82) (T 83)⟩,
          ⟨(some 85), none, .fieldAddr 1 (T 84)⟩,
          ⟨(some 86), none, .fieldAddr 1 (T 85)⟩,
          ⟨(some 87), none, .load false 1 (T 86)⟩,
          ⟨(some 88), none, .mov (T 13)⟩,
          ⟨(some 89), none, .mov (T 14)⟩,
          ⟨(some 90), none, .idxS 6 (T 88) (T 89)⟩,
          ⟨(some 91), none, .fieldAddr 1 (T 90)⟩,
          ⟨(some 92), none, .fieldAddr 2 (T 91)⟩,
          ⟨(some 93), none, .load false 1 (T 92)⟩,
          ⟨(some 94), none, .ibin .eql (T 93) (.const (.int .i64 4))⟩,
          ⟨(some 95), none, .idxS 1 (T 81) (T 87)⟩] [(⟨none, none, .store 1 (T 95) (T 94)⟩, [])])
        .skip)))))))
    (.region [⟨(some 47), none, .mov (T 14)⟩,
      ⟨(some 48), none, .ibin .add (T 47) (.const (.int .i64 1))⟩,
      ⟨(some 14), none, .mov (T 48)⟩]))))))
  (.seq (.seq (.region [⟨(some 16), none, .mov (.const (.int .i64 0))⟩])
  (.block 4 (.loop
    (.seq (.seq (.region [⟨(some 96), none, .mov (T 16)⟩,
      ⟨(some 97), none, .ibin .lss (T 96) (.const (.int .i64 4))⟩])
    (.cond (T 97)
      .skip
      (.exit 4)))
    (.seq (.block 5 (.seq (.seq (.region [⟨(some 100), none, .mov (T 8)⟩,
      ⟨(some 101), none, .call (.func 17) [(T 100), (.const (.int .i64 5)), (.const (.int .i64 0)), (.const (.int .i64 0))]⟩,
      ⟨(some 102), none, .lnot (T 101)⟩])
    (.cond (T 102)
      (.seq (.region [⟨(some 6), none, .mov (.const (.bool false))⟩])
      .ret)
      .skip))
    (.seq (.region [⟨(some 17), none, .mov (.const (.int .i64 0))⟩])
    (.block 6 (.loop
      (.seq (.seq (.region [⟨(some 103), none, .mov (T 17)⟩,
        ⟨(some 104), none, .mov (T 7)⟩,
        ⟨(some 105), none, .ibin .mul (.const (.int .i64 3)) (T 104)⟩,
        ⟨(some 106), none, .ibin .lss (T 103) (T 105)⟩])
      (.cond (T 106)
        .skip
        (.exit 6)))
      (.seq (.block 7 (.seq (.region [⟨(some 109), none, .mov (T 17)⟩,
        ⟨(some 110), none, .mov (T 2)⟩,
        ⟨(some 111), none, .mov (T 7)⟩,
        ⟨(some 112), none, .ibin .mul (.const (.int .i64 3)) (T 111)⟩,
        ⟨(some 113), none, .call (.func 8) [(T 110), (T 112)]⟩,
        ⟨(some 114), none, .ibin .add (T 109) (T 113)⟩,
        ⟨(some 115), none, .mov (T 7)⟩,
        ⟨(some 116), none, .ibin .mul (.const (.int .i64 3)) (T 115)⟩,
        ⟨(some 117), none, .ibin .rem (T 114) (T 116)⟩,
        ⟨(some 18), none, .mov (T 117)⟩])
      (.seq (.seq (.region [⟨(some 118), none, .mov (T 16)⟩,
        ⟨(some 119), none, .ibin .rem (T 118) (.const (.int .i64 2))⟩,
        ⟨(some 120), none, .ibin .eql (T 119) (.const (.int .i64 1))⟩])
      (.cond (T 120)
        (.region [⟨(some 121), none, .mov (T 7)⟩,
          ⟨(some 122), none, .ibin .mul (.const (.int .i64 3)) (T 121)⟩,
          ⟨(some 123), none, .ibin .sub (T 122) (.const (.int .i64 1))⟩,
          ⟨(some 124), none, .mov (T 18)⟩,
          ⟨(some 125), none, .ibin .sub (T 123) (T 124)⟩,
          ⟨(some 18), none, .mov (T 125)⟩])
        .skip))
      (.region [⟨(some 126), none, .mov (T 8)⟩,
        ⟨(some 127), none, .mov (T 18)⟩,
        ⟨(some 128), none, .ibin .quo (T 127) (.const (.int .i64 3))⟩,
        ⟨(some 129), none, .mov (T 18)⟩,
        ⟨(some 130), none, .ibin .rem (T 129) (.const (.int .i64 3))⟩,
        ⟨(some 131), none, .build [(.val (.int .i64 0)), (.val (.int .i64 0)), (.val (.int .i64 0)), (.val (.int .i64 0)), (.val (.int .i64 0))] [(2, (1, (.const (.int .i64 0)))), (1, (1, (T 128))), (3, (1, (T 130)))]⟩,
        ⟨(some 132), none, .call (.func 18) [(T 126), (T 131)]⟩]))))
      (.region [⟨(some 107), none, .mov (T 17)⟩,
        ⟨(some 108), none, .ibin .add (T 107) (.const (.int .i64 1))⟩,
        ⟨(some 17), none, .mov (T 108)⟩]))))))))
    (.region [⟨(some 98), none, .mov (T 16)⟩,
      ⟨(some 99), none, .ibin .add (T 98) (.const (.int .i64 1))⟩,
      ⟨(some 16), none, .mov (T 99)⟩]))))))
  (.seq (.seq (.region [⟨(some 133), none, .mov (T 8)⟩,
    ⟨(some 134), none, .call (.func 15) [(T 133)]⟩,
    ⟨(some 135), none, .mov (T 10)⟩,
    ⟨(some 136), none, .ibin .neq (T 134) (T 135)⟩,
    ⟨(some 137), none, .mov (T 136)⟩,
    ⟨(some 138), (some (137, false)), .mov (T 8)⟩,
    ⟨(some 139), (some (137, false)), .call (.func 19) [(T 138), (.const (.int .i64 999))]⟩,
    ⟨(some 140), (some (137, false)), .ibin .neq (T 139) (.const (.int .i64 0))⟩,
    ⟨(some 141), none, .pick (T 137) (.const (.bool true)) (T 140)⟩])
  (.cond (T 141)
    (.seq (.region [⟨(some 6), none, .mov (.const (.bool false))⟩])
    .ret)
    .skip))
  (.seq (.seq (.region [⟨(some 19), none, .mov (.const (.int .i64 0))⟩])
  (.block 8 (.loop
    (.seq (.seq (.region [⟨(some 142), none, .mov (T 19)⟩,
      ⟨(some 143), none, .mov (T 7)⟩,
      ⟨(some 144), none, .ibin .lss (T 142) (T 143)⟩])
    (.cond (T 144)
      .skip
      (.exit 8)))
    (.seq (.block 9 (.seq (.drawn [⟨(some 147), none, .mov (T 11)⟩,
      ⟨(some 148), none, .mov (T 19)⟩,
      ⟨(some 149), none, .idxS 1 (T 147) (T 148)⟩,
      ⟨(some 150), none, .load false 1 (T 149)⟩,
      ⟨(some 151), none, .mov (T 8)⟩,
      ⟨(some 152), none, .mov (T 19)⟩,
      ⟨(some 153), none, .call (.func 11) [(T 151), (T 152)]⟩,
      ⟨(some 154), none, .len (T 153)⟩,
      ⟨(some 155), none, .mov (T 10)⟩,
      ⟨(some 156), none, .ibin .eql (T 154) (T 155)⟩,
      ⟨(some 157), none, .bbin .neq (T 150) (T 156)⟩,
      ⟨(some 158), none, .mov (T 157)⟩,
      ⟨(some 159), (some (158, true)), .mov (T 10)⟩,
      ⟨(some 160), (some (158, true)), .ibin .gtr (T 159) (.const (.int .i64 0))⟩,
      ⟨(some 161), none, .pick (T 158) (T 160) (.const (.bool false))⟩] [])
    (.cond (T 161)
      (.seq (.region [⟨(some 6), none, .mov (.const (.bool false))⟩])
      .ret)
      .skip)))
    (.region [⟨(some 145), none, .mov (T 19)⟩,
      ⟨(some 146), none, .ibin .add (T 145) (.const (.int .i64 1))⟩,
      ⟨(some 19), none, .mov (T 146)⟩]))))))
  (.seq (.region [⟨(some 162), none, .call (.func 16) []⟩,
    ⟨(some 6), none, .mov (T 162)⟩])
  .ret)))))))))))))
theorem f5 : fnC Try.prog 5 = some (c5, 163, [(.tmp 6)]) := by kernel_rfl

/-- dactyllaw41.ErrataNetwork -/
def c6 : CCode :=
  (.seq (.region [⟨(some 4), none, .mov (.const (.bool false))⟩])
  (.seq (.region [⟨(some 15), none, .mov (T 1)⟩,
    ⟨(some 16), none, .call (.func 8) [(T 15), (.const (.int .i64 5))]⟩,
    ⟨(some 17), none, .ibin .add (.const (.int .i64 1)) (T 16)⟩,
    ⟨(some 5), none, .mov (T 17)⟩])
  (.seq (.region [⟨(some 19), none, .mov (T 5)⟩,
    ⟨(some 20), none, .call (.func 9) [(T 19)]⟩,
    ⟨(some 18), none, .mov (T 20)⟩,
    ⟨(some 21), none, .extract (T 18) 0⟩,
    ⟨(some 22), none, .extract (T 18) 1⟩,
    ⟨(some 6), none, .mov (T 21)⟩,
    ⟨(some 7), none, .mov (T 22)⟩])
  (.seq (.region [⟨(some 24), none, .mov (T 5)⟩,
    ⟨(some 25), none, .call (.func 20) [(T 24)]⟩,
    ⟨(some 23), none, .mov (T 25)⟩,
    ⟨(some 26), none, .extract (T 23) 0⟩,
    ⟨(some 27), none, .extract (T 23) 1⟩,
    ⟨(some 8), none, .mov (T 26)⟩,
    ⟨(some 9), none, .mov (T 27)⟩])
  (.seq (.seq (.region [⟨(some 28), none, .mov (T 7)⟩,
    ⟨(some 29), none, .ibin .neq (T 28) (.const (.int .i64 0))⟩,
    ⟨(some 30), none, .mov (T 29)⟩,
    ⟨(some 31), (some (30, false)), .mov (T 9)⟩,
    ⟨(some 32), (some (30, false)), .ibin .neq (T 31) (.const (.int .i64 0))⟩,
    ⟨(some 33), none, .pick (T 30) (.const (.bool true)) (T 32)⟩])
  (.cond (T 33)
    (.seq (.region [⟨(some 4), none, .mov (.const (.bool false))⟩])
    .ret)
    .skip))
  (.seq (.region [⟨(some 34), none, .mov (T 0)⟩,
    ⟨(some 35), none, .mov (T 5)⟩,
    ⟨(some 36), none, .call (.func 10) [(T 34), (T 35)]⟩,
    ⟨(some 10), none, .mov (T 36)⟩])
  (.seq (.seq (.region [⟨(some 11), none, .mov (.const (.int .i64 0))⟩])
  (.block 0 (.loop
    (.seq (.seq (.region [⟨(some 37), none, .mov (T 11)⟩,
      ⟨(some 38), none, .mov (T 10)⟩,
      ⟨(some 39), none, .len (T 38)⟩,
      ⟨(some 40), none, .ibin .lss (T 37) (T 39)⟩])
    (.cond (T 40)
      .skip
      (.exit 0)))
    (.seq (.block 1 (.seq (.region [⟨(some 43), none, .mov (T 10)⟩,
      ⟨(some 44), none, .mov (T 11)⟩,
      ⟨(some 45), none, .idxS 6 (T 43) (T 44)⟩,
      ⟨(some 46), none, .fieldAddr 1 (T 45)⟩,
      ⟨(some 47), none, .load true 5 (T 46)⟩,
      ⟨(some 12), none, .alloc 32 (.agg [(.val (.int .i64 0)), (.val (.int .i64 0)), (.val (.int .i64 0)), (.val (.int .i64 0)), (.val (.int .i64 0))])⟩,
      ⟨none, none, .store 5 (T 12) (T 47)⟩])
    (.seq (.seq (.region [⟨(some 48), none, .mov (T 10)⟩,
      ⟨(some 49), none, .mov (T 11)⟩,
      ⟨(some 50), none, .idxS 6 (T 48) (T 49)⟩,
      ⟨(some 51), none, .fieldAddr 0 (T 50)⟩,
      ⟨(some 52), none, .load false 1 (T 51)⟩,
      ⟨(some 53), none, .ibin .eql (T 52) (.const (.int .i64 0))⟩,
      ⟨(some 54), none, .mov (T 53)⟩,
      ⟨(some 55), (some (54, true)), .fieldAddr 2 (T 12)⟩,
      ⟨(some 56), (some (54, true)), .load false 1 (T 55)⟩,
      ⟨(some 57), (some (54, true)), .ibin .eql (T 56) (.const (.int .i64 1))⟩,
      ⟨(some 58), none, .pick (T 54) (T 57) (.const (.bool false))⟩])
    (.cond (T 58)
      (.seq (.region [⟨(some 59), none, .mov (T 6)⟩,
        ⟨(some 60), none, .load true 5 (T 12)⟩,
        ⟨(some 61), none, .call (.func 18) [(T 59), (T 60)]⟩])
      (.seq (.seq (.region [⟨(some 62), none, .mov (T 6)⟩,
        ⟨(some 63), none, .mov (T 8)⟩,
        ⟨(some 64), none, .call (.func 21) [(T 62), (T 63)]⟩,
        ⟨(some 65), none, .lnot (T 64)⟩])
      (.cond (T 65)
        (.seq (.region [⟨(some 4), none, .mov (.const (.bool false))⟩])
        .ret)
        .skip))
      (.seq (.region [⟨(some 66), none, .mov (T 8)⟩,
        ⟨(some 67), none, .load true 5 (T 12)⟩,
        ⟨(some 68), none, .call (.func 22) [(T 66), (T 67)]⟩])
      (.exit 1))))
      .skip))
    (.seq (.seq (.region [⟨(some 69), none, .mov (T 10)⟩,
      ⟨(some 70), none, .mov (T 11)⟩,
      ⟨(some 71), none, .idxS 6 (T 69) (T 70)⟩,
      ⟨(some 72), none, .fieldAddr 0 (T 71)⟩,
      ⟨(some 73), none, .load false 1 (T 72)⟩,
      ⟨(some 74), none, .ibin .eql (T 73) (.const (.int .i64 0))⟩,
      ⟨(some 75), none, .mov (T 74)⟩,
      ⟨(some 76), (some (75, true)), .fieldAddr 2 (T 12)⟩,
      ⟨(some 77), (some (75, true)), .load false 1 (T 76)⟩,
      ⟨(some 78), (some (75, true)), .ibin .eql (T 77) (.const (.int .i64 0))⟩,
      ⟨(some 79), none, .pick (T 75) (T 78) (.const (.bool false))⟩])
    (.cond (T 79)
      (.seq (.region [⟨(some 80), none, .fieldAddr 2 (T 12)⟩,
        ⟨none, none, .store 1 (T 80) (.const (.int .i64 2))⟩])
      (.seq (.region [⟨(some 81), none, .mov (T 6)⟩,
        ⟨(some 82), none, .load true 5 (T 12)⟩,
        ⟨(some 83), none, .call (.func 18) [(T 81), (T 82)]⟩,
        ⟨(some 13), none, .mov (T 83)⟩])
      (.seq (.region [⟨(some 84), none, .fieldAddr 2 (T 12)⟩,
        ⟨none, none, .store 1 (T 84) (.const (.int .i64 0))⟩])
      (.seq (.region [⟨(some 85), none, .mov (T 6)⟩,
        ⟨(some 86), none, .load true 5 (T 12)⟩,
        ⟨(some 87), none, .call (.func 18) [(T 85), (T 86)]⟩,
        ⟨(some 14), none, .mov (T 87)⟩])
      (.seq (.seq (.region [⟨(some 88), none, .mov (T 13)⟩,
        ⟨(some 89), none, .mov (T 8)⟩,
        ⟨(some 90), none, .load true 5 (T 12)⟩,
        ⟨(some 91), none, .call (.func 22) [(T 89), (T 90)]⟩,
        ⟨(some 92), none, .ibin .neq (T 88) (T 91)⟩,
        ⟨(some 93), none, .mov (T 92)⟩,
        ⟨(some 94), (some (93, false)), .mov (T 13)⟩,
        ⟨(some 95), (some (93, false)), .ibin .eql (T 94) (.const (.int .i64 0))⟩,
        ⟨(some 96), (some (93, false)), .mov (T 95)⟩,
        ⟨(some 97), (some (96, true)), .mov (T 14)⟩,
        ⟨(some 98), (some (96, true)), .ibin .neq (T 97) (.const (.int .i64 0))⟩,
        ⟨(some 99), (some (93, false)), .pick (T 96) (T 98) (.const (.bool false))⟩,
        ⟨(some 100), (some (93, false)), .mov (T 99)⟩,
        ⟨(some 101), (some (100, true)), .mov (T 14)⟩,
        ⟨(some 102), (some (100, true)), .ibin .neq (T 101) (.const (.int .i64 6))⟩,
        ⟨(some 103), (some (93, false)), .pick (T 100) (T 102) (.const (.bool false))⟩,
        ⟨(some 104), none, .pick (T 93) (.const (.bool true)) (T 103)⟩,
        ⟨(some 105), none, .mov (T 104)⟩,
        ⟨(some 106), (some (105, false)), .mov (T 6)⟩,
        ⟨(some 107), (some (105, false)), .mov (T 8)⟩,
        ⟨(some 108), (some (105, false)), .call (.func 21) [(T 106), (T 107)]⟩,
        ⟨(some 109), (some (105, false)), .lnot (T 108)⟩,
        ⟨(some 110), none, .pick (T 105) (.const (.bool true)) (T 109)⟩])
      (.cond (T 110)
        (.seq (.region [⟨(some 4), none, .mov (.const (.bool false))⟩])
        .ret)
        .skip))
      (.exit 1))))))
      .skip))
    (.seq (.region [⟨(some 111), none, .mov (T 6)⟩,
      ⟨(some 112), none, .mov (T 10)⟩,
      ⟨(some 113), none, .mov (T 11)⟩,
      ⟨(some 114), none, .idxS 6 (T 112) (T 113)⟩,
      ⟨(some 115), none, .load true 6 (T 114)⟩,
      ⟨(some 116), none, .call (.func 13) [(T 111), (T 115)]⟩])
    (.seq (.region [⟨(some 117), none, .mov (T 8)⟩,
      ⟨(some 118), none, .mov (T 10)⟩,
      ⟨(some 119), none, .mov (T 11)⟩,
      ⟨(some 120), none, .idxS 6 (T 118) (T 119)⟩,
      ⟨(some 121), none, .load true 6 (T 120)⟩,
      ⟨(some 122), none, .call (.func 23) [(T 117), (T 121)]⟩])
    (.seq (.region [⟨(some 123), none, .mov (T 6)⟩,
      ⟨(some 124), none, .mov (T 8)⟩,
      ⟨(some 125), none, .call (.func 21) [(T 123), (T 124)]⟩,
      ⟨(some 126), none, .lnot (T 125)⟩])
    (.cond (T 126)
      (.seq (.region [⟨(some 4), none, .mov (.const (.bool false))⟩])
      .ret)
      .skip))))))))
    (.region [⟨(some 41), none, .mov (T 11)⟩,
      ⟨(some 42), none, .ibin .add (T 41) (.const (.int .i64 1))⟩,
      ⟨(some 11), none, .mov (T 42)⟩]))))))
  (.seq (.region [⟨(some 127), none, .call (.func 16) []⟩,
    ⟨(some 4), none, .mov (T 127)⟩])
  .ret))))))))
theorem f6 : fnC Try.prog 6 = some (c6, 128, [(.tmp 4)]) := by kernel_rfl

/-- dactyllaw41.ErrataPlays -/
def c7 : CCode :=
  (.seq (.region [⟨(some 12), none, .mov (.const (.bool false))⟩])
  (.seq (.region [⟨(some 25), none, .mov (T 1)⟩,
    ⟨(some 26), none, .call (.func 8) [(T 25), (.const (.int .i64 5))]⟩,
    ⟨(some 27), none, .ibin .add (.const (.int .i64 1)) (T 26)⟩,
    ⟨(some 13), none, .mov (T 27)⟩])
  (.seq (.region [⟨(some 29), none, .mov (T 13)⟩,
    ⟨(some 30), none, .call (.func 9) [(T 29)]⟩,
    ⟨(some 28), none, .mov (T 30)⟩,
    ⟨(some 31), none, .extract (T 28) 0⟩,
    ⟨(some 32), none, .extract (T 28) 1⟩,
    ⟨(some 14), none, .mov (T 31)⟩,
    ⟨(some 15), none, .mov (T 32)⟩])
  (.seq (.region [⟨(some 34), none, .mov (T 13)⟩,
    ⟨(some 35), none, .call (.func 20) [(T 34)]⟩,
    ⟨(some 33), none, .mov (T 35)⟩,
    ⟨(some 36), none, .extract (T 33) 0⟩,
    ⟨(some 37), none, .extract (T 33) 1⟩,
    ⟨(some 16), none, .mov (T 36)⟩,
    ⟨(some 17), none, .mov (T 37)⟩])
  (.seq (.seq (.region [⟨(some 38), none, .mov (T 15)⟩,
    ⟨(some 39), none, .mov (T 17)⟩,
    ⟨(some 40), none, .ibin .neq (T 38) (T 39)⟩,
    ⟨(some 41), none, .mov (T 40)⟩,
    ⟨(some 42), (some (41, false)), .mov (T 15)⟩,
    ⟨(some 43), (some (41, false)), .ibin .neq (T 42) (.const (.int .i64 0))⟩,
    ⟨(some 44), none, .pick (T 41) (.const (.bool true)) (T 43)⟩])
  (.cond (T 44)
    (.seq (.region [⟨(some 12), none, .mov (.const (.bool false))⟩])
    .ret)
    .skip))
  (.seq (.region [⟨(some 45), none, .mov (T 0)⟩,
    ⟨(some 46), none, .mov (T 13)⟩,
    ⟨(some 47), none, .call (.func 10) [(T 45), (T 46)]⟩,
    ⟨(some 18), none, .mov (T 47)⟩])
  (.seq (.seq (.region [⟨(some 19), none, .mov (.const (.int .i64 0))⟩])
  (.block 0 (.loop
    (.seq (.seq (.region [⟨(some 48), none, .mov (T 19)⟩,
      ⟨(some 49), none, .mov (T 18)⟩,
      ⟨(some 50), none, .len (T 49)⟩,
      ⟨(some 51), none, .ibin .lss (T 48) (T 50)⟩])
    (.cond (T 51)
      .skip
      (.exit 0)))
    (.seq (.block 1 (.seq (.region [⟨(some 54), none, .mov (T 18)⟩,
      ⟨(some 55), none, .mov (T 19)⟩,
      ⟨(some 56), none, .idxS 6 (T 54) (T 55)⟩,
      ⟨(some 57), none, .load true 6 (T 56)⟩,
      ⟨(some 20), none, .alloc 34 (.agg [(.val (.int .i64 0)), (.val (.int .i64 0)), (.val (.int .i64 0)), (.val (.int .i64 0)), (.val (.int .i64 0)), (.val (.int .i64 0))])⟩,
      ⟨none, none, .store 6 (T 20) (T 57)⟩])
    (.seq (.seq (.region [⟨(some 58), none, .mov (T 19)⟩,
      ⟨(some 59), none, .mov (T 2)⟩,
      ⟨(some 60), none, .call (.func 8) [(T 59), (.const (.int .i64 40))]⟩,
      ⟨(some 61), none, .ibin .eql (T 58) (T 60)⟩])
    (.cond (T 61)
      (.region [⟨(some 62), none, .load true 6 (T 20)⟩,
        ⟨(some 63), none, .mov (T 3)⟩,
        ⟨(some 64), none, .mov (T 4)⟩,
        ⟨(some 65), none, .call (.func 24) [(T 62), (T 63), (T 64)]⟩,
        ⟨none, none, .store 6 (T 20) (T 65)⟩])
      .skip))
    (.seq (.seq (.cut [⟨(some 66), none, .mov (T 14)⟩,
      ⟨(some 67), none, .load true 6 (T 20)⟩,
      ⟨(some 69), none, .mov (T 16)⟩,
      ⟨(some 70), none, .load true 6 (T 20)⟩] [(⟨(some 68), none, .call (.func 13) [(T 66), (T 67)]⟩, [⟨(some 69), none, .mov (T 16)⟩, ⟨(some 70), none, .load true 6 (T 20)⟩]), (⟨(some 71), none, .call (.func 23) [(T 69), (T 70)]⟩, []), (⟨(some 72), none, .ibin .neq (T 68) (T 71)⟩, []), (⟨(some 73), none, .mov (T 72)⟩, [])] (.alt ⟨(some 74), (some (73, false)), .mov (T 14)⟩ (.alt ⟨(some 75), (some (73, false)), .mov (T 16)⟩ (.alt ⟨(some 76), (some (73, false)), .call (.func 21) [(T 74), (T 75)]⟩ (.alt ⟨(some 77), (some (73, false)), .lnot (T 76)⟩ (.alt ⟨(some 78), none, .pick (T 73) (.const (.bool true)) (T 77)⟩ .done .stop) .stop) .stop) .stop) (.alt ⟨(some 75), (some (73, false)), .mov (T 16)⟩ (.alt ⟨(some 74), (some (73, false)), .mov (T 14)⟩ (.alt ⟨(some 76), (some (73, false)), .call (.func 21) [(T 74), (T 75)]⟩ (.alt ⟨(some 77), (some (73, false)), .lnot (T 76)⟩ (.alt ⟨(some 78), none, .pick (T 73) (.const (.bool true)) (T 77)⟩ .done .stop) .stop) .stop) .stop) .stop)))
    (.cond (T 78)
      (.seq (.region [⟨(some 12), none, .mov (.const (.bool false))⟩])
      .ret)
      .skip))
    (.seq (.region [⟨(some 79), none, .mov (T 19)⟩,
      ⟨(some 80), none, .mov (T 4)⟩,
      ⟨(some 81), none, .call (.func 8) [(T 80), (.const (.int .i64 40))]⟩,
      ⟨(some 82), none, .ibin .eql (T 79) (T 81)⟩])
    (.cond (T 82)
      (.seq (.region [⟨(some 83), none, .mov (T 14)⟩,
        ⟨(some 84), none, .call (.func 25) [(T 83)]⟩,
        ⟨(some 21), none, .mov (T 84)⟩])
      (.seq (.region [⟨(some 85), none, .mov (T 21)⟩,
        ⟨(some 86), none, .call (.func 19) [(T 85), (.const (.int .i64 999))]⟩])
      (.seq (.region [⟨(some 87), none, .mov (T 21)⟩,
        ⟨(some 88), none, .build [(.val (.int .i64 0)), (.val (.int .i64 0)), (.val (.int .i64 0)), (.val (.int .i64 0)), (.val (.int .i64 0))] [(2, (1, (.const (.int .i64 6)))), (3, (1, (.const (.int .i64 7))))]⟩,
        ⟨(some 89), none, .call (.func 18) [(T 87), (T 88)]⟩])
      (.seq (.region [⟨(some 90), none, .mov (T 21)⟩,
        ⟨(some 91), none, .build [(.val (.int .i64 0)), (.val (.int .i64 0)), (.val (.int .i64 0)), (.val (.int .i64 0)), (.val (.int .i64 0))] [(2, (1, (.const (.int .i64 3))))]⟩,
        ⟨(some 92), none, .call (.func 18) [(T 90), (T 91)]⟩])
      (.seq (.region [⟨(some 93), none, .mov (T 14)⟩,
        ⟨(some 94), none, .mov (T 16)⟩,
        ⟨(some 95), none, .call (.func 21) [(T 93), (T 94)]⟩,
        ⟨(some 96), none, .lnot (T 95)⟩])
      (.cond (T 96)
        (.seq (.region [⟨(some 12), none, .mov (.const (.bool false))⟩])
        .ret)
        .skip))))))
      .skip))))))
    (.region [⟨(some 52), none, .mov (T 19)⟩,
      ⟨(some 53), none, .ibin .add (T 52) (.const (.int .i64 1))⟩,
      ⟨(some 19), none, .mov (T 53)⟩]))))))
  (.seq (.region [⟨(some 98), none, .mov (T 5)⟩,
    ⟨(some 99), none, .call (.func 9) [(T 98)]⟩,
    ⟨(some 97), none, .mov (T 99)⟩,
    ⟨(some 100), none, .extract (T 97) 0⟩,
    ⟨(some 101), none, .extract (T 97) 1⟩,
    ⟨(some 22), none, .mov (T 100)⟩,
    ⟨(some 23), none, .mov (T 101)⟩])
  (.seq (.region [⟨(some 24), none, .mov (.const (.pointer none))⟩])
  (.seq (.region [⟨(some 102), none, .mov (T 23)⟩,
    ⟨(some 103), none, .ibin .eql (T 102) (.const (.int .i64 0))⟩,
    ⟨(some 104), none, .mov (T 5)⟩,
    ⟨(some 105), none, .ibin .geq (T 104) (.const (.int .i64 1))⟩,
    ⟨(some 106), none, .mov (T 105)⟩,
    ⟨(some 107), (some (106, true)), .mov (T 5)⟩,
    ⟨(some 108), (some (106, true)), .ibin .leq (T 107) (.const (.int .i64 8))⟩,
    ⟨(some 109), none, .pick (T 106) (T 108) (.const (.bool false))⟩,
    ⟨(some 110), none, .bbin .eql (T 103) (T 109)⟩,
    ⟨(some 111), none, .mov (T 110)⟩,
    ⟨(some 112), (some (111, true)), .mov (T 23)⟩,
    ⟨(some 113), (some (111, true)), .ibin .eql (T 112) (.const (.int .i64 0))⟩,
    ⟨(some 114), (some (111, true)), .mov (T 113)⟩,
    ⟨(some 115), (some (114, false)), .mov (T 23)⟩,
    ⟨(some 116), (some (114, false)), .ibin .eql (T 115) (.const (.int .i64 1))⟩,
    ⟨(some 117), (some (111, true)), .pick (T 114) (.const (.bool true)) (T 116)⟩,
    ⟨(some 118), none, .pick (T 111) (T 117) (.const (.bool false))⟩,
    ⟨(some 119), none, .mov (T 118)⟩,
    ⟨(some 120), (some (119, true)), .mov (T 24)⟩,
    ⟨(some 121), (some (119, true)), .call (.func 19) [(T 120), (.const (.int .i64 1))]⟩,
    ⟨(some 122), (some (119, true)), .ibin .eql (T 121) (.const (.int .i64 1))⟩,
    ⟨(some 123), none, .pick (T 119) (T 122) (.const (.bool false))⟩,
    ⟨(some 124), none, .mov (T 123)⟩,
    ⟨(some 125), (some (124, true)), .mov (T 24)⟩,
    ⟨(some 126), (some (124, true)), .build [(.val (.int .i64 0)), (.val (.int .i64 0)), (.val (.int .i64 0)), (.val (.int .i64 0)), (.val (.int .i64 0))] []⟩,
    ⟨(some 127), (some (124, true)), .call (.func 18) [(T 125), (T 126)]⟩,
    ⟨(some 128), (some (124, true)), .ibin .eql (T 127) (.const (.int .i64 1))⟩,
    ⟨(some 129), none, .pick (T 124) (T 128) (.const (.bool false))⟩,
    ⟨(some 130), none, .mov (T 129)⟩,
    ⟨(some 131), (some (130, true)), .mov (T 24)⟩,
    ⟨(some 132), (some (130, true)), .call (.func 15) [(T 131)]⟩,
    ⟨(some 133), (some (130, true)), .ibin .eql (T 132) (.const (.int .i64 0))⟩,
    ⟨(some 134), none, .pick (T 130) (T 133) (.const (.bool false))⟩,
    ⟨(some 135), none, .mov (T 134)⟩,
    ⟨(some 136), (some (135, true)), .mov (T 24)⟩,
    ⟨(some 137), (some (135, true)), .call (.func 11) [(T 136), (.const (.int .i64 0))]⟩,
    ⟨(some 138), (some (135, true)), .len (T 137)⟩,
    ⟨(some 139), (some (135, true)), .mov (T 24)⟩,
    ⟨(some 140), (some (135, true)), .call (.func 12) [(T 139)]⟩,
    ⟨(some 141), (some (135, true)), .len (T 140)⟩,
    ⟨(some 142), (some (135, true)), .ibin .add (T 138) (T 141)⟩,
    ⟨(some 143), (some (135, true)), .ibin .eql (T 142) (.const (.int .i64 0))⟩,
    ⟨(some 144), none, .pick (T 135) (T 143) (.const (.bool false))⟩,
    ⟨(some 145), none, .mov (T 144)⟩,
    ⟨(some 146), (some (145, true)), .mov (T 24)⟩,
    ⟨(some 147), (some (145, true)), .call (.func 25) [(T 146)]⟩,
    ⟨(some 148), (some (145, true)), .isNil false false (T 147) (.const (.pointer none))⟩,
    ⟨(some 149), none, .pick (T 145) (T 148) (.const (.bool false))⟩,
    ⟨(some 150), none, .mov (T 149)⟩,
    ⟨(some 151), (some (150, true)), .call (.func 16) []⟩,
    ⟨(some 152), none, .pick (T 150) (T 151) (.const (.bool false))⟩,
    ⟨(some 12), none, .mov (T 152)⟩])
  .ret))))))))))
theorem f7 : fnC Try.prog 7 = some (c7, 153, [(.tmp 12)]) := by kernel_rfl

/-- dactylref01.Around -/
def c8 : CCode :=
  (.seq (.region [⟨(some 4), none, .mov (.const (.int .i64 0))⟩])
  (.seq (.seq (.region [⟨(some 5), none, .mov (T 0)⟩,
    ⟨(some 6), none, .ibin .lss (T 5) (.const (.int .i64 0))⟩])
  (.cond (T 6)
    (.region [⟨(some 7), none, .mov (T 0)⟩,
      ⟨(some 8), none, .ibin .add (T 7) (.const (.int .i64 1))⟩,
      ⟨(some 9), none, .neg (T 8)⟩,
      ⟨(some 0), none, .mov (T 9)⟩])
    .skip))
  (.seq (.seq (.region [⟨(some 10), none, .mov (T 1)⟩,
    ⟨(some 11), none, .ibin .lss (T 10) (.const (.int .i64 1))⟩])
  (.cond (T 11)
    (.seq (.region [⟨(some 4), none, .mov (.const (.int .i64 0))⟩])
    .ret)
    .skip))
  (.seq (.region [⟨(some 12), none, .mov (T 0)⟩,
    ⟨(some 13), none, .mov (T 1)⟩,
    ⟨(some 14), none, .ibin .rem (T 12) (T 13)⟩,
    ⟨(some 4), none, .mov (T 14)⟩])
  .ret))))
theorem f8 : fnC Try.prog 8 = some (c8, 15, [(.tmp 4)]) := by kernel_rfl

/-- errata.New -/
def c9 : CCode :=
  (.seq (.region [⟨(some 2), none, .mov (.const (.pointer none))⟩,
    ⟨(some 3), none, .mov (.const (.int .i64 0))⟩])
  (.seq (.seq (.region [⟨(some 4), none, .mov (T 0)⟩,
    ⟨(some 5), none, .ibin .lss (T 4) (.const (.int .i64 1))⟩,
    ⟨(some 6), none, .mov (T 5)⟩,
    ⟨(some 7), (some (6, false)), .mov (T 0)⟩,
    ⟨(some 8), (some (6, false)), .ibin .gtr (T 7) (.const (.int .i64 8))⟩,
    ⟨(some 9), none, .pick (T 6) (.const (.bool true)) (T 8)⟩])
  (.cond (T 9)
    (.seq (.region [⟨(some 2), none, .mov (.const (.pointer none))⟩,
      ⟨(some 3), none, .mov (.const (.int .i64 1))⟩])
    .ret)
    .skip))
  (.seq (.region [⟨(some 10), none, .build [(.val (.bool false)), (.val (.bool false)), (.val (.int .i64 0)), (.val (.bool false)), (.val (.bool false)), (.val (.bool false)), (.val (.bool false)), (.val (.bool false))] [(0, (1, (.const (.bool true)))), (1, (1, (.const (.bool true))))]⟩,
    ⟨(some 11), none, .bslice 60 8 [(T 10)]⟩,
    ⟨(some 12), none, .mov (T 0)⟩,
    ⟨(some 13), none, .call (.func 26) [(T 11), (T 12)]⟩,
    ⟨(some 14), none, .build [(.val (.slice none 0 0)), (.val (.slice none 0 0)), (.val (.int .i64 0)), (.val (.slice none 0 0))] [(0, (1, (T 13)))]⟩,
    ⟨(some 15), none, .box 62 (T 14)⟩,
    ⟨(some 2), none, .mov (T 15)⟩,
    ⟨(some 3), none, .mov (.const (.int .i64 0))⟩])
  .ret)))
theorem f9 : fnC Try.prog 9 = some (c9, 16, [(.tmp 2), (.tmp 3)]) := by kernel_rfl

/-- dactylref41.Script -/
def c10 : CCode :=
  (.seq (.region [⟨(some 4), none, .mov (.const (.slice none 0 0))⟩])
  (.seq (.region [⟨(some 5), none, .mov (.const (.slice none 0 0))⟩])
  (.seq (.region [⟨(some 6), none, .mov (.const (.int .i64 1))⟩])
  (.seq (.seq (.region [⟨(some 7), none, .mov (.const (.int .i64 0))⟩])
  (.block 0 (.loop
    (.seq (.seq (.region [⟨(some 10), none, .mov (T 7)⟩,
      ⟨(some 11), none, .ibin .mul (.const (.int .i64 3)) (T 10)⟩,
      ⟨(some 12), none, .ibin .add (T 11) (.const (.int .i64 2))⟩,
      ⟨(some 13), none, .mov (T 0)⟩,
      ⟨(some 14), none, .len (T 13)⟩,
      ⟨(some 15), none, .ibin .lss (T 12) (T 14)⟩,
      ⟨(some 16), none, .mov (T 15)⟩,
      ⟨(some 17), (some (16, true)), .mov (T 7)⟩,
      ⟨(some 18), (some (16, true)), .ibin .lss (T 17) (.const (.int .i64 40))⟩,
      ⟨(some 19), none, .pick (T 16) (T 18) (.const (.bool false))⟩])
    (.cond (T 19)
      .skip
      (.exit 0)))
    (.seq (.block 1 (.seq (.region [⟨(some 22), none, .mov (T 0)⟩,
      ⟨(some 23), none, .mov (T 7)⟩,
      ⟨(some 24), none, .ibin .mul (.const (.int .i64 3)) (T 23)⟩,
      ⟨(some 25), none, .call (.func 27) [(T 22), (T 24), (.const (.int .i64 32))]⟩,
      ⟨(some 8), none, .mov (T 25)⟩])
    (.seq (.region [⟨(some 26), none, .mov (T 7)⟩,
      ⟨(some 27), none, .mov (T 0)⟩,
      ⟨(some 28), none, .mov (T 7)⟩,
      ⟨(some 29), none, .ibin .mul (.const (.int .i64 3)) (T 28)⟩,
      ⟨(some 30), none, .ibin .add (T 29) (.const (.int .i64 1))⟩,
      ⟨(some 31), none, .mov (T 1)⟩,
      ⟨(some 32), none, .call (.func 27) [(T 27), (T 30), (T 31)]⟩,
      ⟨(some 33), none, .mov (T 0)⟩,
      ⟨(some 34), none, .mov (T 7)⟩,
      ⟨(some 35), none, .ibin .mul (.const (.int .i64 3)) (T 34)⟩,
      ⟨(some 36), none, .ibin .add (T 35) (.const (.int .i64 2))⟩,
      ⟨(some 37), none, .call (.func 27) [(T 33), (T 36), (.const (.int .i64 3))]⟩,
      ⟨(some 38), none, .mov (T 8)⟩,
      ⟨(some 39), none, .build [(.val (.int .i64 0)), (.val (.int .i64 0)), (.val (.int .i64 0)), (.val (.int .i64 0)), (.val (.int .i64 0))] [(0, (1, (T 26))), (1, (1, (T 32))), (3, (1, (T 37))), (4, (1, (T 38)))]⟩,
      ⟨(some 9), none, .alloc 32 (.agg [(.val (.int .i64 0)), (.val (.int .i64 0)), (.val (.int .i64 0)), (.val (.int .i64 0)), (.val (.int .i64 0))])⟩,
      ⟨none, none, .store 5 (T 9) (T 39)⟩])
    (.seq (.seq (.region [⟨(some 40), none, .mov (T 8)⟩,
      ⟨(some 41), none, .ibin .lss (T 40) (.const (.int .i64 4))⟩])
    (.cond (T 41)
      (.seq (.region [⟨(some 42), none, .mov (T 5)⟩,
        ⟨(some 43), none, .mov (T 6)⟩,
        ⟨(some 44), none, .build [(.val (.int .i64 0)), (.val (.int .i64 0)), (.val (.int .i64 0)), (.val (.int .i64 0)), (.val (.int .i64 0)), (.val (.int .i64 0))] [(0, (1, (T 43)))]⟩,
        ⟨(some 45), none, .bslice 34 6 [(T 44)]⟩,
        ⟨(some 46), none, .append 34 6 48 (T 42) (T 45)⟩,
        ⟨(some 5), none, .mov (T 46)⟩])
      (.seq (.seq (.region [⟨(some 47), none, .mov (T 0)⟩,
        ⟨(some 48), none, .mov (T 7)⟩,
        ⟨(some 49), none, .ibin .mul (.const (.int .i64 3)) (T 48)⟩,
        ⟨(some 50), none, .ibin .add (T 49) (.const (.int .i64 1))⟩,
        ⟨(some 51), none, .call (.func 27) [(T 47), (T 50), (.const (.int .i64 4))]⟩,
        ⟨(some 52), none, .ibin .gtr (T 51) (.const (.int .i64 0))⟩])
      (.cond (T 52)
        (.region [⟨(some 53), none, .mov (T 6)⟩,
          ⟨(some 54), none, .ibin .add (T 53) (.const (.int .i64 1))⟩,
          ⟨(some 6), none, .mov (T 54)⟩])
        .skip))
      (.exit 1)))
      .skip))
    (.seq (.region [⟨(some 55), none, .bslice 3 1 [(.const (.int .i64 0)), (.const (.int .i64 0)), (.const (.int .i64 0)), (.const (.int .i64 0)), (.const (.int .i64 0)), (.const (.int .i64 0)), (.const (.int .i64 0)), (.const (.int .i64 0)), (.const (.int .i64 0)), (.const (.int .i64 0)), (.const (.int .i64 1)), (.const (.int .i64 2)), (.const (.int .i64 2)), (.const (.int .i64 3)), (.const (.int .i64 4)), (.const (.int .i64 4)), (.const (.int .i64 5)), (.const (.int .i64 5)), (.const (.int .i64 6)), (.const (.int .i64 6)), (.const (.int .i64 6)), (.const (.int .i64 6)), (.const (.int .i64 6)), (.const (.int .i64 6)), (.const (.int .i64 0)), (.const (.int .i64 0)), (.const (.int .i64 0)), (.const (.int .i64 0))]⟩,
      ⟨(some 56), none, .mov (T 8)⟩,
      ⟨(some 57), none, .ibin .sub (T 56) (.const (.int .i64 4))⟩,
      ⟨(some 58), none, .idxS 1 (T 55) (T 57)⟩,
      ⟨(some 59), none, .load false 1 (T 58)⟩,
      ⟨(some 60), none, .fieldAddr 2 (T 9)⟩,
      ⟨none, none, .store 1 (T 60) (T 59)⟩])
    (.seq (.seq (.region [⟨(some 61), none, .fieldAddr 2 (T 9)⟩,
      ⟨(some 62), none, .load false 1 (T 61)⟩,
      ⟨(some 63), none, .ibin .eql (T 62) (.const (.int .i64 6))⟩])
    (.cond (T 63)
      (.region [⟨(some 64), none, .mov (T 7)⟩,
        ⟨(some 65), none, .fieldAddr 3 (T 9)⟩,
        ⟨none, none, .store 1 (T 65) (T 64)⟩])
      .skip))
    (.region [⟨(some 66), none, .mov (T 5)⟩,
      ⟨(some 67), none, .load true 5 (T 9)⟩,
      ⟨(some 68), none, .build [(.val (.int .i64 0)), (.val (.int .i64 0)), (.val (.int .i64 0)), (.val (.int .i64 0)), (.val (.int .i64 0)), (.val (.int .i64 0))] [(1, (5, (T 67)))]⟩,
      ⟨(some 69), none, .bslice 34 6 [(T 68)]⟩,
      ⟨(some 70), none, .append 34 6 48 (T 66) (T 69)⟩,
      ⟨(some 5), none, .mov (T 70)⟩])))))))
    (.region [⟨(some 20), none, .mov (T 7)⟩,
      ⟨(some 21), none, .ibin .add (T 20) (.const (.int .i64 1))⟩,
      ⟨(some 7), none, .mov (T 21)⟩]))))))
  (.seq (.region [⟨(some 71), none, .mov (T 5)⟩,
    ⟨(some 4), none, .mov (T 71)⟩])
  .ret)))))
theorem f10 : fnC Try.prog 10 = some (c10, 72, [(.tmp 4)]) := by kernel_rfl

/-- (*errata.Hall).Shown -/
def c11 : CCode :=
  (.seq (.region [⟨(some 4), none, .mov (.const (.slice none 0 0))⟩])
  (.seq (.seq (.region [⟨(some 5), none, .mov (T 0)⟩,
    ⟨(some 6), none, .isNil false false (T 5) (.const (.pointer none))⟩,
    ⟨(some 7), none, .mov (T 6)⟩,
    ⟨(some 8), (some (7, false)), .mov (T 1)⟩,
    ⟨(some 9), (some (7, false)), .ibin .lss (T 8) (.const (.int .i64 0))⟩,
    ⟨(some 10), none, .pick (T 7) (.const (.bool true)) (T 9)⟩,
    ⟨(some 11), none, .mov (T 10)⟩,
    ⟨(some 12), (some (11, false)), .mov (T 1)⟩,
    ⟨(some 13), (some (11, false)), .mov (T 0)⟩,
    ⟨(some 14), (some (11, false)), .nilCheck (T 13)⟩,
    ⟨(some 15), (some (11, false)), .fieldAddr 0 (T 14)⟩,
    ⟨(some 16), (some (11, false)), .load false 1 (T 15)⟩,
    ⟨(some 17), (some (11, false)), .len (T 16)⟩,
    ⟨(some 18), (some (11, false)), .ibin .geq (T 12) (T 17)⟩,
    ⟨(some 19), none, .pick (T 11) (.const (.bool true)) (T 18)⟩,
    ⟨(some 20), none, .mov (T 19)⟩,
    ⟨(some 21), (some (20, false)), .mov (T 0)⟩,
    ⟨(some 22), (some (20, false)), .nilCheck (T 21)⟩,
    ⟨(some 23), (some (20, false)), .fieldAddr 0 (T 22)⟩,
    ⟨(some 24), (some (20, false)), .load false 1 (T 23)⟩,
    ⟨(some 25), (some (20, false)), .mov (T 1)⟩,
    ⟨(some 26), (some (20, false)), .idxS 8 (T 24) (T 25)⟩,
    ⟨(some 27), (some (20, false)), .fieldAddr 1 (T 26)⟩,
    ⟨(some 28), (some (20, false)), .load false 1 (T 27)⟩,
    ⟨(some 29), (some (20, false)), .lnot (T 28)⟩,
    ⟨(some 30), none, .pick (T 20) (.const (.bool true)) (T 29)⟩])
  (.cond (T 30)
    (.seq (.region [⟨(some 4), none, .mov (.const (.slice none 0 0))⟩])
    .ret)
    .skip))
  (.seq (.drawn [⟨(some 31), none, .mov (T 0)⟩,
    ⟨(some 32), none, .nilCheck (T 31)⟩,
    ⟨(some 33), none, .fieldAddr 1 (T 32)⟩,
    ⟨(some 34), none, .load false 1 (T 33)⟩,
    ⟨(some 35), none, .mov (T 0)⟩,
    ⟨(some 36), none, .nilCheck (T 35)⟩,
    ⟨(some 37), none, .fieldAddr 0 (T 36)⟩,
    ⟨(some 38), none, .load false 1 (T 37)⟩,
    ⟨(some 39), none, .mov (T 1)⟩,
    ⟨(some 40), none, .idxS 8 (T 38) (T 39)⟩,
    ⟨(some 41), none, .fieldAddr 2 (T 40)⟩,
    ⟨(some 42), none, .load false 1 (T 41)⟩,
    ⟨(some 43), none, .slice 1 (T 34) none (some (T 42))⟩] [(⟨(some 44), none, .call (.func 28) [(T 43)]⟩, []), (⟨(some 4), none, .mov (T 44)⟩, [])])
  .ret)))
theorem f11 : fnC Try.prog 11 = some (c11, 45, [(.tmp 4)]) := by kernel_rfl

/-- (*errata.Hall).Answers -/
def c12 : CCode :=
  (.seq (.region [⟨(some 2), none, .mov (.const (.slice none 0 0))⟩])
  (.seq (.seq (.region [⟨(some 3), none, .mov (T 0)⟩,
    ⟨(some 4), none, .isNil false false (T 3) (.const (.pointer none))⟩])
  (.cond (T 4)
    (.seq (.region [⟨(some 2), none, .mov (.const (.slice none 0 0))⟩])
    .ret)
    .skip))
  (.seq (.region [⟨(some 5), none, .mov (T 0)⟩,
    ⟨(some 6), none, .nilCheck (T 5)⟩,
    ⟨(some 7), none, .fieldAddr 3 (T 6)⟩,
    ⟨(some 8), none, .load false 1 (T 7)⟩,
    ⟨(some 9), none, .call (.func 29) [(T 8)]⟩,
    ⟨(some 2), none, .mov (T 9)⟩])
  .ret)))
theorem f12 : fnC Try.prog 12 = some (c12, 10, [(.tmp 2)]) := by kernel_rfl

/-- dactyllaw41.does -/
def c13 : CCode :=
  (.seq (.region [⟨(some 3), none, .box 34 (T 1)⟩,
    ⟨(some 4), none, .mov (.const (.int .i64 0))⟩])
  (.seq (.seq (.region [⟨(some 5), none, .fieldAddr 0 (T 3)⟩,
    ⟨(some 6), none, .load false 1 (T 5)⟩,
    ⟨(some 7), none, .ibin .neq (T 6) (.const (.int .i64 0))⟩])
  (.cond (T 7)
    (.seq (.region [⟨(some 8), none, .mov (T 0)⟩,
      ⟨(some 9), none, .fieldAddr 0 (T 3)⟩,
      ⟨(some 10), none, .load false 1 (T 9)⟩,
      ⟨(some 11), none, .call (.func 19) [(T 8), (T 10)]⟩,
      ⟨(some 4), none, .mov (T 11)⟩])
    .ret)
    .skip))
  (.seq (.region [⟨(some 12), none, .mov (T 0)⟩,
    ⟨(some 13), none, .fieldAddr 1 (T 3)⟩,
    ⟨(some 14), none, .load true 5 (T 13)⟩,
    ⟨(some 15), none, .call (.func 18) [(T 12), (T 14)]⟩,
    ⟨(some 4), none, .mov (T 15)⟩])
  .ret)))
theorem f13 : fnC Try.prog 13 = some (c13, 16, [(.tmp 4)]) := by kernel_rfl

/-- dactyllaw41.begins -/
def c14 : CCode :=
  (.seq (.region [⟨(some 4), none, .mov (.const (.bool false))⟩])
  (.seq (.region [⟨(some 5), none, .mov (T 0)⟩,
    ⟨(some 6), none, .len (T 5)⟩,
    ⟨(some 7), none, .mov (T 1)⟩,
    ⟨(some 8), none, .len (T 7)⟩,
    ⟨(some 9), none, .ibin .leq (T 6) (T 8)⟩,
    ⟨(some 10), none, .mov (T 9)⟩,
    ⟨(some 11), (some (10, true)), .mov (T 0)⟩,
    ⟨(some 12), (some (10, true)), .mov (T 1)⟩,
    ⟨(some 13), (some (10, true)), .mov (T 0)⟩,
    ⟨(some 14), (some (10, true)), .len (T 13)⟩,
    ⟨(some 15), (some (10, true)), .mov (T 1)⟩,
    ⟨(some 16), (some (10, true)), .len (T 15)⟩,
    ⟨(some 17), (some (10, true)), .imin (T 14) (T 16)⟩,
    ⟨(some 18), (some (10, true)), .slice 1 (T 12) none (some (T 17))⟩,
    ⟨(some 19), (some (10, true)), .call (.func 30) [(T 11), (T 18)]⟩,
    ⟨(some 20), none, .pick (T 10) (T 19) (.const (.bool false))⟩,
    ⟨(some 4), none, .mov (T 20)⟩])
  .ret))
theorem f14 : fnC Try.prog 14 = some (c14, 21, [(.tmp 4)]) := by kernel_rfl

/-- (*errata.Hall).Moment -/
def c15 : CCode :=
  (.seq (.region [⟨(some 2), none, .mov (.const (.int .i64 0))⟩])
  (.seq (.seq (.region [⟨(some 3), none, .mov (T 0)⟩,
    ⟨(some 4), none, .isNil false false (T 3) (.const (.pointer none))⟩])
  (.cond (T 4)
    (.seq (.region [⟨(some 2), none, .mov (.const (.int .i64 0))⟩])
    .ret)
    .skip))
  (.seq (.region [⟨(some 5), none, .mov (T 0)⟩,
    ⟨(some 6), none, .nilCheck (T 5)⟩,
    ⟨(some 7), none, .fieldAddr 1 (T 6)⟩,
    ⟨(some 8), none, .load false 1 (T 7)⟩,
    ⟨(some 9), none, .len (T 8)⟩,
    ⟨(some 2), none, .mov (T 9)⟩])
  .ret)))
theorem f15 : fnC Try.prog 15 = some (c15, 10, [(.tmp 2)]) := by kernel_rfl

/-- dactyllaw41.lives -/
def c16 : CCode :=
  (.seq (.region [⟨(some 0), none, .mov (.const (.bool false))⟩])
  (.seq (.region [⟨(some 8), none, .call (.func 9) [(.const (.int .i64 2))]⟩,
    ⟨(some 7), none, .mov (T 8)⟩,
    ⟨(some 9), none, .extract (T 7) 0⟩,
    ⟨(some 10), none, .extract (T 7) 1⟩,
    ⟨(some 1), none, .mov (T 9)⟩,
    ⟨(some 2), none, .mov (T 10)⟩])
  (.seq (.seq (.region [⟨(some 11), none, .mov (T 2)⟩,
    ⟨(some 12), none, .ibin .neq (T 11) (.const (.int .i64 0))⟩])
  (.cond (T 12)
    (.seq (.region [⟨(some 0), none, .mov (.const (.bool false))⟩])
    .ret)
    .skip))
  (.seq (.region [⟨(some 13), none, .mov (T 1)⟩,
    ⟨(some 14), none, .call (.func 19) [(T 13), (.const (.int .i64 7))]⟩,
    ⟨(some 15), none, .ibin .eql (T 14) (.const (.int .i64 0))⟩,
    ⟨(some 16), none, .mov (T 15)⟩,
    ⟨(some 17), (some (16, true)), .mov (T 1)⟩,
    ⟨(some 18), (some (16, true)), .call (.func 17) [(T 17), (.const (.int .i64 0)), (.const (.int .i64 0)), (.const (.int .i64 0))]⟩,
    ⟨(some 19), none, .pick (T 16) (T 18) (.const (.bool false))⟩,
    ⟨(some 20), none, .mov (T 19)⟩,
    ⟨(some 21), (some (20, true)), .mov (T 1)⟩,
    ⟨(some 22), (some (20, true)), .call (.func 17) [(T 21), (.const (.int .i64 0)), (.const (.int .i64 1)), (.const (.int .i64 0))]⟩,
    ⟨(some 23), none, .pick (T 20) (T 22) (.const (.bool false))⟩,
    ⟨(some 24), none, .mov (T 23)⟩,
    ⟨(some 25), (some (24, true)), .mov (T 1)⟩,
    ⟨(some 26), (some (24, true)), .call (.func 17) [(T 25), (.const (.int .i64 6)), (.const (.int .i64 1)), (.const (.int .i64 5))]⟩,
    ⟨(some 27), none, .pick (T 24) (T 26) (.const (.bool false))⟩,
    ⟨(some 3), none, .mov (T 27)⟩])
  (.seq (.region [⟨(some 28), none, .mov (T 1)⟩,
    ⟨(some 29), none, .call (.func 17) [(T 28), (.const (.int .i64 0)), (.const (.int .i64 0)), (.const (.int .i64 1))]⟩,
    ⟨(some 30), none, .mov (T 29)⟩,
    ⟨(some 31), (some (30, true)), .mov (T 1)⟩,
    ⟨(some 32), (some (30, true)), .call (.func 15) [(T 31)]⟩,
    ⟨(some 33), (some (30, true)), .ibin .eql (T 32) (.const (.int .i64 0))⟩,
    ⟨(some 34), none, .pick (T 30) (T 33) (.const (.bool false))⟩,
    ⟨(some 35), none, .mov (T 34)⟩,
    ⟨(some 36), (some (35, true)), .mov (T 1)⟩,
    ⟨(some 37), (some (35, true)), .call (.func 17) [(T 36), (.const (.int .i64 0)), (.const (.int .i64 1)), (.const (.int .i64 1))]⟩,
    ⟨(some 38), none, .pick (T 35) (T 37) (.const (.bool false))⟩,
    ⟨(some 39), none, .mov (T 38)⟩,
    ⟨(some 40), (some (39, true)), .mov (T 1)⟩,
    ⟨(some 41), (some (39, true)), .call (.func 15) [(T 40)]⟩,
    ⟨(some 42), (some (39, true)), .ibin .eql (T 41) (.const (.int .i64 1))⟩,
    ⟨(some 43), none, .pick (T 39) (T 42) (.const (.bool false))⟩,
    ⟨(some 44), none, .mov (T 43)⟩,
    ⟨(some 45), (some (44, true)), .mov (T 1)⟩,
    ⟨(some 46), (some (44, true)), .call (.func 11) [(T 45), (.const (.int .i64 0))]⟩,
    ⟨(some 47), (some (44, true)), .len (T 46)⟩,
    ⟨(some 48), (some (44, true)), .ibin .eql (T 47) (.const (.int .i64 0))⟩,
    ⟨(some 49), none, .pick (T 44) (T 48) (.const (.bool false))⟩,
    ⟨(some 4), none, .mov (T 49)⟩])
  (.seq (.region [⟨(some 50), none, .mov (T 1)⟩,
    ⟨(some 51), none, .call (.func 17) [(T 50), (.const (.int .i64 0)), (.const (.int .i64 0)), (.const (.int .i64 2))]⟩,
    ⟨(some 52), none, .mov (T 51)⟩,
    ⟨(some 53), (some (52, true)), .mov (T 1)⟩,
    ⟨(some 54), (some (52, true)), .call (.func 11) [(T 53), (.const (.int .i64 0))]⟩,
    ⟨(some 55), (some (52, true)), .bslice 3 1 [(.const (.int .i64 7))]⟩,
    ⟨(some 56), (some (52, true)), .call (.func 30) [(T 54), (T 55)]⟩,
    ⟨(some 57), none, .pick (T 52) (T 56) (.const (.bool false))⟩,
    ⟨(some 58), none, .mov (T 57)⟩,
    ⟨(some 59), (some (58, true)), .mov (T 1)⟩,
    ⟨(some 60), (some (58, true)), .call (.func 17) [(T 59), (.const (.int .i64 6)), (.const (.int .i64 0)), (.const (.int .i64 3))]⟩,
    ⟨(some 61), none, .pick (T 58) (T 60) (.const (.bool false))⟩,
    ⟨(some 62), none, .mov (T 61)⟩,
    ⟨(some 63), (some (62, true)), .mov (T 1)⟩,
    ⟨(some 64), (some (62, true)), .call (.func 17) [(T 63), (.const (.int .i64 0)), (.const (.int .i64 1)), (.const (.int .i64 2))]⟩,
    ⟨(some 65), none, .pick (T 62) (T 64) (.const (.bool false))⟩,
    ⟨(some 66), none, .mov (T 65)⟩,
    ⟨(some 67), (some (66, true)), .mov (T 1)⟩,
    ⟨(some 68), (some (66, true)), .call (.func 17) [(T 67), (.const (.int .i64 6)), (.const (.int .i64 1)), (.const (.int .i64 4))]⟩,
    ⟨(some 69), none, .pick (T 66) (T 68) (.const (.bool false))⟩,
    ⟨(some 5), none, .mov (T 69)⟩])
  (.seq (.seq (.region [⟨(some 70), none, .mov (T 3)⟩,
    ⟨(some 71), none, .lnot (T 70)⟩,
    ⟨(some 72), none, .mov (T 71)⟩,
    ⟨(some 73), (some (72, false)), .mov (T 4)⟩,
    ⟨(some 74), (some (72, false)), .lnot (T 73)⟩,
    ⟨(some 75), none, .pick (T 72) (.const (.bool true)) (T 74)⟩,
    ⟨(some 76), none, .mov (T 75)⟩,
    ⟨(some 77), (some (76, false)), .mov (T 5)⟩,
    ⟨(some 78), (some (76, false)), .lnot (T 77)⟩,
    ⟨(some 79), none, .pick (T 76) (.const (.bool true)) (T 78)⟩,
    ⟨(some 80), none, .mov (T 79)⟩,
    ⟨(some 81), (some (80, false)), .mov (T 1)⟩,
    ⟨(some 82), (some (80, false)), .call (.func 12) [(T 81)]⟩,
    ⟨(some 83), (some (80, false)), .build [(.val (.int .i64 0)), (.val (.int .i64 0)), (.val (.int .i64 0))] [(0, (1, (.const (.int .i64 1)))), (1, (1, (.const (.int .i64 5)))), (2, (1, (.const (.int .i64 0))))]⟩,
    ⟨(some 84), (some (80, false)), .build [(.val (.int .i64 0)), (.val (.int .i64 0)), (.val (.int .i64 0))] [(0, (1, (.const (.int .i64 0)))), (1, (1, (.const (.int .i64 3)))), (2, (1, (.const (.int .i64 1))))]⟩,
    ⟨(some 85), (some (80, false)), .build [(.val (.int .i64 0)), (.val (.int .i64 0)), (.val (.int .i64 0))] [(0, (1, (.const (.int .i64 1)))), (1, (1, (.const (.int .i64 4)))), (2, (1, (.const (.int .i64 1))))]⟩,
    ⟨(some 86), (some (80, false)), .bslice 38 3 [(T 83), (T 84), (T 85)]⟩,
    ⟨(some 87), (some (80, false)), .call (.func 31) [(T 82), (T 86)]⟩,
    ⟨(some 88), (some (80, false)), .lnot (T 87)⟩,
    ⟨(some 89), none, .pick (T 80) (.const (.bool true)) (T 88)⟩])
  (.cond (T 89)
    (.seq (.region [⟨(some 0), none, .mov (.const (.bool false))⟩])
    .ret)
    .skip))
  (.seq (.region [⟨(some 90), none, .mov (T 1)⟩,
    ⟨(some 91), none, .call (.func 17) [(T 90), (.const (.int .i64 3)), (.const (.int .i64 1)), (.const (.int .i64 0))]⟩,
    ⟨(some 92), none, .mov (T 91)⟩,
    ⟨(some 93), (some (92, true)), .mov (T 1)⟩,
    ⟨(some 94), (some (92, true)), .call (.func 17) [(T 93), (.const (.int .i64 4)), (.const (.int .i64 1)), (.const (.int .i64 0))]⟩,
    ⟨(some 95), none, .pick (T 92) (T 94) (.const (.bool false))⟩,
    ⟨(some 96), none, .mov (T 95)⟩,
    ⟨(some 97), (some (96, true)), .mov (T 1)⟩,
    ⟨(some 98), (some (96, true)), .build [(.val (.int .i64 0)), (.val (.int .i64 0)), (.val (.int .i64 0)), (.val (.int .i64 0)), (.val (.int .i64 0))] [(2, (1, (.const (.int .i64 6)))), (1, (1, (.const (.int .i64 1))))]⟩,
    ⟨(some 99), (some (96, true)), .call (.func 18) [(T 97), (T 98)]⟩,
    ⟨(some 100), (some (96, true)), .ibin .eql (T 99) (.const (.int .i64 21))⟩,
    ⟨(some 101), none, .pick (T 96) (T 100) (.const (.bool false))⟩,
    ⟨(some 102), none, .mov (T 101)⟩,
    ⟨(some 103), (some (102, true)), .mov (T 1)⟩,
    ⟨(some 104), (some (102, true)), .call (.func 11) [(T 103), (.const (.int .i64 1))]⟩,
    ⟨(some 105), (some (102, true)), .len (T 104)⟩,
    ⟨(some 106), (some (102, true)), .ibin .eql (T 105) (.const (.int .i64 0))⟩,
    ⟨(some 107), none, .pick (T 102) (T 106) (.const (.bool false))⟩,
    ⟨(some 6), none, .mov (T 107)⟩])
  (.seq (.region [⟨(some 108), none, .mov (T 6)⟩,
    ⟨(some 109), none, .mov (T 108)⟩,
    ⟨(some 110), (some (109, true)), .mov (T 1)⟩,
    ⟨(some 111), (some (109, true)), .call (.func 17) [(T 110), (.const (.int .i64 0)), (.const (.int .i64 1)), (.const (.int .i64 2))]⟩,
    ⟨(some 112), none, .pick (T 109) (T 111) (.const (.bool false))⟩,
    ⟨(some 113), none, .mov (T 112)⟩,
    ⟨(some 114), (some (113, true)), .mov (T 1)⟩,
    ⟨(some 115), (some (113, true)), .call (.func 11) [(T 114), (.const (.int .i64 1))]⟩,
    ⟨(some 116), (some (113, true)), .bslice 3 1 [(.const (.int .i64 7))]⟩,
    ⟨(some 117), (some (113, true)), .call (.func 30) [(T 115), (T 116)]⟩,
    ⟨(some 118), none, .pick (T 113) (T 117) (.const (.bool false))⟩,
    ⟨(some 0), none, .mov (T 118)⟩])
  .ret)))))))))
theorem f16 : fnC Try.prog 16 = some (c16, 119, [(.tmp 0)]) := by kernel_rfl

/-- dactyllaw41.event -/
def c17 : CCode :=
  (.seq (.region [⟨(some 8), none, .mov (.const (.bool false))⟩])
  (.seq (.region [⟨(some 9), none, .mov (T 0)⟩,
    ⟨(some 10), none, .mov (T 1)⟩,
    ⟨(some 11), none, .mov (T 2)⟩,
    ⟨(some 12), none, .mov (T 3)⟩,
    ⟨(some 13), none, .build [(.val (.int .i64 0)), (.val (.int .i64 0)), (.val (.int .i64 0)), (.val (.int .i64 0)), (.val (.int .i64 0))] [(2, (1, (T 10))), (1, (1, (T 11))), (3, (1, (T 12)))]⟩,
    ⟨(some 14), none, .call (.func 18) [(T 9), (T 13)]⟩,
    ⟨(some 15), none, .ibin .eql (T 14) (.const (.int .i64 0))⟩,
    ⟨(some 8), none, .mov (T 15)⟩])
  .ret))
theorem f17 : fnC Try.prog 17 = some (c17, 16, [(.tmp 8)]) := by kernel_rfl

/-- (*errata.Hall).Step -/
def c18 : CCode :=
  (.seq (.region [⟨(some 3), none, .box 32 (T 1)⟩,
    ⟨(some 4), none, .mov (.const (.int .i64 0))⟩])
  (.seq (.region [⟨(some 6), none, .build [(.val .nilFunc), (.val .nilFunc), (.val .nilFunc), (.val .nilFunc), (.val .nilFunc), (.val .nilFunc), (.val .nilFunc)] [(0, (1, (.func 32))), (1, (1, (.func 33))), (2, (1, (.func 34))), (3, (1, (.func 35))), (4, (1, (.func 36))), (5, (1, (.func 37))), (6, (1, (.func 38)))]⟩,
    ⟨(some 5), none, .alloc 69 (.agg [(.val .nilFunc), (.val .nilFunc), (.val .nilFunc), (.val .nilFunc), (.val .nilFunc), (.val .nilFunc), (.val .nilFunc)])⟩,
    ⟨none, none, .store 7 (T 5) (T 6)⟩])
  (.seq (.seq (.drawn [⟨(some 7), none, .mov (T 0)⟩,
    ⟨(some 8), none, .isNil false false (T 7) (.const (.pointer none))⟩,
    ⟨(some 9), none, .mov (T 8)⟩,
    ⟨(some 10), (some (9, false)), .fieldAddr 2 (T 3)⟩,
    ⟨(some 11), (some (9, false)), .load false 1 (T 10)⟩,
    ⟨(some 12), (some (9, false)), .ibin .lss (T 11) (.const (.int .i64 0))⟩,
    ⟨(some 13), none, .pick (T 9) (.const (.bool true)) (T 12)⟩,
    ⟨(some 14), none, .mov (T 13)⟩,
    ⟨(some 15), (some (14, false)), .fieldAddr 2 (T 3)⟩,
    ⟨(some 16), (some (14, false)), .load false 1 (T 15)⟩,
    ⟨(some 17), (some (14, false)), .ibin .geq (T 16) (.const (.int .i64 7))⟩,
    ⟨(some 18), none, .pick (T 14) (.const (.bool true)) (T 17)⟩,
    ⟨(some 19), none, .mov (T 18)⟩,
    ⟨(some 20), (some (19, false)), .fieldAddr 1 (T 3)⟩,
    ⟨(some 21), (some (19, false)), .load false 1 (T 20)⟩,
    ⟨(some 22), (some (19, false)), .ibin .lss (T 21) (.const (.int .i64 0))⟩,
    ⟨(some 23), none, .pick (T 19) (.const (.bool true)) (T 22)⟩,
    ⟨(some 24), none, .mov (T 23)⟩,
    ⟨(some 25), (some (24, false)), .fieldAddr 1 (T 3)⟩,
    ⟨(some 26), (some (24, false)), .load false 1 (T 25)⟩,
    ⟨(some 27), (some (24, false)), .mov (T 0)⟩,
    ⟨(some 28), (some (24, false)), .nilCheck (T 27)⟩,
    ⟨(some 29), (some (24, false)), .fieldAddr 0 (T 28)⟩,
    ⟨(some 30), (some (24, false)), .load false 1 (T 29)⟩,
    ⟨(some 31), (some (24, false)), .len (T 30)⟩,
    ⟨(some 32), (some (24, false)), .ibin .geq (T 26) (T 31)⟩,
    ⟨(some 33), none, .pick (T 24) (.const (.bool true)) (T 32)⟩] [])
  (.cond (T 33)
    (.seq (.region [⟨(some 4), none, .mov (.const (.int .i64 1))⟩])
    .ret)
    .skip))
  (.seq (.drawn [⟨(some 34), none, .fieldAddr 2 (T 3)⟩,
    ⟨(some 35), none, .load false 1 (T 34)⟩,
    ⟨(some 36), none, .idxA 7 1 (T 5) (T 35)⟩,
    ⟨(some 37), none, .load false 1 (T 36)⟩,
    ⟨(some 38), none, .mov (T 0)⟩,
    ⟨(some 39), none, .mov (T 0)⟩,
    ⟨(some 40), none, .nilCheck (T 39)⟩,
    ⟨(some 41), none, .fieldAddr 0 (T 40)⟩,
    ⟨(some 42), none, .load false 1 (T 41)⟩,
    ⟨(some 43), none, .fieldAddr 1 (T 3)⟩,
    ⟨(some 44), none, .load false 1 (T 43)⟩,
    ⟨(some 45), none, .idxS 8 (T 42) (T 44)⟩,
    ⟨(some 46), none, .load true 5 (T 3)⟩] [(⟨(some 47), none, .call (T 37) [(T 38), (T 45), (T 46)]⟩, []), (⟨(some 4), none, .mov (T 47)⟩, [])])
  .ret))))
theorem f18 : fnC Try.prog 18 = some (c18, 48, [(.tmp 4)]) := by kernel_rfl

/-- (*errata.Hall).Announce -/
def c19 : CCode :=
  (.seq (.region [⟨(some 2), none, .box 24 (T 0)⟩,
    ⟨(some 4), none, .mov (.const (.int .i64 0))⟩])
  (.seq (.block 0 (.seq (.region [⟨(some 6), none, .load false 1 (T 2)⟩,
    ⟨(some 7), none, .isNil false false (T 6) (.const (.pointer none))⟩,
    ⟨(some 8), none, .mov (T 7)⟩,
    ⟨(some 9), (some (8, false)), .mov (T 1)⟩,
    ⟨(some 10), (some (8, false)), .ibin .lss (T 9) (.const (.int .i64 1))⟩,
    ⟨(some 11), none, .pick (T 8) (.const (.bool true)) (T 10)⟩,
    ⟨(some 12), none, .mov (T 11)⟩,
    ⟨(some 13), (some (12, false)), .mov (T 1)⟩,
    ⟨(some 14), (some (12, false)), .ibin .gtr (T 13) (.const (.int .i64 1000))⟩,
    ⟨(some 15), none, .pick (T 12) (.const (.bool true)) (T 14)⟩,
    ⟨(some 5), none, .mov (T 15)⟩])
  (.cond (T 5)
    (.seq (.region [⟨(some 4), none, .mov (.const (.int .i64 1))⟩])
    .ret)
    (.seq (.region [⟨(some 17), none, .mov (T 1)⟩,
      ⟨(some 18), none, .load false 1 (T 2)⟩,
      ⟨(some 19), none, .nilCheck (T 18)⟩,
      ⟨(some 20), none, .fieldAddr 2 (T 19)⟩,
      ⟨(some 21), none, .load false 1 (T 20)⟩,
      ⟨(some 22), none, .ibin .eql (T 17) (T 21)⟩,
      ⟨(some 23), none, .mov (T 22)⟩,
      ⟨(some 24), (some (23, false)), .load false 1 (T 2)⟩,
      ⟨(some 25), (some (23, false)), .nilCheck (T 24)⟩,
      ⟨(some 26), (some (23, false)), .fieldAddr 1 (T 25)⟩,
      ⟨(some 27), (some (23, false)), .load false 1 (T 26)⟩,
      ⟨(some 28), (some (23, false)), .mov (T 1)⟩,
      ⟨(some 29), (some (23, false)), .call (.func 39) [(T 27), (T 28)]⟩,
      ⟨(some 30), none, .pick (T 23) (.const (.bool true)) (T 29)⟩,
      ⟨(some 16), none, .mov (T 30)⟩])
    (.cond (T 16)
      (.seq (.region [⟨(some 4), none, .mov (.const (.int .i64 7))⟩])
      .ret)
      (.seq (.region [⟨(some 32), none, .load false 1 (T 2)⟩,
        ⟨(some 33), none, .nilCheck (T 32)⟩,
        ⟨(some 34), none, .fieldAddr 2 (T 33)⟩,
        ⟨(some 35), none, .load false 1 (T 34)⟩,
        ⟨(some 36), none, .ibin .neq (T 35) (.const (.int .i64 0))⟩,
        ⟨(some 31), none, .mov (T 36)⟩])
      (.cond (T 31)
        (.seq (.region [⟨(some 4), none, .mov (.const (.int .i64 8))⟩])
        .ret)
        .skip)))))))
  (.seq (.region [⟨(some 37), none, .load false 1 (T 2)⟩,
    ⟨(some 38), none, .mov (T 1)⟩,
    ⟨(some 39), none, .nilCheck (T 37)⟩,
    ⟨(some 40), none, .fieldAddr 2 (T 39)⟩,
    ⟨none, none, .store 1 (T 40) (T 38)⟩])
  (.seq (.region [⟨(some 41), none, .load false 1 (T 2)⟩,
    ⟨(some 42), none, .mkfunc (.func 41) [(T 2)]⟩,
    ⟨(some 43), none, .call (.func 40) [(T 41), (T 42), (.func 43)]⟩])
  (.seq (.region [⟨(some 44), none, .load false 1 (T 2)⟩,
    ⟨(some 45), none, .call (.func 44) [(T 44)]⟩])
  (.seq (.region [⟨(some 4), none, .mov (.const (.int .i64 0))⟩])
  .ret))))))
theorem f19 : fnC Try.prog 19 = some (c19, 46, [(.tmp 4)]) := by kernel_rfl

/-- dactylref41.New -/
def c20 : CCode :=
  (.seq (.region [⟨(some 2), none, .mov (.const (.pointer none))⟩,
    ⟨(some 3), none, .mov (.const (.int .i64 0))⟩])
  (.seq (.seq (.region [⟨(some 6), none, .mov (T 0)⟩,
    ⟨(some 7), none, .ibin .lss (T 6) (.const (.int .i64 1))⟩,
    ⟨(some 8), none, .mov (T 7)⟩,
    ⟨(some 9), (some (8, false)), .mov (T 0)⟩,
    ⟨(some 10), (some (8, false)), .ibin .gtr (T 9) (.const (.int .i64 8))⟩,
    ⟨(some 11), none, .pick (T 8) (.const (.bool true)) (T 10)⟩])
  (.cond (T 11)
    (.seq (.region [⟨(some 2), none, .mov (.const (.pointer none))⟩,
      ⟨(some 3), none, .mov (.const (.int .i64 1))⟩])
    .ret)
    .skip))
  (.seq (.region [⟨(some 12), none, .build [(.val (.slice none 0 0)), (.val (.slice none 0 0)), (.val (.int .i64 0)), (.val (.slice none 0 0))] []⟩,
    ⟨(some 13), none, .box 76 (T 12)⟩,
    ⟨(some 4), none, .mov (T 13)⟩])
  (.seq (.seq (.region [⟨(some 5), none, .mov (.const (.int .i64 0))⟩])
  (.block 0 (.loop
    (.seq (.seq (.region [⟨(some 14), none, .mov (T 5)⟩,
      ⟨(some 15), none, .mov (T 0)⟩,
      ⟨(some 16), none, .ibin .lss (T 14) (T 15)⟩])
    (.cond (T 16)
      .skip
      (.exit 0)))
    (.seq (.block 1 (.region [⟨(some 19), none, .mov (T 4)⟩,
      ⟨(some 20), none, .mov (T 4)⟩,
      ⟨(some 21), none, .nilCheck (T 20)⟩,
      ⟨(some 22), none, .fieldAddr 0 (T 21)⟩,
      ⟨(some 23), none, .load false 1 (T 22)⟩,
      ⟨(some 24), none, .build [(.val (.bool false)), (.val (.bool false)), (.val (.int .i64 0)), (.val (.bool false)), (.val (.bool false)), (.val (.bool false)), (.val (.bool false)), (.val (.bool false))] [(0, (1, (.const (.bool true)))), (1, (1, (.const (.bool true))))]⟩,
      ⟨(some 25), none, .bslice 78 8 [(T 24)]⟩,
      ⟨(some 26), none, .append 78 8 24 (T 23) (T 25)⟩,
      ⟨(some 27), none, .nilCheck (T 19)⟩,
      ⟨(some 28), none, .fieldAddr 0 (T 27)⟩,
      ⟨none, none, .store 1 (T 28) (T 26)⟩]))
    (.region [⟨(some 17), none, .mov (T 5)⟩,
      ⟨(some 18), none, .ibin .add (T 17) (.const (.int .i64 1))⟩,
      ⟨(some 5), none, .mov (T 18)⟩]))))))
  (.seq (.region [⟨(some 29), none, .mov (T 4)⟩,
    ⟨(some 2), none, .mov (T 29)⟩,
    ⟨(some 3), none, .mov (.const (.int .i64 0))⟩])
  .ret)))))
theorem f20 : fnC Try.prog 20 = some (c20, 30, [(.tmp 2), (.tmp 3)]) := by kernel_rfl

/-- dactyllaw41.agree -/
def c21 : CCode :=
  (.seq (.region [⟨(some 4), none, .mov (.const (.bool false))⟩])
  (.seq (.seq (.drawn [⟨(some 6), none, .mov (T 0)⟩,
    ⟨(some 7), none, .call (.func 15) [(T 6)]⟩,
    ⟨(some 8), none, .mov (T 1)⟩,
    ⟨(some 9), none, .nilCheck (T 8)⟩,
    ⟨(some 10), none, .fieldAddr 1 (T 9)⟩,
    ⟨(some 11), none, .load false 1 (T 10)⟩,
    ⟨(some 12), none, .len (T 11)⟩,
    ⟨(some 13), none, .ibin .neq (T 7) (T 12)⟩,
    ⟨(some 14), none, .mov (T 13)⟩,
    ⟨(some 15), (some (14, false)), .mov (T 0)⟩,
    ⟨(some 16), (some (14, false)), .call (.func 12) [(T 15)]⟩,
    ⟨(some 17), (some (14, false)), .mov (T 1)⟩,
    ⟨(some 18), (some (14, false)), .nilCheck (T 17)⟩,
    ⟨(some 19), (some (14, false)), .fieldAddr 3 (T 18)⟩,
    ⟨(some 20), (some (14, false)), .load false 1 (T 19)⟩] [(⟨(some 21), (some (14, false)), .call (.func 31) [(T 16), (T 20)]⟩, []), (⟨(some 22), (some (14, false)), .lnot (T 21)⟩, []), (⟨(some 23), none, .pick (T 14) (.const (.bool true)) (T 22)⟩, [])])
  (.cond (T 23)
    (.seq (.region [⟨(some 4), none, .mov (.const (.bool false))⟩])
    .ret)
    .skip))
  (.seq (.seq (.region [⟨(some 5), none, .mov (.const (.int .i64 (-1)))⟩])
  (.block 0 (.loop
    (.seq (.seq (.region [⟨(some 24), none, .mov (T 5)⟩,
      ⟨(some 25), none, .mov (T 1)⟩,
      ⟨(some 26), none, .nilCheck (T 25)⟩,
      ⟨(some 27), none, .fieldAddr 0 (T 26)⟩,
      ⟨(some 28), none, .load false 1 (T 27)⟩,
      ⟨(some 29), none, .len (T 28)⟩,
      ⟨(some 30), none, .ibin .leq (T 24) (T 29)⟩])
    (.cond (T 30)
      .skip
      (.exit 0)))
    (.seq (.block 1 (.seq (.region [⟨(some 33), none, .mov (T 0)⟩,
      ⟨(some 34), none, .mov (T 5)⟩,
      ⟨(some 35), none, .call (.func 11) [(T 33), (T 34)]⟩,
      ⟨(some 36), none, .mov (T 1)⟩,
      ⟨(some 37), none, .mov (T 5)⟩,
      ⟨(some 38), none, .call (.func 45) [(T 36), (T 37)]⟩,
      ⟨(some 39), none, .call (.func 30) [(T 35), (T 38)]⟩,
      ⟨(some 40), none, .lnot (T 39)⟩])
    (.cond (T 40)
      (.seq (.region [⟨(some 4), none, .mov (.const (.bool false))⟩])
      .ret)
      .skip)))
    (.region [⟨(some 31), none, .mov (T 5)⟩,
      ⟨(some 32), none, .ibin .add (T 31) (.const (.int .i64 1))⟩,
      ⟨(some 5), none, .mov (T 32)⟩]))))))
  (.seq (.region [⟨(some 4), none, .mov (.const (.bool true))⟩])
  .ret))))
theorem f21 : fnC Try.prog 21 = some (c21, 41, [(.tmp 4)]) := by kernel_rfl

/-- (*dactylref41.Hall).Step -/
def c22 : CCode :=
  (.seq (.region [⟨(some 3), none, .box 32 (T 1)⟩,
    ⟨(some 4), none, .mov (.const (.int .i64 0))⟩])
  (.seq (.seq (.drawn [⟨(some 6), none, .fieldAddr 2 (T 3)⟩,
    ⟨(some 7), none, .load false 1 (T 6)⟩,
    ⟨(some 8), none, .ibin .lss (T 7) (.const (.int .i64 0))⟩,
    ⟨(some 9), none, .mov (T 8)⟩,
    ⟨(some 10), (some (9, false)), .fieldAddr 2 (T 3)⟩,
    ⟨(some 11), (some (9, false)), .load false 1 (T 10)⟩,
    ⟨(some 12), (some (9, false)), .ibin .gtr (T 11) (.const (.int .i64 6))⟩,
    ⟨(some 13), none, .pick (T 9) (.const (.bool true)) (T 12)⟩,
    ⟨(some 14), none, .mov (T 13)⟩,
    ⟨(some 15), (some (14, false)), .fieldAddr 1 (T 3)⟩,
    ⟨(some 16), (some (14, false)), .load false 1 (T 15)⟩,
    ⟨(some 17), (some (14, false)), .ibin .lss (T 16) (.const (.int .i64 0))⟩,
    ⟨(some 18), none, .pick (T 14) (.const (.bool true)) (T 17)⟩,
    ⟨(some 19), none, .mov (T 18)⟩,
    ⟨(some 20), (some (19, false)), .fieldAddr 1 (T 3)⟩,
    ⟨(some 21), (some (19, false)), .load false 1 (T 20)⟩,
    ⟨(some 22), (some (19, false)), .mov (T 0)⟩,
    ⟨(some 23), (some (19, false)), .nilCheck (T 22)⟩,
    ⟨(some 24), (some (19, false)), .fieldAddr 0 (T 23)⟩,
    ⟨(some 25), (some (19, false)), .load false 1 (T 24)⟩,
    ⟨(some 26), (some (19, false)), .len (T 25)⟩,
    ⟨(some 27), (some (19, false)), .ibin .geq (T 21) (T 26)⟩,
    ⟨(some 28), none, .pick (T 19) (.const (.bool true)) (T 27)⟩] [])
  (.cond (T 28)
    (.seq (.region [⟨(some 4), none, .mov (.const (.int .i64 1))⟩])
    .ret)
    .skip))
  (.seq (.drawn [⟨(some 29), none, .mov (T 0)⟩,
    ⟨(some 30), none, .nilCheck (T 29)⟩,
    ⟨(some 31), none, .fieldAddr 0 (T 30)⟩,
    ⟨(some 32), none, .load false 1 (T 31)⟩,
    ⟨(some 33), none, .fieldAddr 1 (T 3)⟩,
    ⟨(some 34), none, .load false 1 (T 33)⟩,
    ⟨(some 35), none, .idxS 8 (T 32) (T 34)⟩,
    ⟨(some 36), none, .load true 8 (T 35)⟩,
    ⟨(some 5), none, .alloc 78 (.agg [(.val (.bool false)), (.val (.bool false)), (.val (.int .i64 0)), (.val (.bool false)), (.val (.bool false)), (.val (.bool false)), (.val (.bool false)), (.val (.bool false))])⟩] [(⟨none, none, .store 8 (T 5) (T 36)⟩, [])])
  (.seq (.seq (.region [⟨(some 37), none, .fieldAddr 2 (T 3)⟩,
    ⟨(some 38), none, .load false 1 (T 37)⟩])
  (.block 0 (.seq (.region [⟨(some 40), none, .ibin .eql (T 38) (.const (.int .i64 3))⟩,
    ⟨(some 39), none, .mov (T 40)⟩])
  (.cond (T 39)
    (.seq (.seq (.region [⟨(some 41), none, .fieldAddr 0 (T 5)⟩,
      ⟨(some 42), none, .load false 1 (T 41)⟩,
      ⟨(some 43), none, .lnot (T 42)⟩])
    (.cond (T 43)
      (.seq (.region [⟨(some 4), none, .mov (.const (.int .i64 25))⟩])
      .ret)
      .skip))
    (.seq (.drawn [⟨(some 44), none, .mov (T 0)⟩,
      ⟨(some 45), none, .nilCheck (T 44)⟩,
      ⟨(some 46), none, .fieldAddr 0 (T 45)⟩,
      ⟨(some 47), none, .load false 1 (T 46)⟩,
      ⟨(some 48), none, .fieldAddr 1 (T 3)⟩,
      ⟨(some 49), none, .load false 1 (T 48)⟩,
      ⟨(some 50), none, .fieldAddr 2 (T 5)⟩,
      ⟨(some 51), none, .load false 1 (T 50)⟩,
      ⟨(some 52), none, .build [(.val (.bool false)), (.val (.bool false)), (.val (.int .i64 0)), (.val (.bool false)), (.val (.bool false)), (.val (.bool false)), (.val (.bool false)), (.val (.bool false))] [(2, (1, (T 51)))]⟩,
      ⟨(some 53), none, .idxS 8 (T 47) (T 49)⟩] [(⟨none, none, .store 8 (T 53) (T 52)⟩, [])])
    (.seq (.region [⟨(some 54), none, .mov (T 0)⟩,
      ⟨(some 55), none, .call (.func 46) [(T 54)]⟩])
    (.seq (.region [⟨(some 4), none, .mov (.const (.int .i64 0))⟩])
    .ret))))
    (.seq (.region [⟨(some 57), none, .ibin .eql (T 38) (.const (.int .i64 4))⟩,
      ⟨(some 56), none, .mov (T 57)⟩])
    (.cond (T 56)
      (.seq (.seq (.region [⟨(some 58), none, .fieldAddr 0 (T 5)⟩,
        ⟨(some 59), none, .load false 1 (T 58)⟩])
      (.cond (T 59)
        (.seq (.region [⟨(some 4), none, .mov (.const (.int .i64 8))⟩])
        .ret)
        .skip))
      (.seq (.region [⟨(some 60), none, .fieldAddr 0 (T 5)⟩,
        ⟨none, none, .store 1 (T 60) (.const (.bool true))⟩])
      (.seq (.region [⟨(some 61), none, .fieldAddr 5 (T 5)⟩,
        ⟨(some 62), none, .idxA 3 1 (T 61) (.const (.int .i64 2))⟩,
        ⟨none, none, .store 1 (T 62) (.const (.bool true))⟩])
      (.seq (.drawn [⟨(some 63), none, .mov (T 0)⟩,
        ⟨(some 64), none, .nilCheck (T 63)⟩,
        ⟨(some 65), none, .fieldAddr 0 (T 64)⟩,
        ⟨(some 66), none, .load false 1 (T 65)⟩,
        ⟨(some 67), none, .fieldAddr 1 (T 3)⟩,
        ⟨(some 68), none, .load false 1 (T 67)⟩,
        ⟨(some 69), none, .load true 8 (T 5)⟩,
        ⟨(some 70), none, .idxS 8 (T 66) (T 68)⟩] [(⟨none, none, .store 8 (T 70) (T 69)⟩, [])])
      (.seq (.region [⟨(some 4), none, .mov (.const (.int .i64 0))⟩])
      .ret)))))
      (.seq (.region [⟨(some 72), none, .ibin .eql (T 38) (.const (.int .i64 5))⟩,
        ⟨(some 71), none, .mov (T 72)⟩])
      (.cond (T 71)
        (.seq (.region [⟨(some 73), none, .mov (T 0)⟩,
          ⟨(some 74), none, .call (.func 47) [(T 73)]⟩])
        (.seq (.region [⟨(some 4), none, .mov (.const (.int .i64 0))⟩])
        .ret))
        (.seq (.region [⟨(some 76), none, .ibin .eql (T 38) (.const (.int .i64 6))⟩,
          ⟨(some 75), none, .mov (T 76)⟩])
        (.cond (T 75)
          (.seq (.seq (.region [⟨(some 77), none, .fieldAddr 0 (T 5)⟩,
            ⟨(some 78), none, .load false 1 (T 77)⟩,
            ⟨(some 79), none, .lnot (T 78)⟩])
          (.cond (T 79)
            (.seq (.region [⟨(some 4), none, .mov (.const (.int .i64 25))⟩])
            .ret)
            .skip))
          (.seq (.seq (.region [⟨(some 80), none, .fieldAddr 1 (T 5)⟩,
            ⟨(some 81), none, .load false 1 (T 80)⟩,
            ⟨(some 82), none, .lnot (T 81)⟩])
          (.cond (T 82)
            (.seq (.region [⟨(some 4), none, .mov (.const (.int .i64 21))⟩])
            .ret)
            .skip))
          (.seq (.drawn [⟨(some 83), none, .mov (T 0)⟩,
            ⟨(some 84), none, .mov (T 0)⟩,
            ⟨(some 85), none, .nilCheck (T 84)⟩,
            ⟨(some 86), none, .fieldAddr 3 (T 85)⟩,
            ⟨(some 87), none, .load false 1 (T 86)⟩,
            ⟨(some 88), none, .fieldAddr 1 (T 3)⟩,
            ⟨(some 89), none, .load false 1 (T 88)⟩,
            ⟨(some 90), none, .fieldAddr 3 (T 3)⟩,
            ⟨(some 91), none, .load false 1 (T 90)⟩,
            ⟨(some 92), none, .fieldAddr 2 (T 5)⟩,
            ⟨(some 93), none, .load false 1 (T 92)⟩,
            ⟨(some 94), none, .build [(.val (.int .i64 0)), (.val (.int .i64 0)), (.val (.int .i64 0))] [(0, (1, (T 89))), (1, (1, (T 91))), (2, (1, (T 93)))]⟩,
            ⟨(some 95), none, .bslice 38 3 [(T 94)]⟩] [(⟨(some 96), none, .append 38 3 24 (T 87) (T 95)⟩, [⟨(some 83), none, .mov (T 0)⟩]), (⟨(some 97), none, .nilCheck (T 83)⟩, []), (⟨(some 98), none, .fieldAddr 3 (T 97)⟩, []), (⟨none, none, .store 1 (T 98) (T 96)⟩, [])])
          (.seq (.region [⟨(some 4), none, .mov (.const (.int .i64 0))⟩])
          .ret))))
          .skip))))))))))
  (.seq (.region [⟨(some 99), none, .mov (T 0)⟩,
    ⟨(some 100), none, .load true 5 (T 3)⟩,
    ⟨(some 101), none, .call (.func 48) [(T 99), (T 100)]⟩,
    ⟨(some 4), none, .mov (T 101)⟩])
  .ret)))))
theorem f22 : fnC Try.prog 22 = some (c22, 102, [(.tmp 4)]) := by kernel_rfl

/-- dactyllaw41.plays -/
def c23 : CCode :=
  (.seq (.region [⟨(some 3), none, .box 34 (T 1)⟩,
    ⟨(some 4), none, .mov (.const (.int .i64 0))⟩])
  (.seq (.seq (.region [⟨(some 5), none, .fieldAddr 0 (T 3)⟩,
    ⟨(some 6), none, .load false 1 (T 5)⟩,
    ⟨(some 7), none, .ibin .neq (T 6) (.const (.int .i64 0))⟩])
  (.cond (T 7)
    (.seq (.region [⟨(some 8), none, .mov (T 0)⟩,
      ⟨(some 9), none, .fieldAddr 0 (T 3)⟩,
      ⟨(some 10), none, .load false 1 (T 9)⟩,
      ⟨(some 11), none, .call (.func 49) [(T 8), (T 10)]⟩,
      ⟨(some 4), none, .mov (T 11)⟩])
    .ret)
    .skip))
  (.seq (.region [⟨(some 12), none, .mov (T 0)⟩,
    ⟨(some 13), none, .fieldAddr 1 (T 3)⟩,
    ⟨(some 14), none, .load true 5 (T 13)⟩,
    ⟨(some 15), none, .call (.func 22) [(T 12), (T 14)]⟩,
    ⟨(some 4), none, .mov (T 15)⟩])
  .ret)))
theorem f23 : fnC Try.prog 23 = some (c23, 16, [(.tmp 4)]) := by kernel_rfl

/-- dactylref41.Odd -/
def c24 : CCode :=
  (.seq (.region [⟨(some 3), none, .box 34 (T 0)⟩,
    ⟨(some 6), none, .alloc 34 (.agg [(.val (.int .i64 0)), (.val (.int .i64 0)), (.val (.int .i64 0)), (.val (.int .i64 0)), (.val (.int .i64 0)), (.val (.int .i64 0))])⟩])
  (.seq (.seq (.region [⟨(some 7), none, .mov (T 1)⟩,
    ⟨(some 8), none, .call (.func 8) [(T 7), (.const (.int .i64 4))]⟩])
  (.block 0 (.seq (.region [⟨(some 15), none, .ibin .eql (T 8) (.const (.int .i64 0))⟩,
    ⟨(some 14), none, .mov (T 15)⟩])
  (.cond (T 14)
    (.region [⟨(some 16), none, .bslice 3 1 [(.const (.int .i64 (-1))), (.const (.int .i64 0)), (.const (.int .i64 1000)), (.const (.int .i64 1001)), (.const (.int .i64 1))]⟩,
      ⟨(some 17), none, .mov (T 2)⟩,
      ⟨(some 18), none, .call (.func 8) [(T 17), (.const (.int .i64 5))]⟩,
      ⟨(some 19), none, .idxS 1 (T 16) (T 18)⟩,
      ⟨(some 20), none, .load false 1 (T 19)⟩,
      ⟨(some 21), none, .fieldAddr 0 (T 3)⟩,
      ⟨none, none, .store 1 (T 21) (T 20)⟩])
    (.seq (.region [⟨(some 23), none, .ibin .eql (T 8) (.const (.int .i64 1))⟩,
      ⟨(some 22), none, .mov (T 23)⟩])
    (.cond (T 22)
      (.region [⟨(some 24), none, .mov (T 2)⟩,
        ⟨(some 25), none, .call (.func 8) [(T 24), (.const (.int .i64 10))]⟩,
        ⟨(some 26), none, .ibin .sub (T 25) (.const (.int .i64 2))⟩,
        ⟨(some 27), none, .fieldAddr 1 (T 3)⟩,
        ⟨(some 28), none, .fieldAddr 2 (T 27)⟩,
        ⟨none, none, .store 1 (T 28) (T 26)⟩])
      (.seq (.region [⟨(some 30), none, .ibin .eql (T 8) (.const (.int .i64 2))⟩,
        ⟨(some 29), none, .mov (T 30)⟩])
      (.cond (T 29)
        (.region [⟨(some 31), none, .mov (T 2)⟩,
          ⟨(some 32), none, .call (.func 8) [(T 31), (.const (.int .i64 11))]⟩,
          ⟨(some 33), none, .ibin .sub (T 32) (.const (.int .i64 2))⟩,
          ⟨(some 34), none, .fieldAddr 1 (T 3)⟩,
          ⟨(some 35), none, .fieldAddr 1 (T 34)⟩,
          ⟨none, none, .store 1 (T 35) (T 33)⟩])
        (.region [⟨(some 9), none, .mov (T 2)⟩,
          ⟨(some 10), none, .call (.func 8) [(T 9), (.const (.int .i64 7))]⟩,
          ⟨(some 11), none, .ibin .sub (T 10) (.const (.int .i64 2))⟩,
          ⟨(some 12), none, .fieldAddr 1 (T 3)⟩,
          ⟨(some 13), none, .fieldAddr 3 (T 12)⟩,
          ⟨none, none, .store 1 (T 13) (T 11)⟩])))))))))
  (.seq (.region [⟨(some 36), none, .load true 6 (T 3)⟩,
    ⟨none, none, .store 6 (T 6) (T 36)⟩])
  .ret)))
theorem f24 : fnC Try.prog 24 = some (c24, 37, [(.cell 6 true 6)]) := by kernel_rfl

/-- (*errata.Hall).Copy -/
def c25 : CCode :=
  (.seq (.region [⟨(some 2), none, .mov (.const (.pointer none))⟩])
  (.seq (.seq (.region [⟨(some 3), none, .mov (T 0)⟩,
    ⟨(some 4), none, .isNil false false (T 3) (.const (.pointer none))⟩])
  (.cond (T 4)
    (.seq (.region [⟨(some 2), none, .mov (.const (.pointer none))⟩])
    .ret)
    .skip))
  (.seq (.drawn [⟨(some 5), none, .mov (T 0)⟩,
    ⟨(some 6), none, .nilCheck (T 5)⟩,
    ⟨(some 7), none, .fieldAddr 0 (T 6)⟩,
    ⟨(some 8), none, .load false 1 (T 7)⟩,
    ⟨(some 9), none, .call (.func 50) [(T 8)]⟩,
    ⟨(some 10), none, .mov (T 0)⟩,
    ⟨(some 11), none, .nilCheck (T 10)⟩,
    ⟨(some 12), none, .fieldAddr 1 (T 11)⟩,
    ⟨(some 13), none, .load false 1 (T 12)⟩,
    ⟨(some 14), none, .call (.func 28) [(T 13)]⟩,
    ⟨(some 15), none, .mov (T 0)⟩,
    ⟨(some 16), none, .nilCheck (T 15)⟩,
    ⟨(some 17), none, .fieldAddr 2 (T 16)⟩,
    ⟨(some 18), none, .load false 1 (T 17)⟩,
    ⟨(some 19), none, .mov (T 0)⟩,
    ⟨(some 20), none, .nilCheck (T 19)⟩,
    ⟨(some 21), none, .fieldAddr 3 (T 20)⟩,
    ⟨(some 22), none, .load false 1 (T 21)⟩,
    ⟨(some 23), none, .call (.func 29) [(T 22)]⟩,
    ⟨(some 24), none, .build [(.val (.slice none 0 0)), (.val (.slice none 0 0)), (.val (.int .i64 0)), (.val (.slice none 0 0))] [(0, (1, (T 9))), (1, (1, (T 14))), (2, (1, (T 18))), (3, (1, (T 23)))]⟩,
    ⟨(some 25), none, .box 62 (T 24)⟩,
    ⟨(some 2), none, .mov (T 25)⟩] [])
  .ret)))
theorem f25 : fnC Try.prog 25 = some (c25, 26, [(.tmp 2)]) := by kernel_rfl

/-- slices.Repeat[[]errata.device,errata.device] -/
def c26 : CCode :=
  (.seq (.region [⟨(some 4), none, .mov (.const (.slice none 0 0))⟩])
  (.seq (.seq (.region [⟨(some 9), none, .mov (T 1)⟩,
    ⟨(some 10), none, .ibin .lss (T 9) (.const (.int .i64 0))⟩])
  (.cond (T 10)
    (.region [⟨(some 11), none, .bad⟩,
      ⟨none, none, .bad⟩])
    .skip))
  (.seq (.region [⟨(some 13), none, .mov (T 0)⟩,
    ⟨(some 14), none, .len (T 13)⟩,
    ⟨(some 15), none, .conv .u64 (T 14)⟩,
    ⟨(some 16), none, .mov (T 1)⟩,
    ⟨(some 17), none, .conv .u64 (T 16)⟩,
    ⟨(some 18), none, .call (.func 51) [(T 15), (T 17)]⟩,
    ⟨(some 12), none, .mov (T 18)⟩,
    ⟨(some 19), none, .extract (T 12) 0⟩,
    ⟨(some 20), none, .extract (T 12) 1⟩,
    ⟨(some 5), none, .mov (T 19)⟩,
    ⟨(some 6), none, .mov (T 20)⟩])
  (.seq (.seq (.region [⟨(some 21), none, .mov (T 5)⟩,
    ⟨(some 22), none, .ibin .gtr (T 21) (.const (.int .u64 0))⟩,
    ⟨(some 23), none, .mov (T 22)⟩,
    ⟨(some 24), (some (23, false)), .mov (T 6)⟩,
    ⟨(some 25), (some (23, false)), .ibin .gtr (T 24) (.const (.int .u64 9223372036854775807))⟩,
    ⟨(some 26), none, .pick (T 23) (.const (.bool true)) (T 25)⟩])
  (.cond (T 26)
    (.region [⟨(some 27), none, .bad⟩,
      ⟨none, none, .bad⟩])
    .skip))
  (.seq (.region [⟨(some 28), none, .mov (T 6)⟩,
    ⟨(some 29), none, .conv .i64 (T 28)⟩,
    ⟨(some 30), none, .mkslice 60 8 24 (.agg [(.val (.bool false)), (.val (.bool false)), (.val (.int .i64 0)), (.val (.bool false)), (.val (.bool false)), (.val (.bool false)), (.val (.bool false)), (.val (.bool false))]) (T 29) (T 29)⟩,
    ⟨(some 7), none, .mov (T 30)⟩])
  (.seq (.region [⟨(some 31), none, .mov (T 7)⟩,
    ⟨(some 32), none, .mov (T 0)⟩,
    ⟨(some 33), none, .copy 8 (T 31) (T 32)⟩,
    ⟨(some 8), none, .mov (T 33)⟩])
  (.seq (.block 0 (.loop
    (.seq (.seq (.region [⟨(some 34), none, .mov (T 8)⟩,
      ⟨(some 35), none, .mov (T 7)⟩,
      ⟨(some 36), none, .len (T 35)⟩,
      ⟨(some 37), none, .ibin .lss (T 34) (T 36)⟩])
    (.cond (T 37)
      .skip
      (.exit 0)))
    (.block 1 (.drawn [⟨(some 38), none, .mov (T 8)⟩,
      ⟨(some 39), none, .mov (T 7)⟩,
      ⟨(some 40), none, .mov (T 8)⟩,
      ⟨(some 41), none, .slice 8 (T 39) (some (T 40)) none⟩,
      ⟨(some 42), none, .mov (T 7)⟩,
      ⟨(some 43), none, .mov (T 8)⟩,
      ⟨(some 44), none, .slice 8 (T 42) none (some (T 43))⟩] [(⟨(some 45), none, .copy 8 (T 41) (T 44)⟩, [⟨(some 38), none, .mov (T 8)⟩]), (⟨(some 46), none, .ibin .add (T 38) (T 45)⟩, []), (⟨(some 8), none, .mov (T 46)⟩, [])])))))
  (.seq (.region [⟨(some 47), none, .mov (T 7)⟩,
    ⟨(some 4), none, .mov (T 47)⟩])
  .ret))))))))
theorem f26 : fnC Try.prog 26 = some (c26, 48, [(.tmp 4)]) := by kernel_rfl

/-- dactylref01.At -/
def c27 : CCode :=
  (.seq (.region [⟨(some 6), none, .mov (.const (.int .i64 0))⟩])
  (.seq (.seq (.region [⟨(some 7), none, .mov (T 1)⟩,
    ⟨(some 8), none, .ibin .lss (T 7) (.const (.int .i64 0))⟩,
    ⟨(some 9), none, .mov (T 8)⟩,
    ⟨(some 10), (some (9, false)), .mov (T 1)⟩,
    ⟨(some 11), (some (9, false)), .mov (T 0)⟩,
    ⟨(some 12), (some (9, false)), .len (T 11)⟩,
    ⟨(some 13), (some (9, false)), .ibin .geq (T 10) (T 12)⟩,
    ⟨(some 14), none, .pick (T 9) (.const (.bool true)) (T 13)⟩])
  (.cond (T 14)
    (.seq (.region [⟨(some 6), none, .mov (.const (.int .i64 0))⟩])
    .ret)
    .skip))
  (.seq (.region [⟨(some 15), none, .mov (T 0)⟩,
    ⟨(some 16), none, .mov (T 1)⟩,
    ⟨(some 17), none, .idxS 1 (T 15) (T 16)⟩,
    ⟨(some 18), none, .load false 1 (T 17)⟩,
    ⟨(some 19), none, .mov (T 2)⟩,
    ⟨(some 20), none, .call (.func 8) [(T 18), (T 19)]⟩,
    ⟨(some 6), none, .mov (T 20)⟩])
  .ret)))
theorem f27 : fnC Try.prog 27 = some (c27, 21, [(.tmp 6)]) := by kernel_rfl

/-- slices.Clone[[]int,int] -/
def c28 : CCode :=
  (.seq (.region [⟨(some 2), none, .mov (.const (.slice none 0 0))⟩])
  (.seq (.seq (.region [⟨(some 3), none, .mov (T 0)⟩,
    ⟨(some 4), none, .isNil true false (T 3) (.const (.slice none 0 0))⟩])
  (.cond (T 4)
    (.seq (.region [⟨(some 2), none, .mov (.const (.slice none 0 0))⟩])
    .ret)
    .skip))
  (.seq (.region [⟨(some 5), none, .bslice 3 1 []⟩,
    ⟨(some 6), none, .mov (T 0)⟩,
    ⟨(some 7), none, .append 3 1 8 (T 5) (T 6)⟩,
    ⟨(some 2), none, .mov (T 7)⟩])
  .ret)))
theorem f28 : fnC Try.prog 28 = some (c28, 8, [(.tmp 2)]) := by kernel_rfl

/-- slices.Clone[[][3]int,[3]int] -/
def c29 : CCode :=
  (.seq (.region [⟨(some 2), none, .mov (.const (.slice none 0 0))⟩])
  (.seq (.seq (.region [⟨(some 3), none, .mov (T 0)⟩,
    ⟨(some 4), none, .isNil true false (T 3) (.const (.slice none 0 0))⟩])
  (.cond (T 4)
    (.seq (.region [⟨(some 2), none, .mov (.const (.slice none 0 0))⟩])
    .ret)
    .skip))
  (.seq (.region [⟨(some 5), none, .bslice 38 3 []⟩,
    ⟨(some 6), none, .mov (T 0)⟩,
    ⟨(some 7), none, .append 38 3 24 (T 5) (T 6)⟩,
    ⟨(some 2), none, .mov (T 7)⟩])
  .ret)))
theorem f29 : fnC Try.prog 29 = some (c29, 8, [(.tmp 2)]) := by kernel_rfl

/-- dactylref01.SameInts -/
def c30 : CCode :=
  (.seq (.region [⟨(some 4), none, .mov (.const (.bool false))⟩])
  (.seq (.seq (.region [⟨(some 6), none, .mov (T 0)⟩,
    ⟨(some 7), none, .len (T 6)⟩,
    ⟨(some 8), none, .mov (T 1)⟩,
    ⟨(some 9), none, .len (T 8)⟩,
    ⟨(some 10), none, .ibin .neq (T 7) (T 9)⟩])
  (.cond (T 10)
    (.seq (.region [⟨(some 4), none, .mov (.const (.bool false))⟩])
    .ret)
    .skip))
  (.seq (.seq (.region [⟨(some 5), none, .mov (.const (.int .i64 0))⟩])
  (.block 0 (.loop
    (.seq (.seq (.region [⟨(some 11), none, .mov (T 5)⟩,
      ⟨(some 12), none, .mov (T 0)⟩,
      ⟨(some 13), none, .len (T 12)⟩,
      ⟨(some 14), none, .ibin .lss (T 11) (T 13)⟩])
    (.cond (T 14)
      .skip
      (.exit 0)))
    (.seq (.block 1 (.seq (.drawn [⟨(some 17), none, .mov (T 0)⟩,
      ⟨(some 18), none, .mov (T 5)⟩,
      ⟨(some 19), none, .idxS 1 (T 17) (T 18)⟩,
      ⟨(some 20), none, .load false 1 (T 19)⟩,
      ⟨(some 21), none, .mov (T 1)⟩,
      ⟨(some 22), none, .mov (T 5)⟩,
      ⟨(some 23), none, .idxS 1 (T 21) (T 22)⟩,
      ⟨(some 24), none, .load false 1 (T 23)⟩,
      ⟨(some 25), none, .ibin .neq (T 20) (T 24)⟩] [])
    (.cond (T 25)
      (.seq (.region [⟨(some 4), none, .mov (.const (.bool false))⟩])
      .ret)
      .skip)))
    (.region [⟨(some 15), none, .mov (T 5)⟩,
      ⟨(some 16), none, .ibin .add (T 15) (.const (.int .i64 1))⟩,
      ⟨(some 5), none, .mov (T 16)⟩]))))))
  (.seq (.region [⟨(some 4), none, .mov (.const (.bool true))⟩])
  .ret))))
theorem f30 : fnC Try.prog 30 = some (c30, 26, [(.tmp 4)]) := by kernel_rfl

/-- dactylref41.SameAnswers -/
def c31 : CCode :=
  (.seq (.region [⟨(some 4), none, .mov (.const (.bool false))⟩])
  (.seq (.seq (.region [⟨(some 6), none, .mov (T 0)⟩,
    ⟨(some 7), none, .len (T 6)⟩,
    ⟨(some 8), none, .mov (T 1)⟩,
    ⟨(some 9), none, .len (T 8)⟩,
    ⟨(some 10), none, .ibin .neq (T 7) (T 9)⟩])
  (.cond (T 10)
    (.seq (.region [⟨(some 4), none, .mov (.const (.bool false))⟩])
    .ret)
    .skip))
  (.seq (.seq (.region [⟨(some 5), none, .mov (.const (.int .i64 0))⟩])
  (.block 0 (.loop
    (.seq (.seq (.region [⟨(some 11), none, .mov (T 5)⟩,
      ⟨(some 12), none, .mov (T 0)⟩,
      ⟨(some 13), none, .len (T 12)⟩,
      ⟨(some 14), none, .ibin .lss (T 11) (T 13)⟩])
    (.cond (T 14)
      .skip
      (.exit 0)))
    (.seq (.block 1 (.seq (.drawn [⟨(some 17), none, .mov (T 0)⟩,
      ⟨(some 18), none, .mov (T 5)⟩,
      ⟨(some 19), none, .idxS 3 (T 17) (T 18)⟩,
      ⟨(some 20), none, .load true 3 (T 19)⟩,
      ⟨(some 21), none, .mov (T 1)⟩,
      ⟨(some 22), none, .mov (T 5)⟩,
      ⟨(some 23), none, .idxS 3 (T 21) (T 22)⟩,
      ⟨(some 24), none, .load true 3 (T 23)⟩,
      ⟨(some 25), none, .aeq true 3 (T 20) (T 24)⟩] [])
    (.cond (T 25)
      (.seq (.region [⟨(some 4), none, .mov (.const (.bool false))⟩])
      .ret)
      .skip)))
    (.region [⟨(some 15), none, .mov (T 5)⟩,
      ⟨(some 16), none, .ibin .add (T 15) (.const (.int .i64 1))⟩,
      ⟨(some 5), none, .mov (T 16)⟩]))))))
  (.seq (.region [⟨(some 4), none, .mov (.const (.bool true))⟩])
  .ret))))
theorem f31 : fnC Try.prog 31 = some (c31, 26, [(.tmp 4)]) := by kernel_rfl

/-- (*errata.Hall).arrive -/
def c32 : CCode :=
  (.seq (.region [⟨(some 5), none, .box 32 (T 2)⟩,
    ⟨(some 6), none, .mov (.const (.int .i64 0))⟩])
  (.seq (.seq (.region [⟨(some 8), none, .mov (T 1)⟩,
    ⟨(some 9), none, .fieldAddr 3 (T 5)⟩,
    ⟨(some 10), none, .load false 1 (T 9)⟩,
    ⟨(some 11), none, .call (.func 52) [(T 8), (T 10)]⟩,
    ⟨(some 7), none, .mov (T 11)⟩])
  (.seq (.region [⟨(some 12), none, .mov (T 7)⟩,
    ⟨(some 13), none, .ibin .neq (T 12) (.const (.int .i64 0))⟩])
  (.cond (T 13)
    (.seq (.region [⟨(some 14), none, .mov (T 7)⟩,
      ⟨(some 6), none, .mov (T 14)⟩])
    .ret)
    .skip)))
  (.seq (.drawn [⟨(some 15), none, .mov (T 1)⟩,
    ⟨(some 16), none, .fieldAddr 3 (T 5)⟩,
    ⟨(some 17), none, .load false 1 (T 16)⟩,
    ⟨(some 18), none, .nilCheck (T 15)⟩,
    ⟨(some 19), none, .fieldAddr 5 (T 18)⟩,
    ⟨(some 20), none, .idxA 3 1 (T 19) (T 17)⟩] [(⟨none, none, .store 1 (T 20) (.const (.bool false))⟩, [])])
  (.seq (.region [⟨(some 21), none, .mov (T 0)⟩,
    ⟨(some 22), none, .mov (T 1)⟩,
    ⟨(some 23), none, .fieldAddr 3 (T 5)⟩,
    ⟨(some 24), none, .load false 1 (T 23)⟩,
    ⟨(some 25), none, .call (.func 53) [(T 21), (T 22), (T 24)]⟩])
  (.seq (.region [⟨(some 6), none, .mov (.const (.int .i64 0))⟩])
  .ret)))))
theorem f32 : fnC Try.prog 32 = some (c32, 26, [(.tmp 6)]) := by kernel_rfl

/-- (*errata.Hall).lose -/
def c33 : CCode :=
  (.seq (.region [⟨(some 5), none, .box 32 (T 2)⟩,
    ⟨(some 6), none, .mov (.const (.int .i64 0))⟩])
  (.seq (.seq (.region [⟨(some 8), none, .mov (T 1)⟩,
    ⟨(some 9), none, .fieldAddr 3 (T 5)⟩,
    ⟨(some 10), none, .load false 1 (T 9)⟩,
    ⟨(some 11), none, .call (.func 52) [(T 8), (T 10)]⟩,
    ⟨(some 7), none, .mov (T 11)⟩])
  (.seq (.region [⟨(some 12), none, .mov (T 7)⟩,
    ⟨(some 13), none, .ibin .neq (T 12) (.const (.int .i64 0))⟩])
  (.cond (T 13)
    (.seq (.region [⟨(some 14), none, .mov (T 7)⟩,
      ⟨(some 6), none, .mov (T 14)⟩])
    .ret)
    .skip)))
  (.seq (.drawn [⟨(some 15), none, .mov (T 1)⟩,
    ⟨(some 16), none, .fieldAddr 3 (T 5)⟩,
    ⟨(some 17), none, .load false 1 (T 16)⟩,
    ⟨(some 18), none, .nilCheck (T 15)⟩,
    ⟨(some 19), none, .fieldAddr 5 (T 18)⟩,
    ⟨(some 20), none, .idxA 3 1 (T 19) (T 17)⟩] [(⟨none, none, .store 1 (T 20) (.const (.bool false))⟩, [])])
  (.seq (.region [⟨(some 6), none, .mov (.const (.int .i64 0))⟩])
  .ret))))
theorem f33 : fnC Try.prog 33 = some (c33, 21, [(.tmp 6)]) := by kernel_rfl

/-- (*errata.Hall).repeat -/
def c34 : CCode :=
  (.seq (.region [⟨(some 5), none, .box 32 (T 2)⟩,
    ⟨(some 6), none, .mov (.const (.int .i64 0))⟩])
  (.seq (.seq (.region [⟨(some 9), none, .mov (T 1)⟩,
    ⟨(some 10), none, .fieldAddr 3 (T 5)⟩,
    ⟨(some 11), none, .load false 1 (T 10)⟩,
    ⟨(some 12), none, .call (.func 52) [(T 9), (T 11)]⟩,
    ⟨(some 7), none, .mov (T 12)⟩])
  (.seq (.region [⟨(some 13), none, .mov (T 7)⟩,
    ⟨(some 14), none, .ibin .neq (T 13) (.const (.int .i64 0))⟩])
  (.cond (T 14)
    (.seq (.region [⟨(some 15), none, .mov (T 7)⟩,
      ⟨(some 6), none, .mov (T 15)⟩])
    .ret)
    .skip)))
  (.seq (.region [⟨(some 16), none, .mov (T 0)⟩,
    ⟨(some 17), none, .nilCheck (T 16)⟩,
    ⟨(some 18), none, .fieldAddr 1 (T 17)⟩,
    ⟨(some 19), none, .load false 1 (T 18)⟩,
    ⟨(some 20), none, .len (T 19)⟩,
    ⟨(some 8), none, .mov (T 20)⟩])
  (.seq (.region [⟨(some 21), none, .mov (T 0)⟩,
    ⟨(some 22), none, .mov (T 1)⟩,
    ⟨(some 23), none, .fieldAddr 3 (T 5)⟩,
    ⟨(some 24), none, .load false 1 (T 23)⟩,
    ⟨(some 25), none, .call (.func 53) [(T 21), (T 22), (T 24)]⟩])
  (.seq (.seq (.region [⟨(some 26), none, .mov (T 8)⟩,
    ⟨(some 27), none, .mov (T 0)⟩,
    ⟨(some 28), none, .nilCheck (T 27)⟩,
    ⟨(some 29), none, .fieldAddr 1 (T 28)⟩,
    ⟨(some 30), none, .load false 1 (T 29)⟩,
    ⟨(some 31), none, .len (T 30)⟩,
    ⟨(some 32), none, .ibin .eql (T 26) (T 31)⟩])
  (.cond (T 32)
    (.drawn [⟨(some 33), none, .mov (T 1)⟩,
      ⟨(some 34), none, .fieldAddr 3 (T 5)⟩,
      ⟨(some 35), none, .load false 1 (T 34)⟩,
      ⟨(some 36), none, .nilCheck (T 33)⟩,
      ⟨(some 37), none, .fieldAddr 5 (T 36)⟩,
      ⟨(some 38), none, .idxA 3 1 (T 37) (T 35)⟩] [(⟨none, none, .store 1 (T 38) (.const (.bool true))⟩, [])])
    .skip))
  (.seq (.region [⟨(some 6), none, .mov (.const (.int .i64 0))⟩])
  .ret))))))
theorem f34 : fnC Try.prog 34 = some (c34, 39, [(.tmp 6)]) := by kernel_rfl

/-- (*errata.Hall).fail -/
def c35 : CCode :=
  (.seq (.region [⟨(some 5), none, .box 32 (T 2)⟩,
    ⟨(some 6), none, .mov (.const (.int .i64 0))⟩])
  (.seq (.seq (.region [⟨(some 7), none, .mov (T 1)⟩,
    ⟨(some 8), none, .nilCheck (T 7)⟩,
    ⟨(some 9), none, .fieldAddr 0 (T 8)⟩,
    ⟨(some 10), none, .load false 1 (T 9)⟩,
    ⟨(some 11), none, .lnot (T 10)⟩])
  (.cond (T 11)
    (.seq (.region [⟨(some 6), none, .mov (.const (.int .i64 25))⟩])
    .ret)
    .skip))
  (.seq (.region [⟨(some 12), none, .mov (T 1)⟩,
    ⟨(some 13), none, .mov (T 1)⟩,
    ⟨(some 14), none, .nilCheck (T 13)⟩,
    ⟨(some 15), none, .fieldAddr 2 (T 14)⟩,
    ⟨(some 16), none, .load false 1 (T 15)⟩,
    ⟨(some 17), none, .build [(.val (.bool false)), (.val (.bool false)), (.val (.int .i64 0)), (.val (.bool false)), (.val (.bool false)), (.val (.bool false)), (.val (.bool false)), (.val (.bool false))] [(2, (1, (T 16)))]⟩,
    ⟨(some 18), none, .nilCheck (T 12)⟩,
    ⟨none, none, .store 8 (T 18) (T 17)⟩])
  (.seq (.region [⟨(some 19), none, .mov (T 0)⟩,
    ⟨(some 20), none, .call (.func 44) [(T 19)]⟩])
  (.seq (.region [⟨(some 6), none, .mov (.const (.int .i64 0))⟩])
  .ret)))))
theorem f35 : fnC Try.prog 35 = some (c35, 21, [(.tmp 6)]) := by kernel_rfl

/-- (*errata.Hall).comeBack -/
def c36 : CCode :=
  (.seq (.region [⟨(some 5), none, .box 32 (T 2)⟩,
    ⟨(some 6), none, .mov (.const (.int .i64 0))⟩])
  (.seq (.seq (.region [⟨(some 7), none, .mov (T 1)⟩,
    ⟨(some 8), none, .nilCheck (T 7)⟩,
    ⟨(some 9), none, .fieldAddr 0 (T 8)⟩,
    ⟨(some 10), none, .load false 1 (T 9)⟩])
  (.cond (T 10)
    (.seq (.region [⟨(some 6), none, .mov (.const (.int .i64 8))⟩])
    .ret)
    .skip))
  (.seq (.drawn [⟨(some 11), none, .mov (T 1)⟩,
    ⟨(some 12), none, .mov (T 1)⟩,
    ⟨(some 13), none, .nilCheck (T 11)⟩,
    ⟨(some 14), none, .fieldAddr 0 (T 13)⟩,
    ⟨(some 15), none, .nilCheck (T 12)⟩,
    ⟨(some 16), none, .fieldAddr 5 (T 15)⟩] [(⟨none, none, .store 1 (T 14) (.const (.bool true))⟩, [⟨(some 12), none, .mov (T 1)⟩, ⟨(some 15), none, .nilCheck (T 12)⟩, ⟨(some 16), none, .fieldAddr 5 (T 15)⟩]), (⟨(some 17), none, .idxA 3 1 (T 16) (.const (.int .i64 2))⟩, []), (⟨none, none, .store 1 (T 17) (.const (.bool true))⟩, [])])
  (.seq (.region [⟨(some 6), none, .mov (.const (.int .i64 0))⟩])
  .ret))))
theorem f36 : fnC Try.prog 36 = some (c36, 18, [(.tmp 6)]) := by kernel_rfl

/-- (*errata.Hall).resend -/
def c37 : CCode :=
  (.seq (.region [⟨(some 3), none, .box 24 (T 0)⟩,
    ⟨(some 5), none, .box 32 (T 2)⟩,
    ⟨(some 6), none, .mov (.const (.int .i64 0))⟩])
  (.seq (.region [⟨(some 7), none, .load false 1 (T 3)⟩,
    ⟨(some 8), none, .mkfunc (.func 55) [(T 3)]⟩,
    ⟨(some 9), none, .call (.func 40) [(T 7), (.func 54), (T 8)]⟩])
  (.seq (.region [⟨(some 6), none, .mov (.const (.int .i64 0))⟩])
  .ret)))
theorem f37 : fnC Try.prog 37 = some (c37, 10, [(.tmp 6)]) := by kernel_rfl

/-- (*errata.Hall).answer -/
def c38 : CCode :=
  (.seq (.region [⟨(some 5), none, .box 32 (T 2)⟩,
    ⟨(some 6), none, .mov (.const (.int .i64 0))⟩])
  (.seq (.seq (.region [⟨(some 7), none, .mov (T 1)⟩,
    ⟨(some 8), none, .nilCheck (T 7)⟩,
    ⟨(some 9), none, .fieldAddr 0 (T 8)⟩,
    ⟨(some 10), none, .load false 1 (T 9)⟩,
    ⟨(some 11), none, .lnot (T 10)⟩])
  (.cond (T 11)
    (.seq (.region [⟨(some 6), none, .mov (.const (.int .i64 25))⟩])
    .ret)
    .skip))
  (.seq (.seq (.region [⟨(some 12), none, .mov (T 1)⟩,
    ⟨(some 13), none, .nilCheck (T 12)⟩,
    ⟨(some 14), none, .fieldAddr 1 (T 13)⟩,
    ⟨(some 15), none, .load false 1 (T 14)⟩,
    ⟨(some 16), none, .lnot (T 15)⟩])
  (.cond (T 16)
    (.seq (.region [⟨(some 6), none, .mov (.const (.int .i64 21))⟩])
    .ret)
    .skip))
  (.seq (.drawn [⟨(some 17), none, .mov (T 0)⟩,
    ⟨(some 18), none, .mov (T 0)⟩,
    ⟨(some 19), none, .nilCheck (T 18)⟩,
    ⟨(some 20), none, .fieldAddr 3 (T 19)⟩,
    ⟨(some 21), none, .load false 1 (T 20)⟩,
    ⟨(some 22), none, .fieldAddr 1 (T 5)⟩,
    ⟨(some 23), none, .load false 1 (T 22)⟩,
    ⟨(some 24), none, .fieldAddr 3 (T 5)⟩,
    ⟨(some 25), none, .load false 1 (T 24)⟩,
    ⟨(some 26), none, .mov (T 1)⟩,
    ⟨(some 27), none, .nilCheck (T 26)⟩,
    ⟨(some 28), none, .fieldAddr 2 (T 27)⟩,
    ⟨(some 29), none, .load false 1 (T 28)⟩,
    ⟨(some 30), none, .build [(.val (.int .i64 0)), (.val (.int .i64 0)), (.val (.int .i64 0))] [(0, (1, (T 23))), (1, (1, (T 25))), (2, (1, (T 29)))]⟩,
    ⟨(some 31), none, .bslice 38 3 [(T 30)]⟩] [(⟨(some 32), none, .append 38 3 24 (T 21) (T 31)⟩, [⟨(some 17), none, .mov (T 0)⟩]), (⟨(some 33), none, .nilCheck (T 17)⟩, []), (⟨(some 34), none, .fieldAddr 3 (T 33)⟩, []), (⟨none, none, .store 1 (T 34) (T 32)⟩, [])])
  (.seq (.region [⟨(some 6), none, .mov (.const (.int .i64 0))⟩])
  .ret)))))
theorem f38 : fnC Try.prog 38 = some (c38, 35, [(.tmp 6)]) := by kernel_rfl

/-- slices.Contains[[]int,int] -/
def c39 : CCode :=
  (.seq (.region [⟨(some 4), none, .mov (.const (.bool false))⟩])
  (.seq (.region [⟨(some 5), none, .mov (T 0)⟩,
    ⟨(some 6), none, .mov (T 1)⟩,
    ⟨(some 7), none, .call (.func 56) [(T 5), (T 6)]⟩,
    ⟨(some 8), none, .ibin .geq (T 7) (.const (.int .i64 0))⟩,
    ⟨(some 4), none, .mov (T 8)⟩])
  .ret))
theorem f39 : fnC Try.prog 39 = some (c39, 9, [(.tmp 4)]) := by kernel_rfl

/-- (*errata.Hall).each -/
def c40 : CCode :=
  (.seq (.region [⟨(some 8), none, .mov (T 0)⟩,
    ⟨(some 9), none, .nilCheck (T 8)⟩,
    ⟨(some 10), none, .fieldAddr 0 (T 9)⟩,
    ⟨(some 11), none, .load false 1 (T 10)⟩,
    ⟨(some 12), none, .len (T 11)⟩,
    ⟨(some 13), none, .mov (.const (.int .i64 0))⟩])
  (.block 0 (.loop
    (.seq (.region [⟨(some 14), none, .ibin .lss (T 13) (T 12)⟩])
    (.seq (.cond (T 14)
      .skip
      (.exit 0))
    (.seq (.block 1 (.seq (.region [⟨(some 15), none, .mov (T 13)⟩,
      ⟨(some 6), none, .mov (T 15)⟩])
    (.seq (.region [⟨(some 16), none, .mov (T 0)⟩,
      ⟨(some 17), none, .nilCheck (T 16)⟩,
      ⟨(some 18), none, .fieldAddr 0 (T 17)⟩,
      ⟨(some 19), none, .load false 1 (T 18)⟩,
      ⟨(some 20), none, .mov (T 6)⟩,
      ⟨(some 21), none, .idxS 8 (T 19) (T 20)⟩,
      ⟨(some 7), none, .mov (T 21)⟩])
    (.seq (.region [⟨(some 22), none, .mov (T 1)⟩,
      ⟨(some 23), none, .mov (T 7)⟩,
      ⟨(some 24), none, .call (T 22) [(T 23)]⟩])
    (.cond (T 24)
      (.region [⟨(some 25), none, .mov (T 2)⟩,
        ⟨(some 26), none, .mov (T 7)⟩,
        ⟨(some 27), none, .call (T 25) [(T 26)]⟩])
      .skip)))))
    (.region [⟨(some 28), none, .ibin .add (T 13) (.const (.int .i64 1))⟩,
      ⟨(some 13), none, .mov (T 28)⟩])))))))
theorem f40 : fnC Try.prog 40 = some (c40, 29, []) := by kernel_rfl

/-- (*errata.Hall).Announce$1 -/
def c41 : CCode :=
  (.seq (.region [⟨(some 3), none, .mov (.const (.bool false))⟩])
  (.seq (.region [⟨(some 4), none, .load false 1 (T 1)⟩,
    ⟨(some 5), none, .mov (T 0)⟩,
    ⟨(some 6), none, .call (.func 42) [(T 4), (T 5)]⟩,
    ⟨(some 7), none, .lnot (T 6)⟩,
    ⟨(some 3), none, .mov (T 7)⟩])
  .ret))
theorem f41 : fnC Try.prog 41 = some (c41, 8, [(.tmp 3)]) := by kernel_rfl

/-- (*errata.Hall).late -/
def c42 : CCode :=
  (.seq (.region [⟨(some 4), none, .mov (.const (.bool false))⟩])
  (.seq (.drawn [⟨(some 5), none, .mov (T 1)⟩,
    ⟨(some 6), none, .nilCheck (T 5)⟩,
    ⟨(some 7), none, .fieldAddr 2 (T 6)⟩,
    ⟨(some 8), none, .load false 1 (T 7)⟩,
    ⟨(some 9), none, .mov (T 0)⟩,
    ⟨(some 10), none, .nilCheck (T 9)⟩,
    ⟨(some 11), none, .fieldAddr 1 (T 10)⟩,
    ⟨(some 12), none, .load false 1 (T 11)⟩,
    ⟨(some 13), none, .len (T 12)⟩,
    ⟨(some 14), none, .ibin .lss (T 8) (T 13)⟩,
    ⟨(some 4), none, .mov (T 14)⟩] [])
  .ret))
theorem f42 : fnC Try.prog 42 = some (c42, 15, [(.tmp 4)]) := by kernel_rfl

/-- (*errata.Hall).Announce$2 -/
def c43 : CCode :=
  (.seq (.region [⟨(some 2), none, .mov (T 0)⟩,
    ⟨(some 3), none, .mov (T 0)⟩,
    ⟨(some 4), none, .nilCheck (T 2)⟩,
    ⟨(some 5), none, .fieldAddr 3 (T 4)⟩,
    ⟨none, none, .store 1 (T 5) (.const (.bool false))⟩,
    ⟨(some 6), none, .nilCheck (T 3)⟩,
    ⟨(some 7), none, .fieldAddr 4 (T 6)⟩,
    ⟨none, none, .store 1 (T 7) (.const (.bool false))⟩])
  (.drawn [⟨(some 8), none, .mov (T 0)⟩,
    ⟨(some 9), none, .mov (T 0)⟩,
    ⟨(some 10), none, .nilCheck (T 9)⟩,
    ⟨(some 11), none, .fieldAddr 5 (T 10)⟩,
    ⟨(some 12), none, .idxA 3 1 (T 11) (.const (.int .i64 0))⟩,
    ⟨(some 13), none, .load false 1 (T 12)⟩,
    ⟨(some 14), none, .mov (T 13)⟩,
    ⟨(some 15), (some (14, false)), .mov (T 0)⟩,
    ⟨(some 16), (some (14, false)), .nilCheck (T 15)⟩,
    ⟨(some 17), (some (14, false)), .fieldAddr 1 (T 16)⟩,
    ⟨(some 18), (some (14, false)), .load false 1 (T 17)⟩,
    ⟨(some 19), none, .pick (T 14) (.const (.bool true)) (T 18)⟩,
    ⟨(some 20), none, .nilCheck (T 8)⟩,
    ⟨(some 21), none, .fieldAddr 5 (T 20)⟩,
    ⟨(some 22), none, .idxA 3 1 (T 21) (.const (.int .i64 0))⟩] [(⟨none, none, .store 1 (T 22) (T 19)⟩, [])]))
theorem f43 : fnC Try.prog 43 = some (c43, 23, []) := by kernel_rfl

/-- (*errata.Hall).decide -/
def c44 : CCode :=
  (.seq (.seq (.region [⟨(some 2), none, .mov (T 0)⟩,
    ⟨(some 3), none, .nilCheck (T 2)⟩,
    ⟨(some 4), none, .fieldAddr 2 (T 3)⟩,
    ⟨(some 5), none, .load false 1 (T 4)⟩,
    ⟨(some 6), none, .ibin .eql (T 5) (.const (.int .i64 0))⟩,
    ⟨(some 7), none, .mov (T 6)⟩,
    ⟨(some 8), (some (7, false)), .mov (T 0)⟩,
    ⟨(some 9), (some (7, false)), .nilCheck (T 8)⟩,
    ⟨(some 10), (some (7, false)), .fieldAddr 0 (T 9)⟩,
    ⟨(some 11), (some (7, false)), .load false 1 (T 10)⟩,
    ⟨(some 12), (some (7, false)), .call (.func 57) [(T 11), (.func 58)]⟩,
    ⟨(some 13), none, .pick (T 7) (.const (.bool true)) (T 12)⟩])
  (.cond (T 13)
    .ret
    .skip))
  (.seq (.drawn [⟨(some 14), none, .mov (T 0)⟩,
    ⟨(some 15), none, .mov (T 0)⟩,
    ⟨(some 16), none, .nilCheck (T 15)⟩,
    ⟨(some 17), none, .fieldAddr 1 (T 16)⟩,
    ⟨(some 18), none, .load false 1 (T 17)⟩,
    ⟨(some 19), none, .mov (T 0)⟩,
    ⟨(some 20), none, .nilCheck (T 19)⟩,
    ⟨(some 21), none, .fieldAddr 2 (T 20)⟩,
    ⟨(some 22), none, .load false 1 (T 21)⟩,
    ⟨(some 23), none, .bslice 3 1 [(T 22)]⟩] [(⟨(some 24), none, .append 3 1 8 (T 18) (T 23)⟩, [⟨(some 14), none, .mov (T 0)⟩]), (⟨(some 25), none, .nilCheck (T 14)⟩, []), (⟨(some 26), none, .fieldAddr 1 (T 25)⟩, []), (⟨none, none, .store 1 (T 26) (T 24)⟩, [])])
  (.seq (.region [⟨(some 27), none, .mov (T 0)⟩,
    ⟨(some 28), none, .nilCheck (T 27)⟩,
    ⟨(some 29), none, .fieldAddr 2 (T 28)⟩,
    ⟨none, none, .store 1 (T 29) (.const (.int .i64 0))⟩])
  (.region [⟨(some 30), none, .mov (T 0)⟩,
    ⟨(some 31), none, .call (.func 40) [(T 30), (.func 59), (.func 60)]⟩]))))
theorem f44 : fnC Try.prog 44 = some (c44, 32, []) := by kernel_rfl

/-- (*dactylref41.Hall).Shown -/
def c45 : CCode :=
  (.seq (.region [⟨(some 4), none, .mov (.const (.slice none 0 0))⟩])
  (.seq (.seq (.region [⟨(some 5), none, .mov (T 1)⟩,
    ⟨(some 6), none, .ibin .lss (T 5) (.const (.int .i64 0))⟩,
    ⟨(some 7), none, .mov (T 6)⟩,
    ⟨(some 8), (some (7, false)), .mov (T 1)⟩,
    ⟨(some 9), (some (7, false)), .mov (T 0)⟩,
    ⟨(some 10), (some (7, false)), .nilCheck (T 9)⟩,
    ⟨(some 11), (some (7, false)), .fieldAddr 0 (T 10)⟩,
    ⟨(some 12), (some (7, false)), .load false 1 (T 11)⟩,
    ⟨(some 13), (some (7, false)), .len (T 12)⟩,
    ⟨(some 14), (some (7, false)), .ibin .geq (T 8) (T 13)⟩,
    ⟨(some 15), none, .pick (T 7) (.const (.bool true)) (T 14)⟩])
  (.cond (T 15)
    (.seq (.region [⟨(some 4), none, .mov (.const (.slice none 0 0))⟩])
    .ret)
    .skip))
  (.seq (.seq (.region [⟨(some 16), none, .mov (T 0)⟩,
    ⟨(some 17), none, .nilCheck (T 16)⟩,
    ⟨(some 18), none, .fieldAddr 0 (T 17)⟩,
    ⟨(some 19), none, .load false 1 (T 18)⟩,
    ⟨(some 20), none, .mov (T 1)⟩,
    ⟨(some 21), none, .idxS 8 (T 19) (T 20)⟩,
    ⟨(some 22), none, .fieldAddr 1 (T 21)⟩,
    ⟨(some 23), none, .load false 1 (T 22)⟩,
    ⟨(some 24), none, .lnot (T 23)⟩])
  (.cond (T 24)
    (.seq (.region [⟨(some 4), none, .mov (.const (.slice none 0 0))⟩])
    .ret)
    .skip))
  (.seq (.drawn [⟨(some 25), none, .mov (T 0)⟩,
    ⟨(some 26), none, .nilCheck (T 25)⟩,
    ⟨(some 27), none, .fieldAddr 1 (T 26)⟩,
    ⟨(some 28), none, .load false 1 (T 27)⟩,
    ⟨(some 29), none, .mov (T 0)⟩,
    ⟨(some 30), none, .nilCheck (T 29)⟩,
    ⟨(some 31), none, .fieldAddr 0 (T 30)⟩,
    ⟨(some 32), none, .load false 1 (T 31)⟩,
    ⟨(some 33), none, .mov (T 1)⟩,
    ⟨(some 34), none, .idxS 8 (T 32) (T 33)⟩,
    ⟨(some 35), none, .fieldAddr 2 (T 34)⟩,
    ⟨(some 36), none, .load false 1 (T 35)⟩,
    ⟨(some 37), none, .slice 1 (T 28) none (some (T 36))⟩,
    ⟨(some 4), none, .mov (T 37)⟩] [])
  .ret))))
theorem f45 : fnC Try.prog 45 = some (c45, 38, [(.tmp 4)]) := by kernel_rfl

/-- (*dactylref41.Hall).Decide -/
def c46 : CCode :=
  (.seq (.seq (.region [⟨(some 2), none, .mov (.const (.int .i64 0))⟩])
  (.block 0 (.loop
    (.seq (.seq (.region [⟨(some 5), none, .mov (T 2)⟩,
      ⟨(some 6), none, .mov (T 0)⟩,
      ⟨(some 7), none, .nilCheck (T 6)⟩,
      ⟨(some 8), none, .fieldAddr 0 (T 7)⟩,
      ⟨(some 9), none, .load false 1 (T 8)⟩,
      ⟨(some 10), none, .len (T 9)⟩,
      ⟨(some 11), none, .ibin .lss (T 5) (T 10)⟩])
    (.cond (T 11)
      .skip
      (.exit 0)))
    (.seq (.block 1 (.seq (.region [⟨(some 14), none, .mov (T 0)⟩,
      ⟨(some 15), none, .nilCheck (T 14)⟩,
      ⟨(some 16), none, .fieldAddr 0 (T 15)⟩,
      ⟨(some 17), none, .load false 1 (T 16)⟩,
      ⟨(some 18), none, .mov (T 2)⟩,
      ⟨(some 19), none, .idxS 8 (T 17) (T 18)⟩,
      ⟨(some 20), none, .fieldAddr 1 (T 19)⟩,
      ⟨(some 21), none, .load false 1 (T 20)⟩,
      ⟨(some 22), none, .mov (T 21)⟩,
      ⟨(some 23), (some (22, true)), .mov (T 0)⟩,
      ⟨(some 24), (some (22, true)), .nilCheck (T 23)⟩,
      ⟨(some 25), (some (22, true)), .fieldAddr 0 (T 24)⟩,
      ⟨(some 26), (some (22, true)), .load false 1 (T 25)⟩,
      ⟨(some 27), (some (22, true)), .mov (T 2)⟩,
      ⟨(some 28), (some (22, true)), .idxS 8 (T 26) (T 27)⟩,
      ⟨(some 29), (some (22, true)), .fieldAddr 4 (T 28)⟩,
      ⟨(some 30), (some (22, true)), .load false 1 (T 29)⟩,
      ⟨(some 31), (some (22, true)), .lnot (T 30)⟩,
      ⟨(some 32), none, .pick (T 22) (T 31) (.const (.bool false))⟩])
    (.cond (T 32)
      .ret
      .skip)))
    (.region [⟨(some 12), none, .mov (T 2)⟩,
      ⟨(some 13), none, .ibin .add (T 12) (.const (.int .i64 1))⟩,
      ⟨(some 2), none, .mov (T 13)⟩]))))))
  (.seq (.seq (.region [⟨(some 33), none, .mov (T 0)⟩,
    ⟨(some 34), none, .nilCheck (T 33)⟩,
    ⟨(some 35), none, .fieldAddr 2 (T 34)⟩,
    ⟨(some 36), none, .load false 1 (T 35)⟩,
    ⟨(some 37), none, .ibin .eql (T 36) (.const (.int .i64 0))⟩])
  (.cond (T 37)
    .ret
    .skip))
  (.seq (.drawn [⟨(some 38), none, .mov (T 0)⟩,
    ⟨(some 39), none, .mov (T 0)⟩,
    ⟨(some 40), none, .nilCheck (T 39)⟩,
    ⟨(some 41), none, .fieldAddr 1 (T 40)⟩,
    ⟨(some 42), none, .load false 1 (T 41)⟩,
    ⟨(some 43), none, .mov (T 0)⟩,
    ⟨(some 44), none, .nilCheck (T 43)⟩,
    ⟨(some 45), none, .fieldAddr 2 (T 44)⟩,
    ⟨(some 46), none, .load false 1 (T 45)⟩,
    ⟨(some 47), none, .bslice 3 1 [(T 46)]⟩] [(⟨(some 48), none, .append 3 1 8 (T 42) (T 47)⟩, [⟨(some 38), none, .mov (T 0)⟩]), (⟨(some 49), none, .nilCheck (T 38)⟩, []), (⟨(some 50), none, .fieldAddr 1 (T 49)⟩, []), (⟨none, none, .store 1 (T 50) (T 48)⟩, [])])
  (.seq (.region [⟨(some 51), none, .mov (T 0)⟩,
    ⟨(some 52), none, .nilCheck (T 51)⟩,
    ⟨(some 53), none, .fieldAddr 2 (T 52)⟩,
    ⟨none, none, .store 1 (T 53) (.const (.int .i64 0))⟩])
  (.seq (.region [⟨(some 3), none, .mov (.const (.int .i64 0))⟩])
  (.block 2 (.loop
    (.seq (.seq (.region [⟨(some 54), none, .mov (T 3)⟩,
      ⟨(some 55), none, .mov (T 0)⟩,
      ⟨(some 56), none, .nilCheck (T 55)⟩,
      ⟨(some 57), none, .fieldAddr 0 (T 56)⟩,
      ⟨(some 58), none, .load false 1 (T 57)⟩,
      ⟨(some 59), none, .len (T 58)⟩,
      ⟨(some 60), none, .ibin .lss (T 54) (T 59)⟩])
    (.cond (T 60)
      .skip
      (.exit 2)))
    (.seq (.block 3 (.seq (.region [⟨(some 63), none, .mov (T 0)⟩,
      ⟨(some 64), none, .nilCheck (T 63)⟩,
      ⟨(some 65), none, .fieldAddr 0 (T 64)⟩,
      ⟨(some 66), none, .load false 1 (T 65)⟩,
      ⟨(some 67), none, .mov (T 3)⟩,
      ⟨(some 68), none, .idxS 8 (T 66) (T 67)⟩,
      ⟨(some 69), none, .load true 8 (T 68)⟩,
      ⟨(some 4), none, .alloc 78 (.agg [(.val (.bool false)), (.val (.bool false)), (.val (.int .i64 0)), (.val (.bool false)), (.val (.bool false)), (.val (.bool false)), (.val (.bool false)), (.val (.bool false))])⟩,
      ⟨none, none, .store 8 (T 4) (T 69)⟩])
    (.seq (.region [⟨(some 70), none, .fieldAddr 4 (T 4)⟩,
      ⟨none, none, .store 1 (T 70) (.const (.bool false))⟩])
    (.seq (.region [⟨(some 71), none, .fieldAddr 0 (T 4)⟩,
      ⟨(some 72), none, .load false 1 (T 71)⟩,
      ⟨(some 73), none, .build [(.val (.bool false)), (.val (.bool false)), (.val (.bool false))] [(0, (1, (.const (.bool false)))), (1, (1, (.const (.bool false)))), (2, (1, (T 72)))]⟩,
      ⟨(some 74), none, .fieldAddr 5 (T 4)⟩,
      ⟨none, none, .store 3 (T 74) (T 73)⟩])
    (.drawn [⟨(some 75), none, .mov (T 0)⟩,
      ⟨(some 76), none, .nilCheck (T 75)⟩,
      ⟨(some 77), none, .fieldAddr 0 (T 76)⟩,
      ⟨(some 78), none, .load false 1 (T 77)⟩,
      ⟨(some 79), none, .mov (T 3)⟩,
      ⟨(some 80), none, .load true 8 (T 4)⟩,
      ⟨(some 81), none, .idxS 8 (T 78) (T 79)⟩] [(⟨none, none, .store 8 (T 81) (T 80)⟩, [])])))))
    (.region [⟨(some 61), none, .mov (T 3)⟩,
      ⟨(some 62), none, .ibin .add (T 61) (.const (.int .i64 1))⟩,
      ⟨(some 3), none, .mov (T 62)⟩]))))))))))
theorem f46 : fnC Try.prog 46 = some (c46, 82, []) := by kernel_rfl

/-- (*dactylref41.Hall).again -/
def c47 : CCode :=
  (.seq (.region [⟨(some 2), none, .mov (.const (.int .i64 0))⟩])
  (.block 0 (.loop
    (.seq (.seq (.region [⟨(some 4), none, .mov (T 2)⟩,
      ⟨(some 5), none, .mov (T 0)⟩,
      ⟨(some 6), none, .nilCheck (T 5)⟩,
      ⟨(some 7), none, .fieldAddr 0 (T 6)⟩,
      ⟨(some 8), none, .load false 1 (T 7)⟩,
      ⟨(some 9), none, .len (T 8)⟩,
      ⟨(some 10), none, .ibin .lss (T 4) (T 9)⟩])
    (.cond (T 10)
      .skip
      (.exit 0)))
    (.seq (.block 1 (.seq (.region [⟨(some 13), none, .mov (T 0)⟩,
      ⟨(some 14), none, .nilCheck (T 13)⟩,
      ⟨(some 15), none, .fieldAddr 0 (T 14)⟩,
      ⟨(some 16), none, .load false 1 (T 15)⟩,
      ⟨(some 17), none, .mov (T 2)⟩,
      ⟨(some 18), none, .idxS 8 (T 16) (T 17)⟩,
      ⟨(some 19), none, .load true 8 (T 18)⟩,
      ⟨(some 3), none, .alloc 78 (.agg [(.val (.bool false)), (.val (.bool false)), (.val (.int .i64 0)), (.val (.bool false)), (.val (.bool false)), (.val (.bool false)), (.val (.bool false)), (.val (.bool false))])⟩,
      ⟨none, none, .store 8 (T 3) (T 19)⟩])
    (.seq (.seq (.region [⟨(some 20), none, .fieldAddr 0 (T 3)⟩,
      ⟨(some 21), none, .load false 1 (T 20)⟩,
      ⟨(some 22), none, .lnot (T 21)⟩])
    (.cond (T 22)
      (.exit 1)
      .skip))
    (.seq (.seq (.drawn [⟨(some 23), none, .fieldAddr 1 (T 3)⟩,
      ⟨(some 24), none, .load false 1 (T 23)⟩,
      ⟨(some 25), none, .lnot (T 24)⟩,
      ⟨(some 26), none, .mov (T 25)⟩,
      ⟨(some 27), (some (26, false)), .fieldAddr 2 (T 3)⟩,
      ⟨(some 28), (some (26, false)), .load false 1 (T 27)⟩,
      ⟨(some 29), (some (26, false)), .mov (T 0)⟩,
      ⟨(some 30), (some (26, false)), .nilCheck (T 29)⟩,
      ⟨(some 31), (some (26, false)), .fieldAddr 1 (T 30)⟩,
      ⟨(some 32), (some (26, false)), .load false 1 (T 31)⟩,
      ⟨(some 33), (some (26, false)), .len (T 32)⟩,
      ⟨(some 34), (some (26, false)), .ibin .lss (T 28) (T 33)⟩,
      ⟨(some 35), none, .pick (T 26) (.const (.bool true)) (T 34)⟩] [])
    (.cond (T 35)
      (.region [⟨(some 36), none, .fieldAddr 5 (T 3)⟩,
        ⟨(some 37), none, .idxA 3 1 (T 36) (.const (.int .i64 2))⟩,
        ⟨none, none, .store 1 (T 37) (.const (.bool true))⟩])
      (.seq (.region [⟨(some 38), none, .mov (T 0)⟩,
        ⟨(some 39), none, .nilCheck (T 38)⟩,
        ⟨(some 40), none, .fieldAddr 2 (T 39)⟩,
        ⟨(some 41), none, .load false 1 (T 40)⟩,
        ⟨(some 42), none, .ibin .neq (T 41) (.const (.int .i64 0))⟩])
      (.cond (T 42)
        (.seq (.seq (.region [⟨(some 43), none, .fieldAddr 3 (T 3)⟩,
          ⟨(some 44), none, .load false 1 (T 43)⟩,
          ⟨(some 45), none, .lnot (T 44)⟩])
        (.cond (T 45)
          (.region [⟨(some 46), none, .fieldAddr 5 (T 3)⟩,
            ⟨(some 47), none, .idxA 3 1 (T 46) (.const (.int .i64 0))⟩,
            ⟨none, none, .store 1 (T 47) (.const (.bool true))⟩])
          .skip))
        (.seq (.region [⟨(some 48), none, .fieldAddr 3 (T 3)⟩,
          ⟨(some 49), none, .load false 1 (T 48)⟩,
          ⟨(some 50), none, .mov (T 49)⟩,
          ⟨(some 51), (some (50, true)), .fieldAddr 4 (T 3)⟩,
          ⟨(some 52), (some (50, true)), .load false 1 (T 51)⟩,
          ⟨(some 53), (some (50, true)), .lnot (T 52)⟩,
          ⟨(some 54), none, .pick (T 50) (T 53) (.const (.bool false))⟩])
        (.cond (T 54)
          (.region [⟨(some 55), none, .fieldAddr 5 (T 3)⟩,
            ⟨(some 56), none, .idxA 3 1 (T 55) (.const (.int .i64 1))⟩,
            ⟨none, none, .store 1 (T 56) (.const (.bool true))⟩])
          .skip)))
        .skip))))
    (.drawn [⟨(some 57), none, .mov (T 0)⟩,
      ⟨(some 58), none, .nilCheck (T 57)⟩,
      ⟨(some 59), none, .fieldAddr 0 (T 58)⟩,
      ⟨(some 60), none, .load false 1 (T 59)⟩,
      ⟨(some 61), none, .mov (T 2)⟩,
      ⟨(some 62), none, .load true 8 (T 3)⟩,
      ⟨(some 63), none, .idxS 8 (T 60) (T 61)⟩] [(⟨none, none, .store 8 (T 63) (T 62)⟩, [])])))))
    (.region [⟨(some 11), none, .mov (T 2)⟩,
      ⟨(some 12), none, .ibin .add (T 11) (.const (.int .i64 1))⟩,
      ⟨(some 2), none, .mov (T 12)⟩]))))))
theorem f47 : fnC Try.prog 47 = some (c47, 64, []) := by kernel_rfl

/-- (*dactylref41.Hall).message -/
def c48 : CCode :=
  (.seq (.region [⟨(some 3), none, .box 32 (T 1)⟩,
    ⟨(some 4), none, .mov (.const (.int .i64 0))⟩])
  (.seq (.seq (.region [⟨(some 6), none, .fieldAddr 3 (T 3)⟩,
    ⟨(some 7), none, .load false 1 (T 6)⟩,
    ⟨(some 8), none, .ibin .lss (T 7) (.const (.int .i64 0))⟩,
    ⟨(some 9), none, .mov (T 8)⟩,
    ⟨(some 10), (some (9, false)), .fieldAddr 3 (T 3)⟩,
    ⟨(some 11), (some (9, false)), .load false 1 (T 10)⟩,
    ⟨(some 12), (some (9, false)), .ibin .gtr (T 11) (.const (.int .i64 2))⟩,
    ⟨(some 13), none, .pick (T 9) (.const (.bool true)) (T 12)⟩])
  (.cond (T 13)
    (.seq (.region [⟨(some 4), none, .mov (.const (.int .i64 1))⟩])
    .ret)
    .skip))
  (.seq (.seq (.drawn [⟨(some 14), none, .mov (T 0)⟩,
    ⟨(some 15), none, .nilCheck (T 14)⟩,
    ⟨(some 16), none, .fieldAddr 0 (T 15)⟩,
    ⟨(some 17), none, .load false 1 (T 16)⟩,
    ⟨(some 18), none, .fieldAddr 1 (T 3)⟩,
    ⟨(some 19), none, .load false 1 (T 18)⟩,
    ⟨(some 20), none, .fieldAddr 3 (T 3)⟩,
    ⟨(some 21), none, .load false 1 (T 20)⟩,
    ⟨(some 22), none, .idxS 8 (T 17) (T 19)⟩,
    ⟨(some 23), none, .fieldAddr 5 (T 22)⟩,
    ⟨(some 24), none, .idxA 3 1 (T 23) (T 21)⟩,
    ⟨(some 25), none, .load false 1 (T 24)⟩,
    ⟨(some 26), none, .lnot (T 25)⟩] [])
  (.cond (T 26)
    (.seq (.region [⟨(some 4), none, .mov (.const (.int .i64 6))⟩])
    .ret)
    .skip))
  (.seq (.drawn [⟨(some 27), none, .mov (T 0)⟩,
    ⟨(some 28), none, .nilCheck (T 27)⟩,
    ⟨(some 29), none, .fieldAddr 0 (T 28)⟩,
    ⟨(some 30), none, .load false 1 (T 29)⟩,
    ⟨(some 31), none, .fieldAddr 1 (T 3)⟩,
    ⟨(some 32), none, .load false 1 (T 31)⟩,
    ⟨(some 33), none, .fieldAddr 3 (T 3)⟩,
    ⟨(some 34), none, .load false 1 (T 33)⟩,
    ⟨(some 35), none, .idxS 8 (T 30) (T 32)⟩,
    ⟨(some 36), none, .fieldAddr 5 (T 35)⟩,
    ⟨(some 37), none, .idxA 3 1 (T 36) (T 34)⟩] [(⟨none, none, .store 1 (T 37) (.const (.bool false))⟩, [])])
  (.seq (.seq (.region [⟨(some 38), none, .fieldAddr 2 (T 3)⟩,
    ⟨(some 39), none, .load false 1 (T 38)⟩,
    ⟨(some 40), none, .ibin .eql (T 39) (.const (.int .i64 1))⟩])
  (.cond (T 40)
    (.seq (.region [⟨(some 4), none, .mov (.const (.int .i64 0))⟩])
    .ret)
    .skip))
  (.seq (.region [⟨(some 41), none, .mov (T 0)⟩,
    ⟨(some 42), none, .nilCheck (T 41)⟩,
    ⟨(some 43), none, .fieldAddr 1 (T 42)⟩,
    ⟨(some 44), none, .load false 1 (T 43)⟩,
    ⟨(some 45), none, .len (T 44)⟩,
    ⟨(some 5), none, .mov (T 45)⟩])
  (.seq (.region [⟨(some 46), none, .mov (T 0)⟩,
    ⟨(some 47), none, .fieldAddr 1 (T 3)⟩,
    ⟨(some 48), none, .load false 1 (T 47)⟩,
    ⟨(some 49), none, .fieldAddr 3 (T 3)⟩,
    ⟨(some 50), none, .load false 1 (T 49)⟩,
    ⟨(some 51), none, .call (.func 61) [(T 46), (T 48), (T 50)]⟩])
  (.seq (.seq (.region [⟨(some 52), none, .fieldAddr 2 (T 3)⟩,
    ⟨(some 53), none, .load false 1 (T 52)⟩,
    ⟨(some 54), none, .ibin .eql (T 53) (.const (.int .i64 2))⟩,
    ⟨(some 55), none, .mov (T 54)⟩,
    ⟨(some 56), (some (55, true)), .mov (T 0)⟩,
    ⟨(some 57), (some (55, true)), .nilCheck (T 56)⟩,
    ⟨(some 58), (some (55, true)), .fieldAddr 1 (T 57)⟩,
    ⟨(some 59), (some (55, true)), .load false 1 (T 58)⟩,
    ⟨(some 60), (some (55, true)), .len (T 59)⟩,
    ⟨(some 61), (some (55, true)), .mov (T 5)⟩,
    ⟨(some 62), (some (55, true)), .ibin .eql (T 60) (T 61)⟩,
    ⟨(some 63), none, .pick (T 55) (T 62) (.const (.bool false))⟩])
  (.cond (T 63)
    (.drawn [⟨(some 64), none, .mov (T 0)⟩,
      ⟨(some 65), none, .nilCheck (T 64)⟩,
      ⟨(some 66), none, .fieldAddr 0 (T 65)⟩,
      ⟨(some 67), none, .load false 1 (T 66)⟩,
      ⟨(some 68), none, .fieldAddr 1 (T 3)⟩,
      ⟨(some 69), none, .load false 1 (T 68)⟩,
      ⟨(some 70), none, .fieldAddr 3 (T 3)⟩,
      ⟨(some 71), none, .load false 1 (T 70)⟩,
      ⟨(some 72), none, .idxS 8 (T 67) (T 69)⟩,
      ⟨(some 73), none, .fieldAddr 5 (T 72)⟩,
      ⟨(some 74), none, .idxA 3 1 (T 73) (T 71)⟩] [(⟨none, none, .store 1 (T 74) (.const (.bool true))⟩, [])])
    .skip))
  (.seq (.region [⟨(some 4), none, .mov (.const (.int .i64 0))⟩])
  .ret)))))))))
theorem f48 : fnC Try.prog 48 = some (c48, 75, [(.tmp 4)]) := by kernel_rfl

/-- (*dactylref41.Hall).Announce -/
def c49 : CCode :=
  (.seq (.region [⟨(some 4), none, .mov (.const (.int .i64 0))⟩])
  (.seq (.seq (.region [⟨(some 8), none, .mov (T 1)⟩,
    ⟨(some 9), none, .ibin .lss (T 8) (.const (.int .i64 1))⟩,
    ⟨(some 10), none, .mov (T 9)⟩,
    ⟨(some 11), (some (10, false)), .mov (T 1)⟩,
    ⟨(some 12), (some (10, false)), .ibin .gtr (T 11) (.const (.int .i64 1000))⟩,
    ⟨(some 13), none, .pick (T 10) (.const (.bool true)) (T 12)⟩])
  (.cond (T 13)
    (.seq (.region [⟨(some 4), none, .mov (.const (.int .i64 1))⟩])
    .ret)
    .skip))
  (.seq (.seq (.region [⟨(some 14), none, .mov (T 1)⟩,
    ⟨(some 15), none, .mov (T 0)⟩,
    ⟨(some 16), none, .nilCheck (T 15)⟩,
    ⟨(some 17), none, .fieldAddr 2 (T 16)⟩,
    ⟨(some 18), none, .load false 1 (T 17)⟩,
    ⟨(some 19), none, .ibin .eql (T 14) (T 18)⟩])
  (.cond (T 19)
    (.seq (.region [⟨(some 4), none, .mov (.const (.int .i64 7))⟩])
    .ret)
    .skip))
  (.seq (.seq (.region [⟨(some 5), none, .mov (.const (.int .i64 0))⟩])
  (.block 0 (.loop
    (.seq (.seq (.region [⟨(some 20), none, .mov (T 5)⟩,
      ⟨(some 21), none, .mov (T 0)⟩,
      ⟨(some 22), none, .nilCheck (T 21)⟩,
      ⟨(some 23), none, .fieldAddr 1 (T 22)⟩,
      ⟨(some 24), none, .load false 1 (T 23)⟩,
      ⟨(some 25), none, .len (T 24)⟩,
      ⟨(some 26), none, .ibin .lss (T 20) (T 25)⟩])
    (.cond (T 26)
      .skip
      (.exit 0)))
    (.seq (.block 1 (.seq (.region [⟨(some 29), none, .mov (T 0)⟩,
      ⟨(some 30), none, .nilCheck (T 29)⟩,
      ⟨(some 31), none, .fieldAddr 1 (T 30)⟩,
      ⟨(some 32), none, .load false 1 (T 31)⟩,
      ⟨(some 33), none, .mov (T 5)⟩,
      ⟨(some 34), none, .idxS 1 (T 32) (T 33)⟩,
      ⟨(some 35), none, .load false 1 (T 34)⟩,
      ⟨(some 36), none, .mov (T 1)⟩,
      ⟨(some 37), none, .ibin .eql (T 35) (T 36)⟩])
    (.cond (T 37)
      (.seq (.region [⟨(some 4), none, .mov (.const (.int .i64 7))⟩])
      .ret)
      .skip)))
    (.region [⟨(some 27), none, .mov (T 5)⟩,
      ⟨(some 28), none, .ibin .add (T 27) (.const (.int .i64 1))⟩,
      ⟨(some 5), none, .mov (T 28)⟩]))))))
  (.seq (.seq (.region [⟨(some 38), none, .mov (T 0)⟩,
    ⟨(some 39), none, .nilCheck (T 38)⟩,
    ⟨(some 40), none, .fieldAddr 2 (T 39)⟩,
    ⟨(some 41), none, .load false 1 (T 40)⟩,
    ⟨(some 42), none, .ibin .neq (T 41) (.const (.int .i64 0))⟩])
  (.cond (T 42)
    (.seq (.region [⟨(some 4), none, .mov (.const (.int .i64 8))⟩])
    .ret)
    .skip))
  (.seq (.region [⟨(some 43), none, .mov (T 0)⟩,
    ⟨(some 44), none, .mov (T 1)⟩,
    ⟨(some 45), none, .nilCheck (T 43)⟩,
    ⟨(some 46), none, .fieldAddr 2 (T 45)⟩,
    ⟨none, none, .store 1 (T 46) (T 44)⟩])
  (.seq (.seq (.region [⟨(some 6), none, .mov (.const (.int .i64 0))⟩])
  (.block 2 (.loop
    (.seq (.seq (.region [⟨(some 47), none, .mov (T 6)⟩,
      ⟨(some 48), none, .mov (T 0)⟩,
      ⟨(some 49), none, .nilCheck (T 48)⟩,
      ⟨(some 50), none, .fieldAddr 0 (T 49)⟩,
      ⟨(some 51), none, .load false 1 (T 50)⟩,
      ⟨(some 52), none, .len (T 51)⟩,
      ⟨(some 53), none, .ibin .lss (T 47) (T 52)⟩])
    (.cond (T 53)
      .skip
      (.exit 2)))
    (.seq (.block 3 (.seq (.region [⟨(some 56), none, .mov (T 0)⟩,
      ⟨(some 57), none, .nilCheck (T 56)⟩,
      ⟨(some 58), none, .fieldAddr 0 (T 57)⟩,
      ⟨(some 59), none, .load false 1 (T 58)⟩,
      ⟨(some 60), none, .mov (T 6)⟩,
      ⟨(some 61), none, .idxS 8 (T 59) (T 60)⟩,
      ⟨(some 62), none, .load true 8 (T 61)⟩,
      ⟨(some 7), none, .alloc 78 (.agg [(.val (.bool false)), (.val (.bool false)), (.val (.int .i64 0)), (.val (.bool false)), (.val (.bool false)), (.val (.bool false)), (.val (.bool false)), (.val (.bool false))])⟩,
      ⟨none, none, .store 8 (T 7) (T 62)⟩])
    (.seq (.seq (.drawn [⟨(some 63), none, .fieldAddr 2 (T 7)⟩,
      ⟨(some 64), none, .load false 1 (T 63)⟩,
      ⟨(some 65), none, .mov (T 0)⟩,
      ⟨(some 66), none, .nilCheck (T 65)⟩,
      ⟨(some 67), none, .fieldAddr 1 (T 66)⟩,
      ⟨(some 68), none, .load false 1 (T 67)⟩,
      ⟨(some 69), none, .len (T 68)⟩,
      ⟨(some 70), none, .ibin .lss (T 64) (T 69)⟩] [])
    (.cond (T 70)
      (.exit 3)
      .skip))
    (.seq (.region [⟨(some 71), none, .fieldAddr 3 (T 7)⟩,
      ⟨none, none, .store 1 (T 71) (.const (.bool false))⟩])
    (.seq (.region [⟨(some 72), none, .fieldAddr 4 (T 7)⟩,
      ⟨none, none, .store 1 (T 72) (.const (.bool false))⟩])
    (.seq (.seq (.region [⟨(some 73), none, .fieldAddr 1 (T 7)⟩,
      ⟨(some 74), none, .load false 1 (T 73)⟩])
    (.cond (T 74)
      (.region [⟨(some 75), none, .fieldAddr 5 (T 7)⟩,
        ⟨(some 76), none, .idxA 3 1 (T 75) (.const (.int .i64 0))⟩,
        ⟨none, none, .store 1 (T 76) (.const (.bool true))⟩])
      .skip))
    (.drawn [⟨(some 77), none, .mov (T 0)⟩,
      ⟨(some 78), none, .nilCheck (T 77)⟩,
      ⟨(some 79), none, .fieldAddr 0 (T 78)⟩,
      ⟨(some 80), none, .load false 1 (T 79)⟩,
      ⟨(some 81), none, .mov (T 6)⟩,
      ⟨(some 82), none, .load true 8 (T 7)⟩,
      ⟨(some 83), none, .idxS 8 (T 80) (T 81)⟩] [(⟨none, none, .store 8 (T 83) (T 82)⟩, [])])))))))
    (.region [⟨(some 54), none, .mov (T 6)⟩,
      ⟨(some 55), none, .ibin .add (T 54) (.const (.int .i64 1))⟩,
      ⟨(some 6), none, .mov (T 55)⟩]))))))
  (.seq (.region [⟨(some 84), none, .mov (T 0)⟩,
    ⟨(some 85), none, .call (.func 46) [(T 84)]⟩])
  (.seq (.region [⟨(some 4), none, .mov (.const (.int .i64 0))⟩])
  .ret)))))))))
theorem f49 : fnC Try.prog 49 = some (c49, 86, [(.tmp 4)]) := by kernel_rfl

/-- slices.Clone[[]errata.device,errata.device] -/
def c50 : CCode :=
  (.seq (.region [⟨(some 2), none, .mov (.const (.slice none 0 0))⟩])
  (.seq (.seq (.region [⟨(some 3), none, .mov (T 0)⟩,
    ⟨(some 4), none, .isNil true false (T 3) (.const (.slice none 0 0))⟩])
  (.cond (T 4)
    (.seq (.region [⟨(some 2), none, .mov (.const (.slice none 0 0))⟩])
    .ret)
    .skip))
  (.seq (.region [⟨(some 5), none, .bslice 60 8 []⟩,
    ⟨(some 6), none, .mov (T 0)⟩,
    ⟨(some 7), none, .append 60 8 24 (T 5) (T 6)⟩,
    ⟨(some 2), none, .mov (T 7)⟩])
  .ret)))
theorem f50 : fnC Try.prog 50 = some (c50, 8, [(.tmp 2)]) := by kernel_rfl

/-- math/bits.Mul -/
def c51 : CCode :=
  (.seq (.region [⟨(some 4), none, .mov (.const (.int .u64 0))⟩,
    ⟨(some 5), none, .mov (.const (.int .u64 0))⟩])
  (.seq (.cond (.const (.bool false))
    (.seq (.region [⟨(some 11), none, .mov (T 0)⟩,
      ⟨(some 12), none, .conv .u32 (T 11)⟩,
      ⟨(some 13), none, .mov (T 1)⟩,
      ⟨(some 14), none, .conv .u32 (T 13)⟩,
      ⟨(some 15), none, .call (.func 62) [(T 12), (T 14)]⟩,
      ⟨(some 10), none, .mov (T 15)⟩,
      ⟨(some 16), none, .extract (T 10) 0⟩,
      ⟨(some 17), none, .extract (T 10) 1⟩,
      ⟨(some 6), none, .mov (T 16)⟩,
      ⟨(some 7), none, .mov (T 17)⟩])
    (.seq (.region [⟨(some 18), none, .mov (T 6)⟩,
      ⟨(some 19), none, .conv .u64 (T 18)⟩,
      ⟨(some 20), none, .mov (T 7)⟩,
      ⟨(some 21), none, .conv .u64 (T 20)⟩,
      ⟨(some 4), none, .mov (T 19)⟩,
      ⟨(some 5), none, .mov (T 21)⟩])
    .ret))
    .skip)
  (.seq (.region [⟨(some 23), none, .mov (T 0)⟩,
    ⟨(some 24), none, .mov (T 1)⟩,
    ⟨(some 25), none, .call (.func 63) [(T 23), (T 24)]⟩,
    ⟨(some 22), none, .mov (T 25)⟩,
    ⟨(some 26), none, .extract (T 22) 0⟩,
    ⟨(some 27), none, .extract (T 22) 1⟩,
    ⟨(some 8), none, .mov (T 26)⟩,
    ⟨(some 9), none, .mov (T 27)⟩])
  (.seq (.region [⟨(some 28), none, .mov (T 8)⟩,
    ⟨(some 29), none, .mov (T 9)⟩,
    ⟨(some 4), none, .mov (T 28)⟩,
    ⟨(some 5), none, .mov (T 29)⟩])
  .ret))))
theorem f51 : fnC Try.prog 51 = some (c51, 30, [(.tmp 4), (.tmp 5)]) := by kernel_rfl

/-- (*errata.device).has -/
def c52 : CCode :=
  (.seq (.region [⟨(some 4), none, .mov (.const (.int .i64 0))⟩])
  (.seq (.seq (.region [⟨(some 5), none, .mov (T 1)⟩,
    ⟨(some 6), none, .ibin .lss (T 5) (.const (.int .i64 0))⟩,
    ⟨(some 7), none, .mov (T 6)⟩,
    ⟨(some 8), (some (7, false)), .mov (T 1)⟩,
    ⟨(some 9), (some (7, false)), .ibin .geq (T 8) (.const (.int .i64 3))⟩,
    ⟨(some 10), none, .pick (T 7) (.const (.bool true)) (T 9)⟩])
  (.cond (T 10)
    (.seq (.region [⟨(some 4), none, .mov (.const (.int .i64 1))⟩])
    .ret)
    .skip))
  (.seq (.seq (.region [⟨(some 11), none, .mov (T 0)⟩,
    ⟨(some 12), none, .mov (T 1)⟩,
    ⟨(some 13), none, .nilCheck (T 11)⟩,
    ⟨(some 14), none, .fieldAddr 5 (T 13)⟩,
    ⟨(some 15), none, .idxA 3 1 (T 14) (T 12)⟩,
    ⟨(some 16), none, .load false 1 (T 15)⟩,
    ⟨(some 17), none, .lnot (T 16)⟩])
  (.cond (T 17)
    (.seq (.region [⟨(some 4), none, .mov (.const (.int .i64 6))⟩])
    .ret)
    .skip))
  (.seq (.region [⟨(some 4), none, .mov (.const (.int .i64 0))⟩])
  .ret))))
theorem f52 : fnC Try.prog 52 = some (c52, 18, [(.tmp 4)]) := by kernel_rfl

/-- (*errata.Hall).arrives -/
def c53 : CCode :=
  (.seq (.seq (.region [⟨(some 6), none, .mov (T 1)⟩,
    ⟨(some 7), none, .nilCheck (T 6)⟩,
    ⟨(some 8), none, .fieldAddr 0 (T 7)⟩,
    ⟨(some 9), none, .load false 1 (T 8)⟩,
    ⟨(some 10), none, .lnot (T 9)⟩])
  (.cond (T 10)
    .ret
    .skip))
  (.seq (.region [⟨(some 11), none, .mov (T 2)⟩])
  (.block 0 (.seq (.region [⟨(some 39), none, .ibin .eql (T 11) (.const (.int .i64 0))⟩,
    ⟨(some 38), none, .mov (T 39)⟩])
  (.cond (T 38)
    (.seq (.region [⟨(some 40), none, .mov (T 0)⟩,
      ⟨(some 41), none, .nilCheck (T 40)⟩,
      ⟨(some 42), none, .fieldAddr 2 (T 41)⟩,
      ⟨(some 43), none, .load false 1 (T 42)⟩,
      ⟨(some 44), none, .ibin .neq (T 43) (.const (.int .i64 0))⟩,
      ⟨(some 45), none, .mov (T 44)⟩,
      ⟨(some 46), (some (45, true)), .mov (T 1)⟩,
      ⟨(some 47), (some (45, true)), .nilCheck (T 46)⟩,
      ⟨(some 48), (some (45, true)), .fieldAddr 1 (T 47)⟩,
      ⟨(some 49), (some (45, true)), .load false 1 (T 48)⟩,
      ⟨(some 50), none, .pick (T 45) (T 49) (.const (.bool false))⟩,
      ⟨(some 51), none, .mov (T 50)⟩,
      ⟨(some 52), (some (51, true)), .mov (T 0)⟩,
      ⟨(some 53), (some (51, true)), .mov (T 1)⟩,
      ⟨(some 54), (some (51, true)), .call (.func 42) [(T 52), (T 53)]⟩,
      ⟨(some 55), (some (51, true)), .lnot (T 54)⟩,
      ⟨(some 56), none, .pick (T 51) (T 55) (.const (.bool false))⟩])
    (.cond (T 56)
      (.drawn [⟨(some 57), none, .mov (T 1)⟩,
        ⟨(some 58), none, .mov (T 1)⟩,
        ⟨(some 59), none, .nilCheck (T 57)⟩,
        ⟨(some 60), none, .fieldAddr 3 (T 59)⟩,
        ⟨(some 61), none, .nilCheck (T 58)⟩,
        ⟨(some 62), none, .fieldAddr 5 (T 61)⟩] [(⟨none, none, .store 1 (T 60) (.const (.bool true))⟩, [⟨(some 58), none, .mov (T 1)⟩, ⟨(some 61), none, .nilCheck (T 58)⟩, ⟨(some 62), none, .fieldAddr 5 (T 61)⟩]), (⟨(some 63), none, .idxA 3 1 (T 62) (.const (.int .i64 1))⟩, []), (⟨none, none, .store 1 (T 63) (.const (.bool true))⟩, [])])
      .skip))
    (.seq (.region [⟨(some 65), none, .ibin .eql (T 11) (.const (.int .i64 1))⟩,
      ⟨(some 64), none, .mov (T 65)⟩])
    (.cond (T 64)
      (.seq (.region [⟨(some 66), none, .mov (T 0)⟩,
        ⟨(some 67), none, .nilCheck (T 66)⟩,
        ⟨(some 68), none, .fieldAddr 2 (T 67)⟩,
        ⟨(some 69), none, .load false 1 (T 68)⟩,
        ⟨(some 70), none, .ibin .neq (T 69) (.const (.int .i64 0))⟩,
        ⟨(some 71), none, .mov (T 70)⟩,
        ⟨(some 72), (some (71, true)), .mov (T 1)⟩,
        ⟨(some 73), (some (71, true)), .nilCheck (T 72)⟩,
        ⟨(some 74), (some (71, true)), .fieldAddr 1 (T 73)⟩,
        ⟨(some 75), (some (71, true)), .load false 1 (T 74)⟩,
        ⟨(some 76), none, .pick (T 71) (T 75) (.const (.bool false))⟩,
        ⟨(some 77), none, .mov (T 76)⟩,
        ⟨(some 78), (some (77, true)), .mov (T 1)⟩,
        ⟨(some 79), (some (77, true)), .nilCheck (T 78)⟩,
        ⟨(some 80), (some (77, true)), .fieldAddr 3 (T 79)⟩,
        ⟨(some 81), (some (77, true)), .load false 1 (T 80)⟩,
        ⟨(some 82), none, .pick (T 77) (T 81) (.const (.bool false))⟩,
        ⟨(some 83), none, .mov (T 82)⟩,
        ⟨(some 84), (some (83, true)), .mov (T 0)⟩,
        ⟨(some 85), (some (83, true)), .mov (T 1)⟩,
        ⟨(some 86), (some (83, true)), .call (.func 42) [(T 84), (T 85)]⟩,
        ⟨(some 87), (some (83, true)), .lnot (T 86)⟩,
        ⟨(some 88), none, .pick (T 83) (T 87) (.const (.bool false))⟩])
      (.cond (T 88)
        (.seq (.region [⟨(some 89), none, .mov (T 1)⟩,
          ⟨(some 90), none, .nilCheck (T 89)⟩,
          ⟨(some 91), none, .fieldAddr 4 (T 90)⟩,
          ⟨none, none, .store 1 (T 91) (.const (.bool true))⟩])
        (.region [⟨(some 92), none, .mov (T 0)⟩,
          ⟨(some 93), none, .call (.func 44) [(T 92)]⟩]))
        .skip))
      (.seq (.region [⟨(some 12), none, .mov (T 1)⟩,
        ⟨(some 13), none, .mov (T 1)⟩,
        ⟨(some 14), none, .mov (T 1)⟩,
        ⟨(some 15), none, .mov (T 1)⟩,
        ⟨(some 16), none, .mov (T 0)⟩,
        ⟨(some 17), none, .nilCheck (T 16)⟩,
        ⟨(some 18), none, .fieldAddr 1 (T 17)⟩,
        ⟨(some 19), none, .load false 1 (T 18)⟩,
        ⟨(some 20), none, .len (T 19)⟩,
        ⟨(some 21), none, .nilCheck (T 12)⟩,
        ⟨(some 22), none, .fieldAddr 1 (T 21)⟩,
        ⟨none, none, .store 1 (T 22) (.const (.bool true))⟩,
        ⟨(some 23), none, .nilCheck (T 13)⟩,
        ⟨(some 24), none, .fieldAddr 2 (T 23)⟩,
        ⟨none, none, .store 1 (T 24) (T 20)⟩,
        ⟨(some 25), none, .nilCheck (T 14)⟩,
        ⟨(some 26), none, .fieldAddr 3 (T 25)⟩,
        ⟨none, none, .store 1 (T 26) (.const (.bool false))⟩,
        ⟨(some 27), none, .nilCheck (T 15)⟩,
        ⟨(some 28), none, .fieldAddr 4 (T 27)⟩,
        ⟨none, none, .store 1 (T 28) (.const (.bool false))⟩])
      (.seq (.region [⟨(some 29), none, .mov (T 0)⟩,
        ⟨(some 30), none, .nilCheck (T 29)⟩,
        ⟨(some 31), none, .fieldAddr 2 (T 30)⟩,
        ⟨(some 32), none, .load false 1 (T 31)⟩,
        ⟨(some 33), none, .ibin .neq (T 32) (.const (.int .i64 0))⟩])
      (.cond (T 33)
        (.region [⟨(some 34), none, .mov (T 1)⟩,
          ⟨(some 35), none, .nilCheck (T 34)⟩,
          ⟨(some 36), none, .fieldAddr 5 (T 35)⟩,
          ⟨(some 37), none, .idxA 3 1 (T 36) (.const (.int .i64 0))⟩,
          ⟨none, none, .store 1 (T 37) (.const (.bool true))⟩])
        .skip))))))))))
theorem f53 : fnC Try.prog 53 = some (c53, 94, []) := by kernel_rfl

/-- (*errata.Hall).resend$1 -/
def c54 : CCode :=
  (.seq (.region [⟨(some 2), none, .mov (.const (.bool false))⟩])
  (.seq (.region [⟨(some 3), none, .mov (T 0)⟩,
    ⟨(some 4), none, .nilCheck (T 3)⟩,
    ⟨(some 5), none, .fieldAddr 0 (T 4)⟩,
    ⟨(some 6), none, .load false 1 (T 5)⟩,
    ⟨(some 2), none, .mov (T 6)⟩])
  .ret))
theorem f54 : fnC Try.prog 54 = some (c54, 7, [(.tmp 2)]) := by kernel_rfl

/-- (*errata.Hall).resend$2 -/
def c55 : CCode :=
  (.block 0 (.seq (.region [⟨(some 4), none, .mov (T 0)⟩,
    ⟨(some 5), none, .nilCheck (T 4)⟩,
    ⟨(some 6), none, .fieldAddr 1 (T 5)⟩,
    ⟨(some 7), none, .load false 1 (T 6)⟩,
    ⟨(some 8), none, .lnot (T 7)⟩,
    ⟨(some 9), none, .mov (T 8)⟩,
    ⟨(some 10), (some (9, false)), .load false 1 (T 1)⟩,
    ⟨(some 11), (some (9, false)), .mov (T 0)⟩,
    ⟨(some 12), (some (9, false)), .call (.func 42) [(T 10), (T 11)]⟩,
    ⟨(some 13), none, .pick (T 9) (.const (.bool true)) (T 12)⟩,
    ⟨(some 3), none, .mov (T 13)⟩])
  (.cond (T 3)
    (.region [⟨(some 14), none, .mov (T 0)⟩,
      ⟨(some 15), none, .nilCheck (T 14)⟩,
      ⟨(some 16), none, .fieldAddr 5 (T 15)⟩,
      ⟨(some 17), none, .idxA 3 1 (T 16) (.const (.int .i64 2))⟩,
      ⟨none, none, .store 1 (T 17) (.const (.bool true))⟩])
    (.seq (.region [⟨(some 19), none, .load false 1 (T 1)⟩,
      ⟨(some 20), none, .nilCheck (T 19)⟩,
      ⟨(some 21), none, .fieldAddr 2 (T 20)⟩,
      ⟨(some 22), none, .load false 1 (T 21)⟩,
      ⟨(some 23), none, .ibin .neq (T 22) (.const (.int .i64 0))⟩,
      ⟨(some 24), none, .mov (T 23)⟩,
      ⟨(some 25), (some (24, true)), .mov (T 0)⟩,
      ⟨(some 26), (some (24, true)), .nilCheck (T 25)⟩,
      ⟨(some 27), (some (24, true)), .fieldAddr 3 (T 26)⟩,
      ⟨(some 28), (some (24, true)), .load false 1 (T 27)⟩,
      ⟨(some 29), (some (24, true)), .lnot (T 28)⟩,
      ⟨(some 30), none, .pick (T 24) (T 29) (.const (.bool false))⟩,
      ⟨(some 18), none, .mov (T 30)⟩])
    (.cond (T 18)
      (.region [⟨(some 31), none, .mov (T 0)⟩,
        ⟨(some 32), none, .nilCheck (T 31)⟩,
        ⟨(some 33), none, .fieldAddr 5 (T 32)⟩,
        ⟨(some 34), none, .idxA 3 1 (T 33) (.const (.int .i64 0))⟩,
        ⟨none, none, .store 1 (T 34) (.const (.bool true))⟩])
      (.seq (.region [⟨(some 36), none, .load false 1 (T 1)⟩,
        ⟨(some 37), none, .nilCheck (T 36)⟩,
        ⟨(some 38), none, .fieldAddr 2 (T 37)⟩,
        ⟨(some 39), none, .load false 1 (T 38)⟩,
        ⟨(some 40), none, .ibin .neq (T 39) (.const (.int .i64 0))⟩,
        ⟨(some 41), none, .mov (T 40)⟩,
        ⟨(some 42), (some (41, true)), .mov (T 0)⟩,
        ⟨(some 43), (some (41, true)), .nilCheck (T 42)⟩,
        ⟨(some 44), (some (41, true)), .fieldAddr 4 (T 43)⟩,
        ⟨(some 45), (some (41, true)), .load false 1 (T 44)⟩,
        ⟨(some 46), (some (41, true)), .lnot (T 45)⟩,
        ⟨(some 47), none, .pick (T 41) (T 46) (.const (.bool false))⟩,
        ⟨(some 35), none, .mov (T 47)⟩])
      (.cond (T 35)
        (.region [⟨(some 48), none, .mov (T 0)⟩,
          ⟨(some 49), none, .nilCheck (T 48)⟩,
          ⟨(some 50), none, .fieldAddr 5 (T 49)⟩,
          ⟨(some 51), none, .idxA 3 1 (T 50) (.const (.int .i64 1))⟩,
          ⟨none, none, .store 1 (T 51) (.const (.bool true))⟩])
        .skip)))))))
theorem f55 : fnC Try.prog 55 = some (c55, 52, []) := by kernel_rfl

/-- slices.Index[[]int,int] -/
def c56 : CCode :=
  (.seq (.region [⟨(some 4), none, .mov (.const (.int .i64 0))⟩])
  (.seq (.seq (.region [⟨(some 6), none, .mov (T 0)⟩,
    ⟨(some 7), none, .len (T 6)⟩,
    ⟨(some 8), none, .mov (.const (.int .i64 0))⟩])
  (.block 0 (.loop
    (.seq (.region [⟨(some 9), none, .ibin .lss (T 8) (T 7)⟩])
    (.seq (.cond (T 9)
      .skip
      (.exit 0))
    (.seq (.block 1 (.seq (.region [⟨(some 10), none, .mov (T 8)⟩,
      ⟨(some 5), none, .mov (T 10)⟩])
    (.seq (.region [⟨(some 11), none, .mov (T 1)⟩,
      ⟨(some 12), none, .mov (T 0)⟩,
      ⟨(some 13), none, .mov (T 5)⟩,
      ⟨(some 14), none, .idxS 1 (T 12) (T 13)⟩,
      ⟨(some 15), none, .load false 1 (T 14)⟩,
      ⟨(some 16), none, .ibin .eql (T 11) (T 15)⟩])
    (.cond (T 16)
      (.seq (.region [⟨(some 17), none, .mov (T 5)⟩,
        ⟨(some 4), none, .mov (T 17)⟩])
      .ret)
      .skip))))
    (.region [⟨(some 18), none, .ibin .add (T 8) (.const (.int .i64 1))⟩,
      ⟨(some 8), none, .mov (T 18)⟩])))))))
  (.seq (.region [⟨(some 4), none, .mov (.const (.int .i64 (-1)))⟩])
  .ret)))
theorem f56 : fnC Try.prog 56 = some (c56, 19, [(.tmp 4)]) := by kernel_rfl

/-- slices.ContainsFunc[[]errata.device,errata.device] -/
def c57 : CCode :=
  (.seq (.region [⟨(some 4), none, .mov (.const (.bool false))⟩])
  (.seq (.region [⟨(some 5), none, .mov (T 0)⟩,
    ⟨(some 6), none, .mov (T 1)⟩,
    ⟨(some 7), none, .call (.func 64) [(T 5), (T 6)]⟩,
    ⟨(some 8), none, .ibin .geq (T 7) (.const (.int .i64 0))⟩,
    ⟨(some 4), none, .mov (T 8)⟩])
  .ret))
theorem f57 : fnC Try.prog 57 = some (c57, 9, [(.tmp 4)]) := by kernel_rfl

/-- (*errata.Hall).decide$1 -/
def c58 : CCode :=
  (.seq (.region [⟨(some 1), none, .box 60 (T 0)⟩,
    ⟨(some 2), none, .mov (.const (.bool false))⟩])
  (.seq (.region [⟨(some 3), none, .fieldAddr 1 (T 1)⟩,
    ⟨(some 4), none, .load false 1 (T 3)⟩,
    ⟨(some 5), none, .mov (T 4)⟩,
    ⟨(some 6), (some (5, true)), .fieldAddr 4 (T 1)⟩,
    ⟨(some 7), (some (5, true)), .load false 1 (T 6)⟩,
    ⟨(some 8), (some (5, true)), .lnot (T 7)⟩,
    ⟨(some 9), none, .pick (T 5) (T 8) (.const (.bool false))⟩,
    ⟨(some 2), none, .mov (T 9)⟩])
  .ret))
theorem f58 : fnC Try.prog 58 = some (c58, 10, [(.tmp 2)]) := by kernel_rfl

/-- (*errata.Hall).decide$2 -/
def c59 : CCode :=
  (.seq (.region [⟨(some 2), none, .mov (.const (.bool false))⟩])
  (.seq (.region [⟨(some 2), none, .mov (.const (.bool true))⟩])
  .ret))
theorem f59 : fnC Try.prog 59 = some (c59, 3, [(.tmp 2)]) := by kernel_rfl

/-- (*errata.Hall).decide$3 -/
def c60 : CCode :=
  (.seq (.region [⟨(some 2), none, .mov (T 0)⟩,
    ⟨(some 3), none, .nilCheck (T 2)⟩,
    ⟨(some 4), none, .fieldAddr 4 (T 3)⟩,
    ⟨none, none, .store 1 (T 4) (.const (.bool false))⟩])
  (.region [⟨(some 5), none, .mov (T 0)⟩,
    ⟨(some 6), none, .mov (T 0)⟩,
    ⟨(some 7), none, .nilCheck (T 6)⟩,
    ⟨(some 8), none, .fieldAddr 0 (T 7)⟩,
    ⟨(some 9), none, .load false 1 (T 8)⟩,
    ⟨(some 10), none, .build [(.val (.bool false)), (.val (.bool false)), (.val (.bool false))] [(2, (1, (T 9)))]⟩,
    ⟨(some 11), none, .nilCheck (T 5)⟩,
    ⟨(some 12), none, .fieldAddr 5 (T 11)⟩,
    ⟨none, none, .store 3 (T 12) (T 10)⟩]))
theorem f60 : fnC Try.prog 60 = some (c60, 13, []) := by kernel_rfl

/-- (*dactylref41.Hall).Comes -/
def c61 : CCode :=
  (.seq (.region [⟨(some 8), none, .mov (T 0)⟩,
    ⟨(some 9), none, .nilCheck (T 8)⟩,
    ⟨(some 10), none, .fieldAddr 0 (T 9)⟩,
    ⟨(some 11), none, .load false 1 (T 10)⟩,
    ⟨(some 12), none, .mov (T 1)⟩,
    ⟨(some 13), none, .idxS 8 (T 11) (T 12)⟩,
    ⟨(some 14), none, .load true 8 (T 13)⟩,
    ⟨(some 6), none, .alloc 78 (.agg [(.val (.bool false)), (.val (.bool false)), (.val (.int .i64 0)), (.val (.bool false)), (.val (.bool false)), (.val (.bool false)), (.val (.bool false)), (.val (.bool false))])⟩,
    ⟨none, none, .store 8 (T 6) (T 14)⟩])
  (.seq (.seq (.region [⟨(some 15), none, .fieldAddr 0 (T 6)⟩,
    ⟨(some 16), none, .load false 1 (T 15)⟩,
    ⟨(some 17), none, .lnot (T 16)⟩])
  (.cond (T 17)
    .ret
    .skip))
  (.seq (.drawn [⟨(some 18), none, .fieldAddr 1 (T 6)⟩,
    ⟨(some 19), none, .load false 1 (T 18)⟩,
    ⟨(some 20), none, .mov (T 19)⟩,
    ⟨(some 21), (some (20, true)), .fieldAddr 2 (T 6)⟩,
    ⟨(some 22), (some (20, true)), .load false 1 (T 21)⟩,
    ⟨(some 23), (some (20, true)), .mov (T 0)⟩,
    ⟨(some 24), (some (20, true)), .nilCheck (T 23)⟩,
    ⟨(some 25), (some (20, true)), .fieldAddr 1 (T 24)⟩,
    ⟨(some 26), (some (20, true)), .load false 1 (T 25)⟩,
    ⟨(some 27), (some (20, true)), .len (T 26)⟩,
    ⟨(some 28), (some (20, true)), .ibin .eql (T 22) (T 27)⟩,
    ⟨(some 29), none, .pick (T 20) (T 28) (.const (.bool false))⟩,
    ⟨(some 7), none, .mov (T 29)⟩] [])
  (.seq (.seq (.region [⟨(some 30), none, .mov (T 2)⟩,
    ⟨(some 31), none, .ibin .eql (T 30) (.const (.int .i64 0))⟩,
    ⟨(some 32), none, .mov (T 31)⟩,
    ⟨(some 33), (some (32, true)), .mov (T 0)⟩,
    ⟨(some 34), (some (32, true)), .nilCheck (T 33)⟩,
    ⟨(some 35), (some (32, true)), .fieldAddr 2 (T 34)⟩,
    ⟨(some 36), (some (32, true)), .load false 1 (T 35)⟩,
    ⟨(some 37), (some (32, true)), .ibin .neq (T 36) (.const (.int .i64 0))⟩,
    ⟨(some 38), none, .pick (T 32) (T 37) (.const (.bool false))⟩,
    ⟨(some 39), none, .mov (T 38)⟩,
    ⟨(some 40), (some (39, true)), .mov (T 7)⟩,
    ⟨(some 41), none, .pick (T 39) (T 40) (.const (.bool false))⟩])
  (.cond (T 41)
    (.seq (.region [⟨(some 42), none, .fieldAddr 3 (T 6)⟩,
      ⟨none, none, .store 1 (T 42) (.const (.bool true))⟩])
    (.region [⟨(some 43), none, .fieldAddr 5 (T 6)⟩,
      ⟨(some 44), none, .idxA 3 1 (T 43) (.const (.int .i64 1))⟩,
      ⟨none, none, .store 1 (T 44) (.const (.bool true))⟩]))
    .skip))
  (.seq (.seq (.region [⟨(some 45), none, .mov (T 2)⟩,
    ⟨(some 46), none, .ibin .eql (T 45) (.const (.int .i64 1))⟩,
    ⟨(some 47), none, .mov (T 46)⟩,
    ⟨(some 48), (some (47, true)), .mov (T 0)⟩,
    ⟨(some 49), (some (47, true)), .nilCheck (T 48)⟩,
    ⟨(some 50), (some (47, true)), .fieldAddr 2 (T 49)⟩,
    ⟨(some 51), (some (47, true)), .load false 1 (T 50)⟩,
    ⟨(some 52), (some (47, true)), .ibin .neq (T 51) (.const (.int .i64 0))⟩,
    ⟨(some 53), none, .pick (T 47) (T 52) (.const (.bool false))⟩,
    ⟨(some 54), none, .mov (T 53)⟩,
    ⟨(some 55), (some (54, true)), .mov (T 7)⟩,
    ⟨(some 56), none, .pick (T 54) (T 55) (.const (.bool false))⟩,
    ⟨(some 57), none, .mov (T 56)⟩,
    ⟨(some 58), (some (57, true)), .fieldAddr 3 (T 6)⟩,
    ⟨(some 59), (some (57, true)), .load false 1 (T 58)⟩,
    ⟨(some 60), none, .pick (T 57) (T 59) (.const (.bool false))⟩])
  (.cond (T 60)
    (.region [⟨(some 61), none, .fieldAddr 4 (T 6)⟩,
      ⟨none, none, .store 1 (T 61) (.const (.bool true))⟩])
    .skip))
  (.seq (.seq (.region [⟨(some 62), none, .mov (T 2)⟩,
    ⟨(some 63), none, .ibin .eql (T 62) (.const (.int .i64 2))⟩])
  (.cond (T 63)
    (.seq (.region [⟨(some 64), none, .fieldAddr 1 (T 6)⟩,
      ⟨none, none, .store 1 (T 64) (.const (.bool true))⟩])
    (.seq (.region [⟨(some 65), none, .mov (T 0)⟩,
      ⟨(some 66), none, .nilCheck (T 65)⟩,
      ⟨(some 67), none, .fieldAddr 1 (T 66)⟩,
      ⟨(some 68), none, .load false 1 (T 67)⟩,
      ⟨(some 69), none, .len (T 68)⟩,
      ⟨(some 70), none, .fieldAddr 2 (T 6)⟩,
      ⟨none, none, .store 1 (T 70) (T 69)⟩])
    (.seq (.region [⟨(some 71), none, .fieldAddr 3 (T 6)⟩,
      ⟨none, none, .store 1 (T 71) (.const (.bool false))⟩])
    (.seq (.region [⟨(some 72), none, .fieldAddr 4 (T 6)⟩,
      ⟨none, none, .store 1 (T 72) (.const (.bool false))⟩])
    (.seq (.region [⟨(some 73), none, .mov (T 0)⟩,
      ⟨(some 74), none, .nilCheck (T 73)⟩,
      ⟨(some 75), none, .fieldAddr 2 (T 74)⟩,
      ⟨(some 76), none, .load false 1 (T 75)⟩,
      ⟨(some 77), none, .ibin .neq (T 76) (.const (.int .i64 0))⟩])
    (.cond (T 77)
      (.region [⟨(some 78), none, .fieldAddr 5 (T 6)⟩,
        ⟨(some 79), none, .idxA 3 1 (T 78) (.const (.int .i64 0))⟩,
        ⟨none, none, .store 1 (T 79) (.const (.bool true))⟩])
      .skip))))))
    .skip))
  (.seq (.drawn [⟨(some 80), none, .mov (T 0)⟩,
    ⟨(some 81), none, .nilCheck (T 80)⟩,
    ⟨(some 82), none, .fieldAddr 0 (T 81)⟩,
    ⟨(some 83), none, .load false 1 (T 82)⟩,
    ⟨(some 84), none, .mov (T 1)⟩,
    ⟨(some 85), none, .load true 8 (T 6)⟩,
    ⟨(some 86), none, .idxS 8 (T 83) (T 84)⟩] [(⟨none, none, .store 8 (T 86) (T 85)⟩, [])])
  (.seq (.region [⟨(some 87), none, .mov (T 2)⟩,
    ⟨(some 88), none, .ibin .eql (T 87) (.const (.int .i64 1))⟩,
    ⟨(some 89), none, .mov (T 88)⟩,
    ⟨(some 90), (some (89, true)), .fieldAddr 4 (T 6)⟩,
    ⟨(some 91), (some (89, true)), .load false 1 (T 90)⟩,
    ⟨(some 92), none, .pick (T 89) (T 91) (.const (.bool false))⟩])
  (.cond (T 92)
    (.region [⟨(some 93), none, .mov (T 0)⟩,
      ⟨(some 94), none, .call (.func 46) [(T 93)]⟩])
    .skip)))))))))
theorem f61 : fnC Try.prog 61 = some (c61, 95, []) := by kernel_rfl

/-- math/bits.Mul32 -/
def c62 : CCode :=
  (.seq (.region [⟨(some 4), none, .mov (.const (.int .u32 0))⟩,
    ⟨(some 5), none, .mov (.const (.int .u32 0))⟩])
  (.seq (.region [⟨(some 7), none, .mov (T 0)⟩,
    ⟨(some 8), none, .conv .u64 (T 7)⟩,
    ⟨(some 9), none, .mov (T 1)⟩,
    ⟨(some 10), none, .conv .u64 (T 9)⟩,
    ⟨(some 11), none, .ibin .mul (T 8) (T 10)⟩,
    ⟨(some 6), none, .mov (T 11)⟩])
  (.seq (.region [⟨(some 12), none, .mov (T 6)⟩,
    ⟨(some 13), none, .ibin .shr (T 12) (.const (.int .u64 32))⟩,
    ⟨(some 14), none, .conv .u32 (T 13)⟩,
    ⟨(some 15), none, .mov (T 6)⟩,
    ⟨(some 16), none, .conv .u32 (T 15)⟩,
    ⟨(some 4), none, .mov (T 14)⟩,
    ⟨(some 5), none, .mov (T 16)⟩])
  .ret)))
theorem f62 : fnC Try.prog 62 = some (c62, 17, [(.tmp 4), (.tmp 5)]) := by kernel_rfl

/-- math/bits.Mul64 -/
def c63 : CCode :=
  (.seq (.region [⟨(some 4), none, .mov (.const (.int .u64 0))⟩,
    ⟨(some 5), none, .mov (.const (.int .u64 0))⟩])
  (.seq (.region [⟨(some 14), none, .mov (T 0)⟩,
    ⟨(some 15), none, .ibin .and (T 14) (.const (.int .u64 4294967295))⟩,
    ⟨(some 6), none, .mov (T 15)⟩])
  (.seq (.region [⟨(some 16), none, .mov (T 0)⟩,
    ⟨(some 17), none, .ibin .shr (T 16) (.const (.int .u64 32))⟩,
    ⟨(some 7), none, .mov (T 17)⟩])
  (.seq (.region [⟨(some 18), none, .mov (T 1)⟩,
    ⟨(some 19), none, .ibin .and (T 18) (.const (.int .u64 4294967295))⟩,
    ⟨(some 8), none, .mov (T 19)⟩])
  (.seq (.region [⟨(some 20), none, .mov (T 1)⟩,
    ⟨(some 21), none, .ibin .shr (T 20) (.const (.int .u64 32))⟩,
    ⟨(some 9), none, .mov (T 21)⟩])
  (.seq (.region [⟨(some 22), none, .mov (T 6)⟩,
    ⟨(some 23), none, .mov (T 8)⟩,
    ⟨(some 24), none, .ibin .mul (T 22) (T 23)⟩,
    ⟨(some 10), none, .mov (T 24)⟩])
  (.seq (.region [⟨(some 25), none, .mov (T 7)⟩,
    ⟨(some 26), none, .mov (T 8)⟩,
    ⟨(some 27), none, .ibin .mul (T 25) (T 26)⟩,
    ⟨(some 28), none, .mov (T 10)⟩,
    ⟨(some 29), none, .ibin .shr (T 28) (.const (.int .u64 32))⟩,
    ⟨(some 30), none, .ibin .add (T 27) (T 29)⟩,
    ⟨(some 11), none, .mov (T 30)⟩])
  (.seq (.region [⟨(some 31), none, .mov (T 11)⟩,
    ⟨(some 32), none, .ibin .and (T 31) (.const (.int .u64 4294967295))⟩,
    ⟨(some 12), none, .mov (T 32)⟩])
  (.seq (.region [⟨(some 33), none, .mov (T 11)⟩,
    ⟨(some 34), none, .ibin .shr (T 33) (.const (.int .u64 32))⟩,
    ⟨(some 13), none, .mov (T 34)⟩])
  (.seq (.region [⟨(some 35), none, .mov (T 12)⟩,
    ⟨(some 36), none, .mov (T 6)⟩,
    ⟨(some 37), none, .mov (T 9)⟩,
    ⟨(some 38), none, .ibin .mul (T 36) (T 37)⟩,
    ⟨(some 39), none, .ibin .add (T 35) (T 38)⟩,
    ⟨(some 12), none, .mov (T 39)⟩])
  (.seq (.region [⟨(some 40), none, .mov (T 7)⟩,
    ⟨(some 41), none, .mov (T 9)⟩,
    ⟨(some 42), none, .ibin .mul (T 40) (T 41)⟩,
    ⟨(some 43), none, .mov (T 13)⟩,
    ⟨(some 44), none, .ibin .add (T 42) (T 43)⟩,
    ⟨(some 45), none, .mov (T 12)⟩,
    ⟨(some 46), none, .ibin .shr (T 45) (.const (.int .u64 32))⟩,
    ⟨(some 47), none, .ibin .add (T 44) (T 46)⟩,
    ⟨(some 4), none, .mov (T 47)⟩])
  (.seq (.region [⟨(some 48), none, .mov (T 0)⟩,
    ⟨(some 49), none, .mov (T 1)⟩,
    ⟨(some 50), none, .ibin .mul (T 48) (T 49)⟩,
    ⟨(some 5), none, .mov (T 50)⟩])
  .ret))))))))))))
theorem f63 : fnC Try.prog 63 = some (c63, 51, [(.tmp 4), (.tmp 5)]) := by kernel_rfl

/-- slices.IndexFunc[[]errata.device,errata.device] -/
def c64 : CCode :=
  (.seq (.region [⟨(some 4), none, .mov (.const (.int .i64 0))⟩])
  (.seq (.seq (.region [⟨(some 6), none, .mov (T 0)⟩,
    ⟨(some 7), none, .len (T 6)⟩,
    ⟨(some 8), none, .mov (.const (.int .i64 0))⟩])
  (.block 0 (.loop
    (.seq (.region [⟨(some 9), none, .ibin .lss (T 8) (T 7)⟩])
    (.seq (.cond (T 9)
      .skip
      (.exit 0))
    (.seq (.block 1 (.seq (.region [⟨(some 10), none, .mov (T 8)⟩,
      ⟨(some 5), none, .mov (T 10)⟩])
    (.seq (.region [⟨(some 11), none, .mov (T 1)⟩,
      ⟨(some 12), none, .mov (T 0)⟩,
      ⟨(some 13), none, .mov (T 5)⟩,
      ⟨(some 14), none, .idxS 8 (T 12) (T 13)⟩,
      ⟨(some 15), none, .load true 8 (T 14)⟩,
      ⟨(some 16), none, .call (T 11) [(T 15)]⟩])
    (.cond (T 16)
      (.seq (.region [⟨(some 17), none, .mov (T 5)⟩,
        ⟨(some 4), none, .mov (T 17)⟩])
      .ret)
      .skip))))
    (.region [⟨(some 18), none, .ibin .add (T 8) (.const (.int .i64 1))⟩,
      ⟨(some 8), none, .mov (T 18)⟩])))))))
  (.seq (.region [⟨(some 4), none, .mov (.const (.int .i64 (-1)))⟩])
  .ret)))
theorem f64 : fnC Try.prog 64 = some (c64, 19, [(.tmp 4)]) := by kernel_rfl

end Go.Proofs.Ytjpknjicfoiheaa
