/- The compiled form of the functions of this claim: each equation is checked by the kernel. -/
import Derived.Test.YtjljhmeadfejhaaChecked
import Derived.Test.YtjljhmeadfejhaaE21
set_option maxRecDepth 100000
namespace Go.Proofs.Ytjljhmeadfejhaa
open Go.Eng
/-- concourse/concourselaw11.NamesFinds -/
def A3 : AFun := ⟨71, [.t 4],
  .seq (.reg [⟨(some 4), .pl (.mv (.c (.bool false))), none⟩] [0, 1])
  (.seq (.reg [⟨(some 12), .pl (.mv (.t 0)), none⟩,
     ⟨(some 13), .call (.c (.fn 11 [] [])) [(.t 12)], none⟩,
     ⟨(some 5), .pl (.mv (.t 13)), none⟩] [0, 1, 5])
  (.seq (.reg [⟨(some 15), .pl (.mv (.t 5)), none⟩,
     ⟨(some 16), .pl (.mv (.t 1)), none⟩,
     ⟨(some 17), .call (.c (.fn 12 [] [])) [(.t 15), (.t 16)], none⟩,
     ⟨(some 14), .pl (.mv (.t 17)), none⟩,
     ⟨(some 18), .pl (.ext 0 (.t 14)), none⟩,
     ⟨(some 19), .pl (.ext 1 (.t 14)), none⟩,
     ⟨(some 6), .pl (.mv (.t 18)), none⟩,
     ⟨(some 7), .pl (.mv (.t 19)), none⟩] [0, 1, 5, 6, 7])
  (.seq (.reg [⟨(some 20), .pl (.mv (.t 0)), none⟩,
     ⟨(some 21), .pl (.mv (.t 1)), none⟩,
     ⟨(some 22), .call (.c (.fn 13 [] [])) [(.t 20), (.t 21)], none⟩,
     ⟨(some 8), .pl (.mv (.t 22)), none⟩] [0, 1, 5, 6, 7, 8])
  (.seq (.reg [⟨(some 9), .pl (.mv (.c (.nilp))), none⟩] [0, 1, 5, 6, 7, 8, 9])
  (.seq (.reg [⟨(some 24), .pl (.mv (.t 9)), none⟩,
     ⟨(some 25), .pl (.mv (.t 1)), none⟩,
     ⟨(some 26), .call (.c (.fn 12 [] [])) [(.t 24), (.t 25)], none⟩,
     ⟨(some 23), .pl (.mv (.t 26)), none⟩,
     ⟨(some 27), .pl (.ext 0 (.t 23)), none⟩,
     ⟨(some 28), .pl (.ext 1 (.t 23)), none⟩,
     ⟨(some 10), .pl (.mv (.t 27)), none⟩,
     ⟨(some 11), .pl (.mv (.t 28)), none⟩] [0, 1, 5, 6, 7, 8, 9, 11])
  (.seq (.reg [⟨(some 29), .pl (.mv (.t 7)), none⟩,
     ⟨(some 30), .pl (.mv (.t 8)), none⟩,
     ⟨(some 31), .pl (.bin .geq .no (.t 30) (.c (.int .i64 0))), none⟩,
     ⟨(some 32), .pl (.bin .eql .bool (.t 29) (.t 31)), none⟩,
     ⟨(some 33), .pl (.mv (.t 32)), none⟩,
     ⟨(some 34), .pl (.mv (.t 7)), (some (33, true))⟩,
     ⟨(some 35), .pl (.mv (.t 34)), (some (33, true))⟩,
     ⟨(some 36), .pl (.mv (.t 6)), (some (35, true))⟩,
     ⟨(some 37), .pl (.mv (.t 8)), (some (35, true))⟩,
     ⟨(some 38), .pl (.bin .eql .no (.t 36) (.t 37)), (some (35, true))⟩,
     ⟨(some 39), .pl (.pick (.t 35) (.t 38) (.c (.bool false))), (some (33, true))⟩,
     ⟨(some 40), .pl (.mv (.t 39)), (some (33, true))⟩,
     ⟨(some 41), .pl (.mv (.t 7)), (some (40, false))⟩,
     ⟨(some 42), .pl (.un .not (.t 41)), (some (40, false))⟩,
     ⟨(some 43), .pl (.mv (.t 42)), (some (40, false))⟩,
     ⟨(some 44), .pl (.mv (.t 6)), (some (43, true))⟩,
     ⟨(some 45), .pl (.bin .eql .no (.t 44) (.c (.int .i64 0))), (some (43, true))⟩,
     ⟨(some 46), .pl (.pick (.t 43) (.t 45) (.c (.bool false))), (some (40, false))⟩,
     ⟨(some 47), .pl (.pick (.t 40) (.c (.bool true)) (.t 46)), (some (33, true))⟩,
     ⟨(some 48), .pl (.pick (.t 33) (.t 47) (.c (.bool false))), none⟩,
     ⟨(some 49), .pl (.mv (.t 48)), none⟩,
     ⟨(some 50), .pl (.mv (.t 5)), (some (49, true))⟩,
     ⟨(some 51), .pl (.mv (.t 1)), (some (49, true))⟩,
     ⟨(some 52), .call (.c (.fn 14 [] [])) [(.t 50), (.t 51)], (some (49, true))⟩,
     ⟨(some 53), .pl (.mv (.t 0)), (some (49, true))⟩,
     ⟨(some 54), .pl (.mv (.t 1)), (some (49, true))⟩,
     ⟨(some 55), .call (.c (.fn 15 [] [])) [(.t 53), (.t 54)], (some (49, true))⟩,
     ⟨(some 56), .pl (.bin .eql .no (.t 52) (.t 55)), (some (49, true))⟩,
     ⟨(some 57), .pl (.pick (.t 49) (.t 56) (.c (.bool false))), none⟩,
     ⟨(some 58), .pl (.mv (.t 57)), none⟩,
     ⟨(some 59), .pl (.mv (.t 11)), (some (58, true))⟩,
     ⟨(some 60), .pl (.un .not (.t 59)), (some (58, true))⟩,
     ⟨(some 61), .pl (.pick (.t 58) (.t 60) (.c (.bool false))), none⟩,
     ⟨(some 62), .pl (.mv (.t 61)), none⟩,
     ⟨(some 63), .pl (.mv (.t 9)), (some (62, true))⟩,
     ⟨(some 64), .pl (.mv (.t 1)), (some (62, true))⟩,
     ⟨(some 65), .call (.c (.fn 14 [] [])) [(.t 63), (.t 64)], (some (62, true))⟩,
     ⟨(some 66), .pl (.bin .eql .no (.t 65) (.c (.int .i64 0))), (some (62, true))⟩,
     ⟨(some 67), .pl (.pick (.t 62) (.t 66) (.c (.bool false))), none⟩,
     ⟨(some 68), .pl (.mv (.t 67)), none⟩,
     ⟨(some 69), .call (.c (.fn 16 [] [])) [], (some (68, true))⟩,
     ⟨(some 70), .pl (.pick (.t 68) (.t 69) (.c (.bool false))), none⟩,
     ⟨(some 4), .pl (.mv (.t 70)), none⟩] [4])
  (.ret)))))))⟩
theorem c3 : compF Try.prog 3 = some A3 := by kernel_rfl

/-- concourse/concourselaw11.NamesOwn -/
def A4_l0 : AC := .seq (.seq (.reg [⟨(some 10), .pl (.mv (.t 5)), none⟩,
      ⟨(some 11), .pl (.mv (.t 0)), none⟩,
      ⟨(some 12), .pl (.lenL (.t 11)), none⟩,
      ⟨(some 13), .pl (.bin .lss .no (.t 10) (.t 12)), none⟩] [0, 3, 4, 5, 13])
   (.cond (.t 13)
    (.skip)
    (.exit 0)))
  (.seq (.block 1 (.seq (.reg [⟨(some 17), .pl (.mv (.t 3)), none⟩,
       ⟨(some 18), .pl (.mv (.t 0)), none⟩,
       ⟨(some 19), .pl (.mv (.t 5)), none⟩,
       ⟨(some 20), .pl (.ia 5 (.t 18) (.t 19)), none⟩,
       ⟨(some 21), .pl (.fa 1 (.t 20)), none⟩,
       ⟨(some 22), .pl (.load none (.t 21)), none⟩,
       ⟨(some 23), .call (.c (.fn 12 [] [])) [(.t 17), (.t 22)], none⟩,
       ⟨(some 16), .pl (.mv (.t 23)), none⟩,
       ⟨(some 24), .pl (.ext 0 (.t 16)), none⟩,
       ⟨(some 25), .pl (.ext 1 (.t 16)), none⟩,
       ⟨(some 6), .pl (.mv (.t 24)), none⟩,
       ⟨(some 7), .pl (.mv (.t 25)), none⟩] [0, 3, 4, 5, 6, 7])
    (.seq (.seq (.reg [⟨(some 26), .pl (.mv (.t 7)), none⟩,
        ⟨(some 27), .pl (.un .not (.t 26)), none⟩,
        ⟨(some 28), .pl (.mv (.t 27)), none⟩,
        ⟨(some 29), .pl (.mv (.t 6)), (some (28, false))⟩,
        ⟨(some 30), .pl (.bin .lss .no (.t 29) (.c (.int .i64 0))), (some (28, false))⟩,
        ⟨(some 31), .pl (.pick (.t 28) (.c (.bool true)) (.t 30)), none⟩,
        ⟨(some 32), .pl (.mv (.t 31)), none⟩,
        ⟨(some 33), .pl (.mv (.t 6)), (some (32, false))⟩,
        ⟨(some 34), .pl (.mv (.t 5)), (some (32, false))⟩,
        ⟨(some 35), .pl (.bin .gtr .no (.t 33) (.t 34)), (some (32, false))⟩,
        ⟨(some 36), .pl (.pick (.t 32) (.c (.bool true)) (.t 35)), none⟩] [0, 3, 4, 5, 6, 36])
     (.cond (.t 36)
      (.seq (.reg [⟨(some 2), .pl (.mv (.c (.bool false))), none⟩] [2])
       (.ret))
      (.skip)))
    (.reg [⟨(some 37), .pl (.mv (.t 4)), none⟩,
      ⟨(some 38), .pl (.mv (.t 37)), none⟩,
      ⟨(some 39), .pl (.mv (.t 6)), (some (38, true))⟩,
      ⟨(some 40), .pl (.mv (.t 5)), (some (38, true))⟩,
      ⟨(some 41), .pl (.bin .eql .no (.t 39) (.t 40)), (some (38, true))⟩,
      ⟨(some 42), .pl (.pick (.t 38) (.t 41) (.c (.bool false))), none⟩,
      ⟨(some 4), .pl (.mv (.t 42)), none⟩] [0, 3, 4, 5]))))
  (.reg [⟨(some 14), .pl (.mv (.t 5)), none⟩,
    ⟨(some 15), .pl (.bin .add .no (.t 14) (.c (.int .i64 1))), none⟩,
    ⟨(some 5), .pl (.mv (.t 15)), none⟩] [0, 3, 4, 5]))
def A4_r0 : AC := .seq (.reg [⟨(some 43), .pl (.mv (.t 4)), none⟩,
     ⟨(some 44), .pl (.mv (.t 0)), none⟩,
     ⟨(some 45), .call (.c (.fn 17 [] [])) [(.t 44)], none⟩,
     ⟨(some 46), .pl (.bin .lss .no (.t 45) (.c (.int .i64 0))), none⟩,
     ⟨(some 47), .pl (.bin .eql .bool (.t 43) (.t 46)), none⟩,
     ⟨(some 48), .pl (.mv (.t 47)), none⟩,
     ⟨(some 49), .call (.c (.fn 16 [] [])) [], (some (48, true))⟩,
     ⟨(some 50), .pl (.pick (.t 48) (.t 49) (.c (.bool false))), none⟩,
     ⟨(some 2), .pl (.mv (.t 50)), none⟩] [2])
  (.ret)
def A4 : AFun := ⟨51, [.t 2],
  .seq (.reg [⟨(some 2), .pl (.mv (.c (.bool false))), none⟩] [0])
  (.seq (.reg [⟨(some 8), .pl (.mv (.t 0)), none⟩,
     ⟨(some 9), .call (.c (.fn 11 [] [])) [(.t 8)], none⟩,
     ⟨(some 3), .pl (.mv (.t 9)), none⟩] [0, 3])
  (.seq (.reg [⟨(some 4), .pl (.mv (.c (.bool true))), none⟩] [0, 3, 4])
  (.seq (.seq (.reg [⟨(some 5), .pl (.mv (.c (.int .i64 0))), none⟩] [0, 3, 4, 5])
   (.block 0 (.loop [0, 3, 4, 5] A4_l0)))
  (A4_r0))))⟩
theorem c4 : compF Try.prog 4 = some A4 := by kernel_rfl

/-- concourse/concourselaw11.NamesParts -/
def A5_l0 : AC := .seq (.seq (.reg [⟨(some 17), .pl (.mv (.t 5)), none⟩,
      ⟨(some 18), .pl (.mv (.t 0)), none⟩,
      ⟨(some 19), .pl (.lenL (.t 18)), none⟩,
      ⟨(some 20), .pl (.bin .lss .no (.t 17) (.t 19)), none⟩] [0, 3, 5, 20])
   (.cond (.t 20)
    (.skip)
    (.exit 0)))
  (.seq (.block 1 (.seq (.regD [⟨(some 24), .pl (.mv (.t 0)), none⟩,
       ⟨(some 25), .pl (.mv (.t 5)), none⟩,
       ⟨(some 26), .pl (.ia 5 (.t 24) (.t 25)), none⟩,
       ⟨(some 27), .pl (.load (some 5) (.t 26)), none⟩,
       ⟨(some 28), .pl (.fa 0 (.t 3)), none⟩,
       ⟨(some 29), .pl (.load none (.t 28)), none⟩,
       ⟨(some 30), .call (.c (.fn 18 [] [])) [(.t 27), (.t 29)], none⟩,
       ⟨(some 23), .pl (.mv (.t 30)), none⟩,
       ⟨(some 31), .pl (.ext 0 (.t 23)), none⟩,
       ⟨(some 32), .pl (.ext 1 (.t 23)), none⟩,
       ⟨(some 6), .pl (.mv (.t 31)), none⟩,
       ⟨(some 7), .pl (.mv (.t 32)), none⟩] [] [0, 3, 5, 6, 7])
    (.seq (.regD [⟨(some 33), .pl (.mv (.t 0)), none⟩,
       ⟨(some 34), .pl (.mv (.t 5)), none⟩,
       ⟨(some 35), .pl (.ia 5 (.t 33) (.t 34)), none⟩,
       ⟨(some 36), .pl (.load (some 5) (.t 35)), none⟩,
       ⟨(some 37), .pl (.fa 0 (.t 3)), none⟩,
       ⟨(some 38), .pl (.load none (.t 37)), none⟩,
       ⟨(some 39), .call (.c (.fn 19 [] [])) [(.t 36), (.t 38)], none⟩,
       ⟨(some 8), .pl (.mv (.t 39)), none⟩] [] [0, 3, 5, 6, 7, 8])
    (.seq (.reg [⟨(some 40), .pl (.mv (.t 7)), none⟩,
       ⟨(some 41), .pl (.mv (.t 8)), none⟩,
       ⟨(some 42), .pl (.bin .geq .no (.t 41) (.c (.int .i64 0))), none⟩,
       ⟨(some 43), .pl (.bin .neq .bool (.t 40) (.t 42)), none⟩,
       ⟨(some 44), .pl (.mv (.t 43)), none⟩,
       ⟨(some 45), .pl (.mv (.t 7)), (some (44, false))⟩,
       ⟨(some 46), .pl (.mv (.t 45)), (some (44, false))⟩,
       ⟨(some 47), .pl (.mv (.t 6)), (some (46, true))⟩,
       ⟨(some 48), .pl (.mv (.t 8)), (some (46, true))⟩,
       ⟨(some 49), .pl (.bin .neq .no (.t 47) (.t 48)), (some (46, true))⟩,
       ⟨(some 50), .pl (.pick (.t 46) (.t 49) (.c (.bool false))), (some (44, false))⟩,
       ⟨(some 51), .pl (.pick (.t 44) (.c (.bool true)) (.t 50)), none⟩,
       ⟨(some 52), .pl (.mv (.t 51)), none⟩,
       ⟨(some 53), .pl (.mv (.t 7)), (some (52, false))⟩,
       ⟨(some 54), .pl (.un .not (.t 53)), (some (52, false))⟩,
       ⟨(some 55), .pl (.mv (.t 54)), (some (52, false))⟩,
       ⟨(some 56), .pl (.mv (.t 6)), (some (55, true))⟩,
       ⟨(some 57), .pl (.bin .neq .no (.t 56) (.c (.int .i64 0))), (some (55, true))⟩,
       ⟨(some 58), .pl (.pick (.t 55) (.t 57) (.c (.bool false))), (some (52, false))⟩,
       ⟨(some 59), .pl (.pick (.t 52) (.c (.bool true)) (.t 58)), none⟩] [0, 3, 5, 59])
    (.cond (.t 59)
     (.seq (.reg [⟨(some 4), .pl (.mv (.c (.bool false))), none⟩] [4])
      (.ret))
     (.skip))))))
  (.reg [⟨(some 21), .pl (.mv (.t 5)), none⟩,
    ⟨(some 22), .pl (.bin .add .no (.t 21) (.c (.int .i64 1))), none⟩,
    ⟨(some 5), .pl (.mv (.t 22)), none⟩] [0, 3, 5]))
def A5_r0 : AC := .seq (.reg [⟨(some 61), .pl (.mv (.t 0)), none⟩,
     ⟨(some 62), .pl (.fa 1 (.t 3)), none⟩,
     ⟨(some 63), .pl (.load none (.t 62)), none⟩,
     ⟨(some 64), .pl (.fa 2 (.t 3)), none⟩,
     ⟨(some 65), .pl (.load none (.t 64)), none⟩,
     ⟨(some 66), .call (.c (.fn 20 [] [])) [(.t 61), (.t 63), (.t 65)], none⟩,
     ⟨(some 60), .pl (.mv (.t 66)), none⟩,
     ⟨(some 67), .pl (.ext 0 (.t 60)), none⟩,
     ⟨(some 68), .pl (.ext 1 (.t 60)), none⟩,
     ⟨(some 9), .pl (.alloc [.int .i64 0, .str ⟨#[]⟩, .str ⟨#[]⟩, .str ⟨#[]⟩, .bool false]), none⟩,
     ⟨none, .pl (.store 5 (.t 9) (.t 67)), none⟩,
     ⟨(some 10), .pl (.mv (.t 68)), none⟩] [0, 3, 9, 10])
  (.seq (.reg [⟨(some 70), .pl (.mv (.t 0)), none⟩,
     ⟨(some 71), .pl (.fa 1 (.t 3)), none⟩,
     ⟨(some 72), .pl (.load none (.t 71)), none⟩,
     ⟨(some 73), .pl (.fa 2 (.t 3)), none⟩,
     ⟨(some 74), .pl (.load none (.t 73)), none⟩,
     ⟨(some 75), .call (.c (.fn 21 [] [])) [(.t 70), (.t 72), (.t 74)], none⟩,
     ⟨(some 69), .pl (.mv (.t 75)), none⟩,
     ⟨(some 76), .pl (.ext 0 (.t 69)), none⟩,
     ⟨(some 77), .pl (.ext 1 (.t 69)), none⟩,
     ⟨(some 11), .pl (.alloc [.int .i64 0, .str ⟨#[]⟩, .str ⟨#[]⟩, .str ⟨#[]⟩, .bool false]), none⟩,
     ⟨none, .pl (.store 5 (.t 11) (.t 76)), none⟩,
     ⟨(some 12), .pl (.mv (.t 77)), none⟩] [0, 9, 10, 11, 12])
  (.seq (.reg [⟨(some 78), .pl (.load (some 5) (.t 9)), none⟩,
     ⟨(some 79), .pl (.load (some 5) (.t 11)), none⟩,
     ⟨(some 80), .pl (.bin .eql (.strct [(0, 0), (1, 1), (2, 1), (3, 1), (4, 2)]) (.t 78) (.t 79)), none⟩,
     ⟨(some 81), .pl (.mv (.t 80)), none⟩,
     ⟨(some 82), .pl (.mv (.t 10)), (some (81, true))⟩,
     ⟨(some 83), .pl (.mv (.t 12)), (some (81, true))⟩,
     ⟨(some 84), .pl (.bin .eql .bool (.t 82) (.t 83)), (some (81, true))⟩,
     ⟨(some 85), .pl (.pick (.t 81) (.t 84) (.c (.bool false))), none⟩,
     ⟨(some 86), .pl (.mv (.t 85)), none⟩,
     ⟨(some 87), .pl (.mv (.t 0)), (some (86, true))⟩,
     ⟨(some 88), .call (.c (.fn 17 [] [])) [(.t 87)], (some (86, true))⟩,
     ⟨(some 89), .pl (.mv (.t 0)), (some (86, true))⟩,
     ⟨(some 90), .call (.c (.fn 22 [] [])) [(.t 89)], (some (86, true))⟩,
     ⟨(some 91), .pl (.bin .eql .no (.t 88) (.t 90)), (some (86, true))⟩,
     ⟨(some 92), .pl (.pick (.t 86) (.t 91) (.c (.bool false))), none⟩,
     ⟨(some 93), .pl (.mv (.t 92)), none⟩,
     ⟨(some 94), .call (.c (.fn 16 [] [])) [], (some (93, true))⟩,
     ⟨(some 95), .pl (.pick (.t 93) (.t 94) (.c (.bool false))), none⟩,
     ⟨(some 4), .pl (.mv (.t 95)), none⟩] [4])
  (.ret)))
def A5 : AFun := ⟨96, [.t 4],
  .seq (.reg [⟨(some 3), .pl (.box (.t 1)), none⟩,
     ⟨(some 4), .pl (.mv (.c (.bool false))), none⟩] [0, 3])
  (.seq (.seq (.reg [⟨(some 13), .pl (.mv (.t 0)), none⟩,
      ⟨(some 14), .pl (.lenL (.t 13)), none⟩,
      ⟨(some 15), .pl (.bin .gtr .no (.t 14) (.c (.int .i64 300))), none⟩] [0, 3, 15])
   (.cond (.t 15)
    (.seq (.reg [⟨(some 16), .call (.c (.fn 16 [] [])) [], none⟩,
        ⟨(some 4), .pl (.mv (.t 16)), none⟩] [4])
     (.ret))
    (.skip)))
  (.seq (.seq (.reg [⟨(some 5), .pl (.mv (.c (.int .i64 0))), none⟩] [0, 3, 5])
   (.block 0 (.loop [0, 3, 5] A5_l0)))
  (A5_r0)))⟩
theorem c5 : compF Try.prog 5 = some A5 := by kernel_rfl

/-- concourse/names.Of -/
def A11_l0 : AC := .seq (.reg [⟨(some 14), .pl (.bin .lss .no (.t 13) (.t 12)), none⟩] [3, 11, 12, 13, 14])
  (.seq (.cond (.t 14)
    (.skip)
    (.exit 0))
  (.seq (.block 1 (.seq (.reg [⟨(some 15), .pl (.mv (.t 13)), none⟩,
       ⟨(some 16), .pl (.ia 5 (.t 11) (.t 13)), none⟩,
       ⟨(some 17), .pl (.load (some 5) (.t 16)), none⟩,
       ⟨(some 5), .pl (.alloc [.int .i64 0, .str ⟨#[]⟩, .esl, .esl, .int .i64 0]), none⟩,
       ⟨(some 4), .pl (.mv (.t 15)), none⟩,
       ⟨none, .pl (.store 5 (.t 5) (.t 17)), none⟩] [3, 4, 5, 11, 12, 13])
    (.seq (.seq (.regD [⟨(some 19), .pl (.mv (.t 3)), none⟩,
        ⟨(some 20), .pl (.nilck (.t 19)), none⟩,
        ⟨(some 21), .pl (.fa 0 (.t 20)), none⟩,
        ⟨(some 22), .pl (.load none (.t 21)), none⟩,
        ⟨(some 23), .pl (.fa 1 (.t 5)), none⟩,
        ⟨(some 24), .pl (.load none (.t 23)), none⟩,
        ⟨(some 25), .pl (.lookup true (.int .i64 0) true (.t 22) (.t 24)), none⟩,
        ⟨(some 18), .pl (.mv (.t 25)), none⟩,
        ⟨(some 26), .pl (.ext 0 (.t 18)), none⟩,
        ⟨(some 27), .pl (.ext 1 (.t 18)), none⟩,
        ⟨(some 6), .pl (.mv (.t 26)), none⟩,
        ⟨(some 7), .pl (.mv (.t 27)), none⟩] [] [3, 4, 5, 7, 11, 12, 13])
     (.seq (.reg [⟨(some 28), .pl (.mv (.t 7)), none⟩,
        ⟨(some 29), .pl (.un .not (.t 28)), none⟩] [3, 4, 5, 11, 12, 13, 29])
     (.cond (.t 29)
      (.regD [⟨(some 30), .pl (.mv (.t 3)), none⟩,
         ⟨(some 31), .pl (.nilck (.t 30)), none⟩,
         ⟨(some 32), .pl (.fa 0 (.t 31)), none⟩,
         ⟨(some 33), .pl (.load none (.t 32)), none⟩,
         ⟨(some 34), .pl (.fa 1 (.t 5)), none⟩,
         ⟨(some 35), .pl (.load none (.t 34)), none⟩,
         ⟨(some 36), .pl (.mv (.t 4)), none⟩,
         ⟨none, .pl (.mupd true (.t 33) (.t 35) (.t 36)), none⟩] [] [3, 5, 11, 12, 13])
      (.skip))))
    (.regD [⟨(some 37), .pl (.mv (.t 3)), none⟩,
      ⟨(some 38), .pl (.mv (.t 3)), none⟩,
      ⟨(some 39), .pl (.nilck (.t 38)), none⟩,
      ⟨(some 40), .pl (.fa 1 (.t 39)), none⟩,
      ⟨(some 41), .pl (.load none (.t 40)), none⟩,
      ⟨(some 42), .pl (.fa 0 (.t 5)), none⟩,
      ⟨(some 43), .pl (.load none (.t 42)), none⟩,
      ⟨(some 44), .pl (.lit 1 [(.t 43)]), none⟩,
      ⟨(some 45), .pl (.append 3 1 8 (.t 41) (.t 44)), none⟩,
      ⟨(some 46), .pl (.nilck (.t 37)), none⟩,
      ⟨(some 47), .pl (.fa 1 (.t 46)), none⟩,
      ⟨none, .pl (.store 1 (.t 47) (.t 45)), none⟩] [] [3, 11, 12, 13]))))
  (.reg [⟨(some 48), .pl (.bin .add .no (.t 13) (.c (.int .i64 1))), none⟩,
    ⟨(some 13), .pl (.mv (.t 48)), none⟩] [3, 11, 12, 13])))
def A11_r0 : AC := .seq (.reg [⟨(some 49), .pl (.mv (.t 3)), none⟩,
     ⟨(some 2), .pl (.mv (.t 49)), none⟩] [2])
  (.ret)
def A11 : AFun := ⟨50, [.t 2],
  .seq (.reg [⟨(some 2), .pl (.mv (.c (.nilp))), none⟩] [0])
  (.seq (.reg [⟨(some 8), .pl (.mkmap), none⟩,
     ⟨(some 9), .pl (.build [.nilmap, .esl] [(0, 1, (.t 8))]), none⟩,
     ⟨(some 10), .pl (.box (.t 9)), none⟩,
     ⟨(some 3), .pl (.mv (.t 10)), none⟩] [0, 3])
  (.seq (.seq (.reg [⟨(some 11), .pl (.mv (.t 0)), none⟩,
      ⟨(some 12), .pl (.lenL (.t 11)), none⟩,
      ⟨(some 13), .pl (.mv (.c (.int .i64 0))), none⟩] [3, 11, 12, 13])
   (.block 0 (.loop [3, 11, 12, 13] A11_l0)))
  (A11_r0)))⟩
theorem c11 : compF Try.prog 11 = some A11 := by kernel_rfl

/-- (*concourse/names.Table).Find -/
def A12 : AFun := ⟨21, [.t 4, .t 5],
  .seq (.reg [⟨(some 4), .pl (.mv (.c (.int .i64 0))), none⟩,
     ⟨(some 5), .pl (.mv (.c (.bool false))), none⟩] [0, 1])
  (.seq (.seq (.reg [⟨(some 8), .pl (.mv (.t 0)), none⟩,
      ⟨(some 9), .pl (.bin .eql .ptr (.t 8) (.c (.nilp))), none⟩] [0, 1, 9])
   (.cond (.t 9)
    (.seq (.reg [⟨(some 4), .pl (.mv (.c (.int .i64 0))), none⟩,
        ⟨(some 5), .pl (.mv (.c (.bool false))), none⟩] [4, 5])
     (.ret))
    (.skip)))
  (.seq (.reg [⟨(some 11), .pl (.mv (.t 0)), none⟩,
     ⟨(some 12), .pl (.nilck (.t 11)), none⟩,
     ⟨(some 13), .pl (.fa 0 (.t 12)), none⟩,
     ⟨(some 14), .pl (.load none (.t 13)), none⟩,
     ⟨(some 15), .pl (.mv (.t 1)), none⟩,
     ⟨(some 16), .pl (.lookup true (.int .i64 0) true (.t 14) (.t 15)), none⟩,
     ⟨(some 10), .pl (.mv (.t 16)), none⟩,
     ⟨(some 17), .pl (.ext 0 (.t 10)), none⟩,
     ⟨(some 18), .pl (.ext 1 (.t 10)), none⟩,
     ⟨(some 6), .pl (.mv (.t 17)), none⟩,
     ⟨(some 7), .pl (.mv (.t 18)), none⟩] [6, 7])
  (.seq (.reg [⟨(some 19), .pl (.mv (.t 6)), none⟩,
     ⟨(some 20), .pl (.mv (.t 7)), none⟩,
     ⟨(some 4), .pl (.mv (.t 19)), none⟩,
     ⟨(some 5), .pl (.mv (.t 20)), none⟩] [4, 5])
  (.ret))))⟩
theorem c12 : compF Try.prog 12 = some A12 := by kernel_rfl

/-- concourse/concourseref11.Find -/
def A13_l0 : AC := .seq (.seq (.reg [⟨(some 6), .pl (.mv (.t 5)), none⟩,
      ⟨(some 7), .pl (.mv (.t 0)), none⟩,
      ⟨(some 8), .pl (.lenL (.t 7)), none⟩,
      ⟨(some 9), .pl (.bin .lss .no (.t 6) (.t 8)), none⟩] [0, 1, 5, 9])
   (.cond (.t 9)
    (.skip)
    (.exit 0)))
  (.seq (.block 1 (.seq (.reg [⟨(some 12), .pl (.mv (.t 0)), none⟩,
       ⟨(some 13), .pl (.mv (.t 5)), none⟩,
       ⟨(some 14), .pl (.ia 5 (.t 12) (.t 13)), none⟩,
       ⟨(some 15), .pl (.fa 1 (.t 14)), none⟩,
       ⟨(some 16), .pl (.load none (.t 15)), none⟩,
       ⟨(some 17), .pl (.mv (.t 1)), none⟩,
       ⟨(some 18), .pl (.bin .eql .no (.t 16) (.t 17)), none⟩] [0, 1, 5, 18])
    (.cond (.t 18)
     (.seq (.reg [⟨(some 19), .pl (.mv (.t 5)), none⟩,
         ⟨(some 4), .pl (.mv (.t 19)), none⟩] [4])
      (.ret))
     (.skip))))
  (.reg [⟨(some 10), .pl (.mv (.t 5)), none⟩,
    ⟨(some 11), .pl (.bin .add .no (.t 10) (.c (.int .i64 1))), none⟩,
    ⟨(some 5), .pl (.mv (.t 11)), none⟩] [0, 1, 5]))
def A13_r0 : AC := .seq (.reg [⟨(some 4), .pl (.mv (.c (.int .i64 (-1)))), none⟩] [4])
  (.ret)
def A13 : AFun := ⟨20, [.t 4],
  .seq (.reg [⟨(some 4), .pl (.mv (.c (.int .i64 0))), none⟩] [0, 1])
  (.seq (.seq (.reg [⟨(some 5), .pl (.mv (.c (.int .i64 0))), none⟩] [0, 1, 5])
   (.block 0 (.loop [0, 1, 5] A13_l0)))
  (A13_r0))⟩
theorem c13 : compF Try.prog 13 = some A13 := by kernel_rfl

/-- (*concourse/names.Table).Kind -/
def A14 : AFun := ⟨22, [.t 4],
  .seq (.reg [⟨(some 4), .pl (.mv (.c (.int .i64 0))), none⟩] [0, 1])
  (.seq (.reg [⟨(some 8), .pl (.mv (.t 0)), none⟩,
     ⟨(some 9), .pl (.mv (.t 1)), none⟩,
     ⟨(some 10), .call (.c (.fn 12 [] [])) [(.t 8), (.t 9)], none⟩,
     ⟨(some 7), .pl (.mv (.t 10)), none⟩,
     ⟨(some 11), .pl (.ext 0 (.t 7)), none⟩,
     ⟨(some 12), .pl (.ext 1 (.t 7)), none⟩,
     ⟨(some 5), .pl (.mv (.t 11)), none⟩,
     ⟨(some 6), .pl (.mv (.t 12)), none⟩] [0, 5, 6])
  (.seq (.seq (.reg [⟨(some 13), .pl (.mv (.t 6)), none⟩,
      ⟨(some 14), .pl (.un .not (.t 13)), none⟩] [0, 5, 14])
   (.cond (.t 14)
    (.seq (.reg [⟨(some 4), .pl (.mv (.c (.int .i64 0))), none⟩] [4])
     (.ret))
    (.skip)))
  (.seq (.reg [⟨(some 15), .pl (.mv (.t 0)), none⟩,
     ⟨(some 16), .pl (.nilck (.t 15)), none⟩,
     ⟨(some 17), .pl (.fa 1 (.t 16)), none⟩,
     ⟨(some 18), .pl (.load none (.t 17)), none⟩,
     ⟨(some 19), .pl (.mv (.t 5)), none⟩,
     ⟨(some 20), .pl (.ia 1 (.t 18) (.t 19)), none⟩,
     ⟨(some 21), .pl (.load none (.t 20)), none⟩,
     ⟨(some 4), .pl (.mv (.t 21)), none⟩] [4])
  (.ret))))⟩
theorem c14 : compF Try.prog 14 = some A14 := by kernel_rfl

/-- concourse/concourseref11.Kind -/
def A15 : AFun := ⟨16, [.t 4],
  .seq (.reg [⟨(some 4), .pl (.mv (.c (.int .i64 0))), none⟩] [0, 1])
  (.seq (.reg [⟨(some 6), .pl (.mv (.t 0)), none⟩,
     ⟨(some 7), .pl (.mv (.t 1)), none⟩,
     ⟨(some 8), .call (.c (.fn 13 [] [])) [(.t 6), (.t 7)], none⟩,
     ⟨(some 5), .pl (.mv (.t 8)), none⟩] [0, 5])
  (.seq (.seq (.reg [⟨(some 9), .pl (.mv (.t 5)), none⟩,
      ⟨(some 10), .pl (.bin .lss .no (.t 9) (.c (.int .i64 0))), none⟩] [0, 5, 10])
   (.cond (.t 10)
    (.seq (.reg [⟨(some 4), .pl (.mv (.c (.int .i64 0))), none⟩] [4])
     (.ret))
    (.skip)))
  (.seq (.reg [⟨(some 11), .pl (.mv (.t 0)), none⟩,
     ⟨(some 12), .pl (.mv (.t 5)), none⟩,
     ⟨(some 13), .pl (.ia 5 (.t 11) (.t 12)), none⟩,
     ⟨(some 14), .pl (.fa 0 (.t 13)), none⟩,
     ⟨(some 15), .pl (.load none (.t 14)), none⟩,
     ⟨(some 4), .pl (.mv (.t 15)), none⟩] [4])
  (.ret))))⟩
theorem c15 : compF Try.prog 15 = some A15 := by kernel_rfl

/-- concourse/concourselaw11.awake -/
def A16 : AFun := ⟨16, [.t 0],
  .seq (.reg [⟨(some 0), .pl (.mv (.c (.bool false))), none⟩] [])
  (.seq (.reg [⟨(some 4), .pl (.build [.int .i64 0, .str ⟨#[]⟩, .esl, .esl, .int .i64 0] [(0, 1, (.c (.int .i64 1))), (1, 1, (.c (.str ⟨#[80]⟩)))]), none⟩,
     ⟨(some 5), .pl (.build [.int .i64 0, .str ⟨#[]⟩, .esl, .esl, .int .i64 0] [(0, 1, (.c (.int .i64 3))), (1, 1, (.c (.str ⟨#[69]⟩)))]), none⟩,
     ⟨(some 6), .pl (.lit 5 [(.t 4), (.t 5)]), none⟩,
     ⟨(some 7), .call (.c (.fn 11 [] [])) [(.t 6)], none⟩,
     ⟨(some 8), .call (.c (.fn 12 [] [])) [(.t 7), (.c (.str ⟨#[69]⟩))], none⟩,
     ⟨(some 3), .pl (.mv (.t 8)), none⟩,
     ⟨(some 9), .pl (.ext 0 (.t 3)), none⟩,
     ⟨(some 10), .pl (.ext 1 (.t 3)), none⟩,
     ⟨(some 1), .pl (.mv (.t 9)), none⟩,
     ⟨(some 2), .pl (.mv (.t 10)), none⟩] [1, 2])
  (.seq (.reg [⟨(some 11), .pl (.mv (.t 1)), none⟩,
     ⟨(some 12), .pl (.bin .eql .no (.t 11) (.c (.int .i64 1))), none⟩,
     ⟨(some 13), .pl (.mv (.t 12)), none⟩,
     ⟨(some 14), .pl (.mv (.t 2)), (some (13, true))⟩,
     ⟨(some 15), .pl (.pick (.t 13) (.t 14) (.c (.bool false))), none⟩,
     ⟨(some 0), .pl (.mv (.t 15)), none⟩] [0])
  (.ret)))⟩
theorem c16 : compF Try.prog 16 = some A16 := by kernel_rfl

/-- concourse/names.Twice -/
def A17_l0 : AC := .seq (.reg [⟨(some 13), .pl (.bin .lss .no (.t 12) (.t 11)), none⟩] [3, 10, 11, 12, 13])
  (.seq (.cond (.t 13)
    (.skip)
    (.exit 0))
  (.seq (.block 1 (.seq (.reg [⟨(some 14), .pl (.mv (.t 12)), none⟩,
       ⟨(some 15), .pl (.ia 5 (.t 10) (.t 12)), none⟩,
       ⟨(some 16), .pl (.load (some 5) (.t 15)), none⟩,
       ⟨(some 5), .pl (.alloc [.int .i64 0, .str ⟨#[]⟩, .esl, .esl, .int .i64 0]), none⟩,
       ⟨(some 4), .pl (.mv (.t 14)), none⟩,
       ⟨none, .pl (.store 5 (.t 5) (.t 16)), none⟩] [3, 4, 5, 10, 11, 12])
    (.seq (.reg [⟨(some 18), .pl (.mv (.t 3)), none⟩,
       ⟨(some 19), .pl (.fa 1 (.t 5)), none⟩,
       ⟨(some 20), .pl (.load none (.t 19)), none⟩,
       ⟨(some 21), .call (.c (.fn 12 [] [])) [(.t 18), (.t 20)], none⟩,
       ⟨(some 17), .pl (.mv (.t 21)), none⟩,
       ⟨(some 22), .pl (.ext 0 (.t 17)), none⟩,
       ⟨(some 23), .pl (.ext 1 (.t 17)), none⟩,
       ⟨(some 6), .pl (.mv (.t 22)), none⟩,
       ⟨(some 7), .pl (.mv (.t 23)), none⟩] [3, 4, 6, 10, 11, 12])
    (.seq (.reg [⟨(some 24), .pl (.mv (.t 6)), none⟩,
       ⟨(some 25), .pl (.mv (.t 4)), none⟩,
       ⟨(some 26), .pl (.bin .neq .no (.t 24) (.t 25)), none⟩] [3, 4, 10, 11, 12, 26])
    (.cond (.t 26)
     (.seq (.reg [⟨(some 27), .pl (.mv (.t 4)), none⟩,
         ⟨(some 2), .pl (.mv (.t 27)), none⟩] [2])
      (.ret))
     (.skip))))))
  (.reg [⟨(some 28), .pl (.bin .add .no (.t 12) (.c (.int .i64 1))), none⟩,
    ⟨(some 12), .pl (.mv (.t 28)), none⟩] [3, 10, 11, 12])))
def A17_r0 : AC := .seq (.reg [⟨(some 2), .pl (.mv (.c (.int .i64 (-1)))), none⟩] [2])
  (.ret)
def A17 : AFun := ⟨29, [.t 2],
  .seq (.reg [⟨(some 2), .pl (.mv (.c (.int .i64 0))), none⟩] [0])
  (.seq (.reg [⟨(some 8), .pl (.mv (.t 0)), none⟩,
     ⟨(some 9), .call (.c (.fn 11 [] [])) [(.t 8)], none⟩,
     ⟨(some 3), .pl (.mv (.t 9)), none⟩] [0, 3])
  (.seq (.seq (.reg [⟨(some 10), .pl (.mv (.t 0)), none⟩,
      ⟨(some 11), .pl (.lenL (.t 10)), none⟩,
      ⟨(some 12), .pl (.mv (.c (.int .i64 0))), none⟩] [3, 10, 11, 12])
   (.block 0 (.loop [3, 10, 11, 12] A17_l0)))
  (A17_r0)))⟩
theorem c17 : compF Try.prog 17 = some A17 := by kernel_rfl

/-- concourse/names.Field -/
def A18_l0 : AC := .seq (.reg [⟨(some 11), .pl (.bin .lss .no (.t 10) (.t 9)), none⟩] [1, 2, 9, 10, 11])
  (.seq (.cond (.t 11)
    (.skip)
    (.exit 0))
  (.seq (.block 1 (.seq (.reg [⟨(some 12), .pl (.mv (.t 10)), none⟩,
       ⟨(some 6), .pl (.mv (.t 12)), none⟩] [1, 2, 6, 9, 10])
    (.seq (.reg [⟨(some 13), .pl (.fa 2 (.t 2)), none⟩,
       ⟨(some 14), .pl (.load none (.t 13)), none⟩,
       ⟨(some 15), .pl (.mv (.t 6)), none⟩,
       ⟨(some 16), .pl (.ia 5 (.t 14) (.t 15)), none⟩,
       ⟨(some 17), .pl (.fa 0 (.t 16)), none⟩,
       ⟨(some 18), .pl (.load none (.t 17)), none⟩,
       ⟨(some 19), .pl (.mv (.t 1)), none⟩,
       ⟨(some 20), .pl (.bin .eql .no (.t 18) (.t 19)), none⟩] [1, 2, 6, 9, 10, 20])
    (.cond (.t 20)
     (.seq (.reg [⟨(some 21), .pl (.mv (.t 6)), none⟩,
         ⟨(some 4), .pl (.mv (.t 21)), none⟩,
         ⟨(some 5), .pl (.mv (.c (.bool true))), none⟩] [4, 5])
      (.ret))
     (.skip)))))
  (.reg [⟨(some 22), .pl (.bin .add .no (.t 10) (.c (.int .i64 1))), none⟩,
    ⟨(some 10), .pl (.mv (.t 22)), none⟩] [1, 2, 9, 10])))
def A18_r0 : AC := .seq (.reg [⟨(some 4), .pl (.mv (.c (.int .i64 0))), none⟩,
     ⟨(some 5), .pl (.mv (.c (.bool false))), none⟩] [4, 5])
  (.ret)
def A18 : AFun := ⟨23, [.t 4, .t 5],
  .seq (.reg [⟨(some 2), .pl (.box (.t 0)), none⟩,
     ⟨(some 4), .pl (.mv (.c (.int .i64 0))), none⟩,
     ⟨(some 5), .pl (.mv (.c (.bool false))), none⟩] [1, 2])
  (.seq (.seq (.reg [⟨(some 7), .pl (.fa 2 (.t 2)), none⟩,
      ⟨(some 8), .pl (.load none (.t 7)), none⟩,
      ⟨(some 9), .pl (.lenL (.t 8)), none⟩,
      ⟨(some 10), .pl (.mv (.c (.int .i64 0))), none⟩] [1, 2, 9, 10])
   (.block 0 (.loop [1, 2, 9, 10] A18_l0)))
  (A18_r0))⟩
theorem c18 : compF Try.prog 18 = some A18 := by kernel_rfl

/-- concourse/concourseref11.Field -/
def A19_l0 : AC := .seq (.seq (.reg [⟨(some 6), .pl (.mv (.t 5)), none⟩,
      ⟨(some 7), .pl (.fa 2 (.t 2)), none⟩,
      ⟨(some 8), .pl (.load none (.t 7)), none⟩,
      ⟨(some 9), .pl (.lenL (.t 8)), none⟩,
      ⟨(some 10), .pl (.bin .lss .no (.t 6) (.t 9)), none⟩] [1, 2, 5, 10])
   (.cond (.t 10)
    (.skip)
    (.exit 0)))
  (.seq (.block 1 (.seq (.reg [⟨(some 13), .pl (.fa 2 (.t 2)), none⟩,
       ⟨(some 14), .pl (.load none (.t 13)), none⟩,
       ⟨(some 15), .pl (.mv (.t 5)), none⟩,
       ⟨(some 16), .pl (.ia 5 (.t 14) (.t 15)), none⟩,
       ⟨(some 17), .pl (.fa 0 (.t 16)), none⟩,
       ⟨(some 18), .pl (.load none (.t 17)), none⟩,
       ⟨(some 19), .pl (.mv (.t 1)), none⟩,
       ⟨(some 20), .pl (.bin .eql .no (.t 18) (.t 19)), none⟩] [1, 2, 5, 20])
    (.cond (.t 20)
     (.seq (.reg [⟨(some 21), .pl (.mv (.t 5)), none⟩,
         ⟨(some 4), .pl (.mv (.t 21)), none⟩] [4])
      (.ret))
     (.skip))))
  (.reg [⟨(some 11), .pl (.mv (.t 5)), none⟩,
    ⟨(some 12), .pl (.bin .add .no (.t 11) (.c (.int .i64 1))), none⟩,
    ⟨(some 5), .pl (.mv (.t 12)), none⟩] [1, 2, 5]))
def A19_r0 : AC := .seq (.reg [⟨(some 4), .pl (.mv (.c (.int .i64 (-1)))), none⟩] [4])
  (.ret)
def A19 : AFun := ⟨22, [.t 4],
  .seq (.reg [⟨(some 2), .pl (.box (.t 0)), none⟩,
     ⟨(some 4), .pl (.mv (.c (.int .i64 0))), none⟩] [1, 2])
  (.seq (.seq (.reg [⟨(some 5), .pl (.mv (.c (.int .i64 0))), none⟩] [1, 2, 5])
   (.block 0 (.loop [1, 2, 5] A19_l0)))
  (A19_r0))⟩
theorem c19 : compF Try.prog 19 = some A19 := by kernel_rfl

/-- concourse/names.Method -/
def A20_l0 : AC := .seq (.reg [⟨(some 37), .pl (.bin .lss .no (.t 36) (.t 35)), none⟩] [2, 6, 34, 35, 36, 37])
  (.seq (.cond (.t 37)
    (.skip)
    (.exit 0))
  (.seq (.block 1 (.seq (.reg [⟨(some 38), .pl (.ia 5 (.t 34) (.t 36)), none⟩,
       ⟨(some 39), .pl (.load (some 5) (.t 38)), none⟩,
       ⟨(some 11), .pl (.alloc [.int .i64 0, .str ⟨#[]⟩, .str ⟨#[]⟩, .str ⟨#[]⟩, .bool false]), none⟩,
       ⟨none, .pl (.store 5 (.t 11) (.t 39)), none⟩] [2, 6, 11, 34, 35, 36])
    (.seq (.reg [⟨(some 40), .pl (.fa 1 (.t 11)), none⟩,
       ⟨(some 41), .pl (.load none (.t 40)), none⟩,
       ⟨(some 42), .pl (.mv (.t 2)), none⟩,
       ⟨(some 43), .pl (.bin .eql .no (.t 41) (.t 42)), none⟩] [2, 6, 11, 34, 35, 36, 43])
    (.cond (.t 43)
     (.seq (.reg [⟨(some 44), .pl (.load (some 5) (.t 11)), none⟩,
         ⟨none, .pl (.store 5 (.t 6) (.t 44)), none⟩,
         ⟨(some 7), .pl (.mv (.c (.bool true))), none⟩] [6, 7])
      (.ret))
     (.skip)))))
  (.reg [⟨(some 45), .pl (.bin .add .no (.t 36) (.c (.int .i64 1))), none⟩,
    ⟨(some 36), .pl (.mv (.t 45)), none⟩] [2, 6, 34, 35, 36])))
def A20_r0 : AC := .seq (.reg [⟨(some 46), .pl (.build [.int .i64 0, .str ⟨#[]⟩, .str ⟨#[]⟩, .str ⟨#[]⟩, .bool false] []), none⟩,
     ⟨none, .pl (.store 5 (.t 6) (.t 46)), none⟩,
     ⟨(some 7), .pl (.mv (.c (.bool false))), none⟩] [6, 7])
  (.ret)
def A20 : AFun := ⟨47, [.cell 6 (some 5), .t 7],
  .seq (.reg [⟨(some 6), .pl (.alloc [.int .i64 0, .str ⟨#[]⟩, .str ⟨#[]⟩, .str ⟨#[]⟩, .bool false]), none⟩,
     ⟨(some 7), .pl (.mv (.c (.bool false))), none⟩] [0, 1, 2, 6])
  (.seq (.reg [⟨(some 13), .pl (.mv (.t 0)), none⟩,
     ⟨(some 14), .call (.c (.fn 11 [] [])) [(.t 13)], none⟩,
     ⟨(some 15), .pl (.mv (.t 1)), none⟩,
     ⟨(some 16), .call (.c (.fn 12 [] [])) [(.t 14), (.t 15)], none⟩,
     ⟨(some 12), .pl (.mv (.t 16)), none⟩,
     ⟨(some 17), .pl (.ext 0 (.t 12)), none⟩,
     ⟨(some 18), .pl (.ext 1 (.t 12)), none⟩,
     ⟨(some 8), .pl (.mv (.t 17)), none⟩,
     ⟨(some 9), .pl (.mv (.t 18)), none⟩] [0, 2, 6, 8, 9])
  (.seq (.seq (.reg [⟨(some 19), .pl (.mv (.t 9)), none⟩,
      ⟨(some 20), .pl (.un .not (.t 19)), none⟩,
      ⟨(some 21), .pl (.mv (.t 20)), none⟩,
      ⟨(some 22), .pl (.mv (.t 0)), (some (21, false))⟩,
      ⟨(some 23), .pl (.mv (.t 8)), (some (21, false))⟩,
      ⟨(some 24), .pl (.ia 5 (.t 22) (.t 23)), (some (21, false))⟩,
      ⟨(some 25), .pl (.fa 0 (.t 24)), (some (21, false))⟩,
      ⟨(some 26), .pl (.load none (.t 25)), (some (21, false))⟩,
      ⟨(some 27), .pl (.bin .neq .no (.t 26) (.c (.int .i64 4))), (some (21, false))⟩,
      ⟨(some 28), .pl (.pick (.t 21) (.c (.bool true)) (.t 27)), none⟩] [0, 2, 6, 8, 28])
   (.cond (.t 28)
    (.seq (.reg [⟨(some 29), .pl (.build [.int .i64 0, .str ⟨#[]⟩, .str ⟨#[]⟩, .str ⟨#[]⟩, .bool false] []), none⟩,
        ⟨none, .pl (.store 5 (.t 6) (.t 29)), none⟩,
        ⟨(some 7), .pl (.mv (.c (.bool false))), none⟩] [6, 7])
     (.ret))
    (.skip)))
  (.seq (.seq (.reg [⟨(some 30), .pl (.mv (.t 0)), none⟩,
      ⟨(some 31), .pl (.mv (.t 8)), none⟩,
      ⟨(some 32), .pl (.ia 5 (.t 30) (.t 31)), none⟩,
      ⟨(some 33), .pl (.fa 3 (.t 32)), none⟩,
      ⟨(some 34), .pl (.load none (.t 33)), none⟩,
      ⟨(some 35), .pl (.lenL (.t 34)), none⟩,
      ⟨(some 36), .pl (.mv (.c (.int .i64 0))), none⟩] [2, 6, 34, 35, 36])
   (.block 0 (.loop [2, 6, 34, 35, 36] A20_l0)))
  (A20_r0))))⟩
theorem c20 : compF Try.prog 20 = some A20 := by kernel_rfl

/-- concourse/concourseref11.Method -/
def A21_l0 : AC := .seq (.seq (.reg [⟨(some 24), .pl (.mv (.t 9)), none⟩,
      ⟨(some 25), .pl (.mv (.t 0)), none⟩,
      ⟨(some 26), .pl (.mv (.t 8)), none⟩,
      ⟨(some 27), .pl (.ia 5 (.t 25) (.t 26)), none⟩,
      ⟨(some 28), .pl (.fa 3 (.t 27)), none⟩,
      ⟨(some 29), .pl (.load none (.t 28)), none⟩,
      ⟨(some 30), .pl (.lenL (.t 29)), none⟩,
      ⟨(some 31), .pl (.bin .lss .no (.t 24) (.t 30)), none⟩] [0, 2, 6, 8, 9, 31])
   (.cond (.t 31)
    (.skip)
    (.exit 0)))
  (.seq (.block 1 (.seq (.reg [⟨(some 34), .pl (.mv (.t 0)), none⟩,
       ⟨(some 35), .pl (.mv (.t 8)), none⟩,
       ⟨(some 36), .pl (.ia 5 (.t 34) (.t 35)), none⟩,
       ⟨(some 37), .pl (.fa 3 (.t 36)), none⟩,
       ⟨(some 38), .pl (.load none (.t 37)), none⟩,
       ⟨(some 39), .pl (.mv (.t 9)), none⟩,
       ⟨(some 40), .pl (.ia 5 (.t 38) (.t 39)), none⟩,
       ⟨(some 41), .pl (.fa 1 (.t 40)), none⟩,
       ⟨(some 42), .pl (.load none (.t 41)), none⟩,
       ⟨(some 43), .pl (.mv (.t 2)), none⟩,
       ⟨(some 44), .pl (.bin .eql .no (.t 42) (.t 43)), none⟩] [0, 2, 6, 8, 9, 44])
    (.cond (.t 44)
     (.seq (.reg [⟨(some 45), .pl (.mv (.t 0)), none⟩,
         ⟨(some 46), .pl (.mv (.t 8)), none⟩,
         ⟨(some 47), .pl (.ia 5 (.t 45) (.t 46)), none⟩,
         ⟨(some 48), .pl (.fa 3 (.t 47)), none⟩,
         ⟨(some 49), .pl (.load none (.t 48)), none⟩,
         ⟨(some 50), .pl (.mv (.t 9)), none⟩,
         ⟨(some 51), .pl (.ia 5 (.t 49) (.t 50)), none⟩,
         ⟨(some 52), .pl (.load (some 5) (.t 51)), none⟩,
         ⟨none, .pl (.store 5 (.t 6) (.t 52)), none⟩,
         ⟨(some 7), .pl (.mv (.c (.bool true))), none⟩] [6, 7])
      (.ret))
     (.skip))))
  (.reg [⟨(some 32), .pl (.mv (.t 9)), none⟩,
    ⟨(some 33), .pl (.bin .add .no (.t 32) (.c (.int .i64 1))), none⟩,
    ⟨(some 9), .pl (.mv (.t 33)), none⟩] [0, 2, 6, 8, 9]))
def A21_r0 : AC := .seq (.reg [⟨(some 53), .pl (.build [.int .i64 0, .str ⟨#[]⟩, .str ⟨#[]⟩, .str ⟨#[]⟩, .bool false] []), none⟩,
     ⟨none, .pl (.store 5 (.t 6) (.t 53)), none⟩,
     ⟨(some 7), .pl (.mv (.c (.bool false))), none⟩] [6, 7])
  (.ret)
def A21 : AFun := ⟨54, [.cell 6 (some 5), .t 7],
  .seq (.reg [⟨(some 6), .pl (.alloc [.int .i64 0, .str ⟨#[]⟩, .str ⟨#[]⟩, .str ⟨#[]⟩, .bool false]), none⟩,
     ⟨(some 7), .pl (.mv (.c (.bool false))), none⟩] [0, 1, 2, 6])
  (.seq (.reg [⟨(some 10), .pl (.mv (.t 0)), none⟩,
     ⟨(some 11), .pl (.mv (.t 1)), none⟩,
     ⟨(some 12), .call (.c (.fn 13 [] [])) [(.t 10), (.t 11)], none⟩,
     ⟨(some 8), .pl (.mv (.t 12)), none⟩] [0, 2, 6, 8])
  (.seq (.seq (.reg [⟨(some 13), .pl (.mv (.t 8)), none⟩,
      ⟨(some 14), .pl (.bin .lss .no (.t 13) (.c (.int .i64 0))), none⟩,
      ⟨(some 15), .pl (.mv (.t 14)), none⟩,
      ⟨(some 16), .pl (.mv (.t 0)), (some (15, false))⟩,
      ⟨(some 17), .pl (.mv (.t 8)), (some (15, false))⟩,
      ⟨(some 18), .pl (.ia 5 (.t 16) (.t 17)), (some (15, false))⟩,
      ⟨(some 19), .pl (.fa 0 (.t 18)), (some (15, false))⟩,
      ⟨(some 20), .pl (.load none (.t 19)), (some (15, false))⟩,
      ⟨(some 21), .pl (.bin .neq .no (.t 20) (.c (.int .i64 4))), (some (15, false))⟩,
      ⟨(some 22), .pl (.pick (.t 15) (.c (.bool true)) (.t 21)), none⟩] [0, 2, 6, 8, 22])
   (.cond (.t 22)
    (.seq (.reg [⟨(some 23), .pl (.build [.int .i64 0, .str ⟨#[]⟩, .str ⟨#[]⟩, .str ⟨#[]⟩, .bool false] []), none⟩,
        ⟨none, .pl (.store 5 (.t 6) (.t 23)), none⟩,
        ⟨(some 7), .pl (.mv (.c (.bool false))), none⟩] [6, 7])
     (.ret))
    (.skip)))
  (.seq (.seq (.reg [⟨(some 9), .pl (.mv (.c (.int .i64 0))), none⟩] [0, 2, 6, 8, 9])
   (.block 0 (.loop [0, 2, 6, 8, 9] A21_l0)))
  (A21_r0))))⟩
theorem c21 : compF Try.prog 21 = some A21 := by kernel_rfl

/-- concourse/concourseref11.Twice -/
def A22_l0 : AC := .seq (.seq (.reg [⟨(some 4), .pl (.mv (.t 3)), none⟩,
      ⟨(some 5), .pl (.mv (.t 0)), none⟩,
      ⟨(some 6), .pl (.lenL (.t 5)), none⟩,
      ⟨(some 7), .pl (.bin .lss .no (.t 4) (.t 6)), none⟩] [0, 3, 7])
   (.cond (.t 7)
    (.skip)
    (.exit 0)))
  (.seq (.block 1 (.seq (.reg [⟨(some 10), .pl (.mv (.t 0)), none⟩,
       ⟨(some 11), .pl (.mv (.t 0)), none⟩,
       ⟨(some 12), .pl (.mv (.t 3)), none⟩,
       ⟨(some 13), .pl (.ia 5 (.t 11) (.t 12)), none⟩,
       ⟨(some 14), .pl (.fa 1 (.t 13)), none⟩,
       ⟨(some 15), .pl (.load none (.t 14)), none⟩,
       ⟨(some 16), .call (.c (.fn 13 [] [])) [(.t 10), (.t 15)], none⟩,
       ⟨(some 17), .pl (.mv (.t 3)), none⟩,
       ⟨(some 18), .pl (.bin .lss .no (.t 16) (.t 17)), none⟩] [0, 3, 18])
    (.cond (.t 18)
     (.seq (.reg [⟨(some 19), .pl (.mv (.t 3)), none⟩,
         ⟨(some 2), .pl (.mv (.t 19)), none⟩] [2])
      (.ret))
     (.skip))))
  (.reg [⟨(some 8), .pl (.mv (.t 3)), none⟩,
    ⟨(some 9), .pl (.bin .add .no (.t 8) (.c (.int .i64 1))), none⟩,
    ⟨(some 3), .pl (.mv (.t 9)), none⟩] [0, 3]))
def A22_r0 : AC := .seq (.reg [⟨(some 2), .pl (.mv (.c (.int .i64 (-1)))), none⟩] [2])
  (.ret)
def A22 : AFun := ⟨20, [.t 2],
  .seq (.reg [⟨(some 2), .pl (.mv (.c (.int .i64 0))), none⟩] [0])
  (.seq (.seq (.reg [⟨(some 3), .pl (.mv (.c (.int .i64 0))), none⟩] [0, 3])
   (.block 0 (.loop [0, 3] A22_l0)))
  (A22_r0))⟩
theorem c22 : compF Try.prog 22 = some A22 := by kernel_rfl

end Go.Proofs.Ytjljhmeadfejhaa
