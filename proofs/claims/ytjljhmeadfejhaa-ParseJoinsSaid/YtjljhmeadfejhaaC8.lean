/- The compiled form of the functions of this claim: each equation is checked by the kernel. -/
import Derived.Test.YtjljhmeadfejhaaChecked
import Derived.Test.YtjljhmeadfejhaaE21
set_option maxRecDepth 100000
namespace Go.Proofs.Ytjljhmeadfejhaa
open Go.Eng
/-- concourse/concourselaw09.ParseJoins -/
def A9 : AFun := ⟨94, [.t 4],
  .seq (.reg [⟨(some 4), .pl (.mv (.c (.bool false))), none⟩] [0, 1])
  (.seq (.reg [⟨(some 12), .pl (.mv (.t 0)), none⟩,
     ⟨(some 13), .call (.c (.fn 31 [] [])) [(.t 12)], none⟩,
     ⟨(some 11), .pl (.mv (.t 13)), none⟩,
     ⟨(some 14), .pl (.ext 0 (.t 11)), none⟩,
     ⟨(some 15), .pl (.ext 1 (.t 11)), none⟩,
     ⟨(some 6), .pl (.alloc [.int .i64 0, .int .i64 0]), none⟩,
     ⟨(some 5), .pl (.mv (.t 14)), none⟩,
     ⟨none, .pl (.store 2 (.t 6) (.t 15)), none⟩] [0, 1, 5, 6])
  (.seq (.reg [⟨(some 17), .pl (.mv (.t 1)), none⟩,
     ⟨(some 18), .call (.c (.fn 31 [] [])) [(.t 17)], none⟩,
     ⟨(some 16), .pl (.mv (.t 18)), none⟩,
     ⟨(some 19), .pl (.ext 0 (.t 16)), none⟩,
     ⟨(some 20), .pl (.ext 1 (.t 16)), none⟩,
     ⟨(some 8), .pl (.alloc [.int .i64 0, .int .i64 0]), none⟩,
     ⟨(some 7), .pl (.mv (.t 19)), none⟩,
     ⟨none, .pl (.store 2 (.t 8) (.t 20)), none⟩] [0, 1, 5, 6, 7, 8])
  (.seq (.seq (.reg [⟨(some 21), .pl (.fa 0 (.t 6)), none⟩,
      ⟨(some 22), .pl (.load none (.t 21)), none⟩,
      ⟨(some 23), .pl (.bin .neq .no (.t 22) (.c (.int .i64 0))), none⟩,
      ⟨(some 24), .pl (.mv (.t 23)), none⟩,
      ⟨(some 25), .pl (.fa 0 (.t 8)), (some (24, false))⟩,
      ⟨(some 26), .pl (.load none (.t 25)), (some (24, false))⟩,
      ⟨(some 27), .pl (.bin .neq .no (.t 26) (.c (.int .i64 0))), (some (24, false))⟩,
      ⟨(some 28), .pl (.pick (.t 24) (.c (.bool true)) (.t 27)), none⟩] [0, 1, 5, 6, 7, 8, 28])
   (.cond (.t 28)
    (.seq (.reg [⟨(some 29), .pl (.fa 0 (.t 6)), none⟩,
        ⟨(some 30), .pl (.load none (.t 29)), none⟩,
        ⟨(some 31), .pl (.bin .eql .no (.t 30) (.c (.int .i64 0))), none⟩,
        ⟨(some 32), .pl (.mv (.t 31)), none⟩,
        ⟨(some 33), .pl (.mv (.t 5)), (some (32, false))⟩,
        ⟨(some 34), .pl (.lenL (.t 33)), (some (32, false))⟩,
        ⟨(some 35), .pl (.bin .eql .no (.t 34) (.c (.int .i64 0))), (some (32, false))⟩,
        ⟨(some 36), .pl (.pick (.t 32) (.c (.bool true)) (.t 35)), none⟩,
        ⟨(some 37), .pl (.mv (.t 36)), none⟩,
        ⟨(some 38), .pl (.fa 0 (.t 8)), (some (37, true))⟩,
        ⟨(some 39), .pl (.load none (.t 38)), (some (37, true))⟩,
        ⟨(some 40), .pl (.bin .eql .no (.t 39) (.c (.int .i64 0))), (some (37, true))⟩,
        ⟨(some 41), .pl (.mv (.t 40)), (some (37, true))⟩,
        ⟨(some 42), .pl (.mv (.t 7)), (some (41, false))⟩,
        ⟨(some 43), .pl (.lenL (.t 42)), (some (41, false))⟩,
        ⟨(some 44), .pl (.bin .eql .no (.t 43) (.c (.int .i64 0))), (some (41, false))⟩,
        ⟨(some 45), .pl (.pick (.t 41) (.c (.bool true)) (.t 44)), (some (37, true))⟩,
        ⟨(some 46), .pl (.pick (.t 37) (.t 45) (.c (.bool false))), none⟩,
        ⟨(some 47), .pl (.mv (.t 46)), none⟩,
        ⟨(some 48), .call (.c (.fn 30 [] [])) [], (some (47, true))⟩,
        ⟨(some 49), .pl (.pick (.t 47) (.t 48) (.c (.bool false))), none⟩,
        ⟨(some 4), .pl (.mv (.t 49)), none⟩] [4])
     (.ret))
    (.skip)))
  (.seq (.reg [⟨(some 51), .pl (.mv (.t 0)), none⟩,
     ⟨(some 52), .pl (.bin .add .no (.t 51) (.c (.str ⟨#[10]⟩))), none⟩,
     ⟨(some 53), .pl (.mv (.t 1)), none⟩,
     ⟨(some 54), .pl (.bin .add .no (.t 52) (.t 53)), none⟩,
     ⟨(some 55), .call (.c (.fn 31 [] [])) [(.t 54)], none⟩,
     ⟨(some 50), .pl (.mv (.t 55)), none⟩,
     ⟨(some 56), .pl (.ext 0 (.t 50)), none⟩,
     ⟨(some 57), .pl (.ext 1 (.t 50)), none⟩,
     ⟨(some 10), .pl (.alloc [.int .i64 0, .int .i64 0]), none⟩,
     ⟨(some 9), .pl (.mv (.t 56)), none⟩,
     ⟨none, .pl (.store 2 (.t 10) (.t 57)), none⟩] [0, 1, 5, 7, 9, 10])
  (.seq (.seq (.reg [⟨(some 58), .pl (.mv (.t 0)), none⟩,
      ⟨(some 59), .pl (.lenS (.t 58)), none⟩,
      ⟨(some 60), .pl (.mv (.t 1)), none⟩,
      ⟨(some 61), .pl (.lenS (.t 60)), none⟩,
      ⟨(some 62), .pl (.bin .add .no (.t 59) (.t 61)), none⟩,
      ⟨(some 63), .pl (.bin .add .no (.t 62) (.c (.int .i64 1))), none⟩,
      ⟨(some 64), .pl (.bin .gtr .no (.t 63) (.c (.int .i64 1024))), none⟩,
      ⟨(some 65), .pl (.mv (.t 64)), none⟩,
      ⟨(some 66), .pl (.mv (.t 5)), (some (65, false))⟩,
      ⟨(some 67), .pl (.lenL (.t 66)), (some (65, false))⟩,
      ⟨(some 68), .pl (.mv (.t 7)), (some (65, false))⟩,
      ⟨(some 69), .pl (.lenL (.t 68)), (some (65, false))⟩,
      ⟨(some 70), .pl (.bin .add .no (.t 67) (.t 69)), (some (65, false))⟩,
      ⟨(some 71), .pl (.bin .gtr .no (.t 70) (.c (.int .i64 16))), (some (65, false))⟩,
      ⟨(some 72), .pl (.pick (.t 65) (.c (.bool true)) (.t 71)), none⟩] [5, 7, 9, 10, 72])
   (.cond (.t 72)
    (.seq (.reg [⟨(some 73), .pl (.fa 0 (.t 10)), none⟩,
        ⟨(some 74), .pl (.load none (.t 73)), none⟩,
        ⟨(some 75), .pl (.bin .eql .no (.t 74) (.c (.int .i64 3))), none⟩,
        ⟨(some 76), .pl (.mv (.t 75)), none⟩,
        ⟨(some 77), .call (.c (.fn 30 [] [])) [], (some (76, true))⟩,
        ⟨(some 78), .pl (.pick (.t 76) (.t 77) (.c (.bool false))), none⟩,
        ⟨(some 4), .pl (.mv (.t 78)), none⟩] [4])
     (.ret))
    (.skip)))
  (.seq (.reg [⟨(some 79), .pl (.load (some 2) (.t 10)), none⟩,
     ⟨(some 80), .pl (.build [.int .i64 0, .int .i64 0] []), none⟩,
     ⟨(some 81), .pl (.bin .eql (.strct [(0, 0), (1, 0)]) (.t 79) (.t 80)), none⟩,
     ⟨(some 82), .pl (.mv (.t 81)), none⟩,
     ⟨(some 83), .pl (.mv (.t 9)), (some (82, true))⟩,
     ⟨(some 84), .pl (.lit 5 []), (some (82, true))⟩,
     ⟨(some 85), .pl (.mv (.t 5)), (some (82, true))⟩,
     ⟨(some 86), .pl (.append 34 5 80 (.t 84) (.t 85)), (some (82, true))⟩,
     ⟨(some 87), .pl (.mv (.t 7)), (some (82, true))⟩,
     ⟨(some 88), .pl (.append 34 5 80 (.t 86) (.t 87)), (some (82, true))⟩,
     ⟨(some 89), .call (.c (.fn 32 [] [])) [(.t 83), (.t 88), (.c (.bool false))], (some (82, true))⟩,
     ⟨(some 90), .pl (.pick (.t 82) (.t 89) (.c (.bool false))), none⟩,
     ⟨(some 91), .pl (.mv (.t 90)), none⟩,
     ⟨(some 92), .call (.c (.fn 30 [] [])) [], (some (91, true))⟩,
     ⟨(some 93), .pl (.pick (.t 91) (.t 92) (.c (.bool false))), none⟩,
     ⟨(some 4), .pl (.mv (.t 93)), none⟩] [4])
  (.ret)))))))⟩
theorem c9 : compF Try.prog 9 = some A9 := by kernel_rfl

/-- concourse/concourseref09.Same -/
def A32_l0 : AC := .seq (.seq (.reg [⟨(some 13), .pl (.mv (.t 7)), none⟩,
      ⟨(some 14), .pl (.mv (.t 0)), none⟩,
      ⟨(some 15), .pl (.lenL (.t 14)), none⟩,
      ⟨(some 16), .pl (.bin .lss .no (.t 13) (.t 15)), none⟩] [0, 1, 2, 7, 16])
   (.cond (.t 16)
    (.skip)
    (.exit 0)))
  (.seq (.block 1 (.seq (.regD [⟨(some 19), .pl (.mv (.t 0)), none⟩,
       ⟨(some 20), .pl (.mv (.t 7)), none⟩,
       ⟨(some 21), .pl (.ia 5 (.t 19) (.t 20)), none⟩,
       ⟨(some 22), .pl (.load (some 5) (.t 21)), none⟩,
       ⟨(some 23), .pl (.mv (.t 1)), none⟩,
       ⟨(some 24), .pl (.mv (.t 7)), none⟩,
       ⟨(some 25), .pl (.ia 5 (.t 23) (.t 24)), none⟩,
       ⟨(some 26), .pl (.load (some 5) (.t 25)), none⟩,
       ⟨(some 27), .call (.c (.fn 52 [] [])) [(.t 22), (.t 26)], none⟩,
       ⟨(some 28), .pl (.un .not (.t 27)), none⟩,
       ⟨(some 29), .pl (.mv (.t 28)), none⟩,
       ⟨(some 30), .pl (.mv (.t 2)), (some (29, false))⟩,
       ⟨(some 31), .pl (.mv (.t 30)), (some (29, false))⟩,
       ⟨(some 32), .pl (.mv (.t 0)), (some (31, true))⟩,
       ⟨(some 33), .pl (.mv (.t 7)), (some (31, true))⟩,
       ⟨(some 34), .pl (.ia 5 (.t 32) (.t 33)), (some (31, true))⟩,
       ⟨(some 35), .pl (.fa 4 (.t 34)), (some (31, true))⟩,
       ⟨(some 36), .pl (.load none (.t 35)), (some (31, true))⟩,
       ⟨(some 37), .pl (.mv (.t 1)), (some (31, true))⟩,
       ⟨(some 38), .pl (.mv (.t 7)), (some (31, true))⟩,
       ⟨(some 39), .pl (.ia 5 (.t 37) (.t 38)), (some (31, true))⟩,
       ⟨(some 40), .pl (.fa 4 (.t 39)), (some (31, true))⟩,
       ⟨(some 41), .pl (.load none (.t 40)), (some (31, true))⟩,
       ⟨(some 42), .pl (.bin .neq .no (.t 36) (.t 41)), (some (31, true))⟩,
       ⟨(some 43), .pl (.pick (.t 31) (.t 42) (.c (.bool false))), (some (29, false))⟩,
       ⟨(some 44), .pl (.pick (.t 29) (.c (.bool true)) (.t 43)), none⟩] [] [0, 1, 2, 7, 44])
    (.cond (.t 44)
     (.seq (.reg [⟨(some 6), .pl (.mv (.c (.bool false))), none⟩] [6])
      (.ret))
     (.skip))))
  (.reg [⟨(some 17), .pl (.mv (.t 7)), none⟩,
    ⟨(some 18), .pl (.bin .add .no (.t 17) (.c (.int .i64 1))), none⟩,
    ⟨(some 7), .pl (.mv (.t 18)), none⟩] [0, 1, 2, 7]))
def A32_r0 : AC := .seq (.reg [⟨(some 6), .pl (.mv (.c (.bool true))), none⟩] [6])
  (.ret)
def A32 : AFun := ⟨45, [.t 6],
  .seq (.reg [⟨(some 6), .pl (.mv (.c (.bool false))), none⟩] [0, 1, 2])
  (.seq (.seq (.reg [⟨(some 8), .pl (.mv (.t 0)), none⟩,
      ⟨(some 9), .pl (.lenL (.t 8)), none⟩,
      ⟨(some 10), .pl (.mv (.t 1)), none⟩,
      ⟨(some 11), .pl (.lenL (.t 10)), none⟩,
      ⟨(some 12), .pl (.bin .neq .no (.t 9) (.t 11)), none⟩] [0, 1, 2, 12])
   (.cond (.t 12)
    (.seq (.reg [⟨(some 6), .pl (.mv (.c (.bool false))), none⟩] [6])
     (.ret))
    (.skip)))
  (.seq (.seq (.reg [⟨(some 7), .pl (.mv (.c (.int .i64 0))), none⟩] [0, 1, 2, 7])
   (.block 0 (.loop [0, 1, 2, 7] A32_l0)))
  (A32_r0)))⟩
theorem c32 : compF Try.prog 32 = some A32 := by kernel_rfl

/-- concourse/concourseref09.SameDecl -/
def A52_l0 : AC := .seq (.seq (.reg [⟨(some 40), .pl (.mv (.t 6)), none⟩,
      ⟨(some 41), .pl (.fa 2 (.t 2)), none⟩,
      ⟨(some 42), .pl (.load none (.t 41)), none⟩,
      ⟨(some 43), .pl (.lenL (.t 42)), none⟩,
      ⟨(some 44), .pl (.bin .lss .no (.t 40) (.t 43)), none⟩] [2, 3, 5, 6, 44])
   (.cond (.t 44)
    (.skip)
    (.exit 0)))
  (.seq (.block 1 (.seq (.regD [⟨(some 47), .pl (.fa 2 (.t 2)), none⟩,
       ⟨(some 48), .pl (.load none (.t 47)), none⟩,
       ⟨(some 49), .pl (.mv (.t 6)), none⟩,
       ⟨(some 50), .pl (.ia 5 (.t 48) (.t 49)), none⟩,
       ⟨(some 51), .pl (.load (some 5) (.t 50)), none⟩,
       ⟨(some 52), .pl (.fa 2 (.t 3)), none⟩,
       ⟨(some 53), .pl (.load none (.t 52)), none⟩,
       ⟨(some 54), .pl (.mv (.t 6)), none⟩,
       ⟨(some 55), .pl (.ia 5 (.t 53) (.t 54)), none⟩,
       ⟨(some 56), .pl (.load (some 5) (.t 55)), none⟩,
       ⟨(some 7), .pl (.alloc [.int .i64 0, .str ⟨#[]⟩, .int .i64 0, .str ⟨#[]⟩, .esl]), none⟩,
       ⟨(some 8), .pl (.alloc [.int .i64 0, .str ⟨#[]⟩, .int .i64 0, .str ⟨#[]⟩, .esl]), none⟩,
       ⟨none, .pl (.store 5 (.t 7) (.t 51)), none⟩,
       ⟨none, .pl (.store 5 (.t 8) (.t 56)), none⟩] [(1, 10), (1, 11), (4, 10), (4, 11), (6, 10), (6, 11), (6, 12), (9, 10), (9, 11), (9, 12)] [2, 3, 5, 6, 7, 8])
    (.reg [⟨(some 57), .pl (.mv (.t 5)), none⟩,
      ⟨(some 58), .pl (.mv (.t 57)), none⟩,
      ⟨(some 59), .pl (.fa 0 (.t 7)), (some (58, true))⟩,
      ⟨(some 60), .pl (.load none (.t 59)), (some (58, true))⟩,
      ⟨(some 61), .pl (.fa 0 (.t 8)), (some (58, true))⟩,
      ⟨(some 62), .pl (.load none (.t 61)), (some (58, true))⟩,
      ⟨(some 63), .pl (.bin .eql .no (.t 60) (.t 62)), (some (58, true))⟩,
      ⟨(some 64), .pl (.pick (.t 58) (.t 63) (.c (.bool false))), none⟩,
      ⟨(some 65), .pl (.mv (.t 64)), none⟩,
      ⟨(some 66), .pl (.fa 1 (.t 7)), (some (65, true))⟩,
      ⟨(some 67), .pl (.load none (.t 66)), (some (65, true))⟩,
      ⟨(some 68), .pl (.fa 1 (.t 8)), (some (65, true))⟩,
      ⟨(some 69), .pl (.load none (.t 68)), (some (65, true))⟩,
      ⟨(some 70), .pl (.bin .eql .no (.t 67) (.t 69)), (some (65, true))⟩,
      ⟨(some 71), .pl (.pick (.t 65) (.t 70) (.c (.bool false))), none⟩,
      ⟨(some 72), .pl (.mv (.t 71)), none⟩,
      ⟨(some 73), .pl (.fa 2 (.t 7)), (some (72, true))⟩,
      ⟨(some 74), .pl (.load (some 3) (.t 73)), (some (72, true))⟩,
      ⟨(some 75), .pl (.fa 2 (.t 8)), (some (72, true))⟩,
      ⟨(some 76), .pl (.load (some 3) (.t 75)), (some (72, true))⟩,
      ⟨(some 77), .call (.c (.fn 56 [] [])) [(.t 74), (.t 76)], (some (72, true))⟩,
      ⟨(some 78), .pl (.pick (.t 72) (.t 77) (.c (.bool false))), none⟩,
      ⟨(some 5), .pl (.mv (.t 78)), none⟩] [2, 3, 5, 6])))
  (.reg [⟨(some 45), .pl (.mv (.t 6)), none⟩,
    ⟨(some 46), .pl (.bin .add .no (.t 45) (.c (.int .i64 1))), none⟩,
    ⟨(some 6), .pl (.mv (.t 46)), none⟩] [2, 3, 5, 6]))
def A52_l1 : AC := .seq (.seq (.reg [⟨(some 79), .pl (.mv (.t 9)), none⟩,
      ⟨(some 80), .pl (.fa 3 (.t 2)), none⟩,
      ⟨(some 81), .pl (.load none (.t 80)), none⟩,
      ⟨(some 82), .pl (.lenL (.t 81)), none⟩,
      ⟨(some 83), .pl (.bin .lss .no (.t 79) (.t 82)), none⟩] [2, 3, 5, 9, 83])
   (.cond (.t 83)
    (.skip)
    (.exit 2)))
  (.seq (.block 3 (.regD [⟨(some 86), .pl (.mv (.t 5)), none⟩,
      ⟨(some 87), .pl (.mv (.t 86)), none⟩,
      ⟨(some 88), .pl (.fa 3 (.t 2)), (some (87, true))⟩,
      ⟨(some 89), .pl (.load none (.t 88)), (some (87, true))⟩,
      ⟨(some 90), .pl (.mv (.t 9)), (some (87, true))⟩,
      ⟨(some 91), .pl (.ia 5 (.t 89) (.t 90)), (some (87, true))⟩,
      ⟨(some 92), .pl (.load (some 5) (.t 91)), (some (87, true))⟩,
      ⟨(some 93), .pl (.fa 3 (.t 3)), (some (87, true))⟩,
      ⟨(some 94), .pl (.load none (.t 93)), (some (87, true))⟩,
      ⟨(some 95), .pl (.mv (.t 9)), (some (87, true))⟩,
      ⟨(some 96), .pl (.ia 5 (.t 94) (.t 95)), (some (87, true))⟩,
      ⟨(some 97), .pl (.load (some 5) (.t 96)), (some (87, true))⟩,
      ⟨(some 98), .pl (.bin .eql (.strct [(0, 0), (1, 1), (2, 1), (3, 1), (4, 2)]) (.t 92) (.t 97)), (some (87, true))⟩,
      ⟨(some 99), .pl (.pick (.t 87) (.t 98) (.c (.bool false))), none⟩,
      ⟨(some 5), .pl (.mv (.t 99)), none⟩] [] [2, 3, 5, 9]))
  (.reg [⟨(some 84), .pl (.mv (.t 9)), none⟩,
    ⟨(some 85), .pl (.bin .add .no (.t 84) (.c (.int .i64 1))), none⟩,
    ⟨(some 9), .pl (.mv (.t 85)), none⟩] [2, 3, 5, 9]))
def A52_r0 : AC := .seq (.reg [⟨(some 100), .pl (.mv (.t 5)), none⟩,
     ⟨(some 4), .pl (.mv (.t 100)), none⟩] [4])
  (.ret)
def A52_r1 : AC := .seq (.seq (.reg [⟨(some 9), .pl (.mv (.c (.int .i64 0))), none⟩] [2, 3, 5, 9])
   (.block 2 (.loop [2, 3, 5, 9] A52_l1)))
  (A52_r0)
def A52 : AFun := ⟨101, [.t 4],
  .seq (.reg [⟨(some 2), .pl (.box (.t 0)), none⟩,
     ⟨(some 3), .pl (.box (.t 1)), none⟩,
     ⟨(some 4), .pl (.mv (.c (.bool false))), none⟩] [2, 3])
  (.seq (.seq (.reg [⟨(some 10), .pl (.fa 0 (.t 2)), none⟩,
      ⟨(some 11), .pl (.load none (.t 10)), none⟩,
      ⟨(some 12), .pl (.fa 0 (.t 3)), none⟩,
      ⟨(some 13), .pl (.load none (.t 12)), none⟩,
      ⟨(some 14), .pl (.bin .neq .no (.t 11) (.t 13)), none⟩,
      ⟨(some 15), .pl (.mv (.t 14)), none⟩,
      ⟨(some 16), .pl (.fa 1 (.t 2)), (some (15, false))⟩,
      ⟨(some 17), .pl (.load none (.t 16)), (some (15, false))⟩,
      ⟨(some 18), .pl (.fa 1 (.t 3)), (some (15, false))⟩,
      ⟨(some 19), .pl (.load none (.t 18)), (some (15, false))⟩,
      ⟨(some 20), .pl (.bin .neq .no (.t 17) (.t 19)), (some (15, false))⟩,
      ⟨(some 21), .pl (.pick (.t 15) (.c (.bool true)) (.t 20)), none⟩,
      ⟨(some 22), .pl (.mv (.t 21)), none⟩,
      ⟨(some 23), .pl (.fa 2 (.t 2)), (some (22, false))⟩,
      ⟨(some 24), .pl (.load none (.t 23)), (some (22, false))⟩,
      ⟨(some 25), .pl (.lenL (.t 24)), (some (22, false))⟩,
      ⟨(some 26), .pl (.fa 2 (.t 3)), (some (22, false))⟩,
      ⟨(some 27), .pl (.load none (.t 26)), (some (22, false))⟩,
      ⟨(some 28), .pl (.lenL (.t 27)), (some (22, false))⟩,
      ⟨(some 29), .pl (.bin .neq .no (.t 25) (.t 28)), (some (22, false))⟩,
      ⟨(some 30), .pl (.pick (.t 22) (.c (.bool true)) (.t 29)), none⟩,
      ⟨(some 31), .pl (.mv (.t 30)), none⟩,
      ⟨(some 32), .pl (.fa 3 (.t 2)), (some (31, false))⟩,
      ⟨(some 33), .pl (.load none (.t 32)), (some (31, false))⟩,
      ⟨(some 34), .pl (.lenL (.t 33)), (some (31, false))⟩,
      ⟨(some 35), .pl (.fa 3 (.t 3)), (some (31, false))⟩,
      ⟨(some 36), .pl (.load none (.t 35)), (some (31, false))⟩,
      ⟨(some 37), .pl (.lenL (.t 36)), (some (31, false))⟩,
      ⟨(some 38), .pl (.bin .neq .no (.t 34) (.t 37)), (some (31, false))⟩,
      ⟨(some 39), .pl (.pick (.t 31) (.c (.bool true)) (.t 38)), none⟩] [2, 3, 39])
   (.cond (.t 39)
    (.seq (.reg [⟨(some 4), .pl (.mv (.c (.bool false))), none⟩] [4])
     (.ret))
    (.skip)))
  (.seq (.reg [⟨(some 5), .pl (.mv (.c (.bool true))), none⟩] [2, 3, 5])
  (.seq (.seq (.reg [⟨(some 6), .pl (.mv (.c (.int .i64 0))), none⟩] [2, 3, 5, 6])
   (.block 0 (.loop [2, 3, 5, 6] A52_l0)))
  (A52_r1))))⟩
theorem c52 : compF Try.prog 52 = some A52 := by kernel_rfl

/-- concourse/concourseref09.SameType -/
def A56_l0 : AC := .seq (.seq (.reg [⟨(some 27), .pl (.mv (.t 5)), none⟩,
      ⟨(some 28), .pl (.fa 2 (.t 2)), none⟩,
      ⟨(some 29), .pl (.load none (.t 28)), none⟩,
      ⟨(some 30), .pl (.lenL (.t 29)), none⟩,
      ⟨(some 31), .pl (.bin .lss .no (.t 27) (.t 30)), none⟩] [2, 3, 5, 31])
   (.cond (.t 31)
    (.skip)
    (.exit 0)))
  (.seq (.block 1 (.seq (.regD [⟨(some 34), .pl (.fa 2 (.t 2)), none⟩,
       ⟨(some 35), .pl (.load none (.t 34)), none⟩,
       ⟨(some 36), .pl (.mv (.t 5)), none⟩,
       ⟨(some 37), .pl (.ia 3 (.t 35) (.t 36)), none⟩,
       ⟨(some 38), .pl (.load (some 3) (.t 37)), none⟩,
       ⟨(some 39), .pl (.fa 2 (.t 3)), none⟩,
       ⟨(some 40), .pl (.load none (.t 39)), none⟩,
       ⟨(some 41), .pl (.mv (.t 5)), none⟩,
       ⟨(some 42), .pl (.ia 3 (.t 40) (.t 41)), none⟩,
       ⟨(some 43), .pl (.load (some 3) (.t 42)), none⟩,
       ⟨(some 44), .call (.c (.fn 56 [] [])) [(.t 38), (.t 43)], none⟩,
       ⟨(some 45), .pl (.un .not (.t 44)), none⟩] [] [2, 3, 5, 45])
    (.cond (.t 45)
     (.seq (.reg [⟨(some 4), .pl (.mv (.c (.bool false))), none⟩] [4])
      (.ret))
     (.skip))))
  (.reg [⟨(some 32), .pl (.mv (.t 5)), none⟩,
    ⟨(some 33), .pl (.bin .add .no (.t 32) (.c (.int .i64 1))), none⟩,
    ⟨(some 5), .pl (.mv (.t 33)), none⟩] [2, 3, 5]))
def A56_r0 : AC := .seq (.reg [⟨(some 4), .pl (.mv (.c (.bool true))), none⟩] [4])
  (.ret)
def A56 : AFun := ⟨46, [.t 4],
  .seq (.reg [⟨(some 2), .pl (.box (.t 0)), none⟩,
     ⟨(some 3), .pl (.box (.t 1)), none⟩,
     ⟨(some 4), .pl (.mv (.c (.bool false))), none⟩] [2, 3])
  (.seq (.seq (.reg [⟨(some 6), .pl (.fa 0 (.t 2)), none⟩,
      ⟨(some 7), .pl (.load none (.t 6)), none⟩,
      ⟨(some 8), .pl (.fa 0 (.t 3)), none⟩,
      ⟨(some 9), .pl (.load none (.t 8)), none⟩,
      ⟨(some 10), .pl (.bin .neq .no (.t 7) (.t 9)), none⟩,
      ⟨(some 11), .pl (.mv (.t 10)), none⟩,
      ⟨(some 12), .pl (.fa 1 (.t 2)), (some (11, false))⟩,
      ⟨(some 13), .pl (.load none (.t 12)), (some (11, false))⟩,
      ⟨(some 14), .pl (.fa 1 (.t 3)), (some (11, false))⟩,
      ⟨(some 15), .pl (.load none (.t 14)), (some (11, false))⟩,
      ⟨(some 16), .pl (.bin .neq .no (.t 13) (.t 15)), (some (11, false))⟩,
      ⟨(some 17), .pl (.pick (.t 11) (.c (.bool true)) (.t 16)), none⟩,
      ⟨(some 18), .pl (.mv (.t 17)), none⟩,
      ⟨(some 19), .pl (.fa 2 (.t 2)), (some (18, false))⟩,
      ⟨(some 20), .pl (.load none (.t 19)), (some (18, false))⟩,
      ⟨(some 21), .pl (.lenL (.t 20)), (some (18, false))⟩,
      ⟨(some 22), .pl (.fa 2 (.t 3)), (some (18, false))⟩,
      ⟨(some 23), .pl (.load none (.t 22)), (some (18, false))⟩,
      ⟨(some 24), .pl (.lenL (.t 23)), (some (18, false))⟩,
      ⟨(some 25), .pl (.bin .neq .no (.t 21) (.t 24)), (some (18, false))⟩,
      ⟨(some 26), .pl (.pick (.t 18) (.c (.bool true)) (.t 25)), none⟩] [2, 3, 26])
   (.cond (.t 26)
    (.seq (.reg [⟨(some 4), .pl (.mv (.c (.bool false))), none⟩] [4])
     (.ret))
    (.skip)))
  (.seq (.seq (.reg [⟨(some 5), .pl (.mv (.c (.int .i64 0))), none⟩] [2, 3, 5])
   (.block 0 (.loop [2, 3, 5] A56_l0)))
  (A56_r0)))⟩
theorem c56 : compF Try.prog 56 = some A56 := by kernel_rfl

/-- (*concourse/parse.parser).decl$1 -/
def A69 : AFun := ⟨19, [],
  .seq (.regD [⟨(some 3), .pl (.load none (.t 0)), none⟩,
     ⟨(some 4), .call (.c (.fn 70 [] [])) [(.t 3)], none⟩,
     ⟨(some 5), .pl (.load none (.t 0)), none⟩,
     ⟨(some 6), .call (.c (.fn 71 [] [])) [(.t 5)], none⟩,
     ⟨(some 7), .pl (.build [.int .i64 0, .str ⟨#[]⟩, .int .i64 0, .str ⟨#[]⟩, .esl] [(0, 1, (.t 4)), (1, 1, (.t 6))]), none⟩,
     ⟨(some 2), .pl (.alloc [.int .i64 0, .str ⟨#[]⟩, .int .i64 0, .str ⟨#[]⟩, .esl]), none⟩,
     ⟨none, .pl (.store 5 (.t 2) (.t 7)), none⟩] [(0, 5), (2, 1), (2, 5)] [0, 1, 2])
  (.seq (.reg [⟨(some 8), .pl (.load none (.t 0)), none⟩,
     ⟨(some 9), .call (.c (.fn 72 [] [])) [(.t 8), (.c (.str ⟨#[58]⟩))], none⟩] [0, 1, 2])
  (.seq (.reg [⟨(some 10), .pl (.load none (.t 0)), none⟩,
     ⟨(some 11), .call (.c (.fn 73 [] [])) [(.t 10), (.c (.int .i64 0))], none⟩,
     ⟨(some 12), .pl (.fa 2 (.t 2)), none⟩,
     ⟨none, .pl (.store 3 (.t 12) (.t 11)), none⟩] [1, 2])
  (.reg [⟨(some 13), .pl (.fa 2 (.t 1)), none⟩,
    ⟨(some 14), .pl (.load none (.t 13)), none⟩,
    ⟨(some 15), .pl (.load (some 5) (.t 2)), none⟩,
    ⟨(some 16), .pl (.lit 5 [(.t 15)]), none⟩,
    ⟨(some 17), .pl (.append 76 5 72 (.t 14) (.t 16)), none⟩,
    ⟨(some 18), .pl (.fa 2 (.t 1)), none⟩,
    ⟨none, .pl (.store 1 (.t 18) (.t 17)), none⟩] [])))⟩
theorem c69 : compF Try.prog 69 = some A69 := by kernel_rfl

end Go.Proofs.Ytjljhmeadfejhaa
