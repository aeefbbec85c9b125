/- The compiled form of the functions of this claim: each equation is checked by the kernel. -/
import Derived.Test.YtjljhmeadfejhaaGreatChecked
import Derived.Test.YtjljhmeadfejhaaGreatME3
set_option maxRecDepth 100000
namespace Go.Proofs.YtjljhmeadfejhaaGreat
open Go.Eng
/-- concourse/concourselaw19.BlankLeast -/
def A5 : AFun := ⟨46, [.t 6],
  .seq (.reg [⟨(some 5), .pl (.box (.t 2)), none⟩,
     ⟨(some 6), .pl (.mv (.c (.bool false))), none⟩] [0, 1, 5])
  (.seq (.seq (.reg [⟨(some 11), .pl (.mv (.t 0)), none⟩,
      ⟨(some 12), .call (.c (.fn 17 [] [])) [(.t 11)], none⟩,
      ⟨(some 13), .pl (.mv (.t 12)), none⟩,
      ⟨(some 14), .pl (.load (some 5) (.t 5)), (some (13, false))⟩,
      ⟨(some 15), .call (.c (.fn 18 [] [])) [(.t 14), (.c (.int .i64 0))], (some (13, false))⟩,
      ⟨(some 16), .pl (.pick (.t 13) (.c (.bool true)) (.t 15)), none⟩] [0, 1, 5, 16])
   (.cond (.t 16)
    (.seq (.reg [⟨(some 17), .call (.c (.fn 24 [] [])) [], none⟩,
        ⟨(some 6), .pl (.mv (.t 17)), none⟩] [6])
     (.ret))
    (.skip)))
  (.seq (.reg [⟨(some 19), .pl (.mv (.t 0)), none⟩,
     ⟨(some 20), .call (.c (.fn 20 [] [])) [(.t 19)], none⟩,
     ⟨(some 18), .pl (.mv (.t 20)), none⟩,
     ⟨(some 21), .pl (.ext 0 (.t 18)), none⟩,
     ⟨(some 22), .pl (.ext 1 (.t 18)), none⟩,
     ⟨(some 7), .pl (.mv (.t 21)), none⟩,
     ⟨(some 8), .pl (.mv (.t 22)), none⟩] [1, 5, 7, 8])
  (.seq (.seq (.reg [⟨(some 23), .pl (.mv (.t 8)), none⟩,
      ⟨(some 24), .pl (.mv (.t 1)), none⟩,
      ⟨(some 25), .pl (.load (some 5) (.t 5)), none⟩,
      ⟨(some 26), .call (.c (.fn 25 [] [])) [(.t 23), (.t 24), (.t 25)], none⟩,
      ⟨(some 27), .pl (.bin .neq .no (.t 26) (.c (.int .i64 0))), none⟩] [1, 5, 7, 27])
   (.cond (.t 27)
    (.seq (.reg [⟨(some 28), .call (.c (.fn 24 [] [])) [], none⟩,
        ⟨(some 6), .pl (.mv (.t 28)), none⟩] [6])
     (.ret))
    (.skip)))
  (.seq (.reg [⟨(some 30), .pl (.mv (.t 7)), none⟩,
     ⟨(some 31), .pl (.mv (.t 1)), none⟩,
     ⟨(some 32), .call (.c (.fn 26 [] [])) [(.t 30), (.t 31)], none⟩,
     ⟨(some 29), .pl (.mv (.t 32)), none⟩,
     ⟨(some 33), .pl (.ext 0 (.t 29)), none⟩,
     ⟨(some 34), .pl (.ext 1 (.t 29)), none⟩,
     ⟨(some 9), .pl (.alloc [.int .i64 0, .int .i64 0, .str ⟨#[]⟩, .esl, .esl]), none⟩,
     ⟨none, .pl (.store 5 (.t 9) (.t 33)), none⟩,
     ⟨(some 10), .pl (.mv (.t 34)), none⟩] [5, 10])
  (.seq (.reg [⟨(some 35), .pl (.mv (.t 10)), none⟩,
     ⟨(some 36), .pl (.bin .geq .no (.t 35) (.c (.int .i64 1))), none⟩,
     ⟨(some 37), .pl (.mv (.t 36)), none⟩,
     ⟨(some 38), .pl (.mv (.t 10)), (some (37, true))⟩,
     ⟨(some 39), .pl (.load (some 5) (.t 5)), (some (37, true))⟩,
     ⟨(some 40), .call (.c (.fn 27 [] [])) [(.t 39)], (some (37, true))⟩,
     ⟨(some 41), .pl (.bin .leq .no (.t 38) (.t 40)), (some (37, true))⟩,
     ⟨(some 42), .pl (.pick (.t 37) (.t 41) (.c (.bool false))), none⟩,
     ⟨(some 43), .pl (.mv (.t 42)), none⟩,
     ⟨(some 44), .call (.c (.fn 24 [] [])) [], (some (43, true))⟩,
     ⟨(some 45), .pl (.pick (.t 43) (.t 44) (.c (.bool false))), none⟩,
     ⟨(some 6), .pl (.mv (.t 45)), none⟩] [6])
  (.ret))))))⟩
theorem c5 : compF Tryz.prog 5 = some A5 := by kernel_rfl

/-- concourse/concourseref15.Great -/
def A18_l0 : AC := .seq (.seq (.reg [⟨(some 27), .pl (.mv (.t 6)), none⟩,
      ⟨(some 28), .pl (.fa 4 (.t 2)), none⟩,
      ⟨(some 29), .pl (.load none (.t 28)), none⟩,
      ⟨(some 30), .pl (.lenL (.t 29)), none⟩,
      ⟨(some 31), .pl (.bin .lss .no (.t 27) (.t 30)), none⟩] [1, 2, 5, 6, 31])
   (.cond (.t 31)
    (.skip)
    (.exit 0)))
  (.seq (.block 1 (.seq (.seq (.regD [⟨(some 34), .pl (.fa 4 (.t 2)), none⟩,
        ⟨(some 35), .pl (.load none (.t 34)), none⟩,
        ⟨(some 36), .pl (.mv (.t 6)), none⟩,
        ⟨(some 37), .pl (.ia 5 (.t 35) (.t 36)), none⟩,
        ⟨(some 38), .pl (.load (some 5) (.t 37)), none⟩,
        ⟨(some 39), .pl (.mv (.t 1)), none⟩,
        ⟨(some 40), .pl (.bin .add .no (.t 39) (.c (.int .i64 1))), none⟩,
        ⟨(some 41), .pl (.fa 4 (.t 2)), none⟩,
        ⟨(some 42), .pl (.load none (.t 41)), none⟩,
        ⟨(some 43), .pl (.lenL (.t 42)), none⟩,
        ⟨(some 44), .pl (.bin .quo .no (.t 43) (.c (.int .i64 4))), none⟩,
        ⟨(some 45), .pl (.bin .add .no (.t 40) (.t 44)), none⟩,
        ⟨(some 46), .call (.c (.fn 18 [] [])) [(.t 38), (.t 45)], none⟩] [] [1, 2, 5, 6, 46])
     (.cond (.t 46)
      (.seq (.reg [⟨(some 4), .pl (.mv (.c (.bool true))), none⟩] [4])
       (.ret))
      (.skip)))
    (.reg [⟨(some 47), .pl (.mv (.t 5)), none⟩,
      ⟨(some 48), .pl (.fa 4 (.t 2)), none⟩,
      ⟨(some 49), .pl (.load none (.t 48)), none⟩,
      ⟨(some 50), .pl (.mv (.t 6)), none⟩,
      ⟨(some 51), .pl (.ia 5 (.t 49) (.t 50)), none⟩,
      ⟨(some 52), .pl (.load (some 5) (.t 51)), none⟩,
      ⟨(some 53), .call (.c (.fn 54 [] [])) [(.t 52)], none⟩,
      ⟨(some 54), .pl (.bin .add .no (.t 47) (.t 53)), none⟩,
      ⟨(some 55), .pl (.mm false (.t 54) (.c (.int .i64 100000))), none⟩,
      ⟨(some 5), .pl (.mv (.t 55)), none⟩] [1, 2, 5, 6])))
  (.reg [⟨(some 32), .pl (.mv (.t 6)), none⟩,
    ⟨(some 33), .pl (.bin .add .no (.t 32) (.c (.int .i64 1))), none⟩,
    ⟨(some 6), .pl (.mv (.t 33)), none⟩] [1, 2, 5, 6]))
def A18_r0 : AC := .seq (.reg [⟨(some 56), .pl (.mv (.t 5)), none⟩,
     ⟨(some 57), .pl (.bin .gtr .no (.t 56) (.c (.int .i64 20000))), none⟩,
     ⟨(some 4), .pl (.mv (.t 57)), none⟩] [4])
  (.ret)
def A18 : AFun := ⟨58, [.t 4],
  .seq (.reg [⟨(some 2), .pl (.box (.t 0)), none⟩,
     ⟨(some 4), .pl (.mv (.c (.bool false))), none⟩] [1, 2])
  (.seq (.seq (.reg [⟨(some 7), .pl (.mv (.t 1)), none⟩,
      ⟨(some 8), .pl (.bin .gtr .no (.t 7) (.c (.int .i64 40))), none⟩,
      ⟨(some 9), .pl (.mv (.t 8)), none⟩,
      ⟨(some 10), .pl (.fa 4 (.t 2)), (some (9, false))⟩,
      ⟨(some 11), .pl (.load none (.t 10)), (some (9, false))⟩,
      ⟨(some 12), .pl (.lenL (.t 11)), (some (9, false))⟩,
      ⟨(some 13), .pl (.bin .gtr .no (.t 12) (.c (.int .i64 60))), (some (9, false))⟩,
      ⟨(some 14), .pl (.pick (.t 9) (.c (.bool true)) (.t 13)), none⟩,
      ⟨(some 15), .pl (.mv (.t 14)), none⟩,
      ⟨(some 16), .pl (.fa 3 (.t 2)), (some (15, false))⟩,
      ⟨(some 17), .pl (.load none (.t 16)), (some (15, false))⟩,
      ⟨(some 18), .pl (.lenL (.t 17)), (some (15, false))⟩,
      ⟨(some 19), .pl (.bin .gtr .no (.t 18) (.c (.int .i64 300))), (some (15, false))⟩,
      ⟨(some 20), .pl (.pick (.t 15) (.c (.bool true)) (.t 19)), none⟩,
      ⟨(some 21), .pl (.mv (.t 20)), none⟩,
      ⟨(some 22), .pl (.fa 2 (.t 2)), (some (21, false))⟩,
      ⟨(some 23), .pl (.load none (.t 22)), (some (21, false))⟩,
      ⟨(some 24), .pl (.lenS (.t 23)), (some (21, false))⟩,
      ⟨(some 25), .pl (.bin .gtr .no (.t 24) (.c (.int .i64 2000))), (some (21, false))⟩,
      ⟨(some 26), .pl (.pick (.t 21) (.c (.bool true)) (.t 25)), none⟩] [1, 2, 26])
   (.cond (.t 26)
    (.seq (.reg [⟨(some 4), .pl (.mv (.c (.bool true))), none⟩] [4])
     (.ret))
    (.skip)))
  (.seq (.reg [⟨(some 5), .pl (.mv (.c (.int .i64 0))), none⟩] [1, 2, 5])
  (.seq (.seq (.reg [⟨(some 6), .pl (.mv (.c (.int .i64 0))), none⟩] [1, 2, 5, 6])
   (.block 0 (.loop [1, 2, 5, 6] A18_l0)))
  (A18_r0))))⟩
theorem c18 : compF Tryz.prog 18 = some A18 := by kernel_rfl

/-- concourse/concourselaw16.Made -/
def A20 : AFun := ⟨16, [.t 2, .t 3],
  .seq (.reg [⟨(some 2), .pl (.mv (.c (.nilp))), none⟩,
     ⟨(some 3), .pl (.mv (.c (.esl))), none⟩] [0])
  (.seq (.reg [⟨(some 7), .pl (.mv (.t 0)), none⟩,
     ⟨(some 8), .call (.c (.fn 14 [] [])) [(.t 7)], none⟩,
     ⟨(some 6), .pl (.mv (.t 8)), none⟩,
     ⟨(some 9), .pl (.ext 0 (.t 6)), none⟩,
     ⟨(some 10), .pl (.ext 1 (.t 6)), none⟩,
     ⟨(some 5), .pl (.alloc [.int .i64 0, .int .i64 0]), none⟩,
     ⟨(some 4), .pl (.mv (.t 9)), none⟩,
     ⟨none, .pl (.store 2 (.t 5) (.t 10)), none⟩] [0, 4, 5])
  (.seq (.seq (.reg [⟨(some 11), .pl (.fa 0 (.t 5)), none⟩,
      ⟨(some 12), .pl (.load none (.t 11)), none⟩,
      ⟨(some 13), .pl (.bin .neq .no (.t 12) (.c (.int .i64 0))), none⟩] [0, 4, 13])
   (.cond (.t 13)
    (.seq (.reg [⟨(some 2), .pl (.mv (.c (.nilp))), none⟩,
        ⟨(some 3), .pl (.mv (.c (.esl))), none⟩] [2, 3])
     (.ret))
    (.skip)))
  (.seq (.reg [⟨(some 14), .pl (.mv (.t 4)), none⟩,
     ⟨(some 15), .pl (.mv (.t 0)), none⟩,
     ⟨(some 2), .pl (.mv (.t 14)), none⟩,
     ⟨(some 3), .pl (.mv (.t 15)), none⟩] [2, 3])
  (.ret))))⟩
theorem c20 : compF Tryz.prog 20 = some A20 := by kernel_rfl

/-- concourse/concourselaw19.awake -/
def A24 : AFun := ⟨30, [.t 0],
  .seq (.reg [⟨(some 0), .pl (.mv (.c (.bool false))), none⟩] [])
  (.seq (.reg [⟨(some 6), .call (.c (.fn 11 [] [])) [(.c (.str ⟨#[115, 116, 114, 117, 99, 116, 32, 80, 32, 123, 32, 49, 32, 97, 58, 32, 116, 101, 120, 116, 59, 32, 50, 32, 98, 58, 32, 80, 63, 59, 32, 125]⟩))], none⟩,
     ⟨(some 5), .pl (.mv (.t 6)), none⟩,
     ⟨(some 7), .pl (.ext 0 (.t 5)), none⟩,
     ⟨(some 8), .pl (.ext 1 (.t 5)), none⟩,
     ⟨(some 2), .pl (.alloc [.int .i64 0, .int .i64 0]), none⟩,
     ⟨(some 1), .pl (.mv (.t 7)), none⟩,
     ⟨none, .pl (.store 2 (.t 2) (.t 8)), none⟩] [1])
  (.seq (.reg [⟨(some 10), .pl (.mv (.t 1)), none⟩,
     ⟨(some 11), .call (.c (.fn 26 [] [])) [(.t 10), (.c (.str ⟨#[80]⟩))], none⟩,
     ⟨(some 9), .pl (.mv (.t 11)), none⟩,
     ⟨(some 12), .pl (.ext 0 (.t 9)), none⟩,
     ⟨(some 13), .pl (.ext 1 (.t 9)), none⟩,
     ⟨(some 3), .pl (.alloc [.int .i64 0, .int .i64 0, .str ⟨#[]⟩, .esl, .esl]), none⟩,
     ⟨none, .pl (.store 5 (.t 3) (.t 12)), none⟩,
     ⟨(some 4), .pl (.mv (.t 13)), none⟩] [3, 4])
  (.seq (.reg [⟨(some 14), .pl (.mv (.t 4)), none⟩,
     ⟨(some 15), .pl (.bin .eql .no (.t 14) (.c (.int .i64 2))), none⟩,
     ⟨(some 16), .pl (.mv (.t 15)), none⟩,
     ⟨(some 17), .pl (.fa 4 (.t 3)), (some (16, true))⟩,
     ⟨(some 18), .pl (.load none (.t 17)), (some (16, true))⟩,
     ⟨(some 19), .pl (.lenL (.t 18)), (some (16, true))⟩,
     ⟨(some 20), .pl (.bin .eql .no (.t 19) (.c (.int .i64 1))), (some (16, true))⟩,
     ⟨(some 21), .pl (.pick (.t 16) (.t 20) (.c (.bool false))), none⟩,
     ⟨(some 22), .pl (.mv (.t 21)), none⟩,
     ⟨(some 23), .pl (.fa 4 (.t 3)), (some (22, true))⟩,
     ⟨(some 24), .pl (.load none (.t 23)), (some (22, true))⟩,
     ⟨(some 25), .pl (.ia 5 (.t 24) (.c (.int .i64 0))), (some (22, true))⟩,
     ⟨(some 26), .pl (.fa 0 (.t 25)), (some (22, true))⟩,
     ⟨(some 27), .pl (.load none (.t 26)), (some (22, true))⟩,
     ⟨(some 28), .pl (.bin .eql .no (.t 27) (.c (.int .i64 4))), (some (22, true))⟩,
     ⟨(some 29), .pl (.pick (.t 22) (.t 28) (.c (.bool false))), none⟩,
     ⟨(some 0), .pl (.mv (.t 29)), none⟩] [0])
  (.ret))))⟩
theorem c24 : compF Tryz.prog 24 = some A24 := by kernel_rfl

/-- concourse/concourseref16.Struct -/
def A25 : AFun := ⟨16, [.t 6],
  .seq (.reg [⟨(some 5), .pl (.box (.t 2)), none⟩,
     ⟨(some 6), .pl (.mv (.c (.int .i64 0))), none⟩] [0, 1, 5])
  (.seq (.seq (.reg [⟨(some 7), .pl (.mv (.t 0)), none⟩,
      ⟨(some 8), .pl (.mv (.t 1)), none⟩,
      ⟨(some 9), .call (.c (.fn 59 [] [])) [(.t 7), (.t 8)], none⟩,
      ⟨(some 10), .pl (.bin .neq .no (.t 9) (.c (.int .i64 1))), none⟩] [0, 1, 5, 10])
   (.cond (.t 10)
    (.seq (.reg [⟨(some 6), .pl (.mv (.c (.int .i64 8))), none⟩] [6])
     (.ret))
    (.skip)))
  (.seq (.reg [⟨(some 11), .pl (.mv (.t 0)), none⟩,
     ⟨(some 12), .pl (.mv (.t 1)), none⟩,
     ⟨(some 13), .pl (.build [.int .i64 0, .str ⟨#[]⟩, .esl] [(0, 1, (.c (.int .i64 6))), (1, 1, (.t 12))]), none⟩,
     ⟨(some 14), .pl (.load (some 5) (.t 5)), none⟩,
     ⟨(some 15), .call (.c (.fn 60 [] [])) [(.t 11), (.t 13), (.t 14)], none⟩,
     ⟨(some 6), .pl (.mv (.t 15)), none⟩] [6])
  (.ret)))⟩
theorem c25 : compF Tryz.prog 25 = some A25 := by kernel_rfl

/-- concourse/blank.Struct -/
def A26 : AFun := ⟨17, [.cell 4 (some 5), .t 5],
  .seq (.reg [⟨(some 4), .pl (.alloc [.int .i64 0, .int .i64 0, .str ⟨#[]⟩, .esl, .esl]), none⟩,
     ⟨(some 5), .pl (.mv (.c (.int .i64 0))), none⟩] [0, 1, 4])
  (.seq (.seq (.reg [⟨(some 6), .pl (.mv (.t 0)), none⟩,
      ⟨(some 7), .pl (.mv (.t 1)), none⟩,
      ⟨(some 8), .call (.c (.fn 57 [] [])) [(.t 6), (.t 7)], none⟩,
      ⟨(some 9), .pl (.bin .neq .no (.t 8) (.c (.int .i64 1))), none⟩] [0, 1, 4, 9])
   (.cond (.t 9)
    (.seq (.reg [⟨(some 10), .pl (.build [.int .i64 0, .int .i64 0, .str ⟨#[]⟩, .esl, .esl] []), none⟩,
        ⟨none, .pl (.store 5 (.t 4) (.t 10)), none⟩,
        ⟨(some 5), .pl (.mv (.c (.int .i64 0))), none⟩] [4, 5])
     (.ret))
    (.skip)))
  (.seq (.reg [⟨(some 11), .pl (.mv (.t 0)), none⟩,
     ⟨(some 12), .pl (.mv (.t 1)), none⟩,
     ⟨(some 13), .pl (.build [.int .i64 0, .str ⟨#[]⟩, .esl] [(0, 1, (.c (.int .i64 6))), (1, 1, (.t 12))]), none⟩,
     ⟨(some 14), .call (.c (.fn 61 [] [])) [(.t 11), (.t 13)], none⟩,
     ⟨(some 15), .pl (.ext 0 (.t 14)), none⟩,
     ⟨(some 16), .pl (.ext 1 (.t 14)), none⟩,
     ⟨none, .pl (.store 5 (.t 4) (.t 15)), none⟩,
     ⟨(some 5), .pl (.mv (.t 16)), none⟩] [4, 5])
  (.ret)))⟩
theorem c26 : compF Tryz.prog 26 = some A26 := by kernel_rfl

/-- concourse/concourseref15.Deep -/
def A27_l0 : AC := .seq (.seq (.reg [⟨(some 5), .pl (.mv (.t 4)), none⟩,
      ⟨(some 6), .pl (.fa 4 (.t 1)), none⟩,
      ⟨(some 7), .pl (.load none (.t 6)), none⟩,
      ⟨(some 8), .pl (.lenL (.t 7)), none⟩,
      ⟨(some 9), .pl (.bin .lss .no (.t 5) (.t 8)), none⟩] [1, 3, 4, 9])
   (.cond (.t 9)
    (.skip)
    (.exit 0)))
  (.seq (.block 1 (.reg [⟨(some 12), .pl (.mv (.t 3)), none⟩,
      ⟨(some 13), .pl (.fa 4 (.t 1)), none⟩,
      ⟨(some 14), .pl (.load none (.t 13)), none⟩,
      ⟨(some 15), .pl (.mv (.t 4)), none⟩,
      ⟨(some 16), .pl (.ia 5 (.t 14) (.t 15)), none⟩,
      ⟨(some 17), .pl (.load (some 5) (.t 16)), none⟩,
      ⟨(some 18), .call (.c (.fn 27 [] [])) [(.t 17)], none⟩,
      ⟨(some 19), .pl (.bin .add .no (.c (.int .i64 1)) (.t 18)), none⟩,
      ⟨(some 20), .pl (.mm true (.t 12) (.t 19)), none⟩,
      ⟨(some 3), .pl (.mv (.t 20)), none⟩] [1, 3, 4]))
  (.reg [⟨(some 10), .pl (.mv (.t 4)), none⟩,
    ⟨(some 11), .pl (.bin .add .no (.t 10) (.c (.int .i64 1))), none⟩,
    ⟨(some 4), .pl (.mv (.t 11)), none⟩] [1, 3, 4]))
def A27_r0 : AC := .seq (.reg [⟨(some 21), .pl (.mv (.t 3)), none⟩,
     ⟨(some 2), .pl (.mv (.t 21)), none⟩] [2])
  (.ret)
def A27 : AFun := ⟨22, [.t 2],
  .seq (.reg [⟨(some 1), .pl (.box (.t 0)), none⟩,
     ⟨(some 2), .pl (.mv (.c (.int .i64 0))), none⟩] [1])
  (.seq (.reg [⟨(some 3), .pl (.mv (.c (.int .i64 1))), none⟩] [1, 3])
  (.seq (.seq (.reg [⟨(some 4), .pl (.mv (.c (.int .i64 0))), none⟩] [1, 3, 4])
   (.block 0 (.loop [1, 3, 4] A27_l0)))
  (A27_r0)))⟩
theorem c27 : compF Tryz.prog 27 = some A27 := by kernel_rfl

/-- concourse/concourseref15.Well -/
def A32_l0 : AC := .seq (.seq (.reg [⟨(some 7), .pl (.mv (.t 3)), none⟩,
      ⟨(some 8), .pl (.fa 4 (.t 1)), none⟩,
      ⟨(some 9), .pl (.load none (.t 8)), none⟩,
      ⟨(some 10), .pl (.lenL (.t 9)), none⟩,
      ⟨(some 11), .pl (.bin .lss .no (.t 7) (.t 10)), none⟩] [1, 3, 11])
   (.cond (.t 11)
    (.skip)
    (.exit 0)))
  (.seq (.block 1 (.seq (.reg [⟨(some 14), .pl (.fa 4 (.t 1)), none⟩,
       ⟨(some 15), .pl (.load none (.t 14)), none⟩,
       ⟨(some 16), .pl (.mv (.t 3)), none⟩,
       ⟨(some 17), .pl (.ia 5 (.t 15) (.t 16)), none⟩,
       ⟨(some 18), .pl (.load (some 5) (.t 17)), none⟩,
       ⟨(some 19), .call (.c (.fn 32 [] [])) [(.t 18)], none⟩,
       ⟨(some 20), .pl (.un .not (.t 19)), none⟩] [1, 3, 20])
    (.cond (.t 20)
     (.seq (.reg [⟨(some 2), .pl (.mv (.c (.bool false))), none⟩] [2])
      (.ret))
     (.skip))))
  (.reg [⟨(some 12), .pl (.mv (.t 3)), none⟩,
    ⟨(some 13), .pl (.bin .add .no (.t 12) (.c (.int .i64 1))), none⟩,
    ⟨(some 3), .pl (.mv (.t 13)), none⟩] [1, 3]))
def A32_r0 : AC := .seq (.reg [⟨(some 2), .pl (.mv (.c (.bool true))), none⟩] [2])
  (.ret)
def A32 : AFun := ⟨21, [.t 2],
  .seq (.reg [⟨(some 1), .pl (.box (.t 0)), none⟩,
     ⟨(some 2), .pl (.mv (.c (.bool false))), none⟩] [1])
  (.seq (.seq (.reg [⟨(some 4), .pl (.load (some 5) (.t 1)), none⟩,
      ⟨(some 5), .call (.c (.fn 66 [] [])) [(.t 4)], none⟩,
      ⟨(some 6), .pl (.un .not (.t 5)), none⟩] [1, 6])
   (.cond (.t 6)
    (.seq (.reg [⟨(some 2), .pl (.mv (.c (.bool false))), none⟩] [2])
     (.ret))
    (.skip)))
  (.seq (.seq (.reg [⟨(some 3), .pl (.mv (.c (.int .i64 0))), none⟩] [1, 3])
   (.block 0 (.loop [1, 3] A32_l0)))
  (A32_r0)))⟩
theorem c32 : compF Tryz.prog 32 = some A32 := by kernel_rfl

/-- concourse/concourseref15.Size -/
def A54_l0 : AC := .seq (.seq (.reg [⟨(some 9), .pl (.mv (.t 4)), none⟩,
      ⟨(some 10), .pl (.fa 4 (.t 1)), none⟩,
      ⟨(some 11), .pl (.load none (.t 10)), none⟩,
      ⟨(some 12), .pl (.lenL (.t 11)), none⟩,
      ⟨(some 13), .pl (.bin .lss .no (.t 9) (.t 12)), none⟩] [1, 3, 4, 13])
   (.cond (.t 13)
    (.skip)
    (.exit 0)))
  (.seq (.block 1 (.reg [⟨(some 16), .pl (.mv (.t 3)), none⟩,
      ⟨(some 17), .pl (.fa 4 (.t 1)), none⟩,
      ⟨(some 18), .pl (.load none (.t 17)), none⟩,
      ⟨(some 19), .pl (.mv (.t 4)), none⟩,
      ⟨(some 20), .pl (.ia 5 (.t 18) (.t 19)), none⟩,
      ⟨(some 21), .pl (.load (some 5) (.t 20)), none⟩,
      ⟨(some 22), .call (.c (.fn 54 [] [])) [(.t 21)], none⟩,
      ⟨(some 23), .pl (.bin .add .no (.t 16) (.t 22)), none⟩,
      ⟨(some 3), .pl (.mv (.t 23)), none⟩] [1, 3, 4]))
  (.reg [⟨(some 14), .pl (.mv (.t 4)), none⟩,
    ⟨(some 15), .pl (.bin .add .no (.t 14) (.c (.int .i64 1))), none⟩,
    ⟨(some 4), .pl (.mv (.t 15)), none⟩] [1, 3, 4]))
def A54_r0 : AC := .seq (.reg [⟨(some 24), .pl (.mv (.t 3)), none⟩,
     ⟨(some 2), .pl (.mv (.t 24)), none⟩] [2])
  (.ret)
def A54 : AFun := ⟨25, [.t 2],
  .seq (.reg [⟨(some 1), .pl (.box (.t 0)), none⟩,
     ⟨(some 2), .pl (.mv (.c (.int .i64 0))), none⟩] [1])
  (.seq (.reg [⟨(some 5), .pl (.fa 2 (.t 1)), none⟩,
     ⟨(some 6), .pl (.load none (.t 5)), none⟩,
     ⟨(some 7), .pl (.lenS (.t 6)), none⟩,
     ⟨(some 8), .pl (.bin .add .no (.c (.int .i64 8)) (.t 7)), none⟩,
     ⟨(some 3), .pl (.mv (.t 8)), none⟩] [1, 3])
  (.seq (.seq (.reg [⟨(some 4), .pl (.mv (.c (.int .i64 0))), none⟩] [1, 3, 4])
   (.block 0 (.loop [1, 3, 4] A54_l0)))
  (A54_r0)))⟩
theorem c54 : compF Tryz.prog 54 = some A54 := by kernel_rfl

/-- concourse/concourseref11.Kind -/
def A59 : AFun := ⟨16, [.t 4],
  .seq (.reg [⟨(some 4), .pl (.mv (.c (.int .i64 0))), none⟩] [0, 1])
  (.seq (.reg [⟨(some 6), .pl (.mv (.t 0)), none⟩,
     ⟨(some 7), .pl (.mv (.t 1)), none⟩,
     ⟨(some 8), .call (.c (.fn 99 [] [])) [(.t 6), (.t 7)], none⟩,
     ⟨(some 5), .pl (.mv (.t 8)), none⟩] [0, 5])
  (.seq (.seq (.reg [⟨(some 9), .pl (.mv (.t 5)), none⟩,
      ⟨(some 10), .pl (.bin .lss .no (.t 9) (.c (.int .i64 0))), none⟩] [0, 5, 10])
   (.cond (.t 10)
    (.seq (.reg [⟨(some 4), .pl (.mv (.c (.int .i64 0))), none⟩] [4])
     (.ret))
    (.skip)))
  (.seq (.reg [⟨(some 11), .pl (.mv (.t 0)), none⟩,
     ⟨(some 12), .pl (.mv (.t 5)), none⟩,
     ⟨(some 13), .pl (.ia 5 (.t 11) (.t 12)), none⟩,
     ⟨(some 14), .pl (.fa 0 (.t 13)), none⟩,
     ⟨(some 15), .pl (.load none (.t 14)), none⟩,
     ⟨(some 4), .pl (.mv (.t 15)), none⟩] [4])
  (.ret))))⟩
theorem c59 : compF Tryz.prog 59 = some A59 := by kernel_rfl

/-- concourse/concourseref16.Fits -/
def A60 : AFun := ⟨17, [.t 6],
  .seq (.reg [⟨(some 4), .pl (.box (.t 1)), none⟩,
     ⟨(some 5), .pl (.box (.t 2)), none⟩,
     ⟨(some 6), .pl (.mv (.c (.int .i64 0))), none⟩] [0, 4, 5])
  (.seq (.seq (.reg [⟨(some 7), .pl (.load (some 5) (.t 5)), none⟩,
      ⟨(some 8), .call (.c (.fn 32 [] [])) [(.t 7)], none⟩,
      ⟨(some 9), .pl (.un .not (.t 8)), none⟩] [0, 4, 5, 9])
   (.cond (.t 9)
    (.seq (.reg [⟨(some 6), .pl (.mv (.c (.int .i64 1))), none⟩] [6])
     (.ret))
    (.skip)))
  (.seq (.seq (.reg [⟨(some 10), .pl (.load (some 5) (.t 5)), none⟩,
      ⟨(some 11), .call (.c (.fn 27 [] [])) [(.t 10)], none⟩,
      ⟨(some 12), .pl (.bin .gtr .no (.t 11) (.c (.int .i64 8))), none⟩] [0, 4, 5, 12])
   (.cond (.t 12)
    (.seq (.reg [⟨(some 6), .pl (.mv (.c (.int .i64 10))), none⟩] [6])
     (.ret))
    (.skip)))
  (.seq (.reg [⟨(some 13), .pl (.mv (.t 0)), none⟩,
     ⟨(some 14), .pl (.load (some 3) (.t 4)), none⟩,
     ⟨(some 15), .pl (.load (some 5) (.t 5)), none⟩,
     ⟨(some 16), .call (.c (.fn 100 [] [])) [(.t 13), (.t 14), (.t 15)], none⟩,
     ⟨(some 6), .pl (.mv (.t 16)), none⟩] [6])
  (.ret))))⟩
theorem c60 : compF Tryz.prog 60 = some A60 := by kernel_rfl

/-- concourse/blank.Type -/
def A61_l0 : AC := .seq (.reg [⟨(some 14), .pl (.bin .lss .no (.t 13) (.c (.int .i64 8))), none⟩] [3, 4, 6, 13, 14])
  (.seq (.cond (.t 14)
    (.skip)
    (.exit 0))
  (.seq (.block 1 (.seq (.reg [⟨(some 15), .pl (.mv (.t 13)), none⟩,
       ⟨(some 7), .pl (.mv (.t 15)), none⟩] [3, 4, 6, 7, 13])
    (.seq (.reg [⟨(some 17), .pl (.mv (.t 6)), none⟩,
       ⟨(some 18), .pl (.load (some 3) (.t 3)), none⟩,
       ⟨(some 19), .pl (.mv (.t 7)), none⟩,
       ⟨(some 20), .pl (.bin .add .no (.t 19) (.c (.int .i64 1))), none⟩,
       ⟨(some 21), .call (.c (.fn 101 [] [])) [(.t 17), (.t 18), (.t 20)], none⟩,
       ⟨(some 16), .pl (.mv (.t 21)), none⟩,
       ⟨(some 22), .pl (.ext 0 (.t 16)), none⟩,
       ⟨(some 23), .pl (.ext 1 (.t 16)), none⟩,
       ⟨(some 8), .pl (.alloc [.int .i64 0, .int .i64 0, .str ⟨#[]⟩, .esl, .esl]), none⟩,
       ⟨none, .pl (.store 5 (.t 8) (.t 22)), none⟩,
       ⟨(some 9), .pl (.mv (.t 23)), none⟩] [3, 4, 6, 7, 8, 9, 13])
    (.seq (.reg [⟨(some 24), .pl (.mv (.t 9)), none⟩] [3, 4, 6, 7, 8, 13, 24])
    (.cond (.t 24)
     (.seq (.reg [⟨(some 25), .pl (.load (some 5) (.t 8)), none⟩,
         ⟨(some 26), .pl (.mv (.t 7)), none⟩,
         ⟨(some 27), .pl (.bin .add .no (.t 26) (.c (.int .i64 1))), none⟩,
         ⟨none, .pl (.store 5 (.t 4) (.t 25)), none⟩,
         ⟨(some 5), .pl (.mv (.t 27)), none⟩] [4, 5])
      (.ret))
     (.skip))))))
  (.reg [⟨(some 28), .pl (.bin .add .no (.t 13) (.c (.int .i64 1))), none⟩,
    ⟨(some 13), .pl (.mv (.t 28)), none⟩] [3, 4, 6, 13])))
def A61_r0 : AC := .seq (.reg [⟨(some 29), .pl (.build [.int .i64 0, .int .i64 0, .str ⟨#[]⟩, .esl, .esl] []), none⟩,
     ⟨none, .pl (.store 5 (.t 4) (.t 29)), none⟩,
     ⟨(some 5), .pl (.mv (.c (.int .i64 0))), none⟩] [4, 5])
  (.ret)
def A61 : AFun := ⟨30, [.cell 4 (some 5), .t 5],
  .seq (.reg [⟨(some 3), .pl (.box (.t 1)), none⟩,
     ⟨(some 4), .pl (.alloc [.int .i64 0, .int .i64 0, .str ⟨#[]⟩, .esl, .esl]), none⟩,
     ⟨(some 5), .pl (.mv (.c (.int .i64 0))), none⟩] [0, 3, 4])
  (.seq (.reg [⟨(some 10), .pl (.mv (.t 0)), none⟩,
     ⟨(some 11), .pl (.build [.nilp] [(0, 1, (.t 10))]), none⟩,
     ⟨(some 12), .pl (.box (.t 11)), none⟩,
     ⟨(some 6), .pl (.mv (.t 12)), none⟩] [3, 4, 6])
  (.seq (.seq (.reg [⟨(some 13), .pl (.mv (.c (.int .i64 0))), none⟩] [3, 4, 6, 13])
   (.block 0 (.loop [3, 4, 6, 13] A61_l0)))
  (A61_r0)))⟩
theorem c61 : compF Tryz.prog 61 = some A61 := by kernel_rfl

/-- concourse/concourseref15.one -/
def A66 : AFun := ⟨165, [.t 2],
  .seq (.reg [⟨(some 1), .pl (.box (.t 0)), none⟩,
     ⟨(some 2), .pl (.mv (.c (.bool false))), none⟩] [1])
  (.seq (.seq (.reg [⟨(some 3), .pl (.fa 0 (.t 1)), none⟩,
      ⟨(some 4), .pl (.load none (.t 3)), none⟩] [1, 4])
   (.block 0 (.seq (.reg [⟨(some 6), .pl (.bin .eql .no (.t 4) (.c (.int .i64 1))), none⟩,
       ⟨(some 5), .pl (.mv (.t 6)), none⟩] [1, 4, 5])
    (.cond (.t 5)
     (.seq (.reg [⟨(some 7), .pl (.load (some 5) (.t 1)), none⟩,
         ⟨(some 8), .call (.c (.fn 105 [] [])) [(.t 7)], none⟩,
         ⟨(some 9), .pl (.mv (.t 8)), none⟩,
         ⟨(some 10), .pl (.fa 2 (.t 1)), (some (9, true))⟩,
         ⟨(some 11), .pl (.load none (.t 10)), (some (9, true))⟩,
         ⟨(some 12), .pl (.bin .eql .no (.t 11) (.c (.str ⟨#[]⟩))), (some (9, true))⟩,
         ⟨(some 13), .pl (.pick (.t 9) (.t 12) (.c (.bool false))), none⟩,
         ⟨(some 14), .pl (.mv (.t 13)), none⟩,
         ⟨(some 15), .pl (.fa 1 (.t 1)), (some (14, true))⟩,
         ⟨(some 16), .pl (.load none (.t 15)), (some (14, true))⟩,
         ⟨(some 17), .pl (.bin .eql .no (.t 16) (.c (.int .i64 0))), (some (14, true))⟩,
         ⟨(some 18), .pl (.mv (.t 17)), (some (14, true))⟩,
         ⟨(some 19), .pl (.fa 1 (.t 1)), (some (18, false))⟩,
         ⟨(some 20), .pl (.load none (.t 19)), (some (18, false))⟩,
         ⟨(some 21), .pl (.bin .eql .no (.t 20) (.c (.int .i64 1))), (some (18, false))⟩,
         ⟨(some 22), .pl (.pick (.t 18) (.c (.bool true)) (.t 21)), (some (14, true))⟩,
         ⟨(some 23), .pl (.pick (.t 14) (.t 22) (.c (.bool false))), none⟩,
         ⟨(some 2), .pl (.mv (.t 23)), none⟩] [2])
      (.ret))
     (.seq (.seq (.reg [⟨(some 25), .pl (.bin .eql .no (.t 4) (.c (.int .i64 2))), none⟩,
          ⟨(some 24), .pl (.mv (.t 25)), none⟩] [1, 4, 24])
       (.cond (.t 24)
        (.skip)
        (.reg [⟨(some 26), .pl (.bin .eql .no (.t 4) (.c (.int .i64 3))), none⟩,
           ⟨(some 24), .pl (.mv (.t 26)), none⟩] [1, 4, 24])))
      (.cond (.t 24)
       (.seq (.reg [⟨(some 27), .pl (.load (some 5) (.t 1)), none⟩,
           ⟨(some 28), .call (.c (.fn 105 [] [])) [(.t 27)], none⟩,
           ⟨(some 29), .pl (.mv (.t 28)), none⟩,
           ⟨(some 30), .pl (.fa 2 (.t 1)), (some (29, true))⟩,
           ⟨(some 31), .pl (.load none (.t 30)), (some (29, true))⟩,
           ⟨(some 32), .pl (.bin .eql .no (.t 31) (.c (.str ⟨#[]⟩))), (some (29, true))⟩,
           ⟨(some 33), .pl (.pick (.t 29) (.t 32) (.c (.bool false))), none⟩,
           ⟨(some 2), .pl (.mv (.t 33)), none⟩] [2])
        (.ret))
       (.seq (.reg [⟨(some 35), .pl (.bin .eql .no (.t 4) (.c (.int .i64 4))), none⟩,
           ⟨(some 34), .pl (.mv (.t 35)), none⟩] [1, 4, 34])
        (.cond (.t 34)
         (.seq (.reg [⟨(some 36), .pl (.load (some 5) (.t 1)), none⟩,
             ⟨(some 37), .call (.c (.fn 105 [] [])) [(.t 36)], none⟩,
             ⟨(some 38), .pl (.mv (.t 37)), none⟩,
             ⟨(some 39), .pl (.fa 1 (.t 1)), (some (38, true))⟩,
             ⟨(some 40), .pl (.load none (.t 39)), (some (38, true))⟩,
             ⟨(some 41), .pl (.bin .eql .no (.t 40) (.c (.int .i64 0))), (some (38, true))⟩,
             ⟨(some 42), .pl (.pick (.t 38) (.t 41) (.c (.bool false))), none⟩,
             ⟨(some 43), .pl (.mv (.t 42)), none⟩,
             ⟨(some 44), .pl (.fa 2 (.t 1)), (some (43, true))⟩,
             ⟨(some 45), .pl (.load none (.t 44)), (some (43, true))⟩,
             ⟨(some 46), .call (.c (.fn 106 [] [])) [(.t 45)], (some (43, true))⟩,
             ⟨(some 47), .pl (.bin .lss .no (.t 46) (.c (.int .i64 0))), (some (43, true))⟩,
             ⟨(some 48), .pl (.pick (.t 43) (.t 47) (.c (.bool false))), none⟩,
             ⟨(some 2), .pl (.mv (.t 48)), none⟩] [2])
          (.ret))
         (.seq (.reg [⟨(some 50), .pl (.bin .eql .no (.t 4) (.c (.int .i64 5))), none⟩,
             ⟨(some 49), .pl (.mv (.t 50)), none⟩] [1, 4, 49])
          (.cond (.t 49)
           (.seq (.reg [⟨(some 51), .pl (.load (some 5) (.t 1)), none⟩,
               ⟨(some 52), .call (.c (.fn 105 [] [])) [(.t 51)], none⟩,
               ⟨(some 53), .pl (.mv (.t 52)), none⟩,
               ⟨(some 54), .pl (.fa 1 (.t 1)), (some (53, true))⟩,
               ⟨(some 55), .pl (.load none (.t 54)), (some (53, true))⟩,
               ⟨(some 56), .pl (.bin .eql .no (.t 55) (.c (.int .i64 0))), (some (53, true))⟩,
               ⟨(some 57), .pl (.pick (.t 53) (.t 56) (.c (.bool false))), none⟩,
               ⟨(some 2), .pl (.mv (.t 57)), none⟩] [2])
            (.ret))
           (.seq (.reg [⟨(some 59), .pl (.bin .eql .no (.t 4) (.c (.int .i64 6))), none⟩,
               ⟨(some 58), .pl (.mv (.t 59)), none⟩] [1, 4, 58])
            (.cond (.t 58)
             (.seq (.reg [⟨(some 60), .pl (.load (some 5) (.t 1)), none⟩,
                 ⟨(some 61), .call (.c (.fn 105 [] [])) [(.t 60)], none⟩,
                 ⟨(some 62), .pl (.mv (.t 61)), none⟩,
                 ⟨(some 63), .pl (.fa 2 (.t 1)), (some (62, true))⟩,
                 ⟨(some 64), .pl (.load none (.t 63)), (some (62, true))⟩,
                 ⟨(some 65), .pl (.bin .eql .no (.t 64) (.c (.str ⟨#[]⟩))), (some (62, true))⟩,
                 ⟨(some 66), .pl (.pick (.t 62) (.t 65) (.c (.bool false))), none⟩,
                 ⟨(some 67), .pl (.mv (.t 66)), none⟩,
                 ⟨(some 68), .pl (.fa 1 (.t 1)), (some (67, true))⟩,
                 ⟨(some 69), .pl (.load none (.t 68)), (some (67, true))⟩,
                 ⟨(some 70), .pl (.bin .geq .no (.t 69) (.c (.int .i64 0))), (some (67, true))⟩,
                 ⟨(some 71), .pl (.pick (.t 67) (.t 70) (.c (.bool false))), none⟩,
                 ⟨(some 72), .pl (.mv (.t 71)), none⟩,
                 ⟨(some 73), .pl (.fa 1 (.t 1)), (some (72, true))⟩,
                 ⟨(some 74), .pl (.load none (.t 73)), (some (72, true))⟩,
                 ⟨(some 75), .pl (.bin .leq .no (.t 74) (.c (.int .i64 9999))), (some (72, true))⟩,
                 ⟨(some 76), .pl (.pick (.t 72) (.t 75) (.c (.bool false))), none⟩,
                 ⟨(some 2), .pl (.mv (.t 76)), none⟩] [2])
              (.ret))
             (.seq (.reg [⟨(some 78), .pl (.bin .eql .no (.t 4) (.c (.int .i64 7))), none⟩,
                 ⟨(some 77), .pl (.mv (.t 78)), none⟩] [1, 4, 77])
              (.cond (.t 77)
               (.seq (.reg [⟨(some 79), .pl (.fa 1 (.t 1)), none⟩,
                   ⟨(some 80), .pl (.load none (.t 79)), none⟩,
                   ⟨(some 81), .pl (.bin .eql .no (.t 80) (.c (.int .i64 0))), none⟩,
                   ⟨(some 82), .pl (.mv (.t 81)), none⟩,
                   ⟨(some 83), .pl (.fa 2 (.t 1)), (some (82, true))⟩,
                   ⟨(some 84), .pl (.load none (.t 83)), (some (82, true))⟩,
                   ⟨(some 85), .pl (.bin .eql .no (.t 84) (.c (.str ⟨#[]⟩))), (some (82, true))⟩,
                   ⟨(some 86), .pl (.pick (.t 82) (.t 85) (.c (.bool false))), none⟩,
                   ⟨(some 87), .pl (.mv (.t 86)), none⟩,
                   ⟨(some 88), .pl (.fa 3 (.t 1)), (some (87, true))⟩,
                   ⟨(some 89), .pl (.load none (.t 88)), (some (87, true))⟩,
                   ⟨(some 90), .pl (.lenL (.t 89)), (some (87, true))⟩,
                   ⟨(some 91), .pl (.bin .eql .no (.t 90) (.c (.int .i64 0))), (some (87, true))⟩,
                   ⟨(some 92), .pl (.pick (.t 87) (.t 91) (.c (.bool false))), none⟩,
                   ⟨(some 2), .pl (.mv (.t 92)), none⟩] [2])
                (.ret))
               (.seq (.reg [⟨(some 94), .pl (.bin .eql .no (.t 4) (.c (.int .i64 8))), none⟩,
                   ⟨(some 93), .pl (.mv (.t 94)), none⟩] [1, 4, 93])
                (.cond (.t 93)
                 (.seq (.reg [⟨(some 95), .pl (.fa 1 (.t 1)), none⟩,
                     ⟨(some 96), .pl (.load none (.t 95)), none⟩,
                     ⟨(some 97), .pl (.bin .eql .no (.t 96) (.c (.int .i64 0))), none⟩,
                     ⟨(some 98), .pl (.mv (.t 97)), none⟩,
                     ⟨(some 99), .pl (.fa 2 (.t 1)), (some (98, true))⟩,
                     ⟨(some 100), .pl (.load none (.t 99)), (some (98, true))⟩,
                     ⟨(some 101), .pl (.bin .eql .no (.t 100) (.c (.str ⟨#[]⟩))), (some (98, true))⟩,
                     ⟨(some 102), .pl (.pick (.t 98) (.t 101) (.c (.bool false))), none⟩,
                     ⟨(some 103), .pl (.mv (.t 102)), none⟩,
                     ⟨(some 104), .pl (.fa 3 (.t 1)), (some (103, true))⟩,
                     ⟨(some 105), .pl (.load none (.t 104)), (some (103, true))⟩,
                     ⟨(some 106), .pl (.lenL (.t 105)), (some (103, true))⟩,
                     ⟨(some 107), .pl (.bin .eql .no (.t 106) (.c (.int .i64 0))), (some (103, true))⟩,
                     ⟨(some 108), .pl (.pick (.t 103) (.t 107) (.c (.bool false))), none⟩,
                     ⟨(some 109), .pl (.mv (.t 108)), none⟩,
                     ⟨(some 110), .pl (.fa 4 (.t 1)), (some (109, true))⟩,
                     ⟨(some 111), .pl (.load none (.t 110)), (some (109, true))⟩,
                     ⟨(some 112), .call (.c (.fn 107 [] [])) [(.t 111)], (some (109, true))⟩,
                     ⟨(some 113), .pl (.pick (.t 109) (.t 112) (.c (.bool false))), none⟩,
                     ⟨(some 2), .pl (.mv (.t 113)), none⟩] [2])
                  (.ret))
                 (.seq (.reg [⟨(some 115), .pl (.bin .eql .no (.t 4) (.c (.int .i64 9))), none⟩,
                     ⟨(some 114), .pl (.mv (.t 115)), none⟩] [1, 4, 114])
                  (.cond (.t 114)
                   (.seq (.reg [⟨(some 116), .pl (.fa 1 (.t 1)), none⟩,
                       ⟨(some 117), .pl (.load none (.t 116)), none⟩,
                       ⟨(some 118), .pl (.bin .eql .no (.t 117) (.c (.int .i64 0))), none⟩,
                       ⟨(some 119), .pl (.mv (.t 118)), none⟩,
                       ⟨(some 120), .pl (.fa 2 (.t 1)), (some (119, true))⟩,
                       ⟨(some 121), .pl (.load none (.t 120)), (some (119, true))⟩,
                       ⟨(some 122), .pl (.bin .eql .no (.t 121) (.c (.str ⟨#[]⟩))), (some (119, true))⟩,
                       ⟨(some 123), .pl (.pick (.t 119) (.t 122) (.c (.bool false))), none⟩,
                       ⟨(some 124), .pl (.mv (.t 123)), none⟩,
                       ⟨(some 125), .pl (.fa 3 (.t 1)), (some (124, true))⟩,
                       ⟨(some 126), .pl (.load none (.t 125)), (some (124, true))⟩,
                       ⟨(some 127), .pl (.lenL (.t 126)), (some (124, true))⟩,
                       ⟨(some 128), .pl (.fa 4 (.t 1)), (some (124, true))⟩,
                       ⟨(some 129), .pl (.load none (.t 128)), (some (124, true))⟩,
                       ⟨(some 130), .pl (.lenL (.t 129)), (some (124, true))⟩,
                       ⟨(some 131), .pl (.bin .eql .no (.t 127) (.t 130)), (some (124, true))⟩,
                       ⟨(some 132), .pl (.pick (.t 124) (.t 131) (.c (.bool false))), none⟩,
                       ⟨(some 133), .pl (.mv (.t 132)), none⟩,
                       ⟨(some 134), .pl (.fa 3 (.t 1)), (some (133, true))⟩,
                       ⟨(some 135), .pl (.load none (.t 134)), (some (133, true))⟩,
                       ⟨(some 136), .call (.c (.fn 108 [] [])) [(.t 135)], (some (133, true))⟩,
                       ⟨(some 137), .pl (.pick (.t 133) (.t 136) (.c (.bool false))), none⟩,
                       ⟨(some 2), .pl (.mv (.t 137)), none⟩] [2])
                    (.ret))
                   (.seq (.reg [⟨(some 139), .pl (.bin .eql .no (.t 4) (.c (.int .i64 10))), none⟩,
                       ⟨(some 138), .pl (.mv (.t 139)), none⟩] [1, 138])
                    (.cond (.t 138)
                     (.seq (.reg [⟨(some 140), .pl (.fa 1 (.t 1)), none⟩,
                         ⟨(some 141), .pl (.load none (.t 140)), none⟩,
                         ⟨(some 142), .pl (.bin .eql .no (.t 141) (.c (.int .i64 0))), none⟩,
                         ⟨(some 143), .pl (.mv (.t 142)), none⟩,
                         ⟨(some 144), .pl (.fa 2 (.t 1)), (some (143, true))⟩,
                         ⟨(some 145), .pl (.load none (.t 144)), (some (143, true))⟩,
                         ⟨(some 146), .pl (.bin .eql .no (.t 145) (.c (.str ⟨#[]⟩))), (some (143, true))⟩,
                         ⟨(some 147), .pl (.pick (.t 143) (.t 146) (.c (.bool false))), none⟩,
                         ⟨(some 148), .pl (.mv (.t 147)), none⟩,
                         ⟨(some 149), .pl (.fa 3 (.t 1)), (some (148, true))⟩,
                         ⟨(some 150), .pl (.load none (.t 149)), (some (148, true))⟩,
                         ⟨(some 151), .pl (.lenL (.t 150)), (some (148, true))⟩,
                         ⟨(some 152), .pl (.bin .eql .no (.t 151) (.c (.int .i64 1))), (some (148, true))⟩,
                         ⟨(some 153), .pl (.pick (.t 148) (.t 152) (.c (.bool false))), none⟩,
                         ⟨(some 154), .pl (.mv (.t 153)), none⟩,
                         ⟨(some 155), .pl (.fa 4 (.t 1)), (some (154, true))⟩,
                         ⟨(some 156), .pl (.load none (.t 155)), (some (154, true))⟩,
                         ⟨(some 157), .pl (.lenL (.t 156)), (some (154, true))⟩,
                         ⟨(some 158), .pl (.bin .eql .no (.t 157) (.c (.int .i64 1))), (some (154, true))⟩,
                         ⟨(some 159), .pl (.pick (.t 154) (.t 158) (.c (.bool false))), none⟩,
                         ⟨(some 160), .pl (.mv (.t 159)), none⟩,
                         ⟨(some 161), .pl (.fa 3 (.t 1)), (some (160, true))⟩,
                         ⟨(some 162), .pl (.load none (.t 161)), (some (160, true))⟩,
                         ⟨(some 163), .call (.c (.fn 108 [] [])) [(.t 162)], (some (160, true))⟩,
                         ⟨(some 164), .pl (.pick (.t 160) (.t 163) (.c (.bool false))), none⟩,
                         ⟨(some 2), .pl (.mv (.t 164)), none⟩] [2])
                      (.ret))
                     (.skip)))))))))))))))))))))
  (.seq (.reg [⟨(some 2), .pl (.mv (.c (.bool false))), none⟩] [2])
  (.ret)))⟩
theorem c66 : compF Tryz.prog 66 = some A66 := by kernel_rfl

/-- concourse/concourseref11.Find -/
def A99_l0 : AC := .seq (.seq (.reg [⟨(some 6), .pl (.mv (.t 5)), none⟩,
      ⟨(some 7), .pl (.mv (.t 0)), none⟩,
      ⟨(some 8), .pl (.lenL (.t 7)), none⟩,
      ⟨(some 9), .pl (.bin .lss .no (.t 6) (.t 8)), none⟩] [0, 1, 5, 9])
   (.cond (.t 9)
    (.skip)
    (.exit 0)))
  (.seq (.block 1 (.seq (.reg [⟨(some 12), .pl (.mv (.t 0)), none⟩,
       ⟨(some 13), .pl (.mv (.t 5)), none⟩,
       ⟨(some 14), .pl (.ia 5 (.t 12) (.t 13)), none⟩,
       ⟨(some 15), .pl (.fa 1 (.t 14)), none⟩,
       ⟨(some 16), .pl (.load none (.t 15)), none⟩,
       ⟨(some 17), .pl (.mv (.t 1)), none⟩,
       ⟨(some 18), .pl (.bin .eql .no (.t 16) (.t 17)), none⟩] [0, 1, 5, 18])
    (.cond (.t 18)
     (.seq (.reg [⟨(some 19), .pl (.mv (.t 5)), none⟩,
         ⟨(some 4), .pl (.mv (.t 19)), none⟩] [4])
      (.ret))
     (.skip))))
  (.reg [⟨(some 10), .pl (.mv (.t 5)), none⟩,
    ⟨(some 11), .pl (.bin .add .no (.t 10) (.c (.int .i64 1))), none⟩,
    ⟨(some 5), .pl (.mv (.t 11)), none⟩] [0, 1, 5]))
def A99_r0 : AC := .seq (.reg [⟨(some 4), .pl (.mv (.c (.int .i64 (-1)))), none⟩] [4])
  (.ret)
def A99 : AFun := ⟨20, [.t 4],
  .seq (.reg [⟨(some 4), .pl (.mv (.c (.int .i64 0))), none⟩] [0, 1])
  (.seq (.seq (.reg [⟨(some 5), .pl (.mv (.c (.int .i64 0))), none⟩] [0, 1, 5])
   (.block 0 (.loop [0, 1, 5] A99_l0)))
  (A99_r0))⟩
theorem c99 : compF Tryz.prog 99 = some A99 := by kernel_rfl

/-- concourse/concourseref16.inner -/
def A100_l0 : AC := .seq (.seq (.reg [⟨(some 48), .pl (.mv (.t 7)), none⟩,
      ⟨(some 49), .pl (.fa 4 (.t 5)), none⟩,
      ⟨(some 50), .pl (.load none (.t 49)), none⟩,
      ⟨(some 51), .pl (.lenL (.t 50)), none⟩,
      ⟨(some 52), .pl (.bin .lss .no (.t 48) (.t 51)), none⟩] [0, 4, 5, 7, 52])
   (.cond (.t 52)
    (.skip)
    (.exit 1)))
  (.seq (.block 2 (.seq (.regD [⟨(some 55), .pl (.mv (.t 0)), none⟩,
       ⟨(some 56), .pl (.fa 2 (.t 4)), none⟩,
       ⟨(some 57), .pl (.load none (.t 56)), none⟩,
       ⟨(some 58), .pl (.mv (.t 7)), none⟩,
       ⟨(some 59), .pl (.fa 2 (.t 4)), none⟩,
       ⟨(some 60), .pl (.load none (.t 59)), none⟩,
       ⟨(some 61), .pl (.lenL (.t 60)), none⟩,
       ⟨(some 62), .pl (.bin .rem .no (.t 58) (.t 61)), none⟩,
       ⟨(some 63), .pl (.ia 3 (.t 57) (.t 62)), none⟩,
       ⟨(some 64), .pl (.load (some 3) (.t 63)), none⟩,
       ⟨(some 65), .pl (.fa 4 (.t 5)), none⟩,
       ⟨(some 66), .pl (.load none (.t 65)), none⟩,
       ⟨(some 67), .pl (.mv (.t 7)), none⟩,
       ⟨(some 68), .pl (.ia 5 (.t 66) (.t 67)), none⟩,
       ⟨(some 69), .pl (.load (some 5) (.t 68)), none⟩,
       ⟨(some 70), .call (.c (.fn 100 [] [])) [(.t 55), (.t 64), (.t 69)], none⟩,
       ⟨(some 8), .pl (.mv (.t 70)), none⟩] [] [0, 4, 5, 7, 8])
    (.seq (.reg [⟨(some 71), .pl (.mv (.t 8)), none⟩,
       ⟨(some 72), .pl (.bin .neq .no (.t 71) (.c (.int .i64 0))), none⟩] [0, 4, 5, 7, 8, 72])
    (.cond (.t 72)
     (.seq (.reg [⟨(some 73), .pl (.mv (.t 8)), none⟩,
         ⟨(some 6), .pl (.mv (.t 73)), none⟩] [6])
      (.ret))
     (.skip)))))
  (.reg [⟨(some 53), .pl (.mv (.t 7)), none⟩,
    ⟨(some 54), .pl (.bin .add .no (.t 53) (.c (.int .i64 1))), none⟩,
    ⟨(some 7), .pl (.mv (.t 54)), none⟩] [0, 4, 5, 7]))
def A100_r0 : AC := .seq (.reg [⟨(some 6), .pl (.mv (.c (.int .i64 0))), none⟩] [6])
  (.ret)
def A100_r1 : AC := .seq (.reg [⟨(some 6), .pl (.mv (.c (.int .i64 8))), none⟩] [6])
  (.ret)
def A100 : AFun := ⟨83, [.t 6],
  .seq (.reg [⟨(some 4), .pl (.box (.t 1)), none⟩,
     ⟨(some 5), .pl (.box (.t 2)), none⟩,
     ⟨(some 6), .pl (.mv (.c (.int .i64 0))), none⟩] [0, 4, 5])
  (.seq (.seq (.regD [⟨(some 9), .pl (.fa 0 (.t 4)), none⟩,
      ⟨(some 10), .pl (.load none (.t 9)), none⟩,
      ⟨(some 11), .pl (.bin .geq .no (.t 10) (.c (.int .i64 7))), none⟩,
      ⟨(some 12), .pl (.mv (.t 11)), none⟩,
      ⟨(some 13), .pl (.fa 0 (.t 4)), (some (12, true))⟩,
      ⟨(some 14), .pl (.load none (.t 13)), (some (12, true))⟩,
      ⟨(some 15), .call (.c (.fn 150 [] [])) [(.t 14)], (some (12, true))⟩,
      ⟨(some 16), .pl (.fa 2 (.t 4)), (some (12, true))⟩,
      ⟨(some 17), .pl (.load none (.t 16)), (some (12, true))⟩,
      ⟨(some 18), .pl (.lenL (.t 17)), (some (12, true))⟩,
      ⟨(some 19), .pl (.bin .neq .no (.t 15) (.t 18)), (some (12, true))⟩,
      ⟨(some 20), .pl (.pick (.t 12) (.t 19) (.c (.bool false))), none⟩] [(8, 6)] [0, 4, 5, 20])
   (.cond (.t 20)
    (.seq (.reg [⟨(some 6), .pl (.mv (.c (.int .i64 8))), none⟩] [6])
     (.ret))
    (.skip)))
  (.seq (.seq (.reg [⟨(some 21), .pl (.fa 0 (.t 4)), none⟩,
      ⟨(some 22), .pl (.load none (.t 21)), none⟩] [0, 4, 5, 22])
   (.block 0 (.seq (.seq (.reg [⟨(some 24), .pl (.bin .eql .no (.t 22) (.c (.int .i64 1))), none⟩,
        ⟨(some 23), .pl (.mv (.t 24)), none⟩] [0, 4, 5, 22, 23])
     (.cond (.t 23)
      (.skip)
      (.seq (.reg [⟨(some 25), .pl (.bin .eql .no (.t 22) (.c (.int .i64 2))), none⟩,
          ⟨(some 23), .pl (.mv (.t 25)), none⟩] [0, 4, 5, 22, 23])
       (.cond (.t 23)
        (.skip)
        (.seq (.reg [⟨(some 26), .pl (.bin .eql .no (.t 22) (.c (.int .i64 3))), none⟩,
            ⟨(some 23), .pl (.mv (.t 26)), none⟩] [0, 4, 5, 22, 23])
         (.cond (.t 23)
          (.skip)
          (.seq (.reg [⟨(some 27), .pl (.bin .eql .no (.t 22) (.c (.int .i64 4))), none⟩,
              ⟨(some 23), .pl (.mv (.t 27)), none⟩] [0, 4, 5, 22, 23])
           (.cond (.t 23)
            (.skip)
            (.reg [⟨(some 28), .pl (.bin .eql .no (.t 22) (.c (.int .i64 5))), none⟩,
               ⟨(some 23), .pl (.mv (.t 28)), none⟩] [0, 4, 5, 22, 23])))))))))
    (.cond (.t 23)
     (.seq (.seq (.reg [⟨(some 29), .pl (.fa 0 (.t 5)), none⟩,
          ⟨(some 30), .pl (.load none (.t 29)), none⟩,
          ⟨(some 31), .pl (.fa 0 (.t 4)), none⟩,
          ⟨(some 32), .pl (.load none (.t 31)), none⟩,
          ⟨(some 33), .pl (.bin .neq .no (.t 30) (.t 32)), none⟩] [33])
       (.cond (.t 33)
        (.seq (.reg [⟨(some 6), .pl (.mv (.c (.int .i64 4))), none⟩] [6])
         (.ret))
        (.skip)))
      (.seq (.reg [⟨(some 6), .pl (.mv (.c (.int .i64 0))), none⟩] [6])
      (.ret)))
     (.seq (.reg [⟨(some 35), .pl (.bin .eql .no (.t 22) (.c (.int .i64 6))), none⟩,
         ⟨(some 34), .pl (.mv (.t 35)), none⟩] [0, 4, 5, 22, 34])
      (.cond (.t 34)
       (.seq (.reg [⟨(some 36), .pl (.mv (.t 0)), none⟩,
           ⟨(some 37), .pl (.load (some 3) (.t 4)), none⟩,
           ⟨(some 38), .pl (.load (some 5) (.t 5)), none⟩,
           ⟨(some 39), .call (.c (.fn 151 [] [])) [(.t 36), (.t 37), (.t 38)], none⟩,
           ⟨(some 6), .pl (.mv (.t 39)), none⟩] [6])
        (.ret))
       (.seq (.seq (.reg [⟨(some 41), .pl (.bin .eql .no (.t 22) (.c (.int .i64 7))), none⟩,
            ⟨(some 40), .pl (.mv (.t 41)), none⟩] [0, 4, 5, 22, 40])
         (.cond (.t 40)
          (.skip)
          (.reg [⟨(some 42), .pl (.bin .eql .no (.t 22) (.c (.int .i64 8))), none⟩,
             ⟨(some 40), .pl (.mv (.t 42)), none⟩] [0, 4, 5, 22, 40])))
        (.cond (.t 40)
         (.seq (.seq (.reg [⟨(some 43), .pl (.fa 0 (.t 5)), none⟩,
              ⟨(some 44), .pl (.load none (.t 43)), none⟩,
              ⟨(some 45), .pl (.fa 0 (.t 4)), none⟩,
              ⟨(some 46), .pl (.load none (.t 45)), none⟩,
              ⟨(some 47), .pl (.bin .neq .no (.t 44) (.t 46)), none⟩] [0, 4, 5, 47])
           (.cond (.t 47)
            (.seq (.reg [⟨(some 6), .pl (.mv (.c (.int .i64 4))), none⟩] [6])
             (.ret))
            (.skip)))
          (.seq (.seq (.reg [⟨(some 7), .pl (.mv (.c (.int .i64 0))), none⟩] [0, 4, 5, 7])
           (.block 1 (.loop [0, 4, 5, 7] A100_l0)))
          (A100_r0)))
         (.seq (.reg [⟨(some 75), .pl (.bin .eql .no (.t 22) (.c (.int .i64 9))), none⟩,
             ⟨(some 74), .pl (.mv (.t 75)), none⟩] [0, 4, 5, 74])
          (.cond (.t 74)
           (.seq (.regD [⟨(some 76), .pl (.mv (.t 0)), none⟩,
               ⟨(some 77), .pl (.fa 2 (.t 4)), none⟩,
               ⟨(some 78), .pl (.load none (.t 77)), none⟩,
               ⟨(some 79), .pl (.ia 3 (.t 78) (.c (.int .i64 0))), none⟩,
               ⟨(some 80), .pl (.load (some 3) (.t 79)), none⟩,
               ⟨(some 81), .pl (.load (some 5) (.t 5)), none⟩,
               ⟨(some 82), .call (.c (.fn 100 [] [])) [(.t 76), (.t 80), (.t 81)], none⟩,
               ⟨(some 6), .pl (.mv (.t 82)), none⟩] [] [6])
            (.ret))
           (.skip)))))))))))
  (A100_r1)))⟩
theorem c100 : compF Tryz.prog 100 = some A100 := by kernel_rfl

/-- (*concourse/blank.maker).by -/
def A101 : AFun := ⟨59, [.cell 6 (some 5), .t 7],
  .seq (.reg [⟨(some 4), .pl (.box (.t 1)), none⟩,
     ⟨(some 6), .pl (.alloc [.int .i64 0, .int .i64 0, .str ⟨#[]⟩, .esl, .esl]), none⟩,
     ⟨(some 7), .pl (.mv (.c (.bool false))), none⟩] [0, 2, 4, 6])
  (.seq (.seq (.reg [⟨(some 9), .pl (.mv (.t 2)), none⟩,
      ⟨(some 10), .pl (.bin .lss .no (.t 9) (.c (.int .i64 1))), none⟩] [0, 2, 4, 6, 10])
   (.cond (.t 10)
    (.seq (.reg [⟨(some 11), .pl (.build [.int .i64 0, .int .i64 0, .str ⟨#[]⟩, .esl, .esl] []), none⟩,
        ⟨none, .pl (.store 5 (.t 6) (.t 11)), none⟩,
        ⟨(some 7), .pl (.mv (.c (.bool false))), none⟩] [6, 7])
     (.ret))
    (.skip)))
  (.seq (.seq (.reg [⟨(some 12), .pl (.fa 0 (.t 4)), none⟩,
      ⟨(some 13), .pl (.load none (.t 12)), none⟩,
      ⟨(some 14), .pl (.bin .neq .no (.t 13) (.c (.int .i64 6))), none⟩] [0, 2, 4, 6, 14])
   (.cond (.t 14)
    (.seq (.reg [⟨(some 15), .pl (.mv (.t 0)), none⟩,
        ⟨(some 16), .pl (.load (some 3) (.t 4)), none⟩,
        ⟨(some 17), .pl (.mv (.t 2)), none⟩,
        ⟨(some 18), .call (.c (.fn 152 [] [])) [(.t 15), (.t 16), (.t 17)], none⟩,
        ⟨(some 19), .pl (.ext 0 (.t 18)), none⟩,
        ⟨(some 20), .pl (.ext 1 (.t 18)), none⟩,
        ⟨none, .pl (.store 5 (.t 6) (.t 19)), none⟩,
        ⟨(some 7), .pl (.mv (.t 20)), none⟩] [6, 7])
     (.ret))
    (.skip)))
  (.seq (.regD [⟨(some 21), .pl (.mv (.t 0)), none⟩,
     ⟨(some 22), .pl (.nilck (.t 21)), none⟩,
     ⟨(some 23), .pl (.fa 0 (.t 22)), none⟩,
     ⟨(some 24), .pl (.load none (.t 23)), none⟩,
     ⟨(some 25), .pl (.fa 1 (.t 4)), none⟩,
     ⟨(some 26), .pl (.load none (.t 25)), none⟩,
     ⟨(some 27), .call (.c (.fn 15 [] [])) [(.t 24), (.t 26)], none⟩,
     ⟨(some 8), .pl (.mv (.t 27)), none⟩] [] [0, 2, 4, 6, 8])
  (.seq (.seq (.regD [⟨(some 28), .pl (.mv (.t 0)), none⟩,
      ⟨(some 29), .pl (.nilck (.t 28)), none⟩,
      ⟨(some 30), .pl (.fa 0 (.t 29)), none⟩,
      ⟨(some 31), .pl (.load none (.t 30)), none⟩,
      ⟨(some 32), .pl (.fa 1 (.t 4)), none⟩,
      ⟨(some 33), .pl (.load none (.t 32)), none⟩,
      ⟨(some 34), .call (.c (.fn 57 [] [])) [(.t 31), (.t 33)], none⟩] [] [0, 2, 6, 8, 34])
   (.block 0 (.seq (.reg [⟨(some 36), .pl (.bin .eql .no (.t 34) (.c (.int .i64 3))), none⟩,
       ⟨(some 35), .pl (.mv (.t 36)), none⟩] [0, 2, 6, 8, 34, 35])
    (.cond (.t 35)
     (.seq (.reg [⟨(some 37), .pl (.mv (.t 8)), none⟩,
         ⟨(some 38), .pl (.ia 5 (.t 37) (.c (.int .i64 0))), none⟩,
         ⟨(some 39), .pl (.fa 0 (.t 38)), none⟩,
         ⟨(some 40), .pl (.load none (.t 39)), none⟩,
         ⟨(some 41), .pl (.build [.int .i64 0, .int .i64 0, .str ⟨#[]⟩, .esl, .esl] [(0, 1, (.c (.int .i64 6))), (1, 1, (.t 40))]), none⟩,
         ⟨none, .pl (.store 5 (.t 6) (.t 41)), none⟩,
         ⟨(some 7), .pl (.mv (.c (.bool true))), none⟩] [6, 7])
      (.ret))
     (.seq (.reg [⟨(some 43), .pl (.bin .eql .no (.t 34) (.c (.int .i64 1))), none⟩,
         ⟨(some 42), .pl (.mv (.t 43)), none⟩] [0, 2, 6, 8, 34, 42])
      (.cond (.t 42)
       (.seq (.reg [⟨(some 44), .pl (.mv (.t 0)), none⟩,
           ⟨(some 45), .pl (.mv (.t 8)), none⟩,
           ⟨(some 46), .pl (.mv (.t 2)), none⟩,
           ⟨(some 47), .call (.c (.fn 153 [] [])) [(.t 44), (.t 45), (.t 46)], none⟩,
           ⟨(some 48), .pl (.ext 0 (.t 47)), none⟩,
           ⟨(some 49), .pl (.ext 1 (.t 47)), none⟩,
           ⟨none, .pl (.store 5 (.t 6) (.t 48)), none⟩,
           ⟨(some 7), .pl (.mv (.t 49)), none⟩] [6, 7])
        (.ret))
       (.seq (.reg [⟨(some 51), .pl (.bin .eql .no (.t 34) (.c (.int .i64 2))), none⟩,
           ⟨(some 50), .pl (.mv (.t 51)), none⟩] [0, 2, 6, 8, 50])
        (.cond (.t 50)
         (.seq (.reg [⟨(some 52), .pl (.mv (.t 0)), none⟩,
             ⟨(some 53), .pl (.mv (.t 8)), none⟩,
             ⟨(some 54), .pl (.mv (.t 2)), none⟩,
             ⟨(some 55), .call (.c (.fn 154 [] [])) [(.t 52), (.t 53), (.t 54)], none⟩,
             ⟨(some 56), .pl (.ext 0 (.t 55)), none⟩,
             ⟨(some 57), .pl (.ext 1 (.t 55)), none⟩,
             ⟨none, .pl (.store 5 (.t 6) (.t 56)), none⟩,
             ⟨(some 7), .pl (.mv (.t 57)), none⟩] [6, 7])
          (.ret))
         (.skip)))))))))
  (.seq (.reg [⟨(some 58), .pl (.build [.int .i64 0, .int .i64 0, .str ⟨#[]⟩, .esl, .esl] []), none⟩,
     ⟨none, .pl (.store 5 (.t 6) (.t 58)), none⟩,
     ⟨(some 7), .pl (.mv (.c (.bool false))), none⟩] [6, 7])
  (.ret))))))⟩
theorem c101 : compF Tryz.prog 101 = some A101 := by kernel_rfl

/-- concourse/concourseref15.plain -/
def A105 : AFun := ⟨13, [.t 2],
  .seq (.reg [⟨(some 1), .pl (.box (.t 0)), none⟩,
     ⟨(some 2), .pl (.mv (.c (.bool false))), none⟩] [1])
  (.seq (.reg [⟨(some 3), .pl (.fa 3 (.t 1)), none⟩,
     ⟨(some 4), .pl (.load none (.t 3)), none⟩,
     ⟨(some 5), .pl (.lenL (.t 4)), none⟩,
     ⟨(some 6), .pl (.bin .eql .no (.t 5) (.c (.int .i64 0))), none⟩,
     ⟨(some 7), .pl (.mv (.t 6)), none⟩,
     ⟨(some 8), .pl (.fa 4 (.t 1)), (some (7, true))⟩,
     ⟨(some 9), .pl (.load none (.t 8)), (some (7, true))⟩,
     ⟨(some 10), .pl (.lenL (.t 9)), (some (7, true))⟩,
     ⟨(some 11), .pl (.bin .eql .no (.t 10) (.c (.int .i64 0))), (some (7, true))⟩,
     ⟨(some 12), .pl (.pick (.t 7) (.t 11) (.c (.bool false))), none⟩,
     ⟨(some 2), .pl (.mv (.t 12)), none⟩] [2])
  (.ret))⟩
theorem c105 : compF Tryz.prog 105 = some A105 := by kernel_rfl

/-- concourse/concourseref03.Bad -/
def A106_l0 : AC := .seq (.seq (.reg [⟨(some 5), .pl (.mv (.t 3)), none⟩,
      ⟨(some 6), .pl (.mv (.t 0)), none⟩,
      ⟨(some 7), .pl (.lenS (.t 6)), none⟩,
      ⟨(some 8), .pl (.bin .lss .no (.t 5) (.t 7)), none⟩] [0, 3, 8])
   (.cond (.t 8)
    (.skip)
    (.exit 0)))
  (.block 1 (.seq (.reg [⟨(some 9), .pl (.mv (.t 0)), none⟩,
      ⟨(some 10), .pl (.mv (.t 3)), none⟩,
      ⟨(some 11), .call (.c (.fn 156 [] [])) [(.t 9), (.t 10)], none⟩,
      ⟨(some 4), .pl (.mv (.t 11)), none⟩] [0, 3, 4])
   (.seq (.seq (.reg [⟨(some 12), .pl (.mv (.t 4)), none⟩,
       ⟨(some 13), .pl (.bin .eql .no (.t 12) (.c (.int .i64 0))), none⟩] [0, 3, 4, 13])
    (.cond (.t 13)
     (.seq (.reg [⟨(some 14), .pl (.mv (.t 3)), none⟩,
         ⟨(some 2), .pl (.mv (.t 14)), none⟩] [2])
      (.ret))
     (.skip)))
   (.reg [⟨(some 15), .pl (.mv (.t 3)), none⟩,
     ⟨(some 16), .pl (.mv (.t 4)), none⟩,
     ⟨(some 17), .pl (.bin .add .no (.t 15) (.t 16)), none⟩,
     ⟨(some 3), .pl (.mv (.t 17)), none⟩] [0, 3]))))
def A106_r0 : AC := .seq (.reg [⟨(some 2), .pl (.mv (.c (.int .i64 (-1)))), none⟩] [2])
  (.ret)
def A106 : AFun := ⟨18, [.t 2],
  .seq (.reg [⟨(some 2), .pl (.mv (.c (.int .i64 0))), none⟩] [0])
  (.seq (.reg [⟨(some 3), .pl (.mv (.c (.int .i64 0))), none⟩] [0, 3])
  (.seq (.block 0 (.loop [0, 3] A106_l0))
  (A106_r0)))⟩
theorem c106 : compF Tryz.prog 106 = some A106 := by kernel_rfl

/-- concourse/concourseref15.keys -/
def A107_l0 : AC := .seq (.seq (.reg [⟨(some 4), .pl (.mv (.t 3)), none⟩,
      ⟨(some 5), .pl (.bin .add .no (.t 4) (.c (.int .i64 1))), none⟩,
      ⟨(some 6), .pl (.mv (.t 0)), none⟩,
      ⟨(some 7), .pl (.lenL (.t 6)), none⟩,
      ⟨(some 8), .pl (.bin .lss .no (.t 5) (.t 7)), none⟩] [0, 3, 8])
   (.cond (.t 8)
    (.skip)
    (.exit 0)))
  (.seq (.block 1 (.seq (.regD [⟨(some 11), .pl (.mv (.t 0)), none⟩,
       ⟨(some 12), .pl (.mv (.t 3)), none⟩,
       ⟨(some 13), .pl (.ia 5 (.t 11) (.t 12)), none⟩,
       ⟨(some 14), .pl (.fa 0 (.t 13)), none⟩,
       ⟨(some 15), .pl (.load none (.t 14)), none⟩,
       ⟨(some 16), .call (.c (.fn 157 [] [])) [(.t 15)], none⟩,
       ⟨(some 17), .pl (.un .not (.t 16)), none⟩,
       ⟨(some 18), .pl (.mv (.t 17)), none⟩,
       ⟨(some 19), .pl (.mv (.t 3)), (some (18, false))⟩,
       ⟨(some 20), .pl (.bin .gtr .no (.t 19) (.c (.int .i64 1))), (some (18, false))⟩,
       ⟨(some 21), .pl (.mv (.t 20)), (some (18, false))⟩,
       ⟨(some 22), .pl (.mv (.t 0)), (some (21, true))⟩,
       ⟨(some 23), .pl (.mv (.t 3)), (some (21, true))⟩,
       ⟨(some 24), .pl (.bin .sub .no (.t 23) (.c (.int .i64 2))), (some (21, true))⟩,
       ⟨(some 25), .pl (.ia 5 (.t 22) (.t 24)), (some (21, true))⟩,
       ⟨(some 26), .pl (.fa 0 (.t 25)), (some (21, true))⟩,
       ⟨(some 27), .pl (.load none (.t 26)), (some (21, true))⟩,
       ⟨(some 28), .pl (.mv (.t 0)), (some (21, true))⟩,
       ⟨(some 29), .pl (.mv (.t 3)), (some (21, true))⟩,
       ⟨(some 30), .pl (.ia 5 (.t 28) (.t 29)), (some (21, true))⟩,
       ⟨(some 31), .pl (.fa 0 (.t 30)), (some (21, true))⟩,
       ⟨(some 32), .pl (.load none (.t 31)), (some (21, true))⟩,
       ⟨(some 33), .pl (.bin .neq .no (.t 27) (.t 32)), (some (21, true))⟩,
       ⟨(some 34), .pl (.mv (.t 33)), (some (21, true))⟩,
       ⟨(some 35), .pl (.mv (.t 0)), (some (34, false))⟩,
       ⟨(some 36), .pl (.mv (.t 3)), (some (34, false))⟩,
       ⟨(some 37), .pl (.bin .sub .no (.t 36) (.c (.int .i64 2))), (some (34, false))⟩,
       ⟨(some 38), .pl (.ia 5 (.t 35) (.t 37)), (some (34, false))⟩,
       ⟨(some 39), .pl (.load (some 5) (.t 38)), (some (34, false))⟩,
       ⟨(some 40), .pl (.mv (.t 0)), (some (34, false))⟩,
       ⟨(some 41), .pl (.mv (.t 3)), (some (34, false))⟩,
       ⟨(some 42), .pl (.ia 5 (.t 40) (.t 41)), (some (34, false))⟩,
       ⟨(some 43), .pl (.load (some 5) (.t 42)), (some (34, false))⟩,
       ⟨(some 44), .call (.c (.fn 158 [] [])) [(.t 39), (.t 43)], (some (34, false))⟩,
       ⟨(some 45), .pl (.bin .neq .no (.t 44) (.c (.int .i64 (-1)))), (some (34, false))⟩,
       ⟨(some 46), .pl (.pick (.t 34) (.c (.bool true)) (.t 45)), (some (21, true))⟩,
       ⟨(some 47), .pl (.pick (.t 21) (.t 46) (.c (.bool false))), (some (18, false))⟩,
       ⟨(some 48), .pl (.pick (.t 18) (.c (.bool true)) (.t 47)), none⟩] [] [0, 3, 48])
    (.cond (.t 48)
     (.seq (.reg [⟨(some 2), .pl (.mv (.c (.bool false))), none⟩] [2])
      (.ret))
     (.skip))))
  (.reg [⟨(some 9), .pl (.mv (.t 3)), none⟩,
    ⟨(some 10), .pl (.bin .add .no (.t 9) (.c (.int .i64 2))), none⟩,
    ⟨(some 3), .pl (.mv (.t 10)), none⟩] [0, 3]))
def A107_r0 : AC := .seq (.reg [⟨(some 49), .pl (.mv (.t 0)), none⟩,
     ⟨(some 50), .pl (.lenL (.t 49)), none⟩,
     ⟨(some 51), .pl (.bin .rem .no (.t 50) (.c (.int .i64 2))), none⟩,
     ⟨(some 52), .pl (.bin .eql .no (.t 51) (.c (.int .i64 0))), none⟩,
     ⟨(some 2), .pl (.mv (.t 52)), none⟩] [2])
  (.ret)
def A107 : AFun := ⟨53, [.t 2],
  .seq (.reg [⟨(some 2), .pl (.mv (.c (.bool false))), none⟩] [0])
  (.seq (.seq (.reg [⟨(some 3), .pl (.mv (.c (.int .i64 0))), none⟩] [0, 3])
   (.block 0 (.loop [0, 3] A107_l0)))
  (A107_r0))⟩
theorem c107 : compF Tryz.prog 107 = some A107 := by kernel_rfl

/-- concourse/concourseref15.tags -/
def A108_l0 : AC := .seq (.seq (.reg [⟨(some 4), .pl (.mv (.t 3)), none⟩,
      ⟨(some 5), .pl (.mv (.t 0)), none⟩,
      ⟨(some 6), .pl (.lenL (.t 5)), none⟩,
      ⟨(some 7), .pl (.bin .lss .no (.t 4) (.t 6)), none⟩] [0, 3, 7])
   (.cond (.t 7)
    (.skip)
    (.exit 0)))
  (.seq (.block 1 (.seq (.regD [⟨(some 10), .pl (.mv (.t 0)), none⟩,
       ⟨(some 11), .pl (.mv (.t 3)), none⟩,
       ⟨(some 12), .pl (.ia 1 (.t 10) (.t 11)), none⟩,
       ⟨(some 13), .pl (.load none (.t 12)), none⟩,
       ⟨(some 14), .pl (.bin .lss .no (.t 13) (.c (.int .i64 1))), none⟩,
       ⟨(some 15), .pl (.mv (.t 14)), none⟩,
       ⟨(some 16), .pl (.mv (.t 0)), (some (15, false))⟩,
       ⟨(some 17), .pl (.mv (.t 3)), (some (15, false))⟩,
       ⟨(some 18), .pl (.ia 1 (.t 16) (.t 17)), (some (15, false))⟩,
       ⟨(some 19), .pl (.load none (.t 18)), (some (15, false))⟩,
       ⟨(some 20), .pl (.bin .gtr .no (.t 19) (.c (.int .i64 255))), (some (15, false))⟩,
       ⟨(some 21), .pl (.pick (.t 15) (.c (.bool true)) (.t 20)), none⟩,
       ⟨(some 22), .pl (.mv (.t 21)), none⟩,
       ⟨(some 23), .pl (.mv (.t 3)), (some (22, false))⟩,
       ⟨(some 24), .pl (.bin .gtr .no (.t 23) (.c (.int .i64 0))), (some (22, false))⟩,
       ⟨(some 25), .pl (.mv (.t 24)), (some (22, false))⟩,
       ⟨(some 26), .pl (.mv (.t 0)), (some (25, true))⟩,
       ⟨(some 27), .pl (.mv (.t 3)), (some (25, true))⟩,
       ⟨(some 28), .pl (.bin .sub .no (.t 27) (.c (.int .i64 1))), (some (25, true))⟩,
       ⟨(some 29), .pl (.ia 1 (.t 26) (.t 28)), (some (25, true))⟩,
       ⟨(some 30), .pl (.load none (.t 29)), (some (25, true))⟩,
       ⟨(some 31), .pl (.mv (.t 0)), (some (25, true))⟩,
       ⟨(some 32), .pl (.mv (.t 3)), (some (25, true))⟩,
       ⟨(some 33), .pl (.ia 1 (.t 31) (.t 32)), (some (25, true))⟩,
       ⟨(some 34), .pl (.load none (.t 33)), (some (25, true))⟩,
       ⟨(some 35), .pl (.bin .geq .no (.t 30) (.t 34)), (some (25, true))⟩,
       ⟨(some 36), .pl (.pick (.t 25) (.t 35) (.c (.bool false))), (some (22, false))⟩,
       ⟨(some 37), .pl (.pick (.t 22) (.c (.bool true)) (.t 36)), none⟩] [] [0, 3, 37])
    (.cond (.t 37)
     (.seq (.reg [⟨(some 2), .pl (.mv (.c (.bool false))), none⟩] [2])
      (.ret))
     (.skip))))
  (.reg [⟨(some 8), .pl (.mv (.t 3)), none⟩,
    ⟨(some 9), .pl (.bin .add .no (.t 8) (.c (.int .i64 1))), none⟩,
    ⟨(some 3), .pl (.mv (.t 9)), none⟩] [0, 3]))
def A108_r0 : AC := .seq (.reg [⟨(some 2), .pl (.mv (.c (.bool true))), none⟩] [2])
  (.ret)
def A108 : AFun := ⟨38, [.t 2],
  .seq (.reg [⟨(some 2), .pl (.mv (.c (.bool false))), none⟩] [0])
  (.seq (.seq (.reg [⟨(some 3), .pl (.mv (.c (.int .i64 0))), none⟩] [0, 3])
   (.block 0 (.loop [0, 3] A108_l0)))
  (A108_r0))⟩
theorem c108 : compF Tryz.prog 108 = some A108 := by kernel_rfl

/-- concourse/concourseref13.Row -/
def A119 : AFun := ⟨33, [.cell 6 (some 5), .t 7],
  .seq (.reg [⟨(some 6), .pl (.alloc [.int .i64 0, .str ⟨#[]⟩, .int .i64 0, .str ⟨#[]⟩, .esl]), none⟩,
     ⟨(some 7), .pl (.mv (.c (.bool false))), none⟩] [0, 1, 2, 6])
  (.seq (.reg [⟨(some 10), .pl (.mv (.t 0)), none⟩,
     ⟨(some 11), .pl (.mv (.t 1)), none⟩,
     ⟨(some 12), .call (.c (.fn 99 [] [])) [(.t 10), (.t 11)], none⟩,
     ⟨(some 8), .pl (.mv (.t 12)), none⟩] [0, 2, 6, 8])
  (.seq (.seq (.reg [⟨(some 13), .pl (.mv (.t 8)), none⟩,
      ⟨(some 14), .pl (.bin .lss .no (.t 13) (.c (.int .i64 0))), none⟩] [0, 2, 6, 8, 14])
   (.cond (.t 14)
    (.seq (.reg [⟨(some 15), .pl (.build [.int .i64 0, .str ⟨#[]⟩, .int .i64 0, .str ⟨#[]⟩, .esl] []), none⟩,
        ⟨none, .pl (.store 5 (.t 6) (.t 15)), none⟩,
        ⟨(some 7), .pl (.mv (.c (.bool false))), none⟩] [6, 7])
     (.ret))
    (.skip)))
  (.seq (.reg [⟨(some 16), .pl (.mv (.t 0)), none⟩,
     ⟨(some 17), .pl (.mv (.t 8)), none⟩,
     ⟨(some 18), .pl (.ia 5 (.t 16) (.t 17)), none⟩,
     ⟨(some 19), .pl (.load (some 5) (.t 18)), none⟩,
     ⟨(some 20), .pl (.mv (.t 2)), none⟩,
     ⟨(some 21), .call (.c (.fn 167 [] [])) [(.t 19), (.t 20)], none⟩,
     ⟨(some 9), .pl (.mv (.t 21)), none⟩] [0, 6, 8, 9])
  (.seq (.seq (.reg [⟨(some 22), .pl (.mv (.t 9)), none⟩,
      ⟨(some 23), .pl (.bin .lss .no (.t 22) (.c (.int .i64 0))), none⟩] [0, 6, 8, 9, 23])
   (.cond (.t 23)
    (.seq (.reg [⟨(some 24), .pl (.build [.int .i64 0, .str ⟨#[]⟩, .int .i64 0, .str ⟨#[]⟩, .esl] []), none⟩,
        ⟨none, .pl (.store 5 (.t 6) (.t 24)), none⟩,
        ⟨(some 7), .pl (.mv (.c (.bool false))), none⟩] [6, 7])
     (.ret))
    (.skip)))
  (.seq (.reg [⟨(some 25), .pl (.mv (.t 0)), none⟩,
     ⟨(some 26), .pl (.mv (.t 8)), none⟩,
     ⟨(some 27), .pl (.ia 5 (.t 25) (.t 26)), none⟩,
     ⟨(some 28), .pl (.fa 2 (.t 27)), none⟩,
     ⟨(some 29), .pl (.load none (.t 28)), none⟩,
     ⟨(some 30), .pl (.mv (.t 9)), none⟩,
     ⟨(some 31), .pl (.ia 5 (.t 29) (.t 30)), none⟩,
     ⟨(some 32), .pl (.load (some 5) (.t 31)), none⟩,
     ⟨none, .pl (.store 5 (.t 6) (.t 32)), none⟩,
     ⟨(some 7), .pl (.mv (.c (.bool true))), none⟩] [6, 7])
  (.ret))))))⟩
theorem c119 : compF Tryz.prog 119 = some A119 := by kernel_rfl

/-- concourse/concourseref10.Of -/
def A150 : AFun := ⟨17, [.t 2],
  .seq (.reg [⟨(some 2), .pl (.mv (.c (.int .i64 0))), none⟩] [0])
  (.seq (.seq (.reg [⟨(some 3), .pl (.mv (.t 0)), none⟩,
      ⟨(some 4), .pl (.bin .eql .no (.t 3) (.c (.int .i64 7))), none⟩,
      ⟨(some 5), .pl (.mv (.t 4)), none⟩,
      ⟨(some 6), .pl (.mv (.t 0)), (some (5, false))⟩,
      ⟨(some 7), .pl (.bin .eql .no (.t 6) (.c (.int .i64 9))), (some (5, false))⟩,
      ⟨(some 8), .pl (.pick (.t 5) (.c (.bool true)) (.t 7)), none⟩] [0, 8])
   (.cond (.t 8)
    (.seq (.reg [⟨(some 2), .pl (.mv (.c (.int .i64 1))), none⟩] [2])
     (.ret))
    (.skip)))
  (.seq (.seq (.reg [⟨(some 9), .pl (.mv (.t 0)), none⟩,
      ⟨(some 10), .pl (.bin .eql .no (.t 9) (.c (.int .i64 8))), none⟩] [0, 10])
   (.cond (.t 10)
    (.seq (.reg [⟨(some 2), .pl (.mv (.c (.int .i64 2))), none⟩] [2])
     (.ret))
    (.skip)))
  (.seq (.seq (.reg [⟨(some 11), .pl (.mv (.t 0)), none⟩,
      ⟨(some 12), .pl (.bin .lss .no (.t 11) (.c (.int .i64 1))), none⟩,
      ⟨(some 13), .pl (.mv (.t 12)), none⟩,
      ⟨(some 14), .pl (.mv (.t 0)), (some (13, false))⟩,
      ⟨(some 15), .pl (.bin .gtr .no (.t 14) (.c (.int .i64 9))), (some (13, false))⟩,
      ⟨(some 16), .pl (.pick (.t 13) (.c (.bool true)) (.t 15)), none⟩] [16])
   (.cond (.t 16)
    (.seq (.reg [⟨(some 2), .pl (.mv (.c (.int .i64 (-1)))), none⟩] [2])
     (.ret))
    (.skip)))
  (.seq (.reg [⟨(some 2), .pl (.mv (.c (.int .i64 0))), none⟩] [2])
  (.ret)))))⟩
theorem c150 : compF Tryz.prog 150 = some A150 := by kernel_rfl

/-- concourse/concourseref16.named -/
def A151_l0 : AC := .seq (.seq (.reg [⟨(some 48), .pl (.mv (.t 11)), none⟩,
      ⟨(some 49), .pl (.fa 3 (.t 5)), none⟩,
      ⟨(some 50), .pl (.load none (.t 49)), none⟩,
      ⟨(some 51), .pl (.lenL (.t 50)), none⟩,
      ⟨(some 52), .pl (.bin .lss .no (.t 48) (.t 51)), none⟩] [0, 4, 5, 7, 11, 52])
   (.cond (.t 52)
    (.skip)
    (.exit 0)))
  (.seq (.block 1 (.seq (.regD [⟨(some 56), .pl (.mv (.t 0)), none⟩,
       ⟨(some 57), .pl (.fa 1 (.t 4)), none⟩,
       ⟨(some 58), .pl (.load none (.t 57)), none⟩,
       ⟨(some 59), .pl (.fa 3 (.t 5)), none⟩,
       ⟨(some 60), .pl (.load none (.t 59)), none⟩,
       ⟨(some 61), .pl (.mv (.t 11)), none⟩,
       ⟨(some 62), .pl (.ia 1 (.t 60) (.t 61)), none⟩,
       ⟨(some 63), .pl (.load none (.t 62)), none⟩,
       ⟨(some 64), .call (.c (.fn 119 [] [])) [(.t 56), (.t 58), (.t 63)], none⟩,
       ⟨(some 55), .pl (.mv (.t 64)), none⟩,
       ⟨(some 65), .pl (.ext 0 (.t 55)), none⟩,
       ⟨(some 66), .pl (.ext 1 (.t 55)), none⟩,
       ⟨(some 12), .pl (.alloc [.int .i64 0, .str ⟨#[]⟩, .int .i64 0, .str ⟨#[]⟩, .esl]), none⟩,
       ⟨none, .pl (.store 5 (.t 12) (.t 65)), none⟩,
       ⟨(some 13), .pl (.mv (.t 66)), none⟩] [(2, 12), (4, 12), (7, 12)] [0, 4, 5, 7, 11, 12, 13])
    (.seq (.seq (.reg [⟨(some 67), .pl (.mv (.t 13)), none⟩,
        ⟨(some 68), .pl (.un .not (.t 67)), none⟩] [0, 4, 5, 7, 11, 12, 68])
     (.cond (.t 68)
      (.seq (.reg [⟨(some 6), .pl (.mv (.c (.int .i64 9))), none⟩] [6])
       (.ret))
      (.skip)))
    (.seq (.regD [⟨(some 69), .pl (.mv (.t 0)), none⟩,
       ⟨(some 70), .pl (.fa 2 (.t 12)), none⟩,
       ⟨(some 71), .pl (.load (some 3) (.t 70)), none⟩,
       ⟨(some 72), .pl (.fa 4 (.t 5)), none⟩,
       ⟨(some 73), .pl (.load none (.t 72)), none⟩,
       ⟨(some 74), .pl (.mv (.t 11)), none⟩,
       ⟨(some 75), .pl (.ia 5 (.t 73) (.t 74)), none⟩,
       ⟨(some 76), .pl (.load (some 5) (.t 75)), none⟩,
       ⟨(some 77), .call (.c (.fn 100 [] [])) [(.t 69), (.t 71), (.t 76)], none⟩,
       ⟨(some 14), .pl (.mv (.t 77)), none⟩] [] [0, 4, 5, 7, 11, 14])
    (.seq (.reg [⟨(some 78), .pl (.mv (.t 14)), none⟩,
       ⟨(some 79), .pl (.bin .neq .no (.t 78) (.c (.int .i64 0))), none⟩] [0, 4, 5, 7, 11, 14, 79])
    (.cond (.t 79)
     (.seq (.reg [⟨(some 80), .pl (.mv (.t 14)), none⟩,
         ⟨(some 6), .pl (.mv (.t 80)), none⟩] [6])
      (.ret))
     (.skip)))))))
  (.reg [⟨(some 53), .pl (.mv (.t 11)), none⟩,
    ⟨(some 54), .pl (.bin .add .no (.t 53) (.c (.int .i64 1))), none⟩,
    ⟨(some 11), .pl (.mv (.t 54)), none⟩] [0, 4, 5, 7, 11]))
def A151_l1 : AC := .seq (.seq (.reg [⟨(some 85), .pl (.mv (.t 16)), none⟩,
      ⟨(some 86), .pl (.mv (.t 15)), none⟩,
      ⟨(some 87), .pl (.lenL (.t 86)), none⟩,
      ⟨(some 88), .pl (.bin .lss .no (.t 85) (.t 87)), none⟩,
      ⟨(some 89), .pl (.mv (.t 88)), none⟩,
      ⟨(some 90), .pl (.mv (.t 7)), (some (89, true))⟩,
      ⟨(some 91), .pl (.bin .eql .no (.t 90) (.c (.int .i64 1))), (some (89, true))⟩,
      ⟨(some 92), .pl (.pick (.t 89) (.t 91) (.c (.bool false))), none⟩] [5, 7, 15, 16, 92])
   (.cond (.t 92)
    (.skip)
    (.exit 2)))
  (.seq (.block 3 (.seq (.regD [⟨(some 95), .pl (.mv (.t 15)), none⟩,
       ⟨(some 96), .pl (.mv (.t 16)), none⟩,
       ⟨(some 97), .pl (.ia 5 (.t 95) (.t 96)), none⟩,
       ⟨(some 98), .pl (.fa 2 (.t 97)), none⟩,
       ⟨(some 99), .pl (.fa 0 (.t 98)), none⟩,
       ⟨(some 100), .pl (.load none (.t 99)), none⟩,
       ⟨(some 101), .pl (.bin .neq .no (.t 100) (.c (.int .i64 9))), none⟩,
       ⟨(some 102), .pl (.mv (.t 101)), none⟩,
       ⟨(some 103), .pl (.load (some 5) (.t 5)), (some (102, true))⟩,
       ⟨(some 104), .pl (.mv (.t 15)), (some (102, true))⟩,
       ⟨(some 105), .pl (.mv (.t 16)), (some (102, true))⟩,
       ⟨(some 106), .pl (.ia 5 (.t 104) (.t 105)), (some (102, true))⟩,
       ⟨(some 107), .pl (.fa 0 (.t 106)), (some (102, true))⟩,
       ⟨(some 108), .pl (.load none (.t 107)), (some (102, true))⟩,
       ⟨(some 109), .call (.c (.fn 189 [] [])) [(.t 103), (.t 108)], (some (102, true))⟩,
       ⟨(some 110), .pl (.un .not (.t 109)), (some (102, true))⟩,
       ⟨(some 111), .pl (.pick (.t 102) (.t 110) (.c (.bool false))), none⟩] [] [5, 7, 15, 16, 111])
    (.cond (.t 111)
     (.seq (.reg [⟨(some 6), .pl (.mv (.c (.int .i64 12))), none⟩] [6])
      (.ret))
     (.skip))))
  (.reg [⟨(some 93), .pl (.mv (.t 16)), none⟩,
    ⟨(some 94), .pl (.bin .add .no (.t 93) (.c (.int .i64 1))), none⟩,
    ⟨(some 16), .pl (.mv (.t 94)), none⟩] [5, 7, 15, 16]))
def A151_r0 : AC := .seq (.reg [⟨(some 6), .pl (.mv (.c (.int .i64 0))), none⟩] [6])
  (.ret)
def A151_r1 : AC := .seq (.reg [⟨(some 81), .pl (.mv (.t 0)), none⟩,
     ⟨(some 82), .pl (.fa 1 (.t 4)), none⟩,
     ⟨(some 83), .pl (.load none (.t 82)), none⟩,
     ⟨(some 84), .call (.c (.fn 159 [] [])) [(.t 81), (.t 83)], none⟩,
     ⟨(some 15), .pl (.mv (.t 84)), none⟩] [5, 7, 15])
  (.seq (.seq (.reg [⟨(some 16), .pl (.mv (.c (.int .i64 0))), none⟩] [5, 7, 15, 16])
   (.block 2 (.loop [5, 7, 15, 16] A151_l1)))
  (A151_r0))
def A151 : AFun := ⟨112, [.t 6],
  .seq (.reg [⟨(some 4), .pl (.box (.t 1)), none⟩,
     ⟨(some 5), .pl (.box (.t 2)), none⟩,
     ⟨(some 6), .pl (.mv (.c (.int .i64 0))), none⟩] [0, 4, 5])
  (.seq (.reg [⟨(some 17), .pl (.mv (.t 0)), none⟩,
     ⟨(some 18), .pl (.fa 1 (.t 4)), none⟩,
     ⟨(some 19), .pl (.load none (.t 18)), none⟩,
     ⟨(some 20), .call (.c (.fn 59 [] [])) [(.t 17), (.t 19)], none⟩,
     ⟨(some 7), .pl (.mv (.t 20)), none⟩] [0, 4, 5, 7])
  (.seq (.seq (.reg [⟨(some 21), .pl (.mv (.t 7)), none⟩,
      ⟨(some 22), .pl (.bin .lss .no (.t 21) (.c (.int .i64 1))), none⟩,
      ⟨(some 23), .pl (.mv (.t 22)), none⟩,
      ⟨(some 24), .pl (.mv (.t 7)), (some (23, false))⟩,
      ⟨(some 25), .pl (.bin .gtr .no (.t 24) (.c (.int .i64 3))), (some (23, false))⟩,
      ⟨(some 26), .pl (.pick (.t 23) (.c (.bool true)) (.t 25)), none⟩] [0, 4, 5, 7, 26])
   (.cond (.t 26)
    (.seq (.reg [⟨(some 6), .pl (.mv (.c (.int .i64 8))), none⟩] [6])
     (.ret))
    (.skip)))
  (.seq (.reg [⟨(some 27), .pl (.lit 1 [(.c (.int .i64 0)), (.c (.int .i64 9)), (.c (.int .i64 10)), (.c (.int .i64 6))]), none⟩,
     ⟨(some 8), .pl (.mv (.t 27)), none⟩] [0, 4, 5, 7, 8])
  (.seq (.seq (.regD [⟨(some 28), .pl (.fa 0 (.t 5)), none⟩,
      ⟨(some 29), .pl (.load none (.t 28)), none⟩,
      ⟨(some 30), .pl (.mv (.t 8)), none⟩,
      ⟨(some 31), .pl (.mv (.t 7)), none⟩,
      ⟨(some 32), .pl (.ia 1 (.t 30) (.t 31)), none⟩,
      ⟨(some 33), .pl (.load none (.t 32)), none⟩,
      ⟨(some 34), .pl (.bin .neq .no (.t 29) (.t 33)), none⟩] [] [0, 4, 5, 7, 34])
   (.cond (.t 34)
    (.seq (.reg [⟨(some 6), .pl (.mv (.c (.int .i64 4))), none⟩] [6])
     (.ret))
    (.skip)))
  (.seq (.seq (.reg [⟨(some 35), .pl (.mv (.t 7)), none⟩,
      ⟨(some 36), .pl (.bin .eql .no (.t 35) (.c (.int .i64 3))), none⟩] [0, 4, 5, 7, 36])
   (.cond (.t 36)
    (.seq (.reg [⟨(some 38), .pl (.mv (.t 0)), none⟩,
        ⟨(some 39), .pl (.fa 1 (.t 4)), none⟩,
        ⟨(some 40), .pl (.load none (.t 39)), none⟩,
        ⟨(some 41), .pl (.fa 1 (.t 5)), none⟩,
        ⟨(some 42), .pl (.load none (.t 41)), none⟩,
        ⟨(some 43), .call (.c (.fn 119 [] [])) [(.t 38), (.t 40), (.t 42)], none⟩,
        ⟨(some 37), .pl (.mv (.t 43)), none⟩,
        ⟨(some 44), .pl (.ext 0 (.t 37)), none⟩,
        ⟨(some 45), .pl (.ext 1 (.t 37)), none⟩,
        ⟨(some 9), .pl (.alloc [.int .i64 0, .str ⟨#[]⟩, .int .i64 0, .str ⟨#[]⟩, .esl]), none⟩,
        ⟨none, .pl (.store 5 (.t 9) (.t 44)), none⟩,
        ⟨(some 10), .pl (.mv (.t 45)), none⟩] [10])
     (.seq (.seq (.reg [⟨(some 46), .pl (.mv (.t 10)), none⟩,
         ⟨(some 47), .pl (.un .not (.t 46)), none⟩] [47])
      (.cond (.t 47)
       (.seq (.reg [⟨(some 6), .pl (.mv (.c (.int .i64 9))), none⟩] [6])
        (.ret))
       (.skip)))
     (.seq (.reg [⟨(some 6), .pl (.mv (.c (.int .i64 0))), none⟩] [6])
     (.ret))))
    (.skip)))
  (.seq (.seq (.reg [⟨(some 11), .pl (.mv (.c (.int .i64 0))), none⟩] [0, 4, 5, 7, 11])
   (.block 0 (.loop [0, 4, 5, 7, 11] A151_l0)))
  (A151_r1)))))))⟩
theorem c151 : compF Tryz.prog 151 = some A151 := by kernel_rfl

/-- (*concourse/blank.maker).plain -/
def A152 : AFun := ⟨64, [.cell 6 (some 5), .t 7],
  .seq (.reg [⟨(some 4), .pl (.box (.t 1)), none⟩,
     ⟨(some 6), .pl (.alloc [.int .i64 0, .int .i64 0, .str ⟨#[]⟩, .esl, .esl]), none⟩,
     ⟨(some 7), .pl (.mv (.c (.bool false))), none⟩] [0, 2, 4, 6])
  (.seq (.block 0 (.seq (.seq (.reg [⟨(some 9), .pl (.fa 0 (.t 4)), none⟩,
        ⟨(some 10), .pl (.load none (.t 9)), none⟩,
        ⟨(some 11), .pl (.bin .geq .no (.t 10) (.c (.int .i64 1))), none⟩,
        ⟨(some 12), .pl (.mv (.t 11)), none⟩,
        ⟨(some 13), .pl (.fa 0 (.t 4)), (some (12, true))⟩,
        ⟨(some 14), .pl (.load none (.t 13)), (some (12, true))⟩,
        ⟨(some 15), .pl (.bin .leq .no (.t 14) (.c (.int .i64 5))), (some (12, true))⟩,
        ⟨(some 16), .pl (.pick (.t 12) (.t 15) (.c (.bool false))), none⟩,
        ⟨(some 17), .pl (.mv (.t 16)), none⟩,
        ⟨(some 18), .pl (.fa 2 (.t 4)), (some (17, true))⟩,
        ⟨(some 19), .pl (.load none (.t 18)), (some (17, true))⟩,
        ⟨(some 20), .pl (.lenL (.t 19)), (some (17, true))⟩,
        ⟨(some 21), .pl (.bin .eql .no (.t 20) (.c (.int .i64 0))), (some (17, true))⟩,
        ⟨(some 22), .pl (.pick (.t 17) (.t 21) (.c (.bool false))), none⟩,
        ⟨(some 8), .pl (.mv (.t 22)), none⟩] [0, 2, 4, 6, 8])
     (.cond (.t 8)
      (.skip)
      (.seq (.reg [⟨(some 23), .pl (.fa 0 (.t 4)), none⟩,
          ⟨(some 24), .pl (.load none (.t 23)), none⟩,
          ⟨(some 25), .pl (.bin .eql .no (.t 24) (.c (.int .i64 7))), none⟩,
          ⟨(some 26), .pl (.mv (.t 25)), none⟩,
          ⟨(some 27), .pl (.fa 2 (.t 4)), (some (26, true))⟩,
          ⟨(some 28), .pl (.load none (.t 27)), (some (26, true))⟩,
          ⟨(some 29), .pl (.lenL (.t 28)), (some (26, true))⟩,
          ⟨(some 30), .pl (.bin .eql .no (.t 29) (.c (.int .i64 1))), (some (26, true))⟩,
          ⟨(some 31), .pl (.pick (.t 26) (.t 30) (.c (.bool false))), none⟩,
          ⟨(some 8), .pl (.mv (.t 31)), none⟩] [0, 2, 4, 6, 8])
       (.cond (.t 8)
        (.skip)
        (.reg [⟨(some 32), .pl (.fa 0 (.t 4)), none⟩,
           ⟨(some 33), .pl (.load none (.t 32)), none⟩,
           ⟨(some 34), .pl (.bin .eql .no (.t 33) (.c (.int .i64 8))), none⟩,
           ⟨(some 35), .pl (.mv (.t 34)), none⟩,
           ⟨(some 36), .pl (.fa 2 (.t 4)), (some (35, true))⟩,
           ⟨(some 37), .pl (.load none (.t 36)), (some (35, true))⟩,
           ⟨(some 38), .pl (.lenL (.t 37)), (some (35, true))⟩,
           ⟨(some 39), .pl (.bin .eql .no (.t 38) (.c (.int .i64 2))), (some (35, true))⟩,
           ⟨(some 40), .pl (.pick (.t 35) (.t 39) (.c (.bool false))), none⟩,
           ⟨(some 8), .pl (.mv (.t 40)), none⟩] [0, 2, 4, 6, 8])))))
    (.cond (.t 8)
     (.seq (.reg [⟨(some 41), .pl (.fa 0 (.t 4)), none⟩,
         ⟨(some 42), .pl (.load none (.t 41)), none⟩,
         ⟨(some 43), .pl (.build [.int .i64 0, .int .i64 0, .str ⟨#[]⟩, .esl, .esl] [(0, 1, (.t 42))]), none⟩,
         ⟨none, .pl (.store 5 (.t 6) (.t 43)), none⟩,
         ⟨(some 7), .pl (.mv (.c (.bool true))), none⟩] [6, 7])
      (.ret))
     (.seq (.reg [⟨(some 45), .pl (.fa 0 (.t 4)), none⟩,
         ⟨(some 46), .pl (.load none (.t 45)), none⟩,
         ⟨(some 47), .pl (.bin .eql .no (.t 46) (.c (.int .i64 9))), none⟩,
         ⟨(some 48), .pl (.mv (.t 47)), none⟩,
         ⟨(some 49), .pl (.fa 2 (.t 4)), (some (48, true))⟩,
         ⟨(some 50), .pl (.load none (.t 49)), (some (48, true))⟩,
         ⟨(some 51), .pl (.lenL (.t 50)), (some (48, true))⟩,
         ⟨(some 52), .pl (.bin .eql .no (.t 51) (.c (.int .i64 1))), (some (48, true))⟩,
         ⟨(some 53), .pl (.pick (.t 48) (.t 52) (.c (.bool false))), none⟩,
         ⟨(some 44), .pl (.mv (.t 53)), none⟩] [0, 2, 4, 6, 44])
      (.cond (.t 44)
       (.seq (.reg [⟨(some 54), .pl (.mv (.t 0)), none⟩,
           ⟨(some 55), .pl (.fa 2 (.t 4)), none⟩,
           ⟨(some 56), .pl (.load none (.t 55)), none⟩,
           ⟨(some 57), .pl (.ia 3 (.t 56) (.c (.int .i64 0))), none⟩,
           ⟨(some 58), .pl (.load (some 3) (.t 57)), none⟩,
           ⟨(some 59), .pl (.mv (.t 2)), none⟩,
           ⟨(some 60), .call (.c (.fn 101 [] [])) [(.t 54), (.t 58), (.t 59)], none⟩,
           ⟨(some 61), .pl (.ext 0 (.t 60)), none⟩,
           ⟨(some 62), .pl (.ext 1 (.t 60)), none⟩,
           ⟨none, .pl (.store 5 (.t 6) (.t 61)), none⟩,
           ⟨(some 7), .pl (.mv (.t 62)), none⟩] [6, 7])
        (.ret))
       (.skip))))))
  (.seq (.reg [⟨(some 63), .pl (.build [.int .i64 0, .int .i64 0, .str ⟨#[]⟩, .esl, .esl] []), none⟩,
     ⟨none, .pl (.store 5 (.t 6) (.t 63)), none⟩,
     ⟨(some 7), .pl (.mv (.c (.bool false))), none⟩] [6, 7])
  (.ret)))⟩
theorem c152 : compF Tryz.prog 152 = some A152 := by kernel_rfl

/-- (*concourse/blank.maker).fields -/
def A153_l0 : AC := .seq (.reg [⟨(some 17), .pl (.bin .lss .no (.t 16) (.t 15)), none⟩] [0, 2, 6, 8, 14, 15, 16, 17])
  (.seq (.cond (.t 17)
    (.skip)
    (.exit 0))
  (.seq (.block 1 (.seq (.reg [⟨(some 18), .pl (.ia 5 (.t 14) (.t 16)), none⟩,
       ⟨(some 19), .pl (.load (some 5) (.t 18)), none⟩,
       ⟨(some 10), .pl (.alloc [.int .i64 0, .str ⟨#[]⟩, .int .i64 0, .str ⟨#[]⟩, .esl]), none⟩,
       ⟨none, .pl (.store 5 (.t 10) (.t 19)), none⟩] [0, 2, 6, 8, 10, 14, 15, 16])
    (.seq (.seq (.reg [⟨(some 20), .pl (.fa 2 (.t 10)), none⟩,
        ⟨(some 21), .pl (.fa 0 (.t 20)), none⟩,
        ⟨(some 22), .pl (.load none (.t 21)), none⟩,
        ⟨(some 23), .pl (.bin .eql .no (.t 22) (.c (.int .i64 9))), none⟩] [0, 2, 6, 8, 10, 14, 15, 16, 23])
     (.cond (.t 23)
      (.exit 1)
      (.skip)))
    (.seq (.reg [⟨(some 25), .pl (.mv (.t 0)), none⟩,
       ⟨(some 26), .pl (.fa 2 (.t 10)), none⟩,
       ⟨(some 27), .pl (.load (some 3) (.t 26)), none⟩,
       ⟨(some 28), .pl (.mv (.t 2)), none⟩,
       ⟨(some 29), .pl (.bin .sub .no (.t 28) (.c (.int .i64 1))), none⟩,
       ⟨(some 30), .call (.c (.fn 101 [] [])) [(.t 25), (.t 27), (.t 29)], none⟩,
       ⟨(some 24), .pl (.mv (.t 30)), none⟩,
       ⟨(some 31), .pl (.ext 0 (.t 24)), none⟩,
       ⟨(some 32), .pl (.ext 1 (.t 24)), none⟩,
       ⟨(some 11), .pl (.alloc [.int .i64 0, .int .i64 0, .str ⟨#[]⟩, .esl, .esl]), none⟩,
       ⟨none, .pl (.store 5 (.t 11) (.t 31)), none⟩,
       ⟨(some 12), .pl (.mv (.t 32)), none⟩] [0, 2, 6, 8, 10, 11, 12, 14, 15, 16])
    (.seq (.seq (.reg [⟨(some 33), .pl (.mv (.t 12)), none⟩,
        ⟨(some 34), .pl (.un .not (.t 33)), none⟩] [0, 2, 6, 8, 10, 11, 14, 15, 16, 34])
     (.cond (.t 34)
      (.seq (.reg [⟨(some 35), .pl (.build [.int .i64 0, .int .i64 0, .str ⟨#[]⟩, .esl, .esl] []), none⟩,
          ⟨none, .pl (.store 5 (.t 6) (.t 35)), none⟩,
          ⟨(some 7), .pl (.mv (.c (.bool false))), none⟩] [6, 7])
       (.ret))
      (.skip)))
    (.regD [⟨(some 36), .pl (.fa 3 (.t 8)), none⟩,
      ⟨(some 37), .pl (.load none (.t 36)), none⟩,
      ⟨(some 38), .pl (.fa 0 (.t 10)), none⟩,
      ⟨(some 39), .pl (.load none (.t 38)), none⟩,
      ⟨(some 40), .pl (.lit 1 [(.t 39)]), none⟩,
      ⟨(some 41), .pl (.append 3 1 8 (.t 37) (.t 40)), none⟩,
      ⟨(some 42), .pl (.fa 4 (.t 8)), none⟩,
      ⟨(some 43), .pl (.load none (.t 42)), none⟩,
      ⟨(some 44), .pl (.load (some 5) (.t 11)), none⟩,
      ⟨(some 45), .pl (.lit 5 [(.t 44)]), none⟩,
      ⟨(some 46), .pl (.append 47 5 80 (.t 43) (.t 45)), none⟩,
      ⟨(some 47), .pl (.fa 3 (.t 8)), none⟩,
      ⟨none, .pl (.store 1 (.t 47) (.t 41)), none⟩,
      ⟨(some 48), .pl (.fa 4 (.t 8)), none⟩,
      ⟨none, .pl (.store 1 (.t 48) (.t 46)), none⟩] [(7, 5), (8, 5)] [0, 2, 6, 8, 14, 15, 16]))))))
  (.reg [⟨(some 49), .pl (.bin .add .no (.t 16) (.c (.int .i64 1))), none⟩,
    ⟨(some 16), .pl (.mv (.t 49)), none⟩] [0, 2, 6, 8, 14, 15, 16])))
def A153_r0 : AC := .seq (.reg [⟨(some 50), .pl (.load (some 5) (.t 8)), none⟩,
     ⟨none, .pl (.store 5 (.t 6) (.t 50)), none⟩,
     ⟨(some 7), .pl (.mv (.c (.bool true))), none⟩] [6, 7])
  (.ret)
def A153 : AFun := ⟨51, [.cell 6 (some 5), .t 7],
  .seq (.reg [⟨(some 6), .pl (.alloc [.int .i64 0, .int .i64 0, .str ⟨#[]⟩, .esl, .esl]), none⟩,
     ⟨(some 7), .pl (.mv (.c (.bool false))), none⟩] [0, 1, 2, 6])
  (.seq (.reg [⟨(some 13), .pl (.build [.int .i64 0, .int .i64 0, .str ⟨#[]⟩, .esl, .esl] [(0, 1, (.c (.int .i64 9)))]), none⟩,
     ⟨(some 8), .pl (.alloc [.int .i64 0, .int .i64 0, .str ⟨#[]⟩, .esl, .esl]), none⟩,
     ⟨none, .pl (.store 5 (.t 8) (.t 13)), none⟩] [0, 1, 2, 6, 8])
  (.seq (.seq (.reg [⟨(some 14), .pl (.mv (.t 1)), none⟩,
      ⟨(some 15), .pl (.lenL (.t 14)), none⟩,
      ⟨(some 16), .pl (.mv (.c (.int .i64 0))), none⟩] [0, 2, 6, 8, 14, 15, 16])
   (.block 0 (.loop [0, 2, 6, 8, 14, 15, 16] A153_l0)))
  (A153_r0)))⟩
theorem c153 : compF Tryz.prog 153 = some A153 := by kernel_rfl

/-- (*concourse/blank.maker).one -/
def A154_l0 : AC := .seq (.reg [⟨(some 15), .pl (.bin .lss .no (.t 14) (.t 13)), none⟩] [0, 2, 6, 12, 13, 14, 15])
  (.seq (.cond (.t 15)
    (.skip)
    (.exit 0))
  (.seq (.block 1 (.seq (.reg [⟨(some 16), .pl (.ia 5 (.t 12) (.t 14)), none⟩,
       ⟨(some 17), .pl (.load (some 5) (.t 16)), none⟩,
       ⟨(some 9), .pl (.alloc [.int .i64 0, .str ⟨#[]⟩, .int .i64 0, .str ⟨#[]⟩, .esl]), none⟩,
       ⟨none, .pl (.store 5 (.t 9) (.t 17)), none⟩] [0, 2, 6, 9, 12, 13, 14])
    (.seq (.reg [⟨(some 19), .pl (.mv (.t 0)), none⟩,
       ⟨(some 20), .pl (.fa 2 (.t 9)), none⟩,
       ⟨(some 21), .pl (.load (some 3) (.t 20)), none⟩,
       ⟨(some 22), .pl (.mv (.t 2)), none⟩,
       ⟨(some 23), .pl (.bin .sub .no (.t 22) (.c (.int .i64 1))), none⟩,
       ⟨(some 24), .call (.c (.fn 101 [] [])) [(.t 19), (.t 21), (.t 23)], none⟩,
       ⟨(some 18), .pl (.mv (.t 24)), none⟩,
       ⟨(some 25), .pl (.ext 0 (.t 18)), none⟩,
       ⟨(some 26), .pl (.ext 1 (.t 18)), none⟩,
       ⟨(some 10), .pl (.alloc [.int .i64 0, .int .i64 0, .str ⟨#[]⟩, .esl, .esl]), none⟩,
       ⟨none, .pl (.store 5 (.t 10) (.t 25)), none⟩,
       ⟨(some 11), .pl (.mv (.t 26)), none⟩] [0, 2, 6, 9, 10, 11, 12, 13, 14])
    (.seq (.reg [⟨(some 27), .pl (.mv (.t 11)), none⟩] [0, 2, 6, 9, 10, 12, 13, 14, 27])
    (.cond (.t 27)
     (.seq (.reg [⟨(some 28), .pl (.fa 0 (.t 9)), none⟩,
         ⟨(some 29), .pl (.load none (.t 28)), none⟩,
         ⟨(some 30), .pl (.lit 1 [(.t 29)]), none⟩,
         ⟨(some 31), .pl (.load (some 5) (.t 10)), none⟩,
         ⟨(some 32), .pl (.lit 5 [(.t 31)]), none⟩,
         ⟨(some 33), .pl (.build [.int .i64 0, .int .i64 0, .str ⟨#[]⟩, .esl, .esl] [(0, 1, (.c (.int .i64 10))), (3, 1, (.t 30)), (4, 1, (.t 32))]), none⟩,
         ⟨none, .pl (.store 5 (.t 6) (.t 33)), none⟩,
         ⟨(some 7), .pl (.mv (.c (.bool true))), none⟩] [6, 7])
      (.ret))
     (.skip))))))
  (.reg [⟨(some 34), .pl (.bin .add .no (.t 14) (.c (.int .i64 1))), none⟩,
    ⟨(some 14), .pl (.mv (.t 34)), none⟩] [0, 2, 6, 12, 13, 14])))
def A154_r0 : AC := .seq (.reg [⟨(some 35), .pl (.build [.int .i64 0, .int .i64 0, .str ⟨#[]⟩, .esl, .esl] []), none⟩,
     ⟨none, .pl (.store 5 (.t 6) (.t 35)), none⟩,
     ⟨(some 7), .pl (.mv (.c (.bool false))), none⟩] [6, 7])
  (.ret)
def A154 : AFun := ⟨36, [.cell 6 (some 5), .t 7],
  .seq (.reg [⟨(some 6), .pl (.alloc [.int .i64 0, .int .i64 0, .str ⟨#[]⟩, .esl, .esl]), none⟩,
     ⟨(some 7), .pl (.mv (.c (.bool false))), none⟩] [0, 1, 2, 6])
  (.seq (.seq (.reg [⟨(some 12), .pl (.mv (.t 1)), none⟩,
      ⟨(some 13), .pl (.lenL (.t 12)), none⟩,
      ⟨(some 14), .pl (.mv (.c (.int .i64 0))), none⟩] [0, 2, 6, 12, 13, 14])
   (.block 0 (.loop [0, 2, 6, 12, 13, 14] A154_l0)))
  (A154_r0))⟩
theorem c154 : compF Tryz.prog 154 = some A154 := by kernel_rfl

/-- concourse/concourseref03.Rune -/
def A156_l0 : AC := .seq (.seq (.reg [⟨(some 42), .pl (.mv (.t 9)), none⟩,
      ⟨(some 43), .pl (.mv (.t 7)), none⟩,
      ⟨(some 44), .pl (.bin .lss .no (.t 42) (.t 43)), none⟩] [0, 1, 6, 7, 8, 9, 44])
   (.cond (.t 44)
    (.skip)
    (.exit 0)))
  (.seq (.block 1 (.seq (.reg [⟨(some 48), .pl (.mv (.t 0)), none⟩,
       ⟨(some 49), .pl (.mv (.t 1)), none⟩,
       ⟨(some 50), .pl (.mv (.t 9)), none⟩,
       ⟨(some 51), .pl (.bin .add .no (.t 49) (.t 50)), none⟩,
       ⟨(some 52), .call (.c (.fn 190 [] [])) [(.t 48), (.t 51)], none⟩,
       ⟨(some 47), .pl (.mv (.t 52)), none⟩,
       ⟨(some 53), .pl (.ext 0 (.t 47)), none⟩,
       ⟨(some 54), .pl (.ext 1 (.t 47)), none⟩,
       ⟨(some 10), .pl (.mv (.t 53)), none⟩,
       ⟨(some 11), .pl (.mv (.t 54)), none⟩] [0, 1, 6, 7, 8, 9, 10, 11])
    (.seq (.seq (.reg [⟨(some 55), .pl (.mv (.t 11)), none⟩,
        ⟨(some 56), .pl (.un .not (.t 55)), none⟩] [0, 1, 6, 7, 8, 9, 10, 56])
     (.cond (.t 56)
      (.seq (.reg [⟨(some 4), .pl (.mv (.c (.int .i64 0))), none⟩] [4])
       (.ret))
      (.skip)))
    (.reg [⟨(some 57), .pl (.mv (.t 6)), none⟩,
      ⟨(some 58), .pl (.bin .mul .no (.t 57) (.c (.int .i64 64))), none⟩,
      ⟨(some 59), .pl (.mv (.t 10)), none⟩,
      ⟨(some 60), .pl (.bin .add .no (.t 58) (.t 59)), none⟩,
      ⟨(some 6), .pl (.mv (.t 60)), none⟩] [0, 1, 6, 7, 8, 9]))))
  (.reg [⟨(some 45), .pl (.mv (.t 9)), none⟩,
    ⟨(some 46), .pl (.bin .add .no (.t 45) (.c (.int .i64 1))), none⟩,
    ⟨(some 9), .pl (.mv (.t 46)), none⟩] [0, 1, 6, 7, 8, 9]))
def A156_r0 : AC := .seq (.seq (.reg [⟨(some 61), .pl (.mv (.t 6)), none⟩,
      ⟨(some 62), .pl (.mv (.t 8)), none⟩,
      ⟨(some 63), .pl (.bin .lss .no (.t 61) (.t 62)), none⟩,
      ⟨(some 64), .pl (.mv (.t 63)), none⟩,
      ⟨(some 65), .pl (.mv (.t 6)), (some (64, false))⟩,
      ⟨(some 66), .pl (.bin .geq .no (.t 65) (.c (.int .i64 1114112))), (some (64, false))⟩,
      ⟨(some 67), .pl (.pick (.t 64) (.c (.bool true)) (.t 66)), none⟩,
      ⟨(some 68), .pl (.mv (.t 67)), none⟩,
      ⟨(some 69), .pl (.mv (.t 6)), (some (68, false))⟩,
      ⟨(some 70), .pl (.bin .geq .no (.t 69) (.c (.int .i64 55296))), (some (68, false))⟩,
      ⟨(some 71), .pl (.mv (.t 70)), (some (68, false))⟩,
      ⟨(some 72), .pl (.mv (.t 6)), (some (71, true))⟩,
      ⟨(some 73), .pl (.bin .lss .no (.t 72) (.c (.int .i64 57344))), (some (71, true))⟩,
      ⟨(some 74), .pl (.pick (.t 71) (.t 73) (.c (.bool false))), (some (68, false))⟩,
      ⟨(some 75), .pl (.pick (.t 68) (.c (.bool true)) (.t 74)), none⟩] [7, 75])
   (.cond (.t 75)
    (.seq (.reg [⟨(some 4), .pl (.mv (.c (.int .i64 0))), none⟩] [4])
     (.ret))
    (.skip)))
  (.seq (.reg [⟨(some 76), .pl (.mv (.t 7)), none⟩,
     ⟨(some 4), .pl (.mv (.t 76)), none⟩] [4])
  (.ret))
def A156 : AFun := ⟨77, [.t 4],
  .seq (.reg [⟨(some 4), .pl (.mv (.c (.int .i64 0))), none⟩] [0, 1])
  (.seq (.reg [⟨(some 12), .pl (.mv (.t 0)), none⟩,
     ⟨(some 13), .pl (.mv (.t 1)), none⟩,
     ⟨(some 14), .pl (.ixS (.t 12) (.t 13)), none⟩,
     ⟨(some 15), .pl (.conv .i64 (.t 14)), none⟩,
     ⟨(some 5), .pl (.mv (.t 15)), none⟩] [0, 1, 5])
  (.seq (.reg [⟨(some 6), .pl (.mv (.c (.int .i64 0))), none⟩,
     ⟨(some 7), .pl (.mv (.c (.int .i64 0))), none⟩,
     ⟨(some 8), .pl (.mv (.c (.int .i64 0))), none⟩] [0, 1, 5, 6, 7, 8])
  (.seq (.seq (.reg [⟨(some 16), .pl (.mv (.t 5)), none⟩,
      ⟨(some 17), .pl (.bin .lss .no (.t 16) (.c (.int .i64 128))), none⟩] [0, 1, 5, 6, 7, 8, 17])
   (.cond (.t 17)
    (.seq (.reg [⟨(some 4), .pl (.mv (.c (.int .i64 1))), none⟩] [4])
     (.ret))
    (.skip)))
  (.seq (.seq (.reg [⟨(some 18), .pl (.mv (.t 5)), none⟩,
      ⟨(some 19), .pl (.bin .geq .no (.t 18) (.c (.int .i64 192))), none⟩,
      ⟨(some 20), .pl (.mv (.t 19)), none⟩,
      ⟨(some 21), .pl (.mv (.t 5)), (some (20, true))⟩,
      ⟨(some 22), .pl (.bin .lss .no (.t 21) (.c (.int .i64 224))), (some (20, true))⟩,
      ⟨(some 23), .pl (.pick (.t 20) (.t 22) (.c (.bool false))), none⟩] [0, 1, 5, 6, 7, 8, 23])
   (.cond (.t 23)
    (.reg [⟨(some 24), .pl (.mv (.t 5)), none⟩,
       ⟨(some 25), .pl (.bin .sub .no (.t 24) (.c (.int .i64 192))), none⟩,
       ⟨(some 6), .pl (.mv (.t 25)), none⟩,
       ⟨(some 7), .pl (.mv (.c (.int .i64 2))), none⟩,
       ⟨(some 8), .pl (.mv (.c (.int .i64 128))), none⟩] [0, 1, 5, 6, 7, 8])
    (.skip)))
  (.seq (.seq (.reg [⟨(some 26), .pl (.mv (.t 5)), none⟩,
      ⟨(some 27), .pl (.bin .geq .no (.t 26) (.c (.int .i64 224))), none⟩,
      ⟨(some 28), .pl (.mv (.t 27)), none⟩,
      ⟨(some 29), .pl (.mv (.t 5)), (some (28, true))⟩,
      ⟨(some 30), .pl (.bin .lss .no (.t 29) (.c (.int .i64 240))), (some (28, true))⟩,
      ⟨(some 31), .pl (.pick (.t 28) (.t 30) (.c (.bool false))), none⟩] [0, 1, 5, 6, 7, 8, 31])
   (.cond (.t 31)
    (.reg [⟨(some 32), .pl (.mv (.t 5)), none⟩,
       ⟨(some 33), .pl (.bin .sub .no (.t 32) (.c (.int .i64 224))), none⟩,
       ⟨(some 6), .pl (.mv (.t 33)), none⟩,
       ⟨(some 7), .pl (.mv (.c (.int .i64 3))), none⟩,
       ⟨(some 8), .pl (.mv (.c (.int .i64 2048))), none⟩] [0, 1, 5, 6, 7, 8])
    (.skip)))
  (.seq (.seq (.reg [⟨(some 34), .pl (.mv (.t 5)), none⟩,
      ⟨(some 35), .pl (.bin .geq .no (.t 34) (.c (.int .i64 240))), none⟩,
      ⟨(some 36), .pl (.mv (.t 35)), none⟩,
      ⟨(some 37), .pl (.mv (.t 5)), (some (36, true))⟩,
      ⟨(some 38), .pl (.bin .lss .no (.t 37) (.c (.int .i64 248))), (some (36, true))⟩,
      ⟨(some 39), .pl (.pick (.t 36) (.t 38) (.c (.bool false))), none⟩] [0, 1, 5, 6, 7, 8, 39])
   (.cond (.t 39)
    (.reg [⟨(some 40), .pl (.mv (.t 5)), none⟩,
       ⟨(some 41), .pl (.bin .sub .no (.t 40) (.c (.int .i64 240))), none⟩,
       ⟨(some 6), .pl (.mv (.t 41)), none⟩,
       ⟨(some 7), .pl (.mv (.c (.int .i64 4))), none⟩,
       ⟨(some 8), .pl (.mv (.c (.int .i64 65536))), none⟩] [0, 1, 6, 7, 8])
    (.skip)))
  (.seq (.seq (.reg [⟨(some 9), .pl (.mv (.c (.int .i64 1))), none⟩] [0, 1, 6, 7, 8, 9])
   (.block 0 (.loop [0, 1, 6, 7, 8, 9] A156_l0)))
  (A156_r0))))))))⟩
theorem c156 : compF Tryz.prog 156 = some A156 := by kernel_rfl

/-- concourse/concourseref15.Key -/
def A157 : AFun := ⟨13, [.t 2],
  .seq (.reg [⟨(some 2), .pl (.mv (.c (.bool false))), none⟩] [0])
  (.seq (.reg [⟨(some 3), .pl (.mv (.t 0)), none⟩,
     ⟨(some 4), .pl (.bin .geq .no (.t 3) (.c (.int .i64 1))), none⟩,
     ⟨(some 5), .pl (.mv (.t 4)), none⟩,
     ⟨(some 6), .pl (.mv (.t 0)), (some (5, true))⟩,
     ⟨(some 7), .pl (.bin .leq .no (.t 6) (.c (.int .i64 4))), (some (5, true))⟩,
     ⟨(some 8), .pl (.pick (.t 5) (.t 7) (.c (.bool false))), none⟩,
     ⟨(some 9), .pl (.mv (.t 8)), none⟩,
     ⟨(some 10), .pl (.mv (.t 0)), (some (9, false))⟩,
     ⟨(some 11), .pl (.bin .eql .no (.t 10) (.c (.int .i64 6))), (some (9, false))⟩,
     ⟨(some 12), .pl (.pick (.t 9) (.c (.bool true)) (.t 11)), none⟩,
     ⟨(some 2), .pl (.mv (.t 12)), none⟩] [2])
  (.ret))⟩
theorem c157 : compF Tryz.prog 157 = some A157 := by kernel_rfl

/-- concourse/concourseref15.Cmp -/
def A158 : AFun := ⟨71, [.t 4],
  .seq (.reg [⟨(some 2), .pl (.box (.t 0)), none⟩,
     ⟨(some 3), .pl (.box (.t 1)), none⟩,
     ⟨(some 4), .pl (.mv (.c (.int .i64 0))), none⟩] [2, 3])
  (.seq (.seq (.reg [⟨(some 5), .pl (.fa 0 (.t 2)), none⟩,
      ⟨(some 6), .pl (.load none (.t 5)), none⟩,
      ⟨(some 7), .pl (.fa 0 (.t 3)), none⟩,
      ⟨(some 8), .pl (.load none (.t 7)), none⟩,
      ⟨(some 9), .pl (.bin .neq .no (.t 6) (.t 8)), none⟩,
      ⟨(some 10), .pl (.mv (.t 9)), none⟩,
      ⟨(some 11), .pl (.fa 0 (.t 2)), (some (10, false))⟩,
      ⟨(some 12), .pl (.load none (.t 11)), (some (10, false))⟩,
      ⟨(some 13), .call (.c (.fn 157 [] [])) [(.t 12)], (some (10, false))⟩,
      ⟨(some 14), .pl (.un .not (.t 13)), (some (10, false))⟩,
      ⟨(some 15), .pl (.pick (.t 10) (.c (.bool true)) (.t 14)), none⟩] [2, 3, 15])
   (.cond (.t 15)
    (.seq (.reg [⟨(some 16), .pl (.fa 0 (.t 2)), none⟩,
        ⟨(some 17), .pl (.load none (.t 16)), none⟩,
        ⟨(some 18), .pl (.fa 0 (.t 3)), none⟩,
        ⟨(some 19), .pl (.load none (.t 18)), none⟩,
        ⟨(some 20), .pl (.bin .lss .no (.t 17) (.t 19)), none⟩,
        ⟨(some 21), .pl (.fa 0 (.t 2)), none⟩,
        ⟨(some 22), .pl (.load none (.t 21)), none⟩,
        ⟨(some 23), .pl (.fa 0 (.t 3)), none⟩,
        ⟨(some 24), .pl (.load none (.t 23)), none⟩,
        ⟨(some 25), .pl (.bin .gtr .no (.t 22) (.t 24)), none⟩,
        ⟨(some 26), .call (.c (.fn 191 [] [])) [(.t 20), (.t 25)], none⟩,
        ⟨(some 4), .pl (.mv (.t 26)), none⟩] [4])
     (.ret))
    (.skip)))
  (.seq (.seq (.reg [⟨(some 27), .pl (.fa 0 (.t 2)), none⟩,
      ⟨(some 28), .pl (.load none (.t 27)), none⟩,
      ⟨(some 29), .pl (.bin .eql .no (.t 28) (.c (.int .i64 4))), none⟩] [2, 3, 29])
   (.cond (.t 29)
    (.seq (.reg [⟨(some 30), .pl (.fa 2 (.t 2)), none⟩,
        ⟨(some 31), .pl (.load none (.t 30)), none⟩,
        ⟨(some 32), .pl (.fa 2 (.t 3)), none⟩,
        ⟨(some 33), .pl (.load none (.t 32)), none⟩,
        ⟨(some 34), .pl (.bin .lss .no (.t 31) (.t 33)), none⟩,
        ⟨(some 35), .pl (.fa 2 (.t 2)), none⟩,
        ⟨(some 36), .pl (.load none (.t 35)), none⟩,
        ⟨(some 37), .pl (.fa 2 (.t 3)), none⟩,
        ⟨(some 38), .pl (.load none (.t 37)), none⟩,
        ⟨(some 39), .pl (.bin .gtr .no (.t 36) (.t 38)), none⟩,
        ⟨(some 40), .call (.c (.fn 191 [] [])) [(.t 34), (.t 39)], none⟩,
        ⟨(some 4), .pl (.mv (.t 40)), none⟩] [4])
     (.ret))
    (.skip)))
  (.seq (.seq (.reg [⟨(some 41), .pl (.fa 0 (.t 2)), none⟩,
      ⟨(some 42), .pl (.load none (.t 41)), none⟩,
      ⟨(some 43), .pl (.bin .eql .no (.t 42) (.c (.int .i64 3))), none⟩,
      ⟨(some 44), .pl (.mv (.t 43)), none⟩,
      ⟨(some 45), .pl (.fa 1 (.t 2)), (some (44, true))⟩,
      ⟨(some 46), .pl (.load none (.t 45)), (some (44, true))⟩,
      ⟨(some 47), .pl (.bin .lss .no (.t 46) (.c (.int .i64 0))), (some (44, true))⟩,
      ⟨(some 48), .pl (.fa 1 (.t 3)), (some (44, true))⟩,
      ⟨(some 49), .pl (.load none (.t 48)), (some (44, true))⟩,
      ⟨(some 50), .pl (.bin .lss .no (.t 49) (.c (.int .i64 0))), (some (44, true))⟩,
      ⟨(some 51), .pl (.bin .neq .bool (.t 47) (.t 50)), (some (44, true))⟩,
      ⟨(some 52), .pl (.pick (.t 44) (.t 51) (.c (.bool false))), none⟩] [2, 3, 52])
   (.cond (.t 52)
    (.seq (.reg [⟨(some 53), .pl (.fa 1 (.t 3)), none⟩,
        ⟨(some 54), .pl (.load none (.t 53)), none⟩,
        ⟨(some 55), .pl (.bin .lss .no (.t 54) (.c (.int .i64 0))), none⟩,
        ⟨(some 56), .pl (.fa 1 (.t 2)), none⟩,
        ⟨(some 57), .pl (.load none (.t 56)), none⟩,
        ⟨(some 58), .pl (.bin .lss .no (.t 57) (.c (.int .i64 0))), none⟩,
        ⟨(some 59), .call (.c (.fn 191 [] [])) [(.t 55), (.t 58)], none⟩,
        ⟨(some 4), .pl (.mv (.t 59)), none⟩] [4])
     (.ret))
    (.skip)))
  (.seq (.reg [⟨(some 60), .pl (.fa 1 (.t 2)), none⟩,
     ⟨(some 61), .pl (.load none (.t 60)), none⟩,
     ⟨(some 62), .pl (.fa 1 (.t 3)), none⟩,
     ⟨(some 63), .pl (.load none (.t 62)), none⟩,
     ⟨(some 64), .pl (.bin .lss .no (.t 61) (.t 63)), none⟩,
     ⟨(some 65), .pl (.fa 1 (.t 2)), none⟩,
     ⟨(some 66), .pl (.load none (.t 65)), none⟩,
     ⟨(some 67), .pl (.fa 1 (.t 3)), none⟩,
     ⟨(some 68), .pl (.load none (.t 67)), none⟩,
     ⟨(some 69), .pl (.bin .gtr .no (.t 66) (.t 68)), none⟩,
     ⟨(some 70), .call (.c (.fn 191 [] [])) [(.t 64), (.t 69)], none⟩,
     ⟨(some 4), .pl (.mv (.t 70)), none⟩] [4])
  (.ret)))))⟩
theorem c158 : compF Tryz.prog 158 = some A158 := by kernel_rfl

/-- concourse/concourseref13.Rows -/
def A159_l0 : AC := .seq (.seq (.reg [⟨(some 26), .pl (.mv (.t 9)), none⟩,
      ⟨(some 27), .pl (.mv (.t 0)), none⟩,
      ⟨(some 28), .pl (.mv (.t 6)), none⟩,
      ⟨(some 29), .pl (.ia 5 (.t 27) (.t 28)), none⟩,
      ⟨(some 30), .pl (.fa 2 (.t 29)), none⟩,
      ⟨(some 31), .pl (.load none (.t 30)), none⟩,
      ⟨(some 32), .pl (.lenL (.t 31)), none⟩,
      ⟨(some 33), .pl (.bin .lss .no (.t 26) (.t 32)), none⟩] [0, 5, 6, 7, 8, 9, 33])
   (.cond (.t 33)
    (.skip)
    (.exit 2)))
  (.seq (.block 3 (.seq (.reg [⟨(some 36), .pl (.mv (.t 0)), none⟩,
       ⟨(some 37), .pl (.mv (.t 6)), none⟩,
       ⟨(some 38), .pl (.ia 5 (.t 36) (.t 37)), none⟩,
       ⟨(some 39), .pl (.fa 2 (.t 38)), none⟩,
       ⟨(some 40), .pl (.load none (.t 39)), none⟩,
       ⟨(some 41), .pl (.mv (.t 9)), none⟩,
       ⟨(some 42), .pl (.ia 5 (.t 40) (.t 41)), none⟩,
       ⟨(some 43), .pl (.fa 0 (.t 42)), none⟩,
       ⟨(some 44), .pl (.load none (.t 43)), none⟩,
       ⟨(some 10), .pl (.mv (.t 44)), none⟩] [0, 5, 6, 7, 8, 9, 10])
    (.seq (.reg [⟨(some 45), .pl (.mv (.t 10)), none⟩,
       ⟨(some 46), .pl (.mv (.t 7)), none⟩,
       ⟨(some 47), .pl (.bin .gtr .no (.t 45) (.t 46)), none⟩,
       ⟨(some 48), .pl (.mv (.t 47)), none⟩,
       ⟨(some 49), .pl (.mv (.t 8)), (some (48, true))⟩,
       ⟨(some 50), .pl (.bin .lss .no (.t 49) (.c (.int .i64 0))), (some (48, true))⟩,
       ⟨(some 51), .pl (.mv (.t 50)), (some (48, true))⟩,
       ⟨(some 52), .pl (.mv (.t 10)), (some (51, false))⟩,
       ⟨(some 53), .pl (.mv (.t 0)), (some (51, false))⟩,
       ⟨(some 54), .pl (.mv (.t 6)), (some (51, false))⟩,
       ⟨(some 55), .pl (.ia 5 (.t 53) (.t 54)), (some (51, false))⟩,
       ⟨(some 56), .pl (.fa 2 (.t 55)), (some (51, false))⟩,
       ⟨(some 57), .pl (.load none (.t 56)), (some (51, false))⟩,
       ⟨(some 58), .pl (.mv (.t 8)), (some (51, false))⟩,
       ⟨(some 59), .pl (.ia 5 (.t 57) (.t 58)), (some (51, false))⟩,
       ⟨(some 60), .pl (.fa 0 (.t 59)), (some (51, false))⟩,
       ⟨(some 61), .pl (.load none (.t 60)), (some (51, false))⟩,
       ⟨(some 62), .pl (.bin .lss .no (.t 52) (.t 61)), (some (51, false))⟩,
       ⟨(some 63), .pl (.pick (.t 51) (.c (.bool true)) (.t 62)), (some (48, true))⟩,
       ⟨(some 64), .pl (.pick (.t 48) (.t 63) (.c (.bool false))), none⟩] [0, 5, 6, 7, 8, 9, 64])
    (.cond (.t 64)
     (.reg [⟨(some 65), .pl (.mv (.t 9)), none⟩,
        ⟨(some 8), .pl (.mv (.t 65)), none⟩] [0, 5, 6, 7, 8, 9])
     (.skip)))))
  (.reg [⟨(some 34), .pl (.mv (.t 9)), none⟩,
    ⟨(some 35), .pl (.bin .add .no (.t 34) (.c (.int .i64 1))), none⟩,
    ⟨(some 9), .pl (.mv (.t 35)), none⟩] [0, 5, 6, 7, 8, 9]))
def A159_r0 : AC := .seq (.seq (.reg [⟨(some 66), .pl (.mv (.t 8)), none⟩,
      ⟨(some 67), .pl (.bin .lss .no (.t 66) (.c (.int .i64 0))), none⟩] [0, 5, 6, 8, 67])
   (.cond (.t 67)
    (.seq (.reg [⟨(some 68), .pl (.mv (.t 5)), none⟩,
        ⟨(some 4), .pl (.mv (.t 68)), none⟩] [4])
     (.ret))
    (.skip)))
  (.seq (.reg [⟨(some 69), .pl (.mv (.t 5)), none⟩,
     ⟨(some 70), .pl (.mv (.t 0)), none⟩,
     ⟨(some 71), .pl (.mv (.t 6)), none⟩,
     ⟨(some 72), .pl (.ia 5 (.t 70) (.t 71)), none⟩,
     ⟨(some 73), .pl (.fa 2 (.t 72)), none⟩,
     ⟨(some 74), .pl (.load none (.t 73)), none⟩,
     ⟨(some 75), .pl (.mv (.t 8)), none⟩,
     ⟨(some 76), .pl (.ia 5 (.t 74) (.t 75)), none⟩,
     ⟨(some 77), .pl (.load (some 5) (.t 76)), none⟩,
     ⟨(some 78), .pl (.lit 5 [(.t 77)]), none⟩,
     ⟨(some 79), .pl (.append 41 5 72 (.t 69) (.t 78)), none⟩,
     ⟨(some 5), .pl (.mv (.t 79)), none⟩] [0, 5, 6, 8])
  (.reg [⟨(some 80), .pl (.mv (.t 0)), none⟩,
    ⟨(some 81), .pl (.mv (.t 6)), none⟩,
    ⟨(some 82), .pl (.ia 5 (.t 80) (.t 81)), none⟩,
    ⟨(some 83), .pl (.fa 2 (.t 82)), none⟩,
    ⟨(some 84), .pl (.load none (.t 83)), none⟩,
    ⟨(some 85), .pl (.mv (.t 8)), none⟩,
    ⟨(some 86), .pl (.ia 5 (.t 84) (.t 85)), none⟩,
    ⟨(some 87), .pl (.fa 0 (.t 86)), none⟩,
    ⟨(some 88), .pl (.load none (.t 87)), none⟩,
    ⟨(some 7), .pl (.mv (.t 88)), none⟩] [0, 5, 6, 7]))
def A159_l1 : AC := .seq (.seq (.reg [⟨(some 17), .pl (.mv (.t 5)), none⟩,
      ⟨(some 18), .pl (.lenL (.t 17)), none⟩,
      ⟨(some 19), .pl (.mv (.t 0)), none⟩,
      ⟨(some 20), .pl (.mv (.t 6)), none⟩,
      ⟨(some 21), .pl (.ia 5 (.t 19) (.t 20)), none⟩,
      ⟨(some 22), .pl (.fa 2 (.t 21)), none⟩,
      ⟨(some 23), .pl (.load none (.t 22)), none⟩,
      ⟨(some 24), .pl (.lenL (.t 23)), none⟩,
      ⟨(some 25), .pl (.bin .lss .no (.t 18) (.t 24)), none⟩] [0, 5, 6, 7, 25])
   (.cond (.t 25)
    (.skip)
    (.exit 0)))
  (.block 1 (.seq (.reg [⟨(some 8), .pl (.mv (.c (.int .i64 (-1)))), none⟩] [0, 5, 6, 7, 8])
   (.seq (.seq (.reg [⟨(some 9), .pl (.mv (.c (.int .i64 0))), none⟩] [0, 5, 6, 7, 8, 9])
    (.block 2 (.loop [0, 5, 6, 7, 8, 9] A159_l0)))
   (A159_r0))))
def A159_r1 : AC := .seq (.reg [⟨(some 89), .pl (.mv (.t 5)), none⟩,
     ⟨(some 4), .pl (.mv (.t 89)), none⟩] [4])
  (.ret)
def A159 : AFun := ⟨90, [.t 4],
  .seq (.reg [⟨(some 4), .pl (.mv (.c (.esl))), none⟩] [0, 1])
  (.seq (.reg [⟨(some 5), .pl (.mv (.c (.esl))), none⟩] [0, 1, 5])
  (.seq (.reg [⟨(some 11), .pl (.mv (.t 0)), none⟩,
     ⟨(some 12), .pl (.mv (.t 1)), none⟩,
     ⟨(some 13), .call (.c (.fn 99 [] [])) [(.t 11), (.t 12)], none⟩,
     ⟨(some 6), .pl (.mv (.t 13)), none⟩] [0, 5, 6])
  (.seq (.seq (.reg [⟨(some 14), .pl (.mv (.t 6)), none⟩,
      ⟨(some 15), .pl (.bin .lss .no (.t 14) (.c (.int .i64 0))), none⟩] [0, 5, 6, 15])
   (.cond (.t 15)
    (.seq (.reg [⟨(some 16), .pl (.mv (.t 5)), none⟩,
        ⟨(some 4), .pl (.mv (.t 16)), none⟩] [4])
     (.ret))
    (.skip)))
  (.seq (.reg [⟨(some 7), .pl (.mv (.c (.int .i64 (-1)))), none⟩] [0, 5, 6, 7])
  (.seq (.block 0 (.loop [0, 5, 6, 7] A159_l1))
  (A159_r1))))))⟩
theorem c159 : compF Tryz.prog 159 = some A159 := by kernel_rfl

/-- concourse/concourseref11.Field -/
def A167_l0 : AC := .seq (.seq (.reg [⟨(some 6), .pl (.mv (.t 5)), none⟩,
      ⟨(some 7), .pl (.fa 2 (.t 2)), none⟩,
      ⟨(some 8), .pl (.load none (.t 7)), none⟩,
      ⟨(some 9), .pl (.lenL (.t 8)), none⟩,
      ⟨(some 10), .pl (.bin .lss .no (.t 6) (.t 9)), none⟩] [1, 2, 5, 10])
   (.cond (.t 10)
    (.skip)
    (.exit 0)))
  (.seq (.block 1 (.seq (.reg [⟨(some 13), .pl (.fa 2 (.t 2)), none⟩,
       ⟨(some 14), .pl (.load none (.t 13)), none⟩,
       ⟨(some 15), .pl (.mv (.t 5)), none⟩,
       ⟨(some 16), .pl (.ia 5 (.t 14) (.t 15)), none⟩,
       ⟨(some 17), .pl (.fa 0 (.t 16)), none⟩,
       ⟨(some 18), .pl (.load none (.t 17)), none⟩,
       ⟨(some 19), .pl (.mv (.t 1)), none⟩,
       ⟨(some 20), .pl (.bin .eql .no (.t 18) (.t 19)), none⟩] [1, 2, 5, 20])
    (.cond (.t 20)
     (.seq (.reg [⟨(some 21), .pl (.mv (.t 5)), none⟩,
         ⟨(some 4), .pl (.mv (.t 21)), none⟩] [4])
      (.ret))
     (.skip))))
  (.reg [⟨(some 11), .pl (.mv (.t 5)), none⟩,
    ⟨(some 12), .pl (.bin .add .no (.t 11) (.c (.int .i64 1))), none⟩,
    ⟨(some 5), .pl (.mv (.t 12)), none⟩] [1, 2, 5]))
def A167_r0 : AC := .seq (.reg [⟨(some 4), .pl (.mv (.c (.int .i64 (-1)))), none⟩] [4])
  (.ret)
def A167 : AFun := ⟨22, [.t 4],
  .seq (.reg [⟨(some 2), .pl (.box (.t 0)), none⟩,
     ⟨(some 4), .pl (.mv (.c (.int .i64 0))), none⟩] [1, 2])
  (.seq (.seq (.reg [⟨(some 5), .pl (.mv (.c (.int .i64 0))), none⟩] [1, 2, 5])
   (.block 0 (.loop [1, 2, 5] A167_l0)))
  (A167_r0))⟩
theorem c167 : compF Tryz.prog 167 = some A167 := by kernel_rfl

/-- concourse/concourseref16.has -/
def A189_l0 : AC := .seq (.seq (.reg [⟨(some 6), .pl (.mv (.t 5)), none⟩,
      ⟨(some 7), .pl (.fa 3 (.t 2)), none⟩,
      ⟨(some 8), .pl (.load none (.t 7)), none⟩,
      ⟨(some 9), .pl (.lenL (.t 8)), none⟩,
      ⟨(some 10), .pl (.bin .lss .no (.t 6) (.t 9)), none⟩] [1, 2, 5, 10])
   (.cond (.t 10)
    (.skip)
    (.exit 0)))
  (.seq (.block 1 (.seq (.reg [⟨(some 13), .pl (.fa 3 (.t 2)), none⟩,
       ⟨(some 14), .pl (.load none (.t 13)), none⟩,
       ⟨(some 15), .pl (.mv (.t 5)), none⟩,
       ⟨(some 16), .pl (.ia 1 (.t 14) (.t 15)), none⟩,
       ⟨(some 17), .pl (.load none (.t 16)), none⟩,
       ⟨(some 18), .pl (.mv (.t 1)), none⟩,
       ⟨(some 19), .pl (.bin .eql .no (.t 17) (.t 18)), none⟩] [1, 2, 5, 19])
    (.cond (.t 19)
     (.seq (.reg [⟨(some 4), .pl (.mv (.c (.bool true))), none⟩] [4])
      (.ret))
     (.skip))))
  (.reg [⟨(some 11), .pl (.mv (.t 5)), none⟩,
    ⟨(some 12), .pl (.bin .add .no (.t 11) (.c (.int .i64 1))), none⟩,
    ⟨(some 5), .pl (.mv (.t 12)), none⟩] [1, 2, 5]))
def A189_r0 : AC := .seq (.reg [⟨(some 4), .pl (.mv (.c (.bool false))), none⟩] [4])
  (.ret)
def A189 : AFun := ⟨20, [.t 4],
  .seq (.reg [⟨(some 2), .pl (.box (.t 0)), none⟩,
     ⟨(some 4), .pl (.mv (.c (.bool false))), none⟩] [1, 2])
  (.seq (.seq (.reg [⟨(some 5), .pl (.mv (.c (.int .i64 0))), none⟩] [1, 2, 5])
   (.block 0 (.loop [1, 2, 5] A189_l0)))
  (A189_r0))⟩
theorem c189 : compF Tryz.prog 189 = some A189 := by kernel_rfl

/-- concourse/concourseref03.more -/
def A190 : AFun := ⟨27, [.t 4, .t 5],
  .seq (.reg [⟨(some 4), .pl (.mv (.c (.int .i64 0))), none⟩,
     ⟨(some 5), .pl (.mv (.c (.bool false))), none⟩] [0, 1])
  (.seq (.seq (.reg [⟨(some 6), .pl (.mv (.t 1)), none⟩,
      ⟨(some 7), .pl (.mv (.t 0)), none⟩,
      ⟨(some 8), .pl (.lenS (.t 7)), none⟩,
      ⟨(some 9), .pl (.bin .geq .no (.t 6) (.t 8)), none⟩,
      ⟨(some 10), .pl (.mv (.t 9)), none⟩,
      ⟨(some 11), .pl (.mv (.t 0)), (some (10, false))⟩,
      ⟨(some 12), .pl (.mv (.t 1)), (some (10, false))⟩,
      ⟨(some 13), .pl (.ixS (.t 11) (.t 12)), (some (10, false))⟩,
      ⟨(some 14), .pl (.bin .lss .no (.t 13) (.c (.int .u8 128))), (some (10, false))⟩,
      ⟨(some 15), .pl (.pick (.t 10) (.c (.bool true)) (.t 14)), none⟩,
      ⟨(some 16), .pl (.mv (.t 15)), none⟩,
      ⟨(some 17), .pl (.mv (.t 0)), (some (16, false))⟩,
      ⟨(some 18), .pl (.mv (.t 1)), (some (16, false))⟩,
      ⟨(some 19), .pl (.ixS (.t 17) (.t 18)), (some (16, false))⟩,
      ⟨(some 20), .pl (.bin .gtr .no (.t 19) (.c (.int .u8 191))), (some (16, false))⟩,
      ⟨(some 21), .pl (.pick (.t 16) (.c (.bool true)) (.t 20)), none⟩] [0, 1, 21])
   (.cond (.t 21)
    (.seq (.reg [⟨(some 4), .pl (.mv (.c (.int .i64 0))), none⟩,
        ⟨(some 5), .pl (.mv (.c (.bool false))), none⟩] [4, 5])
     (.ret))
    (.skip)))
  (.seq (.reg [⟨(some 22), .pl (.mv (.t 0)), none⟩,
     ⟨(some 23), .pl (.mv (.t 1)), none⟩,
     ⟨(some 24), .pl (.ixS (.t 22) (.t 23)), none⟩,
     ⟨(some 25), .pl (.conv .i64 (.t 24)), none⟩,
     ⟨(some 26), .pl (.bin .sub .no (.t 25) (.c (.int .i64 128))), none⟩,
     ⟨(some 4), .pl (.mv (.t 26)), none⟩,
     ⟨(some 5), .pl (.mv (.c (.bool true))), none⟩] [4, 5])
  (.ret)))⟩
theorem c190 : compF Tryz.prog 190 = some A190 := by kernel_rfl

/-- concourse/concourseref15.order -/
def A191 : AFun := ⟨7, [.t 4],
  .seq (.reg [⟨(some 4), .pl (.mv (.c (.int .i64 0))), none⟩] [0, 1])
  (.seq (.seq (.reg [⟨(some 5), .pl (.mv (.t 0)), none⟩] [1, 5])
   (.cond (.t 5)
    (.seq (.reg [⟨(some 4), .pl (.mv (.c (.int .i64 (-1)))), none⟩] [4])
     (.ret))
    (.skip)))
  (.seq (.seq (.reg [⟨(some 6), .pl (.mv (.t 1)), none⟩] [6])
   (.cond (.t 6)
    (.seq (.reg [⟨(some 4), .pl (.mv (.c (.int .i64 1))), none⟩] [4])
     (.ret))
    (.skip)))
  (.seq (.reg [⟨(some 4), .pl (.mv (.c (.int .i64 0))), none⟩] [4])
  (.ret))))⟩
theorem c191 : compF Tryz.prog 191 = some A191 := by kernel_rfl

end Go.Proofs.YtjljhmeadfejhaaGreat
