/- The compiled form of the functions of this claim: each equation is checked by the kernel. -/
import Derived.Test.YtjljhmeadfejhaaChecked
import Derived.Test.YtjljhmeadfejhaaME3
set_option maxRecDepth 100000
namespace Go.Proofs.Ytjljhmeadfejhaa
open Go.Eng
/-- concourse/concourselaw12.CheckFinite -/
def A6_l0 : AC := .seq (.seq (.reg [⟨(some 18), .pl (.mv (.t 5)), none⟩,
      ⟨(some 19), .pl (.mv (.t 3)), none⟩,
      ⟨(some 20), .pl (.lenL (.t 19)), none⟩,
      ⟨(some 21), .pl (.bin .lss .no (.t 18) (.t 20)), none⟩] [3, 4, 5, 21])
   (.cond (.t 21)
    (.skip)
    (.exit 0)))
  (.seq (.block 1 (.seq (.regD [⟨(some 24), .pl (.mv (.t 3)), none⟩,
       ⟨(some 25), .pl (.mv (.t 5)), none⟩,
       ⟨(some 26), .pl (.ia 1 (.t 24) (.t 25)), none⟩,
       ⟨(some 27), .pl (.load none (.t 26)), none⟩,
       ⟨(some 28), .pl (.mv (.t 4)), none⟩,
       ⟨(some 29), .pl (.mv (.t 5)), none⟩,
       ⟨(some 30), .pl (.ia 1 (.t 28) (.t 29)), none⟩,
       ⟨(some 31), .pl (.load none (.t 30)), none⟩,
       ⟨(some 32), .pl (.bin .neq .bool (.t 27) (.t 31)), none⟩] [] [3, 4, 5, 32])
    (.cond (.t 32)
     (.seq (.reg [⟨(some 2), .pl (.mv (.c (.bool false))), none⟩] [2])
      (.ret))
     (.skip))))
  (.reg [⟨(some 22), .pl (.mv (.t 5)), none⟩,
    ⟨(some 23), .pl (.bin .add .no (.t 22) (.c (.int .i64 1))), none⟩,
    ⟨(some 5), .pl (.mv (.t 23)), none⟩] [3, 4, 5]))
def A6_r0 : AC := .seq (.reg [⟨(some 33), .call (.c (.fn 24 [] [])) [], none⟩,
     ⟨(some 2), .pl (.mv (.t 33)), none⟩] [2])
  (.ret)
def A6 : AFun := ⟨34, [.t 2],
  .seq (.reg [⟨(some 2), .pl (.mv (.c (.bool false))), none⟩] [0])
  (.seq (.seq (.reg [⟨(some 6), .pl (.mv (.t 0)), none⟩,
      ⟨(some 7), .call (.c (.fn 23 [] [])) [(.t 6)], none⟩] [0, 7])
   (.cond (.t 7)
    (.seq (.reg [⟨(some 8), .call (.c (.fn 24 [] [])) [], none⟩,
        ⟨(some 2), .pl (.mv (.t 8)), none⟩] [2])
     (.ret))
    (.skip)))
  (.seq (.reg [⟨(some 9), .pl (.mv (.t 0)), none⟩,
     ⟨(some 10), .call (.c (.fn 25 [] [])) [(.t 9)], none⟩,
     ⟨(some 11), .pl (.mv (.t 0)), none⟩,
     ⟨(some 12), .call (.c (.fn 26 [] [])) [(.t 11)], none⟩,
     ⟨(some 3), .pl (.mv (.t 10)), none⟩,
     ⟨(some 4), .pl (.mv (.t 12)), none⟩] [3, 4])
  (.seq (.seq (.reg [⟨(some 13), .pl (.mv (.t 3)), none⟩,
      ⟨(some 14), .pl (.lenL (.t 13)), none⟩,
      ⟨(some 15), .pl (.mv (.t 4)), none⟩,
      ⟨(some 16), .pl (.lenL (.t 15)), none⟩,
      ⟨(some 17), .pl (.bin .neq .no (.t 14) (.t 16)), none⟩] [3, 4, 17])
   (.cond (.t 17)
    (.seq (.reg [⟨(some 2), .pl (.mv (.c (.bool false))), none⟩] [2])
     (.ret))
    (.skip)))
  (.seq (.seq (.reg [⟨(some 5), .pl (.mv (.c (.int .i64 0))), none⟩] [3, 4, 5])
   (.block 0 (.loop [3, 4, 5] A6_l0)))
  (A6_r0)))))⟩
theorem c6 : compF Try.prog 6 = some A6 := by kernel_rfl

/-- concourse/concourselaw10.Great -/
def A23_l0 : AC := .seq (.seq (.reg [⟨(some 31), .pl (.mv (.t 4)), none⟩,
      ⟨(some 32), .pl (.mv (.t 0)), none⟩,
      ⟨(some 33), .pl (.mv (.t 3)), none⟩,
      ⟨(some 34), .pl (.ia 5 (.t 32) (.t 33)), none⟩,
      ⟨(some 35), .pl (.fa 2 (.t 34)), none⟩,
      ⟨(some 36), .pl (.load none (.t 35)), none⟩,
      ⟨(some 37), .pl (.lenL (.t 36)), none⟩,
      ⟨(some 38), .pl (.bin .lss .no (.t 31) (.t 37)), none⟩] [0, 3, 4, 38])
   (.cond (.t 38)
    (.skip)
    (.exit 2)))
  (.seq (.block 3 (.seq (.reg [⟨(some 41), .pl (.mv (.t 0)), none⟩,
       ⟨(some 42), .pl (.mv (.t 3)), none⟩,
       ⟨(some 43), .pl (.ia 5 (.t 41) (.t 42)), none⟩,
       ⟨(some 44), .pl (.fa 2 (.t 43)), none⟩,
       ⟨(some 45), .pl (.load none (.t 44)), none⟩,
       ⟨(some 46), .pl (.mv (.t 4)), none⟩,
       ⟨(some 47), .pl (.ia 5 (.t 45) (.t 46)), none⟩,
       ⟨(some 48), .pl (.fa 2 (.t 47)), none⟩,
       ⟨(some 49), .pl (.load (some 3) (.t 48)), none⟩,
       ⟨(some 50), .call (.c (.fn 42 [] [])) [(.t 49), (.c (.int .i64 0))], none⟩,
       ⟨(some 51), .pl (.un .not (.t 50)), none⟩] [0, 3, 4, 51])
    (.cond (.t 51)
     (.seq (.reg [⟨(some 2), .pl (.mv (.c (.bool true))), none⟩] [2])
      (.ret))
     (.skip))))
  (.reg [⟨(some 39), .pl (.mv (.t 4)), none⟩,
    ⟨(some 40), .pl (.bin .add .no (.t 39) (.c (.int .i64 1))), none⟩,
    ⟨(some 4), .pl (.mv (.t 40)), none⟩] [0, 3, 4]))
def A23_r0 : AC := .reg [⟨(some 9), .pl (.mv (.t 3)), none⟩,
    ⟨(some 10), .pl (.bin .add .no (.t 9) (.c (.int .i64 1))), none⟩,
    ⟨(some 3), .pl (.mv (.t 10)), none⟩] [0, 3]
def A23_l1 : AC := .seq (.seq (.reg [⟨(some 5), .pl (.mv (.t 3)), none⟩,
      ⟨(some 6), .pl (.mv (.t 0)), none⟩,
      ⟨(some 7), .pl (.lenL (.t 6)), none⟩,
      ⟨(some 8), .pl (.bin .lss .no (.t 5) (.t 7)), none⟩] [0, 3, 8])
   (.cond (.t 8)
    (.skip)
    (.exit 0)))
  (.seq (.block 1 (.seq (.seq (.reg [⟨(some 11), .pl (.mv (.t 3)), none⟩,
        ⟨(some 12), .pl (.bin .gtr .no (.t 11) (.c (.int .i64 20))), none⟩,
        ⟨(some 13), .pl (.mv (.t 12)), none⟩,
        ⟨(some 14), .pl (.mv (.t 0)), (some (13, false))⟩,
        ⟨(some 15), .pl (.mv (.t 3)), (some (13, false))⟩,
        ⟨(some 16), .pl (.ia 5 (.t 14) (.t 15)), (some (13, false))⟩,
        ⟨(some 17), .pl (.fa 2 (.t 16)), (some (13, false))⟩,
        ⟨(some 18), .pl (.load none (.t 17)), (some (13, false))⟩,
        ⟨(some 19), .pl (.lenL (.t 18)), (some (13, false))⟩,
        ⟨(some 20), .pl (.bin .gtr .no (.t 19) (.c (.int .i64 30))), (some (13, false))⟩,
        ⟨(some 21), .pl (.pick (.t 13) (.c (.bool true)) (.t 20)), none⟩,
        ⟨(some 22), .pl (.mv (.t 21)), none⟩,
        ⟨(some 23), .pl (.mv (.t 0)), (some (22, false))⟩,
        ⟨(some 24), .pl (.mv (.t 3)), (some (22, false))⟩,
        ⟨(some 25), .pl (.ia 5 (.t 23) (.t 24)), (some (22, false))⟩,
        ⟨(some 26), .pl (.fa 3 (.t 25)), (some (22, false))⟩,
        ⟨(some 27), .pl (.load none (.t 26)), (some (22, false))⟩,
        ⟨(some 28), .pl (.lenL (.t 27)), (some (22, false))⟩,
        ⟨(some 29), .pl (.bin .gtr .no (.t 28) (.c (.int .i64 30))), (some (22, false))⟩,
        ⟨(some 30), .pl (.pick (.t 22) (.c (.bool true)) (.t 29)), none⟩] [0, 3, 30])
     (.cond (.t 30)
      (.seq (.reg [⟨(some 2), .pl (.mv (.c (.bool true))), none⟩] [2])
       (.ret))
      (.skip)))
    (.seq (.reg [⟨(some 4), .pl (.mv (.c (.int .i64 0))), none⟩] [0, 3, 4])
    (.block 2 (.loop [0, 3, 4] A23_l0)))))
  (A23_r0))
def A23_r1 : AC := .seq (.reg [⟨(some 2), .pl (.mv (.c (.bool false))), none⟩] [2])
  (.ret)
def A23 : AFun := ⟨52, [.t 2],
  .seq (.reg [⟨(some 2), .pl (.mv (.c (.bool false))), none⟩] [0])
  (.seq (.seq (.reg [⟨(some 3), .pl (.mv (.c (.int .i64 0))), none⟩] [0, 3])
   (.block 0 (.loop [0, 3] A23_l1)))
  (A23_r1))⟩
theorem c23 : compF Try.prog 23 = some A23 := by kernel_rfl

/-- concourse/concourselaw12.awake -/
def A24 : AFun := ⟨27, [.t 0],
  .seq (.reg [⟨(some 0), .pl (.mv (.c (.bool false))), none⟩] [])
  (.seq (.reg [⟨(some 4), .pl (.build [.int .i64 0, .str ⟨#[]⟩, .esl] [(0, 1, (.c (.int .i64 6))), (1, 1, (.c (.str ⟨#[80]⟩)))]), none⟩,
     ⟨(some 1), .pl (.alloc [.int .i64 0, .str ⟨#[]⟩, .esl]), none⟩,
     ⟨none, .pl (.store 3 (.t 1) (.t 4)), none⟩] [1])
  (.seq (.reg [⟨(some 5), .pl (.load (some 3) (.t 1)), none⟩,
     ⟨(some 6), .pl (.build [.int .i64 0, .str ⟨#[]⟩, .int .i64 0, .str ⟨#[]⟩, .esl] [(0, 1, (.c (.int .i64 1))), (1, 1, (.c (.str ⟨#[112]⟩))), (2, 3, (.t 5))]), none⟩,
     ⟨(some 7), .pl (.lit 5 [(.t 6)]), none⟩,
     ⟨(some 8), .pl (.build [.int .i64 0, .str ⟨#[]⟩, .esl, .esl, .int .i64 0] [(0, 1, (.c (.int .i64 1))), (1, 1, (.c (.str ⟨#[80]⟩))), (2, 1, (.t 7))]), none⟩,
     ⟨(some 9), .pl (.lit 5 [(.t 8)]), none⟩,
     ⟨(some 2), .pl (.mv (.t 9)), none⟩] [1, 2])
  (.seq (.reg [⟨(some 10), .pl (.load (some 3) (.t 1)), none⟩,
     ⟨(some 11), .pl (.lit 3 [(.t 10)]), none⟩,
     ⟨(some 12), .pl (.build [.int .i64 0, .str ⟨#[]⟩, .esl] [(0, 1, (.c (.int .i64 9))), (2, 1, (.t 11))]), none⟩,
     ⟨(some 13), .pl (.build [.int .i64 0, .str ⟨#[]⟩, .int .i64 0, .str ⟨#[]⟩, .esl] [(0, 1, (.c (.int .i64 1))), (1, 1, (.c (.str ⟨#[112]⟩))), (2, 3, (.t 12))]), none⟩,
     ⟨(some 14), .pl (.lit 5 [(.t 13)]), none⟩,
     ⟨(some 15), .pl (.build [.int .i64 0, .str ⟨#[]⟩, .esl, .esl, .int .i64 0] [(0, 1, (.c (.int .i64 1))), (1, 1, (.c (.str ⟨#[80]⟩))), (2, 1, (.t 14))]), none⟩,
     ⟨(some 16), .pl (.lit 5 [(.t 15)]), none⟩,
     ⟨(some 3), .pl (.mv (.t 16)), none⟩] [2, 3])
  (.seq (.reg [⟨(some 17), .pl (.mv (.t 2)), none⟩,
     ⟨(some 18), .call (.c (.fn 27 [] [])) [(.t 17)], none⟩,
     ⟨(some 19), .pl (.fld 0 none (.t 18)), none⟩,
     ⟨(some 20), .pl (.bin .eql .no (.t 19) (.c (.int .i64 10))), none⟩,
     ⟨(some 21), .pl (.mv (.t 20)), none⟩,
     ⟨(some 22), .pl (.mv (.t 3)), (some (21, true))⟩,
     ⟨(some 23), .call (.c (.fn 27 [] [])) [(.t 22)], (some (21, true))⟩,
     ⟨(some 24), .pl (.fld 0 none (.t 23)), (some (21, true))⟩,
     ⟨(some 25), .pl (.bin .eql .no (.t 24) (.c (.int .i64 0))), (some (21, true))⟩,
     ⟨(some 26), .pl (.pick (.t 21) (.t 25) (.c (.bool false))), none⟩,
     ⟨(some 0), .pl (.mv (.t 26)), none⟩] [0])
  (.ret)))))⟩
theorem c24 : compF Try.prog 24 = some A24 := by kernel_rfl

/-- concourse/check.Finite -/
def A25_l0 : AC := .seq (.reg [⟨(some 18), .pl (.bin .lss .no (.t 17) (.t 16)), none⟩] [0, 3, 4, 15, 16, 17, 18])
  (.seq (.cond (.t 18)
    (.skip)
    (.exit 2))
  (.seq (.block 3 (.seq (.reg [⟨(some 19), .pl (.mv (.t 17)), none⟩,
       ⟨(some 20), .pl (.ia 5 (.t 15) (.t 17)), none⟩,
       ⟨(some 21), .pl (.load (some 5) (.t 20)), none⟩,
       ⟨(some 6), .pl (.alloc [.int .i64 0, .str ⟨#[]⟩, .esl, .esl, .int .i64 0]), none⟩,
       ⟨(some 5), .pl (.mv (.t 19)), none⟩,
       ⟨none, .pl (.store 5 (.t 6) (.t 21)), none⟩] [0, 3, 4, 5, 6, 15, 16, 17])
    (.seq (.reg [⟨(some 22), .pl (.mv (.t 4)), none⟩,
       ⟨(some 23), .pl (.mv (.t 5)), none⟩,
       ⟨(some 24), .pl (.ia 1 (.t 22) (.t 23)), none⟩,
       ⟨(some 25), .pl (.load none (.t 24)), none⟩,
       ⟨(some 26), .pl (.un .not (.t 25)), none⟩,
       ⟨(some 27), .pl (.mv (.t 26)), none⟩,
       ⟨(some 28), .pl (.mv (.t 3)), (some (27, true))⟩,
       ⟨(some 29), .pl (.load (some 5) (.t 6)), (some (27, true))⟩,
       ⟨(some 30), .pl (.mv (.t 4)), (some (27, true))⟩,
       ⟨(some 31), .call (.c (.fn 43 [] [])) [(.t 28), (.t 29), (.t 30)], (some (27, true))⟩,
       ⟨(some 32), .pl (.pick (.t 27) (.t 31) (.c (.bool false))), none⟩] [0, 3, 4, 5, 15, 16, 17, 32])
    (.cond (.t 32)
     (.seq (.reg [⟨(some 33), .pl (.mv (.t 4)), none⟩,
         ⟨(some 34), .pl (.mv (.t 5)), none⟩,
         ⟨(some 35), .pl (.ia 1 (.t 33) (.t 34)), none⟩,
         ⟨none, .pl (.store 1 (.t 35) (.c (.bool true))), none⟩] [0, 3, 4])
      (.exit 1))
     (.skip)))))
  (.reg [⟨(some 36), .pl (.bin .add .no (.t 17) (.c (.int .i64 1))), none⟩,
    ⟨(some 17), .pl (.mv (.t 36)), none⟩] [0, 3, 4, 15, 16, 17])))
def A25_l1 : AC := .block 1 (.seq (.seq (.reg [⟨(some 15), .pl (.mv (.t 0)), none⟩,
       ⟨(some 16), .pl (.lenL (.t 15)), none⟩,
       ⟨(some 17), .pl (.mv (.c (.int .i64 0))), none⟩] [0, 3, 4, 15, 16, 17])
    (.block 2 (.loop [0, 3, 4, 15, 16, 17] A25_l0)))
   (.exit 0))
def A25_r0 : AC := .seq (.reg [⟨(some 37), .pl (.mv (.t 4)), none⟩,
     ⟨(some 2), .pl (.mv (.t 37)), none⟩] [2])
  (.ret)
def A25 : AFun := ⟨38, [.t 2],
  .seq (.reg [⟨(some 2), .pl (.mv (.c (.esl))), none⟩] [0])
  (.seq (.reg [⟨(some 7), .pl (.mv (.t 0)), none⟩,
     ⟨(some 8), .pl (.mv (.t 0)), none⟩,
     ⟨(some 9), .call (.c (.fn 11 [] [])) [(.t 8)], none⟩,
     ⟨(some 10), .pl (.build [.esl, .nilp] [(0, 1, (.t 7)), (1, 1, (.t 9))]), none⟩,
     ⟨(some 11), .pl (.box (.t 10)), none⟩,
     ⟨(some 3), .pl (.mv (.t 11)), none⟩] [0, 3])
  (.seq (.reg [⟨(some 12), .pl (.mv (.t 0)), none⟩,
     ⟨(some 13), .pl (.lenL (.t 12)), none⟩,
     ⟨(some 14), .pl (.mksl 1 1 [.bool false] (.t 13) (.t 13)), none⟩,
     ⟨(some 4), .pl (.mv (.t 14)), none⟩] [0, 3, 4])
  (.seq (.skip)
  (.seq (.block 0 (.loop [0, 3, 4] A25_l1))
  (A25_r0)))))⟩
theorem c25 : compF Try.prog 25 = some A25 := by kernel_rfl

/-- concourse/concourseref12.Finite -/
def A26_l0 : AC := .seq (.seq (.reg [⟨(some 19), .pl (.mv (.t 6)), none⟩,
      ⟨(some 20), .pl (.mv (.t 0)), none⟩,
      ⟨(some 21), .pl (.lenL (.t 20)), none⟩,
      ⟨(some 22), .pl (.bin .lss .no (.t 19) (.t 21)), none⟩,
      ⟨(some 23), .pl (.mv (.t 22)), none⟩,
      ⟨(some 24), .pl (.mv (.t 6)), (some (23, true))⟩,
      ⟨(some 25), .pl (.mv (.t 5)), (some (23, true))⟩,
      ⟨(some 26), .pl (.lenL (.t 25)), (some (23, true))⟩,
      ⟨(some 27), .pl (.bin .lss .no (.t 24) (.t 26)), (some (23, true))⟩,
      ⟨(some 28), .pl (.pick (.t 23) (.t 27) (.c (.bool false))), none⟩] [0, 3, 4, 5, 6, 28])
   (.cond (.t 28)
    (.skip)
    (.exit 2)))
  (.seq (.block 3 (.reg [⟨(some 31), .pl (.mv (.t 5)), none⟩,
      ⟨(some 32), .pl (.mv (.t 6)), none⟩,
      ⟨(some 33), .pl (.mv (.t 0)), none⟩,
      ⟨(some 34), .pl (.mv (.t 0)), none⟩,
      ⟨(some 35), .pl (.mv (.t 6)), none⟩,
      ⟨(some 36), .pl (.ia 5 (.t 34) (.t 35)), none⟩,
      ⟨(some 37), .pl (.load (some 5) (.t 36)), none⟩,
      ⟨(some 38), .pl (.mv (.t 3)), none⟩,
      ⟨(some 39), .call (.c (.fn 44 [] [])) [(.t 33), (.t 37), (.t 38)], none⟩,
      ⟨(some 40), .pl (.ia 1 (.t 31) (.t 32)), none⟩,
      ⟨none, .pl (.store 1 (.t 40) (.t 39)), none⟩] [0, 3, 4, 5, 6]))
  (.reg [⟨(some 29), .pl (.mv (.t 6)), none⟩,
    ⟨(some 30), .pl (.bin .add .no (.t 29) (.c (.int .i64 1))), none⟩,
    ⟨(some 6), .pl (.mv (.t 30)), none⟩] [0, 3, 4, 5, 6]))
def A26_r0 : AC := .reg [⟨(some 41), .pl (.mv (.t 5)), none⟩,
    ⟨(some 3), .pl (.mv (.t 41)), none⟩] [0, 3, 4]
def A26_r1 : AC := .reg [⟨(some 14), .pl (.mv (.t 4)), none⟩,
    ⟨(some 15), .pl (.bin .add .no (.t 14) (.c (.int .i64 1))), none⟩,
    ⟨(some 4), .pl (.mv (.t 15)), none⟩] [0, 3, 4]
def A26_l1 : AC := .seq (.seq (.reg [⟨(some 10), .pl (.mv (.t 4)), none⟩,
      ⟨(some 11), .pl (.mv (.t 0)), none⟩,
      ⟨(some 12), .pl (.lenL (.t 11)), none⟩,
      ⟨(some 13), .pl (.bin .lss .no (.t 10) (.t 12)), none⟩] [0, 3, 4, 13])
   (.cond (.t 13)
    (.skip)
    (.exit 0)))
  (.seq (.block 1 (.seq (.reg [⟨(some 16), .pl (.mv (.t 0)), none⟩,
       ⟨(some 17), .pl (.lenL (.t 16)), none⟩,
       ⟨(some 18), .pl (.mksl 1 1 [.bool false] (.t 17) (.t 17)), none⟩,
       ⟨(some 5), .pl (.mv (.t 18)), none⟩] [0, 3, 4, 5])
    (.seq (.seq (.reg [⟨(some 6), .pl (.mv (.c (.int .i64 0))), none⟩] [0, 3, 4, 5, 6])
     (.block 2 (.loop [0, 3, 4, 5, 6] A26_l0)))
    (A26_r0))))
  (A26_r1))
def A26_r2 : AC := .seq (.reg [⟨(some 42), .pl (.mv (.t 3)), none⟩,
     ⟨(some 2), .pl (.mv (.t 42)), none⟩] [2])
  (.ret)
def A26 : AFun := ⟨43, [.t 2],
  .seq (.reg [⟨(some 2), .pl (.mv (.c (.esl))), none⟩] [0])
  (.seq (.reg [⟨(some 7), .pl (.mv (.t 0)), none⟩,
     ⟨(some 8), .pl (.lenL (.t 7)), none⟩,
     ⟨(some 9), .pl (.mksl 1 1 [.bool false] (.t 8) (.t 8)), none⟩,
     ⟨(some 3), .pl (.mv (.t 9)), none⟩] [0, 3])
  (.seq (.seq (.reg [⟨(some 4), .pl (.mv (.c (.int .i64 0))), none⟩] [0, 3, 4])
   (.block 0 (.loop [0, 3, 4] A26_l1)))
  (A26_r2)))⟩
theorem c26 : compF Try.prog 26 = some A26 := by kernel_rfl

/-- concourse/check.Check -/
def A27_l0 : AC := .seq (.reg [⟨(some 17), .pl (.bin .lss .no (.t 16) (.t 15)), none⟩] [0, 2, 3, 14, 15, 16, 17])
  (.seq (.cond (.t 17)
    (.skip)
    (.exit 0))
  (.seq (.block 1 (.seq (.reg [⟨(some 18), .pl (.mv (.t 16)), none⟩,
       ⟨(some 19), .pl (.ia 5 (.t 14) (.t 16)), none⟩,
       ⟨(some 20), .pl (.load (some 5) (.t 19)), none⟩,
       ⟨(some 5), .pl (.alloc [.int .i64 0, .str ⟨#[]⟩, .esl, .esl, .int .i64 0]), none⟩,
       ⟨(some 4), .pl (.mv (.t 18)), none⟩,
       ⟨none, .pl (.store 5 (.t 5) (.t 20)), none⟩] [0, 2, 3, 4, 5, 14, 15, 16])
    (.seq (.reg [⟨(some 21), .pl (.mv (.t 3)), none⟩,
       ⟨(some 22), .pl (.mv (.t 4)), none⟩,
       ⟨(some 23), .call (.c (.fn 45 [] [])) [(.t 21), (.t 22)], none⟩,
       ⟨(some 6), .pl (.mv (.t 23)), none⟩] [0, 2, 3, 5, 6, 14, 15, 16])
    (.seq (.reg [⟨(some 24), .pl (.mv (.t 6)), none⟩,
       ⟨(some 25), .pl (.bin .neq .no (.t 24) (.c (.int .i64 0))), none⟩] [0, 2, 3, 5, 6, 14, 15, 16, 25])
    (.cond (.t 25)
     (.seq (.reg [⟨(some 26), .pl (.mv (.t 6)), none⟩,
         ⟨(some 27), .pl (.fa 4 (.t 5)), none⟩,
         ⟨(some 28), .pl (.load none (.t 27)), none⟩,
         ⟨(some 29), .pl (.build [.int .i64 0, .int .i64 0] [(0, 1, (.t 26)), (1, 1, (.t 28))]), none⟩,
         ⟨none, .pl (.store 2 (.t 2) (.t 29)), none⟩] [2])
      (.ret))
     (.skip))))))
  (.reg [⟨(some 30), .pl (.bin .add .no (.t 16) (.c (.int .i64 1))), none⟩,
    ⟨(some 16), .pl (.mv (.t 30)), none⟩] [0, 2, 3, 14, 15, 16])))
def A27_l1 : AC := .seq (.reg [⟨(some 35), .pl (.bin .lss .no (.t 34) (.t 33)), none⟩] [0, 2, 32, 33, 34, 35])
  (.seq (.cond (.t 35)
    (.skip)
    (.exit 2))
  (.seq (.block 3 (.seq (.reg [⟨(some 36), .pl (.mv (.t 34)), none⟩,
       ⟨(some 37), .pl (.ia 1 (.t 32) (.t 34)), none⟩,
       ⟨(some 38), .pl (.load none (.t 37)), none⟩,
       ⟨(some 7), .pl (.mv (.t 36)), none⟩,
       ⟨(some 8), .pl (.mv (.t 38)), none⟩] [0, 2, 7, 8, 32, 33, 34])
    (.seq (.reg [⟨(some 39), .pl (.mv (.t 8)), none⟩,
       ⟨(some 40), .pl (.un .not (.t 39)), none⟩] [0, 2, 7, 32, 33, 34, 40])
    (.cond (.t 40)
     (.seq (.reg [⟨(some 41), .pl (.mv (.t 0)), none⟩,
         ⟨(some 42), .pl (.mv (.t 7)), none⟩,
         ⟨(some 43), .pl (.ia 5 (.t 41) (.t 42)), none⟩,
         ⟨(some 44), .pl (.fa 4 (.t 43)), none⟩,
         ⟨(some 45), .pl (.load none (.t 44)), none⟩,
         ⟨(some 46), .pl (.build [.int .i64 0, .int .i64 0] [(0, 1, (.c (.int .i64 10))), (1, 1, (.t 45))]), none⟩,
         ⟨none, .pl (.store 2 (.t 2) (.t 46)), none⟩] [2])
      (.ret))
     (.skip)))))
  (.reg [⟨(some 47), .pl (.bin .add .no (.t 34) (.c (.int .i64 1))), none⟩,
    ⟨(some 34), .pl (.mv (.t 47)), none⟩] [0, 2, 32, 33, 34])))
def A27_r0 : AC := .seq (.reg [⟨(some 48), .pl (.build [.int .i64 0, .int .i64 0] []), none⟩,
     ⟨none, .pl (.store 2 (.t 2) (.t 48)), none⟩] [2])
  (.ret)
def A27_r1 : AC := .seq (.seq (.reg [⟨(some 31), .pl (.mv (.t 0)), none⟩,
      ⟨(some 32), .call (.c (.fn 25 [] [])) [(.t 31)], none⟩,
      ⟨(some 33), .pl (.lenL (.t 32)), none⟩,
      ⟨(some 34), .pl (.mv (.c (.int .i64 0))), none⟩] [0, 2, 32, 33, 34])
   (.block 2 (.loop [0, 2, 32, 33, 34] A27_l1)))
  (A27_r0)
def A27 : AFun := ⟨49, [.cell 2 (some 2)],
  .seq (.reg [⟨(some 2), .pl (.alloc [.int .i64 0, .int .i64 0]), none⟩] [0, 2])
  (.seq (.reg [⟨(some 9), .pl (.mv (.t 0)), none⟩,
     ⟨(some 10), .pl (.mv (.t 0)), none⟩,
     ⟨(some 11), .call (.c (.fn 11 [] [])) [(.t 10)], none⟩,
     ⟨(some 12), .pl (.build [.esl, .nilp] [(0, 1, (.t 9)), (1, 1, (.t 11))]), none⟩,
     ⟨(some 13), .pl (.box (.t 12)), none⟩,
     ⟨(some 3), .pl (.mv (.t 13)), none⟩] [0, 2, 3])
  (.seq (.seq (.reg [⟨(some 14), .pl (.mv (.t 0)), none⟩,
      ⟨(some 15), .pl (.lenL (.t 14)), none⟩,
      ⟨(some 16), .pl (.mv (.c (.int .i64 0))), none⟩] [0, 2, 3, 14, 15, 16])
   (.block 0 (.loop [0, 2, 3, 14, 15, 16] A27_l0)))
  (A27_r1)))⟩
theorem c27 : compF Try.prog 27 = some A27 := by kernel_rfl

/-- concourse/concourselaw10.small -/
def A42_l0 : AC := .seq (.seq (.reg [⟨(some 14), .pl (.mv (.t 5)), none⟩,
      ⟨(some 15), .pl (.fa 2 (.t 2)), none⟩,
      ⟨(some 16), .pl (.load none (.t 15)), none⟩,
      ⟨(some 17), .pl (.lenL (.t 16)), none⟩,
      ⟨(some 18), .pl (.bin .lss .no (.t 14) (.t 17)), none⟩] [1, 2, 5, 18])
   (.cond (.t 18)
    (.skip)
    (.exit 0)))
  (.seq (.block 1 (.seq (.reg [⟨(some 21), .pl (.fa 2 (.t 2)), none⟩,
       ⟨(some 22), .pl (.load none (.t 21)), none⟩,
       ⟨(some 23), .pl (.mv (.t 5)), none⟩,
       ⟨(some 24), .pl (.ia 3 (.t 22) (.t 23)), none⟩,
       ⟨(some 25), .pl (.load (some 3) (.t 24)), none⟩,
       ⟨(some 26), .pl (.mv (.t 1)), none⟩,
       ⟨(some 27), .pl (.bin .add .no (.t 26) (.c (.int .i64 1))), none⟩,
       ⟨(some 28), .pl (.mv (.t 5)), none⟩,
       ⟨(some 29), .pl (.bin .mul .no (.c (.int .i64 2)) (.t 28)), none⟩,
       ⟨(some 30), .pl (.bin .add .no (.t 27) (.t 29)), none⟩,
       ⟨(some 31), .call (.c (.fn 42 [] [])) [(.t 25), (.t 30)], none⟩,
       ⟨(some 32), .pl (.un .not (.t 31)), none⟩] [1, 2, 5, 32])
    (.cond (.t 32)
     (.seq (.reg [⟨(some 4), .pl (.mv (.c (.bool false))), none⟩] [4])
      (.ret))
     (.skip))))
  (.reg [⟨(some 19), .pl (.mv (.t 5)), none⟩,
    ⟨(some 20), .pl (.bin .add .no (.t 19) (.c (.int .i64 1))), none⟩,
    ⟨(some 5), .pl (.mv (.t 20)), none⟩] [1, 2, 5]))
def A42_r0 : AC := .seq (.reg [⟨(some 4), .pl (.mv (.c (.bool true))), none⟩] [4])
  (.ret)
def A42 : AFun := ⟨33, [.t 4],
  .seq (.reg [⟨(some 2), .pl (.box (.t 0)), none⟩,
     ⟨(some 4), .pl (.mv (.c (.bool false))), none⟩] [1, 2])
  (.seq (.seq (.reg [⟨(some 6), .pl (.mv (.t 1)), none⟩,
      ⟨(some 7), .pl (.bin .gtr .no (.t 6) (.c (.int .i64 20))), none⟩,
      ⟨(some 8), .pl (.mv (.t 7)), none⟩,
      ⟨(some 9), .pl (.fa 2 (.t 2)), (some (8, false))⟩,
      ⟨(some 10), .pl (.load none (.t 9)), (some (8, false))⟩,
      ⟨(some 11), .pl (.lenL (.t 10)), (some (8, false))⟩,
      ⟨(some 12), .pl (.bin .gtr .no (.t 11) (.c (.int .i64 3))), (some (8, false))⟩,
      ⟨(some 13), .pl (.pick (.t 8) (.c (.bool true)) (.t 12)), none⟩] [1, 2, 13])
   (.cond (.t 13)
    (.seq (.reg [⟨(some 4), .pl (.mv (.c (.bool false))), none⟩] [4])
     (.ret))
    (.skip)))
  (.seq (.seq (.reg [⟨(some 5), .pl (.mv (.c (.int .i64 0))), none⟩] [1, 2, 5])
   (.block 0 (.loop [1, 2, 5] A42_l0)))
  (A42_r0)))⟩
theorem c42 : compF Try.prog 42 = some A42 := by kernel_rfl

/-- (*concourse/check.checker).finite -/
def A43_l0 : AC := .seq (.reg [⟨(some 23), .pl (.bin .lss .no (.t 22) (.t 21)), none⟩] [4, 7, 20, 21, 22, 23])
  (.seq (.cond (.t 23)
    (.skip)
    (.exit 1))
  (.seq (.block 2 (.seq (.reg [⟨(some 24), .pl (.ia 5 (.t 20) (.t 22)), none⟩,
       ⟨(some 25), .pl (.load (some 5) (.t 24)), none⟩,
       ⟨(some 9), .pl (.alloc [.int .i64 0, .str ⟨#[]⟩, .int .i64 0, .str ⟨#[]⟩, .esl]), none⟩,
       ⟨none, .pl (.store 5 (.t 9) (.t 25)), none⟩] [4, 7, 9, 20, 21, 22])
    (.seq (.regD [⟨(some 26), .pl (.mv (.t 7)), none⟩,
       ⟨(some 27), .pl (.fa 2 (.t 9)), none⟩,
       ⟨(some 28), .pl (.load (some 3) (.t 27)), none⟩,
       ⟨(some 29), .call (.t 26) [(.t 28)], none⟩,
       ⟨(some 30), .pl (.fa 0 (.t 4)), none⟩,
       ⟨(some 31), .pl (.load none (.t 30)), none⟩,
       ⟨(some 32), .pl (.bin .eql .no (.t 31) (.c (.int .i64 1))), none⟩,
       ⟨(some 33), .pl (.bin .neq .bool (.t 29) (.t 32)), none⟩] [(5, 3)] [4, 7, 20, 21, 22, 33])
    (.cond (.t 33)
     (.seq (.reg [⟨(some 34), .pl (.fa 0 (.t 4)), none⟩,
         ⟨(some 35), .pl (.load none (.t 34)), none⟩,
         ⟨(some 36), .pl (.bin .eql .no (.t 35) (.c (.int .i64 2))), none⟩,
         ⟨(some 6), .pl (.mv (.t 36)), none⟩] [6])
      (.ret))
     (.skip)))))
  (.reg [⟨(some 37), .pl (.bin .add .no (.t 22) (.c (.int .i64 1))), none⟩,
    ⟨(some 22), .pl (.mv (.t 37)), none⟩] [4, 7, 20, 21, 22])))
def A43_r0 : AC := .seq (.reg [⟨(some 38), .pl (.fa 0 (.t 4)), none⟩,
     ⟨(some 39), .pl (.load none (.t 38)), none⟩,
     ⟨(some 40), .pl (.bin .eql .no (.t 39) (.c (.int .i64 1))), none⟩,
     ⟨(some 6), .pl (.mv (.t 40)), none⟩] [6])
  (.ret)
def A43_r1 : AC := .seq (.reg [⟨(some 6), .pl (.mv (.c (.bool false))), none⟩] [6])
  (.ret)
def A43 : AFun := ⟨41, [.t 6],
  .seq (.reg [⟨(some 3), .pl (.box (.t 0)), none⟩,
     ⟨(some 4), .pl (.box (.t 1)), none⟩,
     ⟨(some 5), .pl (.box (.t 2)), none⟩,
     ⟨(some 6), .pl (.mv (.c (.bool false))), none⟩] [3, 4, 5])
  (.seq (.reg [⟨(some 10), .pl (.mkfn 61 [] [(.t 3), (.t 5)]), none⟩,
     ⟨(some 7), .pl (.mv (.t 10)), none⟩] [4, 7])
  (.seq (.seq (.reg [⟨(some 11), .pl (.fa 0 (.t 4)), none⟩,
      ⟨(some 12), .pl (.load none (.t 11)), none⟩] [4, 7, 12])
   (.block 0 (.seq (.seq (.reg [⟨(some 14), .pl (.bin .eql .no (.t 12) (.c (.int .i64 3))), none⟩,
        ⟨(some 13), .pl (.mv (.t 14)), none⟩] [4, 7, 12, 13])
     (.cond (.t 13)
      (.skip)
      (.reg [⟨(some 15), .pl (.bin .eql .no (.t 12) (.c (.int .i64 4))), none⟩,
         ⟨(some 13), .pl (.mv (.t 15)), none⟩] [4, 7, 12, 13])))
    (.cond (.t 13)
     (.seq (.reg [⟨(some 6), .pl (.mv (.c (.bool true))), none⟩] [6])
      (.ret))
     (.seq (.seq (.reg [⟨(some 17), .pl (.bin .eql .no (.t 12) (.c (.int .i64 1))), none⟩,
          ⟨(some 16), .pl (.mv (.t 17)), none⟩] [4, 7, 12, 16])
       (.cond (.t 16)
        (.skip)
        (.reg [⟨(some 18), .pl (.bin .eql .no (.t 12) (.c (.int .i64 2))), none⟩,
           ⟨(some 16), .pl (.mv (.t 18)), none⟩] [4, 7, 16])))
      (.cond (.t 16)
       (.seq (.seq (.reg [⟨(some 19), .pl (.fa 2 (.t 4)), none⟩,
            ⟨(some 20), .pl (.load none (.t 19)), none⟩,
            ⟨(some 21), .pl (.lenL (.t 20)), none⟩,
            ⟨(some 22), .pl (.mv (.c (.int .i64 0))), none⟩] [4, 7, 20, 21, 22])
         (.block 1 (.loop [4, 7, 20, 21, 22] A43_l0)))
        (A43_r0))
       (.skip)))))))
  (A43_r1)))⟩
theorem c43 : compF Try.prog 43 = some A43 := by kernel_rfl

/-- concourse/concourseref12.one -/
def A44_l0 : AC := .seq (.seq (.reg [⟨(some 9), .pl (.mv (.t 8)), none⟩,
      ⟨(some 10), .pl (.fa 2 (.t 4)), none⟩,
      ⟨(some 11), .pl (.load none (.t 10)), none⟩,
      ⟨(some 12), .pl (.lenL (.t 11)), none⟩,
      ⟨(some 13), .pl (.bin .lss .no (.t 9) (.t 12)), none⟩] [0, 2, 4, 7, 8, 13])
   (.cond (.t 13)
    (.skip)
    (.exit 0)))
  (.seq (.block 1 (.seq (.reg [⟨(some 16), .pl (.mv (.t 0)), none⟩,
       ⟨(some 17), .pl (.fa 2 (.t 4)), none⟩,
       ⟨(some 18), .pl (.load none (.t 17)), none⟩,
       ⟨(some 19), .pl (.mv (.t 8)), none⟩,
       ⟨(some 20), .pl (.ia 5 (.t 18) (.t 19)), none⟩,
       ⟨(some 21), .pl (.fa 2 (.t 20)), none⟩,
       ⟨(some 22), .pl (.load (some 3) (.t 21)), none⟩,
       ⟨(some 23), .pl (.mv (.t 2)), none⟩,
       ⟨(some 24), .call (.c (.fn 62 [] [])) [(.t 16), (.t 22), (.t 23)], none⟩] [0, 2, 4, 7, 8, 24])
    (.cond (.t 24)
     (.reg [⟨(some 25), .pl (.mv (.t 7)), none⟩,
        ⟨(some 26), .pl (.bin .add .no (.t 25) (.c (.int .i64 1))), none⟩,
        ⟨(some 7), .pl (.mv (.t 26)), none⟩] [0, 2, 4, 7, 8])
     (.skip))))
  (.reg [⟨(some 14), .pl (.mv (.t 8)), none⟩,
    ⟨(some 15), .pl (.bin .add .no (.t 14) (.c (.int .i64 1))), none⟩,
    ⟨(some 8), .pl (.mv (.t 15)), none⟩] [0, 2, 4, 7, 8]))
def A44_r0 : AC := .seq (.reg [⟨(some 27), .pl (.fa 0 (.t 4)), none⟩,
     ⟨(some 28), .pl (.load none (.t 27)), none⟩,
     ⟨(some 29), .pl (.bin .eql .no (.t 28) (.c (.int .i64 3))), none⟩,
     ⟨(some 30), .pl (.mv (.t 29)), none⟩,
     ⟨(some 31), .pl (.fa 0 (.t 4)), (some (30, false))⟩,
     ⟨(some 32), .pl (.load none (.t 31)), (some (30, false))⟩,
     ⟨(some 33), .pl (.bin .eql .no (.t 32) (.c (.int .i64 4))), (some (30, false))⟩,
     ⟨(some 34), .pl (.pick (.t 30) (.c (.bool true)) (.t 33)), none⟩,
     ⟨(some 35), .pl (.mv (.t 34)), none⟩,
     ⟨(some 36), .pl (.fa 0 (.t 4)), (some (35, false))⟩,
     ⟨(some 37), .pl (.load none (.t 36)), (some (35, false))⟩,
     ⟨(some 38), .pl (.bin .eql .no (.t 37) (.c (.int .i64 1))), (some (35, false))⟩,
     ⟨(some 39), .pl (.mv (.t 38)), (some (35, false))⟩,
     ⟨(some 40), .pl (.mv (.t 7)), (some (39, true))⟩,
     ⟨(some 41), .pl (.fa 2 (.t 4)), (some (39, true))⟩,
     ⟨(some 42), .pl (.load none (.t 41)), (some (39, true))⟩,
     ⟨(some 43), .pl (.lenL (.t 42)), (some (39, true))⟩,
     ⟨(some 44), .pl (.bin .eql .no (.t 40) (.t 43)), (some (39, true))⟩,
     ⟨(some 45), .pl (.pick (.t 39) (.t 44) (.c (.bool false))), (some (35, false))⟩,
     ⟨(some 46), .pl (.pick (.t 35) (.c (.bool true)) (.t 45)), none⟩,
     ⟨(some 47), .pl (.mv (.t 46)), none⟩,
     ⟨(some 48), .pl (.fa 0 (.t 4)), (some (47, false))⟩,
     ⟨(some 49), .pl (.load none (.t 48)), (some (47, false))⟩,
     ⟨(some 50), .pl (.bin .eql .no (.t 49) (.c (.int .i64 2))), (some (47, false))⟩,
     ⟨(some 51), .pl (.mv (.t 50)), (some (47, false))⟩,
     ⟨(some 52), .pl (.mv (.t 7)), (some (51, true))⟩,
     ⟨(some 53), .pl (.bin .gtr .no (.t 52) (.c (.int .i64 0))), (some (51, true))⟩,
     ⟨(some 54), .pl (.pick (.t 51) (.t 53) (.c (.bool false))), (some (47, false))⟩,
     ⟨(some 55), .pl (.pick (.t 47) (.c (.bool true)) (.t 54)), none⟩,
     ⟨(some 6), .pl (.mv (.t 55)), none⟩] [6])
  (.ret)
def A44 : AFun := ⟨56, [.t 6],
  .seq (.reg [⟨(some 4), .pl (.box (.t 1)), none⟩,
     ⟨(some 6), .pl (.mv (.c (.bool false))), none⟩] [0, 2, 4])
  (.seq (.reg [⟨(some 7), .pl (.mv (.c (.int .i64 0))), none⟩] [0, 2, 4, 7])
  (.seq (.seq (.reg [⟨(some 8), .pl (.mv (.c (.int .i64 0))), none⟩] [0, 2, 4, 7, 8])
   (.block 0 (.loop [0, 2, 4, 7, 8] A44_l0)))
  (A44_r0)))⟩
theorem c44 : compF Try.prog 44 = some A44 := by kernel_rfl

/-- (*concourse/check.checker).decl -/
def A45_l0 : AC := .seq (.reg [⟨(some 55), .pl (.bin .lss .no (.t 54) (.t 53)), none⟩] [0, 5, 8, 9, 10, 52, 53, 54, 55])
  (.seq (.cond (.t 55)
    (.skip)
    (.exit 1))
  (.seq (.block 2 (.seq (.reg [⟨(some 56), .pl (.ia 5 (.t 52) (.t 54)), none⟩,
       ⟨(some 57), .pl (.load (some 5) (.t 56)), none⟩,
       ⟨(some 12), .pl (.alloc [.int .i64 0, .str ⟨#[]⟩, .int .i64 0, .str ⟨#[]⟩, .esl]), none⟩,
       ⟨none, .pl (.store 5 (.t 12) (.t 57)), none⟩] [0, 5, 8, 9, 10, 12, 52, 53, 54])
    (.seq (.seq (.reg [⟨(some 58), .pl (.mv (.t 10)), none⟩,
        ⟨(some 59), .pl (.fa 0 (.t 12)), none⟩,
        ⟨(some 60), .pl (.load none (.t 59)), none⟩,
        ⟨(some 61), .pl (.fa 1 (.t 12)), none⟩,
        ⟨(some 62), .pl (.load none (.t 61)), none⟩,
        ⟨(some 63), .pl (.mv (.t 8)), none⟩,
        ⟨(some 64), .pl (.mv (.t 9)), none⟩,
        ⟨(some 65), .call (.c (.fn 63 [] [])) [(.t 58), (.t 60), (.t 62), (.t 63), (.t 64)], none⟩,
        ⟨(some 13), .pl (.mv (.t 65)), none⟩] [0, 5, 8, 9, 10, 12, 13, 52, 53, 54])
     (.seq (.reg [⟨(some 66), .pl (.mv (.t 13)), none⟩,
        ⟨(some 67), .pl (.bin .neq .no (.t 66) (.c (.int .i64 0))), none⟩] [0, 5, 8, 9, 10, 12, 13, 52, 53, 54, 67])
     (.cond (.t 67)
      (.seq (.reg [⟨(some 68), .pl (.mv (.t 13)), none⟩,
          ⟨(some 4), .pl (.mv (.t 68)), none⟩] [4])
       (.ret))
      (.skip))))
    (.seq (.reg [⟨(some 69), .pl (.mv (.t 0)), none⟩,
       ⟨(some 70), .pl (.load (some 5) (.t 5)), none⟩,
       ⟨(some 71), .pl (.load (some 5) (.t 12)), none⟩,
       ⟨(some 72), .call (.c (.fn 64 [] [])) [(.t 69), (.t 70), (.t 71)], none⟩,
       ⟨(some 14), .pl (.mv (.t 72)), none⟩] [0, 5, 8, 9, 10, 14, 52, 53, 54])
    (.seq (.reg [⟨(some 73), .pl (.mv (.t 14)), none⟩,
       ⟨(some 74), .pl (.bin .neq .no (.t 73) (.c (.int .i64 0))), none⟩] [0, 5, 8, 9, 10, 14, 52, 53, 54, 74])
    (.cond (.t 74)
     (.seq (.reg [⟨(some 75), .pl (.mv (.t 14)), none⟩,
         ⟨(some 4), .pl (.mv (.t 75)), none⟩] [4])
      (.ret))
     (.skip)))))))
  (.reg [⟨(some 76), .pl (.bin .add .no (.t 54) (.c (.int .i64 1))), none⟩,
    ⟨(some 54), .pl (.mv (.t 76)), none⟩] [0, 5, 8, 9, 10, 52, 53, 54])))
def A45_l1 : AC := .seq (.reg [⟨(some 81), .pl (.bin .lss .no (.t 80) (.t 79)), none⟩] [0, 5, 8, 9, 10, 78, 79, 80, 81])
  (.seq (.cond (.t 81)
    (.skip)
    (.exit 3))
  (.seq (.block 4 (.seq (.reg [⟨(some 82), .pl (.ia 5 (.t 78) (.t 80)), none⟩,
       ⟨(some 83), .pl (.load (some 5) (.t 82)), none⟩,
       ⟨(some 16), .pl (.alloc [.int .i64 0, .str ⟨#[]⟩, .str ⟨#[]⟩, .str ⟨#[]⟩, .bool false]), none⟩,
       ⟨none, .pl (.store 5 (.t 16) (.t 83)), none⟩] [0, 5, 8, 9, 10, 16, 78, 79, 80])
    (.seq (.seq (.reg [⟨(some 84), .pl (.mv (.t 10)), none⟩,
        ⟨(some 85), .pl (.fa 0 (.t 16)), none⟩,
        ⟨(some 86), .pl (.load none (.t 85)), none⟩,
        ⟨(some 87), .pl (.fa 1 (.t 16)), none⟩,
        ⟨(some 88), .pl (.load none (.t 87)), none⟩,
        ⟨(some 89), .pl (.mv (.t 8)), none⟩,
        ⟨(some 90), .pl (.mv (.t 9)), none⟩,
        ⟨(some 91), .call (.c (.fn 63 [] [])) [(.t 84), (.t 86), (.t 88), (.t 89), (.t 90)], none⟩,
        ⟨(some 17), .pl (.mv (.t 91)), none⟩] [0, 5, 8, 9, 10, 16, 17, 78, 79, 80])
     (.seq (.reg [⟨(some 92), .pl (.mv (.t 17)), none⟩,
        ⟨(some 93), .pl (.bin .neq .no (.t 92) (.c (.int .i64 0))), none⟩] [0, 5, 8, 9, 10, 16, 17, 78, 79, 80, 93])
     (.cond (.t 93)
      (.seq (.reg [⟨(some 94), .pl (.mv (.t 17)), none⟩,
          ⟨(some 4), .pl (.mv (.t 94)), none⟩] [4])
       (.ret))
      (.skip))))
    (.seq (.reg [⟨(some 95), .pl (.mv (.t 0)), none⟩,
       ⟨(some 96), .pl (.load (some 5) (.t 16)), none⟩,
       ⟨(some 97), .call (.c (.fn 65 [] [])) [(.t 95), (.t 96)], none⟩,
       ⟨(some 18), .pl (.mv (.t 97)), none⟩] [0, 5, 8, 9, 10, 18, 78, 79, 80])
    (.seq (.reg [⟨(some 98), .pl (.mv (.t 18)), none⟩,
       ⟨(some 99), .pl (.bin .neq .no (.t 98) (.c (.int .i64 0))), none⟩] [0, 5, 8, 9, 10, 18, 78, 79, 80, 99])
    (.cond (.t 99)
     (.seq (.reg [⟨(some 100), .pl (.mv (.t 18)), none⟩,
         ⟨(some 4), .pl (.mv (.t 100)), none⟩] [4])
      (.ret))
     (.skip)))))))
  (.reg [⟨(some 101), .pl (.bin .add .no (.t 80) (.c (.int .i64 1))), none⟩,
    ⟨(some 80), .pl (.mv (.t 101)), none⟩] [0, 5, 8, 9, 10, 78, 79, 80])))
def A45_r0 : AC := .seq (.seq (.reg [⟨(some 102), .pl (.fa 0 (.t 5)), none⟩,
      ⟨(some 103), .pl (.load none (.t 102)), none⟩,
      ⟨(some 104), .pl (.bin .eql .no (.t 103) (.c (.int .i64 2))), none⟩,
      ⟨(some 105), .pl (.mv (.t 104)), none⟩,
      ⟨(some 106), .pl (.fa 0 (.t 5)), (some (105, false))⟩,
      ⟨(some 107), .pl (.load none (.t 106)), (some (105, false))⟩,
      ⟨(some 108), .pl (.bin .eql .no (.t 107) (.c (.int .i64 3))), (some (105, false))⟩,
      ⟨(some 109), .pl (.pick (.t 105) (.c (.bool true)) (.t 108)), none⟩,
      ⟨(some 110), .pl (.mv (.t 109)), none⟩,
      ⟨(some 111), .pl (.fa 2 (.t 5)), (some (110, true))⟩,
      ⟨(some 112), .pl (.load none (.t 111)), (some (110, true))⟩,
      ⟨(some 113), .pl (.lenL (.t 112)), (some (110, true))⟩,
      ⟨(some 114), .pl (.bin .eql .no (.t 113) (.c (.int .i64 0))), (some (110, true))⟩,
      ⟨(some 115), .pl (.pick (.t 110) (.t 114) (.c (.bool false))), none⟩] [115])
   (.cond (.t 115)
    (.seq (.reg [⟨(some 4), .pl (.mv (.c (.int .i64 12))), none⟩] [4])
     (.ret))
    (.skip)))
  (.seq (.reg [⟨(some 4), .pl (.mv (.c (.int .i64 0))), none⟩] [4])
  (.ret))
def A45_r1 : AC := .seq (.seq (.reg [⟨(some 77), .pl (.fa 3 (.t 5)), none⟩,
      ⟨(some 78), .pl (.load none (.t 77)), none⟩,
      ⟨(some 79), .pl (.lenL (.t 78)), none⟩,
      ⟨(some 80), .pl (.mv (.c (.int .i64 0))), none⟩] [0, 5, 8, 9, 10, 78, 79, 80])
   (.block 3 (.loop [0, 5, 8, 9, 10, 78, 79, 80] A45_l1)))
  (A45_r0)
def A45 : AFun := ⟨116, [.t 4],
  .seq (.reg [⟨(some 4), .pl (.mv (.c (.int .i64 0))), none⟩] [0, 1])
  (.seq (.reg [⟨(some 19), .pl (.mv (.t 0)), none⟩,
     ⟨(some 20), .pl (.nilck (.t 19)), none⟩,
     ⟨(some 21), .pl (.fa 0 (.t 20)), none⟩,
     ⟨(some 22), .pl (.load none (.t 21)), none⟩,
     ⟨(some 23), .pl (.mv (.t 1)), none⟩,
     ⟨(some 24), .pl (.ia 5 (.t 22) (.t 23)), none⟩,
     ⟨(some 25), .pl (.load (some 5) (.t 24)), none⟩,
     ⟨(some 5), .pl (.alloc [.int .i64 0, .str ⟨#[]⟩, .esl, .esl, .int .i64 0]), none⟩,
     ⟨none, .pl (.store 5 (.t 5) (.t 25)), none⟩] [0, 1, 5])
  (.seq (.seq (.regD [⟨(some 27), .pl (.mv (.t 0)), none⟩,
      ⟨(some 28), .pl (.nilck (.t 27)), none⟩,
      ⟨(some 29), .pl (.fa 1 (.t 28)), none⟩,
      ⟨(some 30), .pl (.load none (.t 29)), none⟩,
      ⟨(some 31), .pl (.fa 1 (.t 5)), none⟩,
      ⟨(some 32), .pl (.load none (.t 31)), none⟩,
      ⟨(some 33), .call (.c (.fn 12 [] [])) [(.t 30), (.t 32)], none⟩,
      ⟨(some 26), .pl (.mv (.t 33)), none⟩,
      ⟨(some 34), .pl (.ext 0 (.t 26)), none⟩,
      ⟨(some 35), .pl (.ext 1 (.t 26)), none⟩,
      ⟨(some 6), .pl (.mv (.t 34)), none⟩,
      ⟨(some 7), .pl (.mv (.t 35)), none⟩] [] [0, 1, 5, 6])
   (.seq (.reg [⟨(some 36), .pl (.mv (.t 6)), none⟩,
      ⟨(some 37), .pl (.mv (.t 1)), none⟩,
      ⟨(some 38), .pl (.bin .neq .no (.t 36) (.t 37)), none⟩] [0, 5, 38])
   (.cond (.t 38)
    (.seq (.reg [⟨(some 4), .pl (.mv (.c (.int .i64 7))), none⟩] [4])
     (.ret))
    (.skip))))
  (.seq (.reg [⟨(some 8), .pl (.mv (.c (.int .i64 1))), none⟩,
     ⟨(some 9), .pl (.mv (.c (.int .i64 255))), none⟩] [0, 5, 8, 9])
  (.seq (.seq (.reg [⟨(some 39), .pl (.fa 0 (.t 5)), none⟩,
      ⟨(some 40), .pl (.load none (.t 39)), none⟩] [0, 5, 8, 9, 40])
   (.block 0 (.seq (.seq (.reg [⟨(some 42), .pl (.bin .eql .no (.t 40) (.c (.int .i64 1))), none⟩,
        ⟨(some 41), .pl (.mv (.t 42)), none⟩] [0, 5, 8, 9, 40, 41])
     (.cond (.t 41)
      (.skip)
      (.seq (.reg [⟨(some 43), .pl (.bin .eql .no (.t 40) (.c (.int .i64 2))), none⟩,
          ⟨(some 41), .pl (.mv (.t 43)), none⟩] [0, 5, 8, 9, 40, 41])
       (.cond (.t 41)
        (.skip)
        (.reg [⟨(some 44), .pl (.bin .eql .no (.t 40) (.c (.int .i64 4))), none⟩,
           ⟨(some 41), .pl (.mv (.t 44)), none⟩] [0, 5, 8, 9, 40, 41])))))
    (.cond (.t 41)
     (.skip)
     (.seq (.reg [⟨(some 46), .pl (.bin .eql .no (.t 40) (.c (.int .i64 3))), none⟩,
         ⟨(some 45), .pl (.mv (.t 46)), none⟩] [0, 5, 45])
      (.cond (.t 45)
       (.reg [⟨(some 8), .pl (.mv (.c (.int .i64 0))), none⟩,
          ⟨(some 9), .pl (.mv (.c (.int .i64 9999))), none⟩] [0, 5, 8, 9])
       (.seq (.reg [⟨(some 4), .pl (.mv (.c (.int .i64 4))), none⟩] [4])
        (.ret))))))))
  (.seq (.reg [⟨(some 47), .pl (.mkmap), none⟩,
     ⟨(some 48), .pl (.mkmap), none⟩,
     ⟨(some 49), .pl (.build [.nilmap, .nilmap] [(0, 1, (.t 47)), (1, 1, (.t 48))]), none⟩,
     ⟨(some 50), .pl (.box (.t 49)), none⟩,
     ⟨(some 10), .pl (.mv (.t 50)), none⟩] [0, 5, 8, 9, 10])
  (.seq (.seq (.reg [⟨(some 51), .pl (.fa 2 (.t 5)), none⟩,
      ⟨(some 52), .pl (.load none (.t 51)), none⟩,
      ⟨(some 53), .pl (.lenL (.t 52)), none⟩,
      ⟨(some 54), .pl (.mv (.c (.int .i64 0))), none⟩] [0, 5, 8, 9, 10, 52, 53, 54])
   (.block 1 (.loop [0, 5, 8, 9, 10, 52, 53, 54] A45_l0)))
  (A45_r1)))))))⟩
theorem c45 : compF Try.prog 45 = some A45 := by kernel_rfl

/-- (*concourse/check.checker).finite$1 -/
def A61 : AFun := ⟨29, [.t 4],
  .seq (.reg [⟨(some 3), .pl (.box (.t 0)), none⟩,
     ⟨(some 4), .pl (.mv (.c (.bool false))), none⟩] [1, 2, 3])
  (.seq (.regD [⟨(some 8), .pl (.load none (.t 1)), none⟩,
     ⟨(some 9), .pl (.nilck (.t 8)), none⟩,
     ⟨(some 10), .pl (.fa 1 (.t 9)), none⟩,
     ⟨(some 11), .pl (.load none (.t 10)), none⟩,
     ⟨(some 12), .pl (.fa 1 (.t 3)), none⟩,
     ⟨(some 13), .pl (.load none (.t 12)), none⟩,
     ⟨(some 14), .call (.c (.fn 12 [] [])) [(.t 11), (.t 13)], none⟩,
     ⟨(some 7), .pl (.mv (.t 14)), none⟩,
     ⟨(some 15), .pl (.ext 0 (.t 7)), none⟩,
     ⟨(some 16), .pl (.ext 1 (.t 7)), none⟩,
     ⟨(some 5), .pl (.mv (.t 15)), none⟩,
     ⟨(some 6), .pl (.mv (.t 16)), none⟩] [] [2, 3, 5, 6])
  (.seq (.reg [⟨(some 17), .pl (.fa 0 (.t 3)), none⟩,
     ⟨(some 18), .pl (.load none (.t 17)), none⟩,
     ⟨(some 19), .pl (.bin .neq .no (.t 18) (.c (.int .i64 6))), none⟩,
     ⟨(some 20), .pl (.mv (.t 19)), none⟩,
     ⟨(some 21), .pl (.mv (.t 6)), (some (20, false))⟩,
     ⟨(some 22), .pl (.mv (.t 21)), (some (20, false))⟩,
     ⟨(some 23), .pl (.load none (.t 2)), (some (22, true))⟩,
     ⟨(some 24), .pl (.mv (.t 5)), (some (22, true))⟩,
     ⟨(some 25), .pl (.ia 1 (.t 23) (.t 24)), (some (22, true))⟩,
     ⟨(some 26), .pl (.load none (.t 25)), (some (22, true))⟩,
     ⟨(some 27), .pl (.pick (.t 22) (.t 26) (.c (.bool false))), (some (20, false))⟩,
     ⟨(some 28), .pl (.pick (.t 20) (.c (.bool true)) (.t 27)), none⟩,
     ⟨(some 4), .pl (.mv (.t 28)), none⟩] [4])
  (.ret)))⟩
theorem c61 : compF Try.prog 61 = some A61 := by kernel_rfl

/-- concourse/concourseref12.fine -/
def A62 : AFun := ⟨23, [.t 6],
  .seq (.reg [⟨(some 4), .pl (.box (.t 1)), none⟩,
     ⟨(some 6), .pl (.mv (.c (.bool false))), none⟩] [0, 2, 4])
  (.seq (.seq (.reg [⟨(some 8), .pl (.fa 0 (.t 4)), none⟩,
      ⟨(some 9), .pl (.load none (.t 8)), none⟩,
      ⟨(some 10), .pl (.bin .neq .no (.t 9) (.c (.int .i64 6))), none⟩] [0, 2, 4, 10])
   (.cond (.t 10)
    (.seq (.reg [⟨(some 6), .pl (.mv (.c (.bool true))), none⟩] [6])
     (.ret))
    (.skip)))
  (.seq (.reg [⟨(some 11), .pl (.mv (.t 0)), none⟩,
     ⟨(some 12), .pl (.fa 1 (.t 4)), none⟩,
     ⟨(some 13), .pl (.load none (.t 12)), none⟩,
     ⟨(some 14), .call (.c (.fn 13 [] [])) [(.t 11), (.t 13)], none⟩,
     ⟨(some 7), .pl (.mv (.t 14)), none⟩] [2, 7])
  (.seq (.reg [⟨(some 15), .pl (.mv (.t 7)), none⟩,
     ⟨(some 16), .pl (.bin .geq .no (.t 15) (.c (.int .i64 0))), none⟩,
     ⟨(some 17), .pl (.mv (.t 16)), none⟩,
     ⟨(some 18), .pl (.mv (.t 2)), (some (17, true))⟩,
     ⟨(some 19), .pl (.mv (.t 7)), (some (17, true))⟩,
     ⟨(some 20), .pl (.ia 1 (.t 18) (.t 19)), (some (17, true))⟩,
     ⟨(some 21), .pl (.load none (.t 20)), (some (17, true))⟩,
     ⟨(some 22), .pl (.pick (.t 17) (.t 21) (.c (.bool false))), none⟩,
     ⟨(some 6), .pl (.mv (.t 22)), none⟩] [6])
  (.ret))))⟩
theorem c62 : compF Try.prog 62 = some A62 := by kernel_rfl

/-- (*concourse/check.seen).row -/
def A63 : AFun := ⟨49, [.t 10],
  .seq (.reg [⟨(some 10), .pl (.mv (.c (.int .i64 0))), none⟩] [0, 1, 2, 3, 4])
  (.seq (.seq (.reg [⟨(some 11), .pl (.mv (.t 1)), none⟩,
      ⟨(some 12), .pl (.mv (.t 3)), none⟩,
      ⟨(some 13), .pl (.bin .lss .no (.t 11) (.t 12)), none⟩,
      ⟨(some 14), .pl (.mv (.t 13)), none⟩,
      ⟨(some 15), .pl (.mv (.t 1)), (some (14, false))⟩,
      ⟨(some 16), .pl (.mv (.t 4)), (some (14, false))⟩,
      ⟨(some 17), .pl (.bin .gtr .no (.t 15) (.t 16)), (some (14, false))⟩,
      ⟨(some 18), .pl (.pick (.t 14) (.c (.bool true)) (.t 17)), none⟩] [0, 1, 2, 18])
   (.cond (.t 18)
    (.seq (.reg [⟨(some 10), .pl (.mv (.c (.int .i64 9))), none⟩] [10])
     (.ret))
    (.skip)))
  (.seq (.reg [⟨(some 19), .pl (.mv (.t 0)), none⟩,
     ⟨(some 20), .pl (.nilck (.t 19)), none⟩,
     ⟨(some 21), .pl (.fa 0 (.t 20)), none⟩,
     ⟨(some 22), .pl (.load none (.t 21)), none⟩,
     ⟨(some 23), .pl (.mv (.t 1)), none⟩,
     ⟨(some 24), .pl (.lookup false (.int .i64 0) false (.t 22) (.t 23)), none⟩,
     ⟨(some 25), .pl (.bin .add .no (.t 24) (.c (.int .i64 1))), none⟩,
     ⟨none, .pl (.mupd false (.t 22) (.t 23) (.t 25)), none⟩] [0, 1, 2])
  (.seq (.reg [⟨(some 26), .pl (.mv (.t 0)), none⟩,
     ⟨(some 27), .pl (.nilck (.t 26)), none⟩,
     ⟨(some 28), .pl (.fa 1 (.t 27)), none⟩,
     ⟨(some 29), .pl (.load none (.t 28)), none⟩,
     ⟨(some 30), .pl (.mv (.t 2)), none⟩,
     ⟨(some 31), .pl (.lookup true (.int .i64 0) false (.t 29) (.t 30)), none⟩,
     ⟨(some 32), .pl (.bin .add .no (.t 31) (.c (.int .i64 1))), none⟩,
     ⟨none, .pl (.mupd true (.t 29) (.t 30) (.t 32)), none⟩] [0, 1, 2])
  (.seq (.seq (.reg [⟨(some 33), .pl (.mv (.t 0)), none⟩,
      ⟨(some 34), .pl (.nilck (.t 33)), none⟩,
      ⟨(some 35), .pl (.fa 0 (.t 34)), none⟩,
      ⟨(some 36), .pl (.load none (.t 35)), none⟩,
      ⟨(some 37), .pl (.mv (.t 1)), none⟩,
      ⟨(some 38), .pl (.lookup false (.int .i64 0) false (.t 36) (.t 37)), none⟩,
      ⟨(some 39), .pl (.bin .gtr .no (.t 38) (.c (.int .i64 1))), none⟩,
      ⟨(some 40), .pl (.mv (.t 39)), none⟩,
      ⟨(some 41), .pl (.mv (.t 0)), (some (40, false))⟩,
      ⟨(some 42), .pl (.nilck (.t 41)), (some (40, false))⟩,
      ⟨(some 43), .pl (.fa 1 (.t 42)), (some (40, false))⟩,
      ⟨(some 44), .pl (.load none (.t 43)), (some (40, false))⟩,
      ⟨(some 45), .pl (.mv (.t 2)), (some (40, false))⟩,
      ⟨(some 46), .pl (.lookup true (.int .i64 0) false (.t 44) (.t 45)), (some (40, false))⟩,
      ⟨(some 47), .pl (.bin .gtr .no (.t 46) (.c (.int .i64 1))), (some (40, false))⟩,
      ⟨(some 48), .pl (.pick (.t 40) (.c (.bool true)) (.t 47)), none⟩] [48])
   (.cond (.t 48)
    (.seq (.reg [⟨(some 10), .pl (.mv (.c (.int .i64 7))), none⟩] [10])
     (.ret))
    (.skip)))
  (.seq (.reg [⟨(some 10), .pl (.mv (.c (.int .i64 0))), none⟩] [10])
  (.ret))))))⟩
theorem c63 : compF Try.prog 63 = some A63 := by kernel_rfl

/-- (*concourse/check.checker).field -/
def A64 : AFun := ⟨27, [.t 6],
  .seq (.reg [⟨(some 4), .pl (.box (.t 1)), none⟩,
     ⟨(some 5), .pl (.box (.t 2)), none⟩,
     ⟨(some 6), .pl (.mv (.c (.int .i64 0))), none⟩] [0, 4, 5])
  (.seq (.seq (.reg [⟨(some 8), .pl (.fa 0 (.t 4)), none⟩,
      ⟨(some 9), .pl (.load none (.t 8)), none⟩,
      ⟨(some 10), .pl (.bin .eql .no (.t 9) (.c (.int .i64 3))), none⟩] [0, 4, 5, 10])
   (.cond (.t 10)
    (.seq (.reg [⟨(some 6), .pl (.mv (.c (.int .i64 0))), none⟩] [6])
     (.ret))
    (.skip)))
  (.seq (.seq (.reg [⟨(some 11), .pl (.mv (.t 0)), none⟩,
      ⟨(some 12), .pl (.fa 2 (.t 5)), none⟩,
      ⟨(some 13), .pl (.load (some 3) (.t 12)), none⟩,
      ⟨(some 14), .call (.c (.fn 86 [] [])) [(.t 11), (.t 13), (.c (.bool false))], none⟩,
      ⟨(some 7), .pl (.mv (.t 14)), none⟩] [4, 5, 7])
   (.seq (.reg [⟨(some 15), .pl (.mv (.t 7)), none⟩,
      ⟨(some 16), .pl (.bin .neq .no (.t 15) (.c (.int .i64 0))), none⟩] [4, 5, 7, 16])
   (.cond (.t 16)
    (.seq (.reg [⟨(some 17), .pl (.mv (.t 7)), none⟩,
        ⟨(some 6), .pl (.mv (.t 17)), none⟩] [6])
     (.ret))
    (.skip))))
  (.seq (.seq (.reg [⟨(some 18), .pl (.fa 0 (.t 4)), none⟩,
      ⟨(some 19), .pl (.load none (.t 18)), none⟩,
      ⟨(some 20), .pl (.bin .eql .no (.t 19) (.c (.int .i64 2))), none⟩,
      ⟨(some 21), .pl (.mv (.t 20)), none⟩,
      ⟨(some 22), .pl (.fa 2 (.t 5)), (some (21, true))⟩,
      ⟨(some 23), .pl (.fa 0 (.t 22)), (some (21, true))⟩,
      ⟨(some 24), .pl (.load none (.t 23)), (some (21, true))⟩,
      ⟨(some 25), .pl (.bin .eql .no (.t 24) (.c (.int .i64 9))), (some (21, true))⟩,
      ⟨(some 26), .pl (.pick (.t 21) (.t 25) (.c (.bool false))), none⟩] [26])
   (.cond (.t 26)
    (.seq (.reg [⟨(some 6), .pl (.mv (.c (.int .i64 8))), none⟩] [6])
     (.ret))
    (.skip)))
  (.seq (.reg [⟨(some 6), .pl (.mv (.c (.int .i64 0))), none⟩] [6])
  (.ret)))))⟩
theorem c64 : compF Try.prog 64 = some A64 := by kernel_rfl

/-- (*concourse/check.checker).method -/
def A65_l0 : AC := .seq (.reg [⟨(some 16), .pl (.bin .lss .no (.t 15) (.t 14)), none⟩] [0, 13, 14, 15, 16])
  (.seq (.cond (.t 16)
    (.skip)
    (.exit 0))
  (.seq (.block 1 (.seq (.reg [⟨(some 17), .pl (.ia 1 (.t 13) (.t 15)), none⟩,
       ⟨(some 18), .pl (.load none (.t 17)), none⟩,
       ⟨(some 6), .pl (.mv (.t 18)), none⟩] [0, 6, 13, 14, 15])
    (.seq (.seq (.reg [⟨(some 20), .pl (.mv (.t 0)), none⟩,
        ⟨(some 21), .pl (.nilck (.t 20)), none⟩,
        ⟨(some 22), .pl (.fa 1 (.t 21)), none⟩,
        ⟨(some 23), .pl (.load none (.t 22)), none⟩,
        ⟨(some 24), .pl (.mv (.t 6)), none⟩,
        ⟨(some 25), .call (.c (.fn 12 [] [])) [(.t 23), (.t 24)], none⟩,
        ⟨(some 19), .pl (.mv (.t 25)), none⟩,
        ⟨(some 26), .pl (.ext 0 (.t 19)), none⟩,
        ⟨(some 27), .pl (.ext 1 (.t 19)), none⟩,
        ⟨(some 7), .pl (.mv (.t 26)), none⟩,
        ⟨(some 8), .pl (.mv (.t 27)), none⟩] [0, 6, 8, 13, 14, 15])
     (.seq (.reg [⟨(some 28), .pl (.mv (.t 8)), none⟩,
        ⟨(some 29), .pl (.un .not (.t 28)), none⟩] [0, 6, 13, 14, 15, 29])
     (.cond (.t 29)
      (.seq (.reg [⟨(some 4), .pl (.mv (.c (.int .i64 6))), none⟩] [4])
       (.ret))
      (.skip))))
    (.seq (.reg [⟨(some 30), .pl (.mv (.t 0)), none⟩,
       ⟨(some 31), .pl (.nilck (.t 30)), none⟩,
       ⟨(some 32), .pl (.fa 1 (.t 31)), none⟩,
       ⟨(some 33), .pl (.load none (.t 32)), none⟩,
       ⟨(some 34), .pl (.mv (.t 6)), none⟩,
       ⟨(some 35), .call (.c (.fn 14 [] [])) [(.t 33), (.t 34)], none⟩,
       ⟨(some 36), .pl (.bin .neq .no (.t 35) (.c (.int .i64 1))), none⟩] [0, 13, 14, 15, 36])
    (.cond (.t 36)
     (.seq (.reg [⟨(some 4), .pl (.mv (.c (.int .i64 8))), none⟩] [4])
      (.ret))
     (.skip))))))
  (.reg [⟨(some 37), .pl (.bin .add .no (.t 15) (.c (.int .i64 1))), none⟩,
    ⟨(some 15), .pl (.mv (.t 37)), none⟩] [0, 13, 14, 15])))
def A65_r0 : AC := .seq (.reg [⟨(some 4), .pl (.mv (.c (.int .i64 0))), none⟩] [4])
  (.ret)
def A65 : AFun := ⟨38, [.t 4],
  .seq (.reg [⟨(some 3), .pl (.box (.t 1)), none⟩,
     ⟨(some 4), .pl (.mv (.c (.int .i64 0))), none⟩] [0, 3])
  (.seq (.seq (.reg [⟨(some 9), .pl (.fa 2 (.t 3)), none⟩,
      ⟨(some 10), .pl (.load none (.t 9)), none⟩,
      ⟨(some 11), .pl (.fa 3 (.t 3)), none⟩,
      ⟨(some 12), .pl (.load none (.t 11)), none⟩,
      ⟨(some 13), .pl (.lit 1 [(.t 10), (.t 12)]), none⟩,
      ⟨(some 14), .pl (.lenL (.t 13)), none⟩,
      ⟨(some 15), .pl (.mv (.c (.int .i64 0))), none⟩] [0, 13, 14, 15])
   (.block 0 (.loop [0, 13, 14, 15] A65_l0)))
  (A65_r0))⟩
theorem c65 : compF Try.prog 65 = some A65 := by kernel_rfl

end Go.Proofs.Ytjljhmeadfejhaa
