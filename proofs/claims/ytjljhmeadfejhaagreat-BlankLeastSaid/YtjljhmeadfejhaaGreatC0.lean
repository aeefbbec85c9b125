/- The compiled form of the functions of this claim: each equation is checked by the kernel. -/
import Derived.Test.YtjljhmeadfejhaaGreatChecked
import Derived.Test.YtjljhmeadfejhaaGreatME3
set_option maxRecDepth 100000
namespace Go.Proofs.YtjljhmeadfejhaaGreat
open Go.Eng
/-- concourse/concourselaw14.CompatTypes -/
def A7 : AFun := ⟨29, [.t 4],
  .seq (.reg [⟨(some 2), .pl (.box (.t 0)), none⟩,
     ⟨(some 3), .pl (.box (.t 1)), none⟩,
     ⟨(some 4), .pl (.mv (.c (.bool false))), none⟩] [2, 3])
  (.seq (.seq (.reg [⟨(some 5), .pl (.load (some 3) (.t 2)), none⟩,
      ⟨(some 6), .pl (.build [.int .i64 0, .str ⟨#[]⟩, .int .i64 0, .str ⟨#[]⟩, .esl] [(2, 3, (.t 5))]), none⟩,
      ⟨(some 7), .pl (.load (some 3) (.t 3)), none⟩,
      ⟨(some 8), .pl (.build [.int .i64 0, .str ⟨#[]⟩, .int .i64 0, .str ⟨#[]⟩, .esl] [(2, 3, (.t 7))]), none⟩,
      ⟨(some 9), .pl (.lit 5 [(.t 6), (.t 8)]), none⟩,
      ⟨(some 10), .pl (.build [.int .i64 0, .str ⟨#[]⟩, .esl, .esl, .int .i64 0] [(2, 1, (.t 9))]), none⟩,
      ⟨(some 11), .pl (.lit 5 [(.t 10)]), none⟩,
      ⟨(some 12), .call (.c (.fn 17 [] [])) [(.t 11)], none⟩] [2, 3, 12])
   (.cond (.t 12)
    (.seq (.reg [⟨(some 13), .call (.c (.fn 33 [] [])) [], none⟩,
        ⟨(some 4), .pl (.mv (.t 13)), none⟩] [4])
     (.ret))
    (.skip)))
  (.seq (.regD [⟨(some 14), .pl (.load (some 3) (.t 2)), none⟩,
     ⟨(some 15), .pl (.load (some 3) (.t 3)), none⟩,
     ⟨(some 16), .call (.c (.fn 34 [] [])) [(.t 14), (.t 15)], none⟩,
     ⟨(some 17), .pl (.load (some 3) (.t 2)), none⟩,
     ⟨(some 18), .pl (.load (some 3) (.t 3)), none⟩,
     ⟨(some 19), .call (.c (.fn 35 [] [])) [(.t 17), (.t 18)], none⟩,
     ⟨(some 20), .pl (.bin .eql .bool (.t 16) (.t 19)), none⟩,
     ⟨(some 21), .pl (.mv (.t 20)), none⟩,
     ⟨(some 22), .pl (.load (some 3) (.t 2)), (some (21, true))⟩,
     ⟨(some 23), .pl (.load (some 3) (.t 2)), (some (21, true))⟩,
     ⟨(some 24), .call (.c (.fn 34 [] [])) [(.t 22), (.t 23)], (some (21, true))⟩,
     ⟨(some 25), .pl (.pick (.t 21) (.t 24) (.c (.bool false))), none⟩,
     ⟨(some 26), .pl (.mv (.t 25)), none⟩,
     ⟨(some 27), .call (.c (.fn 33 [] [])) [], (some (26, true))⟩,
     ⟨(some 28), .pl (.pick (.t 26) (.t 27) (.c (.bool false))), none⟩,
     ⟨(some 4), .pl (.mv (.t 28)), none⟩] [(3, 2), (4, 2)] [4])
  (.ret)))⟩
theorem c7 : compF Tryz.prog 7 = some A7 := by kernel_rfl

/-- concourse/concourselaw10.Great -/
def A17_l0 : AC := .seq (.seq (.reg [⟨(some 31), .pl (.mv (.t 4)), none⟩,
      ⟨(some 32), .pl (.mv (.t 0)), none⟩,
      ⟨(some 33), .pl (.mv (.t 3)), none⟩,
      ⟨(some 34), .pl (.ia 5 (.t 32) (.t 33)), none⟩,
      ⟨(some 35), .pl (.fa 2 (.t 34)), none⟩,
      ⟨(some 36), .pl (.load none (.t 35)), none⟩,
      ⟨(some 37), .pl (.lenL (.t 36)), none⟩,
      ⟨(some 38), .pl (.bin .lss .no (.t 31) (.t 37)), none⟩] [0, 3, 4, 38])
   (.cond (.t 38)
    (.skip)
    (.exit 2)))
  (.seq (.block 3 (.seq (.reg [⟨(some 41), .pl (.mv (.t 0)), none⟩,
       ⟨(some 42), .pl (.mv (.t 3)), none⟩,
       ⟨(some 43), .pl (.ia 5 (.t 41) (.t 42)), none⟩,
       ⟨(some 44), .pl (.fa 2 (.t 43)), none⟩,
       ⟨(some 45), .pl (.load none (.t 44)), none⟩,
       ⟨(some 46), .pl (.mv (.t 4)), none⟩,
       ⟨(some 47), .pl (.ia 5 (.t 45) (.t 46)), none⟩,
       ⟨(some 48), .pl (.fa 2 (.t 47)), none⟩,
       ⟨(some 49), .pl (.load (some 3) (.t 48)), none⟩,
       ⟨(some 50), .call (.c (.fn 53 [] [])) [(.t 49), (.c (.int .i64 0))], none⟩,
       ⟨(some 51), .pl (.un .not (.t 50)), none⟩] [0, 3, 4, 51])
    (.cond (.t 51)
     (.seq (.reg [⟨(some 2), .pl (.mv (.c (.bool true))), none⟩] [2])
      (.ret))
     (.skip))))
  (.reg [⟨(some 39), .pl (.mv (.t 4)), none⟩,
    ⟨(some 40), .pl (.bin .add .no (.t 39) (.c (.int .i64 1))), none⟩,
    ⟨(some 4), .pl (.mv (.t 40)), none⟩] [0, 3, 4]))
def A17_r0 : AC := .reg [⟨(some 9), .pl (.mv (.t 3)), none⟩,
    ⟨(some 10), .pl (.bin .add .no (.t 9) (.c (.int .i64 1))), none⟩,
    ⟨(some 3), .pl (.mv (.t 10)), none⟩] [0, 3]
def A17_l1 : AC := .seq (.seq (.reg [⟨(some 5), .pl (.mv (.t 3)), none⟩,
      ⟨(some 6), .pl (.mv (.t 0)), none⟩,
      ⟨(some 7), .pl (.lenL (.t 6)), none⟩,
      ⟨(some 8), .pl (.bin .lss .no (.t 5) (.t 7)), none⟩] [0, 3, 8])
   (.cond (.t 8)
    (.skip)
    (.exit 0)))
  (.seq (.block 1 (.seq (.seq (.reg [⟨(some 11), .pl (.mv (.t 3)), none⟩,
        ⟨(some 12), .pl (.bin .gtr .no (.t 11) (.c (.int .i64 20))), none⟩,
        ⟨(some 13), .pl (.mv (.t 12)), none⟩,
        ⟨(some 14), .pl (.mv (.t 0)), (some (13, false))⟩,
        ⟨(some 15), .pl (.mv (.t 3)), (some (13, false))⟩,
        ⟨(some 16), .pl (.ia 5 (.t 14) (.t 15)), (some (13, false))⟩,
        ⟨(some 17), .pl (.fa 2 (.t 16)), (some (13, false))⟩,
        ⟨(some 18), .pl (.load none (.t 17)), (some (13, false))⟩,
        ⟨(some 19), .pl (.lenL (.t 18)), (some (13, false))⟩,
        ⟨(some 20), .pl (.bin .gtr .no (.t 19) (.c (.int .i64 30))), (some (13, false))⟩,
        ⟨(some 21), .pl (.pick (.t 13) (.c (.bool true)) (.t 20)), none⟩,
        ⟨(some 22), .pl (.mv (.t 21)), none⟩,
        ⟨(some 23), .pl (.mv (.t 0)), (some (22, false))⟩,
        ⟨(some 24), .pl (.mv (.t 3)), (some (22, false))⟩,
        ⟨(some 25), .pl (.ia 5 (.t 23) (.t 24)), (some (22, false))⟩,
        ⟨(some 26), .pl (.fa 3 (.t 25)), (some (22, false))⟩,
        ⟨(some 27), .pl (.load none (.t 26)), (some (22, false))⟩,
        ⟨(some 28), .pl (.lenL (.t 27)), (some (22, false))⟩,
        ⟨(some 29), .pl (.bin .gtr .no (.t 28) (.c (.int .i64 30))), (some (22, false))⟩,
        ⟨(some 30), .pl (.pick (.t 22) (.c (.bool true)) (.t 29)), none⟩] [0, 3, 30])
     (.cond (.t 30)
      (.seq (.reg [⟨(some 2), .pl (.mv (.c (.bool true))), none⟩] [2])
       (.ret))
      (.skip)))
    (.seq (.reg [⟨(some 4), .pl (.mv (.c (.int .i64 0))), none⟩] [0, 3, 4])
    (.block 2 (.loop [0, 3, 4] A17_l0)))))
  (A17_r0))
def A17_r1 : AC := .seq (.reg [⟨(some 2), .pl (.mv (.c (.bool false))), none⟩] [2])
  (.ret)
def A17 : AFun := ⟨52, [.t 2],
  .seq (.reg [⟨(some 2), .pl (.mv (.c (.bool false))), none⟩] [0])
  (.seq (.seq (.reg [⟨(some 3), .pl (.mv (.c (.int .i64 0))), none⟩] [0, 3])
   (.block 0 (.loop [0, 3] A17_l1)))
  (A17_r1))⟩
theorem c17 : compF Tryz.prog 17 = some A17 := by kernel_rfl

/-- concourse/concourseref09.SameType -/
def A35_l0 : AC := .seq (.seq (.reg [⟨(some 27), .pl (.mv (.t 5)), none⟩,
      ⟨(some 28), .pl (.fa 2 (.t 2)), none⟩,
      ⟨(some 29), .pl (.load none (.t 28)), none⟩,
      ⟨(some 30), .pl (.lenL (.t 29)), none⟩,
      ⟨(some 31), .pl (.bin .lss .no (.t 27) (.t 30)), none⟩] [2, 3, 5, 31])
   (.cond (.t 31)
    (.skip)
    (.exit 0)))
  (.seq (.block 1 (.seq (.regD [⟨(some 34), .pl (.fa 2 (.t 2)), none⟩,
       ⟨(some 35), .pl (.load none (.t 34)), none⟩,
       ⟨(some 36), .pl (.mv (.t 5)), none⟩,
       ⟨(some 37), .pl (.ia 3 (.t 35) (.t 36)), none⟩,
       ⟨(some 38), .pl (.load (some 3) (.t 37)), none⟩,
       ⟨(some 39), .pl (.fa 2 (.t 3)), none⟩,
       ⟨(some 40), .pl (.load none (.t 39)), none⟩,
       ⟨(some 41), .pl (.mv (.t 5)), none⟩,
       ⟨(some 42), .pl (.ia 3 (.t 40) (.t 41)), none⟩,
       ⟨(some 43), .pl (.load (some 3) (.t 42)), none⟩,
       ⟨(some 44), .call (.c (.fn 35 [] [])) [(.t 38), (.t 43)], none⟩,
       ⟨(some 45), .pl (.un .not (.t 44)), none⟩] [] [2, 3, 5, 45])
    (.cond (.t 45)
     (.seq (.reg [⟨(some 4), .pl (.mv (.c (.bool false))), none⟩] [4])
      (.ret))
     (.skip))))
  (.reg [⟨(some 32), .pl (.mv (.t 5)), none⟩,
    ⟨(some 33), .pl (.bin .add .no (.t 32) (.c (.int .i64 1))), none⟩,
    ⟨(some 5), .pl (.mv (.t 33)), none⟩] [2, 3, 5]))
def A35_r0 : AC := .seq (.reg [⟨(some 4), .pl (.mv (.c (.bool true))), none⟩] [4])
  (.ret)
def A35 : AFun := ⟨46, [.t 4],
  .seq (.reg [⟨(some 2), .pl (.box (.t 0)), none⟩,
     ⟨(some 3), .pl (.box (.t 1)), none⟩,
     ⟨(some 4), .pl (.mv (.c (.bool false))), none⟩] [2, 3])
  (.seq (.seq (.reg [⟨(some 6), .pl (.fa 0 (.t 2)), none⟩,
      ⟨(some 7), .pl (.load none (.t 6)), none⟩,
      ⟨(some 8), .pl (.fa 0 (.t 3)), none⟩,
      ⟨(some 9), .pl (.load none (.t 8)), none⟩,
      ⟨(some 10), .pl (.bin .neq .no (.t 7) (.t 9)), none⟩,
      ⟨(some 11), .pl (.mv (.t 10)), none⟩,
      ⟨(some 12), .pl (.fa 1 (.t 2)), (some (11, false))⟩,
      ⟨(some 13), .pl (.load none (.t 12)), (some (11, false))⟩,
      ⟨(some 14), .pl (.fa 1 (.t 3)), (some (11, false))⟩,
      ⟨(some 15), .pl (.load none (.t 14)), (some (11, false))⟩,
      ⟨(some 16), .pl (.bin .neq .no (.t 13) (.t 15)), (some (11, false))⟩,
      ⟨(some 17), .pl (.pick (.t 11) (.c (.bool true)) (.t 16)), none⟩,
      ⟨(some 18), .pl (.mv (.t 17)), none⟩,
      ⟨(some 19), .pl (.fa 2 (.t 2)), (some (18, false))⟩,
      ⟨(some 20), .pl (.load none (.t 19)), (some (18, false))⟩,
      ⟨(some 21), .pl (.lenL (.t 20)), (some (18, false))⟩,
      ⟨(some 22), .pl (.fa 2 (.t 3)), (some (18, false))⟩,
      ⟨(some 23), .pl (.load none (.t 22)), (some (18, false))⟩,
      ⟨(some 24), .pl (.lenL (.t 23)), (some (18, false))⟩,
      ⟨(some 25), .pl (.bin .neq .no (.t 21) (.t 24)), (some (18, false))⟩,
      ⟨(some 26), .pl (.pick (.t 18) (.c (.bool true)) (.t 25)), none⟩] [2, 3, 26])
   (.cond (.t 26)
    (.seq (.reg [⟨(some 4), .pl (.mv (.c (.bool false))), none⟩] [4])
     (.ret))
    (.skip)))
  (.seq (.seq (.reg [⟨(some 5), .pl (.mv (.c (.int .i64 0))), none⟩] [2, 3, 5])
   (.block 0 (.loop [2, 3, 5] A35_l0)))
  (A35_r0)))⟩
theorem c35 : compF Tryz.prog 35 = some A35 := by kernel_rfl

/-- concourse/concourselaw10.small -/
def A53_l0 : AC := .seq (.seq (.reg [⟨(some 14), .pl (.mv (.t 5)), none⟩,
      ⟨(some 15), .pl (.fa 2 (.t 2)), none⟩,
      ⟨(some 16), .pl (.load none (.t 15)), none⟩,
      ⟨(some 17), .pl (.lenL (.t 16)), none⟩,
      ⟨(some 18), .pl (.bin .lss .no (.t 14) (.t 17)), none⟩] [1, 2, 5, 18])
   (.cond (.t 18)
    (.skip)
    (.exit 0)))
  (.seq (.block 1 (.seq (.reg [⟨(some 21), .pl (.fa 2 (.t 2)), none⟩,
       ⟨(some 22), .pl (.load none (.t 21)), none⟩,
       ⟨(some 23), .pl (.mv (.t 5)), none⟩,
       ⟨(some 24), .pl (.ia 3 (.t 22) (.t 23)), none⟩,
       ⟨(some 25), .pl (.load (some 3) (.t 24)), none⟩,
       ⟨(some 26), .pl (.mv (.t 1)), none⟩,
       ⟨(some 27), .pl (.bin .add .no (.t 26) (.c (.int .i64 1))), none⟩,
       ⟨(some 28), .pl (.mv (.t 5)), none⟩,
       ⟨(some 29), .pl (.bin .mul .no (.c (.int .i64 2)) (.t 28)), none⟩,
       ⟨(some 30), .pl (.bin .add .no (.t 27) (.t 29)), none⟩,
       ⟨(some 31), .call (.c (.fn 53 [] [])) [(.t 25), (.t 30)], none⟩,
       ⟨(some 32), .pl (.un .not (.t 31)), none⟩] [1, 2, 5, 32])
    (.cond (.t 32)
     (.seq (.reg [⟨(some 4), .pl (.mv (.c (.bool false))), none⟩] [4])
      (.ret))
     (.skip))))
  (.reg [⟨(some 19), .pl (.mv (.t 5)), none⟩,
    ⟨(some 20), .pl (.bin .add .no (.t 19) (.c (.int .i64 1))), none⟩,
    ⟨(some 5), .pl (.mv (.t 20)), none⟩] [1, 2, 5]))
def A53_r0 : AC := .seq (.reg [⟨(some 4), .pl (.mv (.c (.bool true))), none⟩] [4])
  (.ret)
def A53 : AFun := ⟨33, [.t 4],
  .seq (.reg [⟨(some 2), .pl (.box (.t 0)), none⟩,
     ⟨(some 4), .pl (.mv (.c (.bool false))), none⟩] [1, 2])
  (.seq (.seq (.reg [⟨(some 6), .pl (.mv (.t 1)), none⟩,
      ⟨(some 7), .pl (.bin .gtr .no (.t 6) (.c (.int .i64 20))), none⟩,
      ⟨(some 8), .pl (.mv (.t 7)), none⟩,
      ⟨(some 9), .pl (.fa 2 (.t 2)), (some (8, false))⟩,
      ⟨(some 10), .pl (.load none (.t 9)), (some (8, false))⟩,
      ⟨(some 11), .pl (.lenL (.t 10)), (some (8, false))⟩,
      ⟨(some 12), .pl (.bin .gtr .no (.t 11) (.c (.int .i64 3))), (some (8, false))⟩,
      ⟨(some 13), .pl (.pick (.t 8) (.c (.bool true)) (.t 12)), none⟩] [1, 2, 13])
   (.cond (.t 13)
    (.seq (.reg [⟨(some 4), .pl (.mv (.c (.bool false))), none⟩] [4])
     (.ret))
    (.skip)))
  (.seq (.seq (.reg [⟨(some 5), .pl (.mv (.c (.int .i64 0))), none⟩] [1, 2, 5])
   (.block 0 (.loop [1, 2, 5] A53_l0)))
  (A53_r0)))⟩
theorem c53 : compF Tryz.prog 53 = some A53 := by kernel_rfl

/-- (*sync.Once).Do -/
def A80 : AFun := ⟨12, [],
  .seq (.reg [⟨(some 4), .pl (.mv (.t 0)), none⟩,
     ⟨(some 5), .pl (.nilck (.t 4)), none⟩,
     ⟨(some 6), .pl (.fa 0 (.t 5)), none⟩,
     ⟨(some 7), .call (.c (.fn 138 [] [])) [(.t 6)], none⟩,
     ⟨(some 8), .pl (.un .not (.t 7)), none⟩] [0, 1, 8])
  (.cond (.t 8)
   (.reg [⟨(some 9), .pl (.mv (.t 0)), none⟩,
      ⟨(some 10), .pl (.mv (.t 1)), none⟩,
      ⟨(some 11), .call (.c (.fn 139 [] [])) [(.t 9), (.t 10)], none⟩] [])
   (.skip))⟩
theorem c80 : compF Tryz.prog 80 = some A80 := by kernel_rfl

/-- (*sync/atomic.Bool).Load -/
def A138 : AFun := ⟨8, [.t 2],
  .seq (.reg [⟨(some 2), .pl (.mv (.c (.bool false))), none⟩] [0])
  (.seq (.reg [⟨(some 3), .pl (.mv (.t 0)), none⟩,
     ⟨(some 4), .pl (.nilck (.t 3)), none⟩,
     ⟨(some 5), .pl (.fa 0 (.t 4)), none⟩,
     ⟨(some 6), .call (.c (.fn 179 [] [])) [(.t 5)], none⟩,
     ⟨(some 7), .pl (.bin .neq .no (.t 6) (.c (.int .u32 0))), none⟩,
     ⟨(some 2), .pl (.mv (.t 7)), none⟩] [2])
  (.ret))⟩
theorem c138 : compF Tryz.prog 138 = some A138 := by kernel_rfl

/-- (*sync.Mutex).Lock -/
def A180 : AFun := ⟨6, [],
  .reg [⟨(some 2), .pl (.mv (.t 0)), none⟩,
    ⟨(some 3), .pl (.nilck (.t 2)), none⟩,
    ⟨(some 4), .pl (.fa 0 (.t 3)), none⟩,
    ⟨(some 5), .call (.c (.fn 205 [] [])) [(.t 4)], none⟩] []⟩
theorem c180 : compF Tryz.prog 180 = some A180 := by kernel_rfl

/-- (*sync.Mutex).Unlock -/
def A181 : AFun := ⟨6, [],
  .reg [⟨(some 2), .pl (.mv (.t 0)), none⟩,
    ⟨(some 3), .pl (.nilck (.t 2)), none⟩,
    ⟨(some 4), .pl (.fa 0 (.t 3)), none⟩,
    ⟨(some 5), .call (.c (.fn 206 [] [])) [(.t 4)], none⟩] []⟩
theorem c181 : compF Tryz.prog 181 = some A181 := by kernel_rfl

/-- (*sync/atomic.Bool).Store -/
def A182 : AFun := ⟨10, [],
  .regD [⟨(some 4), .pl (.mv (.t 0)), none⟩,
    ⟨(some 5), .pl (.nilck (.t 4)), none⟩,
    ⟨(some 6), .pl (.fa 0 (.t 5)), none⟩,
    ⟨(some 7), .pl (.mv (.t 1)), none⟩,
    ⟨(some 8), .call (.c (.fn 208 [] [])) [(.t 7)], none⟩,
    ⟨(some 9), .call (.c (.fn 207 [] [])) [(.t 6), (.t 8)], none⟩] [] []⟩
theorem c182 : compF Tryz.prog 182 = some A182 := by kernel_rfl

/-- strings.HasPrefix -/
def A198 : AFun := ⟨8, [.t 4],
  .seq (.reg [⟨(some 4), .pl (.mv (.c (.bool false))), none⟩] [0, 1])
  (.seq (.reg [⟨(some 5), .pl (.mv (.t 0)), none⟩,
     ⟨(some 6), .pl (.mv (.t 1)), none⟩,
     ⟨(some 7), .call (.c (.fn 210 [] [])) [(.t 5), (.t 6)], none⟩,
     ⟨(some 4), .pl (.mv (.t 7)), none⟩] [4])
  (.ret))⟩
theorem c198 : compF Tryz.prog 198 = some A198 := by kernel_rfl

/-- (*internal/sync.Mutex).Lock -/
def A205 : AFun := ⟨13, [],
  .seq (.reg [⟨(some 2), .call (.c (.fn 213 [] [])) [], none⟩] [0])
  (.seq (.seq (.reg [⟨(some 3), .pl (.mv (.t 0)), none⟩,
      ⟨(some 4), .pl (.nilck (.t 3)), none⟩,
      ⟨(some 5), .pl (.fa 0 (.t 4)), none⟩,
      ⟨(some 6), .call (.c (.fn 214 [] [])) [(.t 5), (.c (.int .i32 0)), (.c (.int .i32 1))], none⟩] [0, 6])
   (.cond (.t 6)
    (.seq (.cond (.c (.bool true))
       (.seq (.reg [⟨(some 7), .call (.c (.fn 215 [] [])) [], none⟩] [0])
        (.reg [⟨(some 8), .pl (.mv (.t 0)), none⟩,
          ⟨(some 9), .pl (.cvp (.t 8)), none⟩,
          ⟨(some 10), .call (.c (.fn 216 [] [])) [(.t 9)], none⟩] []))
       (.skip))
     (.ret))
    (.skip)))
  (.reg [⟨(some 11), .pl (.mv (.t 0)), none⟩,
    ⟨(some 12), .call (.c (.fn 217 [] [])) [(.t 11)], none⟩] []))⟩
theorem c205 : compF Tryz.prog 205 = some A205 := by kernel_rfl

/-- (*internal/sync.Mutex).Unlock -/
def A206 : AFun := ⟨21, [],
  .seq (.cond (.c (.bool true))
    (.seq (.reg [⟨(some 3), .pl (.mv (.t 0)), none⟩,
        ⟨(some 4), .pl (.nilck (.t 3)), none⟩,
        ⟨(some 5), .pl (.fa 0 (.t 4)), none⟩,
        ⟨(some 6), .pl (.load none (.t 5)), none⟩] [0])
     (.seq (.reg [⟨(some 7), .pl (.mv (.t 0)), none⟩,
        ⟨(some 8), .pl (.cvp (.t 7)), none⟩,
        ⟨(some 9), .call (.c (.fn 218 [] [])) [(.t 8)], none⟩] [0])
     (.reg [⟨(some 10), .call (.c (.fn 213 [] [])) [], none⟩] [0])))
    (.skip))
  (.seq (.reg [⟨(some 11), .pl (.mv (.t 0)), none⟩,
     ⟨(some 12), .pl (.nilck (.t 11)), none⟩,
     ⟨(some 13), .pl (.fa 0 (.t 12)), none⟩,
     ⟨(some 14), .call (.c (.fn 219 [] [])) [(.t 13), (.c (.int .i32 (-1)))], none⟩,
     ⟨(some 2), .pl (.mv (.t 14)), none⟩] [0, 2])
  (.seq (.seq (.reg [⟨(some 15), .pl (.mv (.t 2)), none⟩,
      ⟨(some 16), .pl (.bin .neq .no (.t 15) (.c (.int .i32 0))), none⟩] [0, 2, 16])
   (.cond (.t 16)
    (.reg [⟨(some 17), .pl (.mv (.t 0)), none⟩,
       ⟨(some 18), .pl (.mv (.t 2)), none⟩,
       ⟨(some 19), .call (.c (.fn 220 [] [])) [(.t 17), (.t 18)], none⟩] [])
    (.skip)))
  (.reg [⟨(some 20), .call (.c (.fn 215 [] [])) [], none⟩] [])))⟩
theorem c206 : compF Tryz.prog 206 = some A206 := by kernel_rfl

/-- sync/atomic.b32 -/
def A208 : AFun := ⟨4, [.t 2],
  .seq (.reg [⟨(some 2), .pl (.mv (.c (.int .u32 0))), none⟩] [0])
  (.seq (.seq (.reg [⟨(some 3), .pl (.mv (.t 0)), none⟩] [3])
   (.cond (.t 3)
    (.seq (.reg [⟨(some 2), .pl (.mv (.c (.int .u32 1))), none⟩] [2])
     (.ret))
    (.skip)))
  (.seq (.reg [⟨(some 2), .pl (.mv (.c (.int .u32 0))), none⟩] [2])
  (.ret)))⟩
theorem c208 : compF Tryz.prog 208 = some A208 := by kernel_rfl

/-- internal/stringslite.HasPrefix -/
def A210 : AFun := ⟨18, [.t 4],
  .seq (.reg [⟨(some 4), .pl (.mv (.c (.bool false))), none⟩] [0, 1])
  (.seq (.reg [⟨(some 5), .pl (.mv (.t 0)), none⟩,
     ⟨(some 6), .pl (.lenS (.t 5)), none⟩,
     ⟨(some 7), .pl (.mv (.t 1)), none⟩,
     ⟨(some 8), .pl (.lenS (.t 7)), none⟩,
     ⟨(some 9), .pl (.bin .geq .no (.t 6) (.t 8)), none⟩,
     ⟨(some 10), .pl (.mv (.t 9)), none⟩,
     ⟨(some 11), .pl (.mv (.t 0)), (some (10, true))⟩,
     ⟨(some 12), .pl (.mv (.t 1)), (some (10, true))⟩,
     ⟨(some 13), .pl (.lenS (.t 12)), (some (10, true))⟩,
     ⟨(some 14), .pl (.slcS (.t 11) none (some (.t 13))), (some (10, true))⟩,
     ⟨(some 15), .pl (.mv (.t 1)), (some (10, true))⟩,
     ⟨(some 16), .pl (.bin .eql .no (.t 14) (.t 15)), (some (10, true))⟩,
     ⟨(some 17), .pl (.pick (.t 10) (.t 16) (.c (.bool false))), none⟩,
     ⟨(some 4), .pl (.mv (.t 17)), none⟩] [4])
  (.ret))⟩
theorem c210 : compF Tryz.prog 210 = some A210 := by kernel_rfl

/-- concourse/desc.Read -/
def A11 : AFun := ⟨19, [.t 2, .cell 3 (some 2)],
  .seq (.reg [⟨(some 2), .pl (.mv (.c (.nilp))), none⟩,
     ⟨(some 3), .pl (.alloc [.int .i64 0, .int .i64 0]), none⟩] [0, 3])
  (.seq (.reg [⟨(some 7), .pl (.mv (.t 0)), none⟩,
     ⟨(some 8), .call (.c (.fn 42 [] [])) [(.t 7)], none⟩,
     ⟨(some 6), .pl (.mv (.t 8)), none⟩,
     ⟨(some 9), .pl (.ext 0 (.t 6)), none⟩,
     ⟨(some 10), .pl (.ext 1 (.t 6)), none⟩,
     ⟨(some 5), .pl (.alloc [.int .i64 0, .int .i64 0]), none⟩,
     ⟨(some 4), .pl (.mv (.t 9)), none⟩,
     ⟨none, .pl (.store 2 (.t 5) (.t 10)), none⟩] [3, 4, 5])
  (.seq (.seq (.reg [⟨(some 11), .pl (.fa 0 (.t 5)), none⟩,
      ⟨(some 12), .pl (.load none (.t 11)), none⟩,
      ⟨(some 13), .pl (.bin .neq .no (.t 12) (.c (.int .i64 0))), none⟩] [3, 4, 5, 13])
   (.cond (.t 13)
    (.seq (.regD [⟨(some 14), .pl (.load (some 2) (.t 5)), none⟩,
        ⟨(some 2), .pl (.mv (.c (.nilp))), none⟩,
        ⟨none, .pl (.store 2 (.t 3) (.t 14)), none⟩] [] [2, 3])
     (.ret))
    (.skip)))
  (.seq (.reg [⟨(some 15), .pl (.mv (.t 4)), none⟩,
     ⟨(some 16), .call (.c (.fn 14 [] [])) [(.t 15)], none⟩,
     ⟨(some 17), .pl (.ext 0 (.t 16)), none⟩,
     ⟨(some 18), .pl (.ext 1 (.t 16)), none⟩,
     ⟨(some 2), .pl (.mv (.t 17)), none⟩,
     ⟨none, .pl (.store 2 (.t 3) (.t 18)), none⟩] [2, 3])
  (.ret))))⟩
theorem c11 : compF Tryz.prog 11 = some A11 := by kernel_rfl

/-- (*concourse/desc.Desc).Decls -/
def A13 : AFun := ⟨10, [.t 2],
  .seq (.reg [⟨(some 2), .pl (.mv (.c (.esl))), none⟩] [0])
  (.seq (.seq (.reg [⟨(some 3), .pl (.mv (.t 0)), none⟩,
      ⟨(some 4), .pl (.bin .eql .ptr (.t 3) (.c (.nilp))), none⟩] [0, 4])
   (.cond (.t 4)
    (.seq (.reg [⟨(some 2), .pl (.mv (.c (.esl))), none⟩] [2])
     (.ret))
    (.skip)))
  (.seq (.reg [⟨(some 5), .pl (.mv (.t 0)), none⟩,
     ⟨(some 6), .pl (.nilck (.t 5)), none⟩,
     ⟨(some 7), .pl (.fa 0 (.t 6)), none⟩,
     ⟨(some 8), .pl (.load none (.t 7)), none⟩,
     ⟨(some 9), .call (.c (.fn 43 [] [])) [(.t 8)], none⟩,
     ⟨(some 2), .pl (.mv (.t 9)), none⟩] [2])
  (.ret)))⟩
theorem c13 : compF Tryz.prog 13 = some A13 := by kernel_rfl

/-- concourse/desc.Of -/
def A14 : AFun := ⟨16, [.t 2, .cell 3 (some 2)],
  .seq (.reg [⟨(some 2), .pl (.mv (.c (.nilp))), none⟩,
     ⟨(some 3), .pl (.alloc [.int .i64 0, .int .i64 0]), none⟩] [0, 3])
  (.seq (.seq (.reg [⟨(some 5), .pl (.mv (.t 0)), none⟩,
      ⟨(some 6), .call (.c (.fn 44 [] [])) [(.t 5)], none⟩,
      ⟨(some 4), .pl (.alloc [.int .i64 0, .int .i64 0]), none⟩,
      ⟨none, .pl (.store 2 (.t 4) (.t 6)), none⟩] [0, 3, 4])
   (.seq (.reg [⟨(some 7), .pl (.fa 0 (.t 4)), none⟩,
      ⟨(some 8), .pl (.load none (.t 7)), none⟩,
      ⟨(some 9), .pl (.bin .neq .no (.t 8) (.c (.int .i64 0))), none⟩] [0, 3, 4, 9])
   (.cond (.t 9)
    (.seq (.regD [⟨(some 10), .pl (.load (some 2) (.t 4)), none⟩,
        ⟨(some 2), .pl (.mv (.c (.nilp))), none⟩,
        ⟨none, .pl (.store 2 (.t 3) (.t 10)), none⟩] [] [2, 3])
     (.ret))
    (.skip))))
  (.seq (.reg [⟨(some 11), .pl (.mv (.t 0)), none⟩,
     ⟨(some 12), .call (.c (.fn 43 [] [])) [(.t 11)], none⟩,
     ⟨(some 13), .pl (.build [.esl, .int .u32 0, .int .i32 0, .int .u32 0, .nilp, .nilmap] [(0, 1, (.t 12))]), none⟩,
     ⟨(some 14), .pl (.box (.t 13)), none⟩,
     ⟨(some 15), .pl (.build [.int .i64 0, .int .i64 0] []), none⟩,
     ⟨(some 2), .pl (.mv (.t 14)), none⟩,
     ⟨none, .pl (.store 2 (.t 3) (.t 15)), none⟩] [2, 3])
  (.ret)))⟩
theorem c14 : compF Tryz.prog 14 = some A14 := by kernel_rfl

/-- (*concourse/desc.Desc).Rows -/
def A15 : AFun := ⟨16, [.t 4],
  .seq (.reg [⟨(some 4), .pl (.mv (.c (.esl))), none⟩] [0, 1])
  (.seq (.seq (.reg [⟨(some 5), .pl (.mv (.t 0)), none⟩,
      ⟨(some 6), .pl (.bin .eql .ptr (.t 5) (.c (.nilp))), none⟩] [0, 1, 6])
   (.cond (.t 6)
    (.seq (.reg [⟨(some 4), .pl (.mv (.c (.esl))), none⟩] [4])
     (.ret))
    (.skip)))
  (.seq (.reg [⟨(some 7), .pl (.mv (.t 0)), none⟩,
     ⟨(some 8), .call (.c (.fn 45 [] [])) [(.t 7)], none⟩] [0, 1])
  (.seq (.reg [⟨(some 9), .pl (.mv (.t 0)), none⟩,
     ⟨(some 10), .pl (.nilck (.t 9)), none⟩,
     ⟨(some 11), .pl (.fa 5 (.t 10)), none⟩,
     ⟨(some 12), .pl (.load none (.t 11)), none⟩,
     ⟨(some 13), .pl (.mv (.t 1)), none⟩,
     ⟨(some 14), .pl (.lookup true (.esl) false (.t 12) (.t 13)), none⟩,
     ⟨(some 15), .call (.c (.fn 46 [] [])) [(.t 14)], none⟩,
     ⟨(some 4), .pl (.mv (.t 15)), none⟩] [4])
  (.ret))))⟩
theorem c15 : compF Tryz.prog 15 = some A15 := by kernel_rfl

/-- concourse/compat.Check -/
def A21_l0 : AC := .seq (.reg [⟨(some 14), .pl (.bin .lss .no (.t 13) (.t 12)), none⟩] [0, 1, 11, 12, 13, 14])
  (.seq (.cond (.t 14)
    (.skip)
    (.exit 0))
  (.seq (.block 1 (.seq (.reg [⟨(some 15), .pl (.ia 5 (.t 11) (.t 13)), none⟩,
       ⟨(some 16), .pl (.load (some 5) (.t 15)), none⟩,
       ⟨(some 7), .pl (.alloc [.int .i64 0, .str ⟨#[]⟩, .esl, .esl, .int .i64 0]), none⟩,
       ⟨none, .pl (.store 5 (.t 7) (.t 16)), none⟩] [0, 1, 7, 11, 12, 13])
    (.seq (.reg [⟨(some 17), .pl (.mv (.t 0)), none⟩,
       ⟨(some 18), .pl (.mv (.t 1)), none⟩,
       ⟨(some 19), .pl (.load (some 5) (.t 7)), none⟩,
       ⟨(some 20), .pl (.build [.nilp, .nilp, .int .i64 0, .str ⟨#[]⟩, .esl, .esl, .int .i64 0] [(0, 1, (.t 17)), (1, 1, (.t 18)), (2, 5, (.t 19))]), none⟩,
       ⟨(some 21), .pl (.box (.t 20)), none⟩,
       ⟨(some 8), .pl (.mv (.t 21)), none⟩] [0, 1, 7, 8, 11, 12, 13])
    (.seq (.reg [⟨(some 22), .pl (.mv (.t 8)), none⟩,
       ⟨(some 23), .call (.c (.fn 56 [] [])) [(.t 22)], none⟩,
       ⟨(some 9), .pl (.mv (.t 23)), none⟩] [0, 1, 7, 9, 11, 12, 13])
    (.seq (.reg [⟨(some 24), .pl (.mv (.t 9)), none⟩,
       ⟨(some 25), .pl (.bin .neq .no (.t 24) (.c (.int .i64 0))), none⟩] [0, 1, 7, 9, 11, 12, 13, 25])
    (.cond (.t 25)
     (.seq (.regD [⟨(some 26), .pl (.mv (.t 9)), none⟩,
         ⟨(some 27), .pl (.fa 1 (.t 7)), none⟩,
         ⟨(some 28), .pl (.load none (.t 27)), none⟩,
         ⟨(some 4), .pl (.mv (.t 26)), none⟩,
         ⟨(some 5), .pl (.mv (.t 28)), none⟩] [] [4, 5])
      (.ret))
     (.skip)))))))
  (.reg [⟨(some 29), .pl (.bin .add .no (.t 13) (.c (.int .i64 1))), none⟩,
    ⟨(some 13), .pl (.mv (.t 29)), none⟩] [0, 1, 11, 12, 13])))
def A21_r0 : AC := .seq (.reg [⟨(some 4), .pl (.mv (.c (.int .i64 0))), none⟩,
     ⟨(some 5), .pl (.mv (.c (.str ⟨#[]⟩))), none⟩] [4, 5])
  (.ret)
def A21 : AFun := ⟨30, [.t 4, .t 5],
  .seq (.reg [⟨(some 4), .pl (.mv (.c (.int .i64 0))), none⟩,
     ⟨(some 5), .pl (.mv (.c (.str ⟨#[]⟩))), none⟩] [0, 1])
  (.seq (.seq (.reg [⟨(some 10), .pl (.mv (.t 0)), none⟩,
      ⟨(some 11), .call (.c (.fn 13 [] [])) [(.t 10)], none⟩,
      ⟨(some 12), .pl (.lenL (.t 11)), none⟩,
      ⟨(some 13), .pl (.mv (.c (.int .i64 0))), none⟩] [0, 1, 11, 12, 13])
   (.block 0 (.loop [0, 1, 11, 12, 13] A21_l0)))
  (A21_r0))⟩
theorem c21 : compF Tryz.prog 21 = some A21 := by kernel_rfl

/-- concourse/compat.Gone -/
def A23_l0 : AC := .seq (.reg [⟨(some 17), .pl (.bin .lss .no (.t 16) (.t 15)), none⟩] [1, 2, 7, 14, 15, 16, 17])
  (.seq (.cond (.t 17)
    (.skip)
    (.exit 0))
  (.seq (.block 1 (.seq (.reg [⟨(some 18), .pl (.ia 5 (.t 14) (.t 16)), none⟩,
       ⟨(some 19), .pl (.load (some 5) (.t 18)), none⟩,
       ⟨(some 9), .pl (.alloc [.int .i64 0, .str ⟨#[]⟩, .int .i64 0, .str ⟨#[]⟩, .esl]), none⟩,
       ⟨none, .pl (.store 5 (.t 9) (.t 19)), none⟩] [1, 2, 7, 9, 14, 15, 16])
    (.seq (.reg [⟨(some 21), .pl (.mv (.t 1)), none⟩,
       ⟨(some 22), .pl (.mv (.t 2)), none⟩,
       ⟨(some 23), .pl (.fa 0 (.t 9)), none⟩,
       ⟨(some 24), .pl (.load none (.t 23)), none⟩,
       ⟨(some 25), .call (.c (.fn 58 [] [])) [(.t 21), (.t 22), (.t 24)], none⟩,
       ⟨(some 20), .pl (.mv (.t 25)), none⟩,
       ⟨(some 26), .pl (.ext 0 (.t 20)), none⟩,
       ⟨(some 27), .pl (.ext 1 (.t 20)), none⟩,
       ⟨(some 10), .pl (.alloc [.int .i64 0, .str ⟨#[]⟩, .int .i64 0, .str ⟨#[]⟩, .esl]), none⟩,
       ⟨none, .pl (.store 5 (.t 10) (.t 26)), none⟩,
       ⟨(some 11), .pl (.mv (.t 27)), none⟩] [1, 2, 7, 9, 11, 14, 15, 16])
    (.seq (.reg [⟨(some 28), .pl (.mv (.t 11)), none⟩,
       ⟨(some 29), .pl (.un .not (.t 28)), none⟩] [1, 2, 7, 9, 14, 15, 16, 29])
    (.cond (.t 29)
     (.reg [⟨(some 30), .pl (.mv (.t 7)), none⟩,
        ⟨(some 31), .pl (.fa 0 (.t 9)), none⟩,
        ⟨(some 32), .pl (.load none (.t 31)), none⟩,
        ⟨(some 33), .pl (.lit 1 [(.t 32)]), none⟩,
        ⟨(some 34), .pl (.append 3 1 8 (.t 30) (.t 33)), none⟩,
        ⟨(some 7), .pl (.mv (.t 34)), none⟩] [1, 2, 7, 14, 15, 16])
     (.skip))))))
  (.reg [⟨(some 35), .pl (.bin .add .no (.t 16) (.c (.int .i64 1))), none⟩,
    ⟨(some 16), .pl (.mv (.t 35)), none⟩] [1, 2, 7, 14, 15, 16])))
def A23_r0 : AC := .seq (.reg [⟨(some 36), .pl (.mv (.t 7)), none⟩,
     ⟨(some 6), .pl (.mv (.t 36)), none⟩] [6])
  (.ret)
def A23 : AFun := ⟨37, [.t 6],
  .seq (.reg [⟨(some 6), .pl (.mv (.c (.esl))), none⟩] [0, 1, 2])
  (.seq (.reg [⟨(some 7), .pl (.mv (.c (.esl))), none⟩] [0, 1, 2, 7])
  (.seq (.seq (.reg [⟨(some 12), .pl (.mv (.t 0)), none⟩,
      ⟨(some 13), .pl (.mv (.t 2)), none⟩,
      ⟨(some 14), .call (.c (.fn 15 [] [])) [(.t 12), (.t 13)], none⟩,
      ⟨(some 15), .pl (.lenL (.t 14)), none⟩,
      ⟨(some 16), .pl (.mv (.c (.int .i64 0))), none⟩] [1, 2, 7, 14, 15, 16])
   (.block 0 (.loop [1, 2, 7, 14, 15, 16] A23_l0)))
  (A23_r0)))⟩
theorem c23 : compF Tryz.prog 23 = some A23 := by kernel_rfl

/-- concourse/concourselaw14.awake -/
def A33 : AFun := ⟨54, [.t 0],
  .seq (.reg [⟨(some 0), .pl (.mv (.c (.bool false))), none⟩] [])
  (.seq (.reg [⟨(some 11), .call (.c (.fn 11 [] [])) [(.c (.str ⟨#[115, 116, 114, 117, 99, 116, 32, 80, 32, 123, 32, 49, 32, 97, 58, 32, 105, 110, 116, 59, 32, 125]⟩))], none⟩,
     ⟨(some 10), .pl (.mv (.t 11)), none⟩,
     ⟨(some 12), .pl (.ext 0 (.t 10)), none⟩,
     ⟨(some 13), .pl (.ext 1 (.t 10)), none⟩,
     ⟨(some 2), .pl (.alloc [.int .i64 0, .int .i64 0]), none⟩,
     ⟨(some 1), .pl (.mv (.t 12)), none⟩,
     ⟨none, .pl (.store 2 (.t 2) (.t 13)), none⟩] [1])
  (.seq (.reg [⟨(some 15), .call (.c (.fn 11 [] [])) [(.c (.str ⟨#[115, 116, 114, 117, 99, 116, 32, 80, 32, 123, 32, 49, 32, 97, 58, 32, 105, 110, 116, 59, 32, 50, 32, 98, 58, 32, 116, 101, 120, 116, 63, 59, 32, 125]⟩))], none⟩,
     ⟨(some 14), .pl (.mv (.t 15)), none⟩,
     ⟨(some 16), .pl (.ext 0 (.t 14)), none⟩,
     ⟨(some 17), .pl (.ext 1 (.t 14)), none⟩,
     ⟨(some 4), .pl (.alloc [.int .i64 0, .int .i64 0]), none⟩,
     ⟨(some 3), .pl (.mv (.t 16)), none⟩,
     ⟨none, .pl (.store 2 (.t 4) (.t 17)), none⟩] [1, 3])
  (.seq (.reg [⟨(some 19), .pl (.mv (.t 1)), none⟩,
     ⟨(some 20), .pl (.mv (.t 3)), none⟩,
     ⟨(some 21), .call (.c (.fn 21 [] [])) [(.t 19), (.t 20)], none⟩,
     ⟨(some 18), .pl (.mv (.t 21)), none⟩,
     ⟨(some 22), .pl (.ext 0 (.t 18)), none⟩,
     ⟨(some 23), .pl (.ext 1 (.t 18)), none⟩,
     ⟨(some 5), .pl (.mv (.t 22)), none⟩,
     ⟨(some 6), .pl (.mv (.t 23)), none⟩] [1, 3, 5])
  (.seq (.reg [⟨(some 25), .pl (.mv (.t 3)), none⟩,
     ⟨(some 26), .pl (.mv (.t 1)), none⟩,
     ⟨(some 27), .call (.c (.fn 21 [] [])) [(.t 25), (.t 26)], none⟩,
     ⟨(some 24), .pl (.mv (.t 27)), none⟩,
     ⟨(some 28), .pl (.ext 0 (.t 24)), none⟩,
     ⟨(some 29), .pl (.ext 1 (.t 24)), none⟩,
     ⟨(some 7), .pl (.mv (.t 28)), none⟩,
     ⟨(some 8), .pl (.mv (.t 29)), none⟩] [1, 3, 5, 7, 8])
  (.seq (.reg [⟨(some 30), .pl (.mv (.t 3)), none⟩,
     ⟨(some 31), .pl (.mv (.t 1)), none⟩,
     ⟨(some 32), .call (.c (.fn 23 [] [])) [(.t 30), (.t 31), (.c (.str ⟨#[80]⟩))], none⟩,
     ⟨(some 9), .pl (.mv (.t 32)), none⟩] [5, 7, 8, 9])
  (.seq (.reg [⟨(some 33), .pl (.mv (.t 5)), none⟩,
     ⟨(some 34), .pl (.bin .eql .no (.t 33) (.c (.int .i64 0))), none⟩,
     ⟨(some 35), .pl (.mv (.t 34)), none⟩,
     ⟨(some 36), .pl (.mv (.t 7)), (some (35, true))⟩,
     ⟨(some 37), .pl (.bin .eql .no (.t 36) (.c (.int .i64 0))), (some (35, true))⟩,
     ⟨(some 38), .pl (.pick (.t 35) (.t 37) (.c (.bool false))), none⟩,
     ⟨(some 39), .pl (.mv (.t 38)), none⟩,
     ⟨(some 40), .pl (.mv (.t 8)), (some (39, true))⟩,
     ⟨(some 41), .pl (.bin .eql .no (.t 40) (.c (.str ⟨#[]⟩))), (some (39, true))⟩,
     ⟨(some 42), .pl (.pick (.t 39) (.t 41) (.c (.bool false))), none⟩,
     ⟨(some 43), .pl (.mv (.t 42)), none⟩,
     ⟨(some 44), .pl (.mv (.t 9)), (some (43, true))⟩,
     ⟨(some 45), .pl (.lenL (.t 44)), (some (43, true))⟩,
     ⟨(some 46), .pl (.bin .eql .no (.t 45) (.c (.int .i64 1))), (some (43, true))⟩,
     ⟨(some 47), .pl (.pick (.t 43) (.t 46) (.c (.bool false))), none⟩,
     ⟨(some 48), .pl (.mv (.t 47)), none⟩,
     ⟨(some 49), .pl (.mv (.t 9)), (some (48, true))⟩,
     ⟨(some 50), .pl (.ia 1 (.t 49) (.c (.int .i64 0))), (some (48, true))⟩,
     ⟨(some 51), .pl (.load none (.t 50)), (some (48, true))⟩,
     ⟨(some 52), .pl (.bin .eql .no (.t 51) (.c (.int .i64 2))), (some (48, true))⟩,
     ⟨(some 53), .pl (.pick (.t 48) (.t 52) (.c (.bool false))), none⟩,
     ⟨(some 0), .pl (.mv (.t 53)), none⟩] [0])
  (.ret)))))))⟩
theorem c33 : compF Tryz.prog 33 = some A33 := by kernel_rfl

/-- concourse/compat.Type -/
def A34_l0 : AC := .seq (.reg [⟨(some 31), .pl (.bin .lss .no (.t 30) (.t 29)), none⟩] [2, 3, 29, 30, 31])
  (.seq (.cond (.t 31)
    (.skip)
    (.exit 0))
  (.seq (.block 1 (.seq (.reg [⟨(some 32), .pl (.mv (.t 30)), none⟩,
       ⟨(some 5), .pl (.mv (.t 32)), none⟩] [2, 3, 5, 29, 30])
    (.seq (.regD [⟨(some 33), .pl (.fa 2 (.t 2)), none⟩,
       ⟨(some 34), .pl (.load none (.t 33)), none⟩,
       ⟨(some 35), .pl (.mv (.t 5)), none⟩,
       ⟨(some 36), .pl (.ia 3 (.t 34) (.t 35)), none⟩,
       ⟨(some 37), .pl (.load (some 3) (.t 36)), none⟩,
       ⟨(some 38), .pl (.fa 2 (.t 3)), none⟩,
       ⟨(some 39), .pl (.load none (.t 38)), none⟩,
       ⟨(some 40), .pl (.mv (.t 5)), none⟩,
       ⟨(some 41), .pl (.ia 3 (.t 39) (.t 40)), none⟩,
       ⟨(some 42), .pl (.load (some 3) (.t 41)), none⟩,
       ⟨(some 43), .call (.c (.fn 34 [] [])) [(.t 37), (.t 42)], none⟩,
       ⟨(some 44), .pl (.un .not (.t 43)), none⟩] [] [2, 3, 29, 30, 44])
    (.cond (.t 44)
     (.seq (.reg [⟨(some 4), .pl (.mv (.c (.bool false))), none⟩] [4])
      (.ret))
     (.skip)))))
  (.reg [⟨(some 45), .pl (.bin .add .no (.t 30) (.c (.int .i64 1))), none⟩,
    ⟨(some 30), .pl (.mv (.t 45)), none⟩] [2, 3, 29, 30])))
def A34_r0 : AC := .seq (.reg [⟨(some 4), .pl (.mv (.c (.bool true))), none⟩] [4])
  (.ret)
def A34 : AFun := ⟨46, [.t 4],
  .seq (.reg [⟨(some 2), .pl (.box (.t 0)), none⟩,
     ⟨(some 3), .pl (.box (.t 1)), none⟩,
     ⟨(some 4), .pl (.mv (.c (.bool false))), none⟩] [2, 3])
  (.seq (.seq (.reg [⟨(some 6), .pl (.fa 0 (.t 2)), none⟩,
      ⟨(some 7), .pl (.load none (.t 6)), none⟩,
      ⟨(some 8), .pl (.fa 0 (.t 3)), none⟩,
      ⟨(some 9), .pl (.load none (.t 8)), none⟩,
      ⟨(some 10), .pl (.bin .neq .no (.t 7) (.t 9)), none⟩,
      ⟨(some 11), .pl (.mv (.t 10)), none⟩,
      ⟨(some 12), .pl (.fa 1 (.t 2)), (some (11, false))⟩,
      ⟨(some 13), .pl (.load none (.t 12)), (some (11, false))⟩,
      ⟨(some 14), .pl (.fa 1 (.t 3)), (some (11, false))⟩,
      ⟨(some 15), .pl (.load none (.t 14)), (some (11, false))⟩,
      ⟨(some 16), .pl (.bin .neq .no (.t 13) (.t 15)), (some (11, false))⟩,
      ⟨(some 17), .pl (.pick (.t 11) (.c (.bool true)) (.t 16)), none⟩,
      ⟨(some 18), .pl (.mv (.t 17)), none⟩,
      ⟨(some 19), .pl (.fa 2 (.t 2)), (some (18, false))⟩,
      ⟨(some 20), .pl (.load none (.t 19)), (some (18, false))⟩,
      ⟨(some 21), .pl (.lenL (.t 20)), (some (18, false))⟩,
      ⟨(some 22), .pl (.fa 2 (.t 3)), (some (18, false))⟩,
      ⟨(some 23), .pl (.load none (.t 22)), (some (18, false))⟩,
      ⟨(some 24), .pl (.lenL (.t 23)), (some (18, false))⟩,
      ⟨(some 25), .pl (.bin .neq .no (.t 21) (.t 24)), (some (18, false))⟩,
      ⟨(some 26), .pl (.pick (.t 18) (.c (.bool true)) (.t 25)), none⟩] [2, 3, 26])
   (.cond (.t 26)
    (.seq (.reg [⟨(some 4), .pl (.mv (.c (.bool false))), none⟩] [4])
     (.ret))
    (.skip)))
  (.seq (.seq (.reg [⟨(some 27), .pl (.fa 2 (.t 2)), none⟩,
      ⟨(some 28), .pl (.load none (.t 27)), none⟩,
      ⟨(some 29), .pl (.lenL (.t 28)), none⟩,
      ⟨(some 30), .pl (.mv (.c (.int .i64 0))), none⟩] [2, 3, 29, 30])
   (.block 0 (.loop [2, 3, 29, 30] A34_l0)))
  (A34_r0)))⟩
theorem c34 : compF Tryz.prog 34 = some A34 := by kernel_rfl

/-- concourse/parse.Parse -/
def A42_l0 : AC := .seq (.seq (.reg [⟨(some 23), .pl (.mv (.t 6)), none⟩,
      ⟨(some 24), .call (.c (.fn 73 [] [])) [(.t 23)], none⟩,
      ⟨(some 25), .pl (.mv (.t 24)), none⟩,
      ⟨(some 26), .pl (.mv (.t 6)), (some (25, true))⟩,
      ⟨(some 27), .call (.c (.fn 74 [] [])) [(.t 26)], (some (25, true))⟩,
      ⟨(some 28), .pl (.fld 0 none (.t 27)), (some (25, true))⟩,
      ⟨(some 29), .pl (.bin .neq .no (.t 28) (.c (.int .i64 4))), (some (25, true))⟩,
      ⟨(some 30), .pl (.pick (.t 25) (.t 29) (.c (.bool false))), none⟩] [3, 6, 7, 8, 30])
   (.cond (.t 30)
    (.skip)
    (.exit 0)))
  (.block 1 (.seq (.seq (.reg [⟨(some 31), .pl (.mv (.t 8)), none⟩,
       ⟨(some 32), .pl (.lenL (.t 31)), none⟩,
       ⟨(some 33), .pl (.bin .eql .no (.t 32) (.c (.int .i64 16))), none⟩] [3, 6, 7, 8, 33])
    (.cond (.t 33)
     (.seq (.reg [⟨(some 34), .pl (.mv (.t 6)), none⟩,
         ⟨(some 35), .call (.c (.fn 75 [] [])) [(.t 34), (.c (.int .i64 3))], none⟩] [3, 6, 8])
      (.exit 0))
     (.skip)))
   (.reg [⟨(some 36), .pl (.mv (.t 8)), none⟩,
     ⟨(some 37), .pl (.mv (.t 7)), none⟩,
     ⟨(some 38), .call (.t 37) [], none⟩,
     ⟨(some 39), .pl (.lit 5 [(.t 38)]), none⟩,
     ⟨(some 40), .pl (.append 36 5 80 (.t 36) (.t 39)), none⟩,
     ⟨(some 8), .pl (.mv (.t 40)), none⟩] [3, 6, 7, 8])))
def A42_r0 : AC := .seq (.seq (.reg [⟨(some 41), .pl (.mv (.t 6)), none⟩,
      ⟨(some 42), .call (.c (.fn 73 [] [])) [(.t 41)], none⟩,
      ⟨(some 43), .pl (.un .not (.t 42)), none⟩] [3, 6, 8, 43])
   (.cond (.t 43)
    (.seq (.regD [⟨(some 44), .pl (.mv (.t 6)), none⟩,
        ⟨(some 45), .pl (.nilck (.t 44)), none⟩,
        ⟨(some 46), .pl (.fa 2 (.t 45)), none⟩,
        ⟨(some 47), .pl (.load (some 2) (.t 46)), none⟩,
        ⟨(some 2), .pl (.mv (.c (.esl))), none⟩,
        ⟨none, .pl (.store 2 (.t 3) (.t 47)), none⟩] [] [2, 3])
     (.ret))
    (.skip)))
  (.seq (.reg [⟨(some 48), .pl (.mv (.t 8)), none⟩,
     ⟨(some 49), .pl (.build [.int .i64 0, .int .i64 0] []), none⟩,
     ⟨(some 2), .pl (.mv (.t 48)), none⟩,
     ⟨none, .pl (.store 2 (.t 3) (.t 49)), none⟩] [2, 3])
  (.ret))
def A42 : AFun := ⟨50, [.t 2, .cell 3 (some 2)],
  .seq (.reg [⟨(some 2), .pl (.mv (.c (.esl))), none⟩,
     ⟨(some 3), .pl (.alloc [.int .i64 0, .int .i64 0]), none⟩] [0, 3])
  (.seq (.reg [⟨(some 10), .pl (.mv (.t 0)), none⟩,
     ⟨(some 11), .call (.c (.fn 71 [] [])) [(.t 10)], none⟩,
     ⟨(some 9), .pl (.mv (.t 11)), none⟩,
     ⟨(some 12), .pl (.ext 0 (.t 9)), none⟩,
     ⟨(some 13), .pl (.ext 1 (.t 9)), none⟩,
     ⟨(some 5), .pl (.alloc [.int .i64 0, .int .i64 0]), none⟩,
     ⟨(some 4), .pl (.mv (.t 12)), none⟩,
     ⟨none, .pl (.store 2 (.t 5) (.t 13)), none⟩] [3, 4, 5])
  (.seq (.seq (.reg [⟨(some 14), .pl (.fa 0 (.t 5)), none⟩,
      ⟨(some 15), .pl (.load none (.t 14)), none⟩,
      ⟨(some 16), .pl (.bin .neq .no (.t 15) (.c (.int .i64 0))), none⟩] [3, 4, 5, 16])
   (.cond (.t 16)
    (.seq (.regD [⟨(some 17), .pl (.load (some 2) (.t 5)), none⟩,
        ⟨(some 2), .pl (.mv (.c (.esl))), none⟩,
        ⟨none, .pl (.store 2 (.t 3) (.t 17)), none⟩] [] [2, 3])
     (.ret))
    (.skip)))
  (.seq (.reg [⟨(some 18), .pl (.mv (.t 4)), none⟩,
     ⟨(some 19), .pl (.build [.esl, .int .i64 0, .int .i64 0, .int .i64 0] [(0, 1, (.t 18))]), none⟩,
     ⟨(some 20), .pl (.box (.t 19)), none⟩,
     ⟨(some 6), .pl (.mv (.t 20)), none⟩] [3, 6])
  (.seq (.reg [⟨(some 21), .pl (.mv (.t 6)), none⟩,
     ⟨(some 22), .pl (.mkfn 72 [(.t 21)] []), none⟩,
     ⟨(some 7), .pl (.mv (.t 22)), none⟩] [3, 6, 7])
  (.seq (.reg [⟨(some 8), .pl (.mv (.c (.esl))), none⟩] [3, 6, 7, 8])
  (.seq (.block 0 (.loop [3, 6, 7, 8] A42_l0))
  (A42_r0)))))))⟩
theorem c42 : compF Tryz.prog 42 = some A42 := by kernel_rfl

/-- concourse/desc.decls -/
def A43_l0 : AC := .seq (.reg [⟨(some 9), .pl (.bin .lss .no (.t 8) (.t 7)), none⟩] [3, 6, 7, 8, 9])
  (.seq (.cond (.t 9)
    (.skip)
    (.exit 0))
  (.seq (.block 1 (.seq (.reg [⟨(some 10), .pl (.ia 5 (.t 6) (.t 8)), none⟩,
       ⟨(some 11), .pl (.load (some 5) (.t 10)), none⟩,
       ⟨(some 5), .pl (.alloc [.int .i64 0, .str ⟨#[]⟩, .esl, .esl, .int .i64 0]), none⟩,
       ⟨none, .pl (.store 5 (.t 5) (.t 11)), none⟩] [3, 5, 6, 7, 8])
    (.seq (.reg [⟨(some 12), .pl (.fa 2 (.t 5)), none⟩,
       ⟨(some 13), .pl (.load none (.t 12)), none⟩,
       ⟨(some 14), .call (.c (.fn 46 [] [])) [(.t 13)], none⟩,
       ⟨(some 15), .pl (.fa 2 (.t 5)), none⟩,
       ⟨none, .pl (.store 1 (.t 15) (.t 14)), none⟩] [3, 5, 6, 7, 8])
    (.seq (.reg [⟨(some 16), .pl (.fa 3 (.t 5)), none⟩,
       ⟨(some 17), .pl (.load none (.t 16)), none⟩,
       ⟨(some 18), .call (.c (.fn 76 [] [])) [(.t 17)], none⟩,
       ⟨(some 19), .pl (.fa 3 (.t 5)), none⟩,
       ⟨none, .pl (.store 1 (.t 19) (.t 18)), none⟩] [3, 5, 6, 7, 8])
    (.reg [⟨(some 20), .pl (.mv (.t 3)), none⟩,
      ⟨(some 21), .pl (.load (some 5) (.t 5)), none⟩,
      ⟨(some 22), .pl (.lit 5 [(.t 21)]), none⟩,
      ⟨(some 23), .pl (.append 36 5 80 (.t 20) (.t 22)), none⟩,
      ⟨(some 3), .pl (.mv (.t 23)), none⟩] [3, 6, 7, 8])))))
  (.reg [⟨(some 24), .pl (.bin .add .no (.t 8) (.c (.int .i64 1))), none⟩,
    ⟨(some 8), .pl (.mv (.t 24)), none⟩] [3, 6, 7, 8])))
def A43_r0 : AC := .seq (.reg [⟨(some 25), .pl (.mv (.t 3)), none⟩,
     ⟨(some 2), .pl (.mv (.t 25)), none⟩] [2])
  (.ret)
def A43 : AFun := ⟨26, [.t 2],
  .seq (.reg [⟨(some 2), .pl (.mv (.c (.esl))), none⟩] [0])
  (.seq (.reg [⟨(some 3), .pl (.mv (.c (.esl))), none⟩] [0, 3])
  (.seq (.seq (.reg [⟨(some 6), .pl (.mv (.t 0)), none⟩,
      ⟨(some 7), .pl (.lenL (.t 6)), none⟩,
      ⟨(some 8), .pl (.mv (.c (.int .i64 0))), none⟩] [3, 6, 7, 8])
   (.block 0 (.loop [3, 6, 7, 8] A43_l0)))
  (A43_r0)))⟩
theorem c43 : compF Tryz.prog 43 = some A43 := by kernel_rfl

/-- concourse/check.Check -/
def A44_l0 : AC := .seq (.reg [⟨(some 17), .pl (.bin .lss .no (.t 16) (.t 15)), none⟩] [0, 2, 3, 14, 15, 16, 17])
  (.seq (.cond (.t 17)
    (.skip)
    (.exit 0))
  (.seq (.block 1 (.seq (.reg [⟨(some 18), .pl (.mv (.t 16)), none⟩,
       ⟨(some 19), .pl (.ia 5 (.t 14) (.t 16)), none⟩,
       ⟨(some 20), .pl (.load (some 5) (.t 19)), none⟩,
       ⟨(some 5), .pl (.alloc [.int .i64 0, .str ⟨#[]⟩, .esl, .esl, .int .i64 0]), none⟩,
       ⟨(some 4), .pl (.mv (.t 18)), none⟩,
       ⟨none, .pl (.store 5 (.t 5) (.t 20)), none⟩] [0, 2, 3, 4, 5, 14, 15, 16])
    (.seq (.reg [⟨(some 21), .pl (.mv (.t 3)), none⟩,
       ⟨(some 22), .pl (.mv (.t 4)), none⟩,
       ⟨(some 23), .call (.c (.fn 78 [] [])) [(.t 21), (.t 22)], none⟩,
       ⟨(some 6), .pl (.mv (.t 23)), none⟩] [0, 2, 3, 5, 6, 14, 15, 16])
    (.seq (.reg [⟨(some 24), .pl (.mv (.t 6)), none⟩,
       ⟨(some 25), .pl (.bin .neq .no (.t 24) (.c (.int .i64 0))), none⟩] [0, 2, 3, 5, 6, 14, 15, 16, 25])
    (.cond (.t 25)
     (.seq (.reg [⟨(some 26), .pl (.mv (.t 6)), none⟩,
         ⟨(some 27), .pl (.fa 4 (.t 5)), none⟩,
         ⟨(some 28), .pl (.load none (.t 27)), none⟩,
         ⟨(some 29), .pl (.build [.int .i64 0, .int .i64 0] [(0, 1, (.t 26)), (1, 1, (.t 28))]), none⟩,
         ⟨none, .pl (.store 2 (.t 2) (.t 29)), none⟩] [2])
      (.ret))
     (.skip))))))
  (.reg [⟨(some 30), .pl (.bin .add .no (.t 16) (.c (.int .i64 1))), none⟩,
    ⟨(some 16), .pl (.mv (.t 30)), none⟩] [0, 2, 3, 14, 15, 16])))
def A44_l1 : AC := .seq (.reg [⟨(some 35), .pl (.bin .lss .no (.t 34) (.t 33)), none⟩] [0, 2, 32, 33, 34, 35])
  (.seq (.cond (.t 35)
    (.skip)
    (.exit 2))
  (.seq (.block 3 (.seq (.reg [⟨(some 36), .pl (.mv (.t 34)), none⟩,
       ⟨(some 37), .pl (.ia 1 (.t 32) (.t 34)), none⟩,
       ⟨(some 38), .pl (.load none (.t 37)), none⟩,
       ⟨(some 7), .pl (.mv (.t 36)), none⟩,
       ⟨(some 8), .pl (.mv (.t 38)), none⟩] [0, 2, 7, 8, 32, 33, 34])
    (.seq (.reg [⟨(some 39), .pl (.mv (.t 8)), none⟩,
       ⟨(some 40), .pl (.un .not (.t 39)), none⟩] [0, 2, 7, 32, 33, 34, 40])
    (.cond (.t 40)
     (.seq (.reg [⟨(some 41), .pl (.mv (.t 0)), none⟩,
         ⟨(some 42), .pl (.mv (.t 7)), none⟩,
         ⟨(some 43), .pl (.ia 5 (.t 41) (.t 42)), none⟩,
         ⟨(some 44), .pl (.fa 4 (.t 43)), none⟩,
         ⟨(some 45), .pl (.load none (.t 44)), none⟩,
         ⟨(some 46), .pl (.build [.int .i64 0, .int .i64 0] [(0, 1, (.c (.int .i64 10))), (1, 1, (.t 45))]), none⟩,
         ⟨none, .pl (.store 2 (.t 2) (.t 46)), none⟩] [2])
      (.ret))
     (.skip)))))
  (.reg [⟨(some 47), .pl (.bin .add .no (.t 34) (.c (.int .i64 1))), none⟩,
    ⟨(some 34), .pl (.mv (.t 47)), none⟩] [0, 2, 32, 33, 34])))
def A44_r0 : AC := .seq (.reg [⟨(some 48), .pl (.build [.int .i64 0, .int .i64 0] []), none⟩,
     ⟨none, .pl (.store 2 (.t 2) (.t 48)), none⟩] [2])
  (.ret)
def A44_r1 : AC := .seq (.seq (.reg [⟨(some 31), .pl (.mv (.t 0)), none⟩,
      ⟨(some 32), .call (.c (.fn 79 [] [])) [(.t 31)], none⟩,
      ⟨(some 33), .pl (.lenL (.t 32)), none⟩,
      ⟨(some 34), .pl (.mv (.c (.int .i64 0))), none⟩] [0, 2, 32, 33, 34])
   (.block 2 (.loop [0, 2, 32, 33, 34] A44_l1)))
  (A44_r0)
def A44 : AFun := ⟨49, [.cell 2 (some 2)],
  .seq (.reg [⟨(some 2), .pl (.alloc [.int .i64 0, .int .i64 0]), none⟩] [0, 2])
  (.seq (.reg [⟨(some 9), .pl (.mv (.t 0)), none⟩,
     ⟨(some 10), .pl (.mv (.t 0)), none⟩,
     ⟨(some 11), .call (.c (.fn 77 [] [])) [(.t 10)], none⟩,
     ⟨(some 12), .pl (.build [.esl, .nilp] [(0, 1, (.t 9)), (1, 1, (.t 11))]), none⟩,
     ⟨(some 13), .pl (.box (.t 12)), none⟩,
     ⟨(some 3), .pl (.mv (.t 13)), none⟩] [0, 2, 3])
  (.seq (.seq (.reg [⟨(some 14), .pl (.mv (.t 0)), none⟩,
      ⟨(some 15), .pl (.lenL (.t 14)), none⟩,
      ⟨(some 16), .pl (.mv (.c (.int .i64 0))), none⟩] [0, 2, 3, 14, 15, 16])
   (.block 0 (.loop [0, 2, 3, 14, 15, 16] A44_l0)))
  (A44_r1)))⟩
theorem c44 : compF Tryz.prog 44 = some A44 := by kernel_rfl

/-- (*concourse/desc.Desc).ready -/
def A45 : AFun := ⟨7, [],
  .seq (.reg [⟨(some 1), .pl (.box (.t 0)), none⟩] [1])
  (.reg [⟨(some 2), .pl (.load none (.t 1)), none⟩,
    ⟨(some 3), .pl (.nilck (.t 2)), none⟩,
    ⟨(some 4), .pl (.fa 1 (.t 3)), none⟩,
    ⟨(some 5), .pl (.mkfn 81 [] [(.t 1)]), none⟩,
    ⟨(some 6), .call (.c (.fn 80 [] [])) [(.t 4), (.t 5)], none⟩] [])⟩
theorem c45 : compF Tryz.prog 45 = some A45 := by kernel_rfl

/-- concourse/desc.fields -/
def A46_l0 : AC := .seq (.reg [⟨(some 9), .pl (.bin .lss .no (.t 8) (.t 7)), none⟩] [3, 6, 7, 8, 9])
  (.seq (.cond (.t 9)
    (.skip)
    (.exit 0))
  (.seq (.block 1 (.seq (.reg [⟨(some 10), .pl (.ia 5 (.t 6) (.t 8)), none⟩,
       ⟨(some 11), .pl (.load (some 5) (.t 10)), none⟩,
       ⟨(some 5), .pl (.alloc [.int .i64 0, .str ⟨#[]⟩, .int .i64 0, .str ⟨#[]⟩, .esl]), none⟩,
       ⟨none, .pl (.store 5 (.t 5) (.t 11)), none⟩] [3, 5, 6, 7, 8])
    (.seq (.reg [⟨(some 12), .pl (.fa 2 (.t 5)), none⟩,
       ⟨(some 13), .pl (.load (some 3) (.t 12)), none⟩,
       ⟨(some 14), .call (.c (.fn 86 [] [])) [(.t 13)], none⟩,
       ⟨(some 15), .pl (.fa 2 (.t 5)), none⟩,
       ⟨none, .pl (.store 3 (.t 15) (.t 14)), none⟩] [3, 5, 6, 7, 8])
    (.reg [⟨(some 16), .pl (.mv (.t 3)), none⟩,
      ⟨(some 17), .pl (.load (some 5) (.t 5)), none⟩,
      ⟨(some 18), .pl (.lit 5 [(.t 17)]), none⟩,
      ⟨(some 19), .pl (.append 41 5 72 (.t 16) (.t 18)), none⟩,
      ⟨(some 3), .pl (.mv (.t 19)), none⟩] [3, 6, 7, 8]))))
  (.reg [⟨(some 20), .pl (.bin .add .no (.t 8) (.c (.int .i64 1))), none⟩,
    ⟨(some 8), .pl (.mv (.t 20)), none⟩] [3, 6, 7, 8])))
def A46_r0 : AC := .seq (.reg [⟨(some 21), .pl (.mv (.t 3)), none⟩,
     ⟨(some 2), .pl (.mv (.t 21)), none⟩] [2])
  (.ret)
def A46 : AFun := ⟨22, [.t 2],
  .seq (.reg [⟨(some 2), .pl (.mv (.c (.esl))), none⟩] [0])
  (.seq (.reg [⟨(some 3), .pl (.mv (.c (.esl))), none⟩] [0, 3])
  (.seq (.seq (.reg [⟨(some 6), .pl (.mv (.t 0)), none⟩,
      ⟨(some 7), .pl (.lenL (.t 6)), none⟩,
      ⟨(some 8), .pl (.mv (.c (.int .i64 0))), none⟩] [3, 6, 7, 8])
   (.block 0 (.loop [3, 6, 7, 8] A46_l0)))
  (A46_r0)))⟩
theorem c46 : compF Tryz.prog 46 = some A46 := by kernel_rfl

/-- (*concourse/compat.judge).decl -/
def A56 : AFun := ⟨64, [.t 2],
  .seq (.reg [⟨(some 2), .pl (.mv (.c (.int .i64 0))), none⟩] [0])
  (.seq (.seq (.regD [⟨(some 5), .pl (.mv (.t 0)), none⟩,
      ⟨(some 6), .pl (.nilck (.t 5)), none⟩,
      ⟨(some 7), .pl (.fa 1 (.t 6)), none⟩,
      ⟨(some 8), .pl (.load none (.t 7)), none⟩,
      ⟨(some 9), .pl (.mv (.t 0)), none⟩,
      ⟨(some 10), .pl (.nilck (.t 9)), none⟩,
      ⟨(some 11), .pl (.fa 2 (.t 10)), none⟩,
      ⟨(some 12), .pl (.fa 1 (.t 11)), none⟩,
      ⟨(some 13), .pl (.load none (.t 12)), none⟩,
      ⟨(some 14), .call (.c (.fn 57 [] [])) [(.t 8), (.t 13)], none⟩] [] [0, 14])
   (.block 0 (.seq (.reg [⟨(some 16), .pl (.bin .eql .no (.t 14) (.c (.int .i64 0))), none⟩,
       ⟨(some 15), .pl (.mv (.t 16)), none⟩] [0, 14, 15])
    (.cond (.t 15)
     (.seq (.reg [⟨(some 2), .pl (.mv (.c (.int .i64 6))), none⟩] [2])
      (.ret))
     (.seq (.reg [⟨(some 18), .pl (.mv (.t 0)), none⟩,
         ⟨(some 19), .pl (.nilck (.t 18)), none⟩,
         ⟨(some 20), .pl (.fa 2 (.t 19)), none⟩,
         ⟨(some 21), .pl (.fa 0 (.t 20)), none⟩,
         ⟨(some 22), .pl (.load none (.t 21)), none⟩,
         ⟨(some 23), .pl (.bin .eql .no (.t 14) (.t 22)), none⟩,
         ⟨(some 17), .pl (.mv (.t 23)), none⟩] [0, 17])
      (.cond (.t 17)
       (.skip)
       (.seq (.reg [⟨(some 2), .pl (.mv (.c (.int .i64 4))), none⟩] [2])
        (.ret))))))))
  (.seq (.seq (.regD [⟨(some 24), .pl (.mv (.t 0)), none⟩,
      ⟨(some 25), .pl (.nilck (.t 24)), none⟩,
      ⟨(some 26), .pl (.fa 0 (.t 25)), none⟩,
      ⟨(some 27), .pl (.load none (.t 26)), none⟩,
      ⟨(some 28), .pl (.mv (.t 0)), none⟩,
      ⟨(some 29), .pl (.nilck (.t 28)), none⟩,
      ⟨(some 30), .pl (.fa 2 (.t 29)), none⟩,
      ⟨(some 31), .pl (.fa 1 (.t 30)), none⟩,
      ⟨(some 32), .pl (.load none (.t 31)), none⟩,
      ⟨(some 33), .call (.c (.fn 15 [] [])) [(.t 27), (.t 32)], none⟩,
      ⟨(some 34), .pl (.mv (.t 0)), none⟩,
      ⟨(some 35), .pl (.mkfn 92 [(.t 34)] []), none⟩,
      ⟨(some 36), .call (.c (.fn 91 [] [])) [(.t 33), (.t 35)], none⟩,
      ⟨(some 3), .pl (.mv (.t 36)), none⟩] [] [0, 3])
   (.seq (.reg [⟨(some 37), .pl (.mv (.t 3)), none⟩,
      ⟨(some 38), .pl (.bin .neq .no (.t 37) (.c (.int .i64 0))), none⟩] [0, 3, 38])
   (.cond (.t 38)
    (.seq (.reg [⟨(some 39), .pl (.mv (.t 3)), none⟩,
        ⟨(some 2), .pl (.mv (.t 39)), none⟩] [2])
     (.ret))
    (.skip))))
  (.seq (.seq (.reg [⟨(some 40), .pl (.mv (.t 0)), none⟩,
      ⟨(some 41), .pl (.nilck (.t 40)), none⟩,
      ⟨(some 42), .pl (.fa 2 (.t 41)), none⟩,
      ⟨(some 43), .pl (.fa 3 (.t 42)), none⟩,
      ⟨(some 44), .pl (.load none (.t 43)), none⟩,
      ⟨(some 45), .pl (.mv (.t 0)), none⟩,
      ⟨(some 46), .pl (.mkfn 94 [(.t 45)] []), none⟩,
      ⟨(some 47), .call (.c (.fn 93 [] [])) [(.t 44), (.t 46)], none⟩,
      ⟨(some 4), .pl (.mv (.t 47)), none⟩] [0, 4])
   (.seq (.reg [⟨(some 48), .pl (.mv (.t 4)), none⟩,
      ⟨(some 49), .pl (.bin .neq .no (.t 48) (.c (.int .i64 0))), none⟩] [0, 4, 49])
   (.cond (.t 49)
    (.seq (.reg [⟨(some 50), .pl (.mv (.t 4)), none⟩,
        ⟨(some 2), .pl (.mv (.t 50)), none⟩] [2])
     (.ret))
    (.skip))))
  (.seq (.regD [⟨(some 51), .pl (.mv (.t 0)), none⟩,
     ⟨(some 52), .pl (.nilck (.t 51)), none⟩,
     ⟨(some 53), .pl (.fa 1 (.t 52)), none⟩,
     ⟨(some 54), .pl (.load none (.t 53)), none⟩,
     ⟨(some 55), .pl (.mv (.t 0)), none⟩,
     ⟨(some 56), .pl (.nilck (.t 55)), none⟩,
     ⟨(some 57), .pl (.fa 2 (.t 56)), none⟩,
     ⟨(some 58), .pl (.fa 1 (.t 57)), none⟩,
     ⟨(some 59), .pl (.load none (.t 58)), none⟩,
     ⟨(some 60), .call (.c (.fn 15 [] [])) [(.t 54), (.t 59)], none⟩,
     ⟨(some 61), .pl (.mv (.t 0)), none⟩,
     ⟨(some 62), .pl (.mkfn 95 [(.t 61)] []), none⟩,
     ⟨(some 63), .call (.c (.fn 91 [] [])) [(.t 60), (.t 62)], none⟩,
     ⟨(some 2), .pl (.mv (.t 63)), none⟩] [] [2])
  (.ret)))))⟩
theorem c56 : compF Tryz.prog 56 = some A56 := by kernel_rfl

/-- (*concourse/desc.Desc).Kind -/
def A57 : AFun := ⟨15, [.t 4],
  .seq (.reg [⟨(some 4), .pl (.mv (.c (.int .i64 0))), none⟩] [0, 1])
  (.seq (.seq (.reg [⟨(some 5), .pl (.mv (.t 0)), none⟩,
      ⟨(some 6), .pl (.bin .eql .ptr (.t 5) (.c (.nilp))), none⟩] [0, 1, 6])
   (.cond (.t 6)
    (.seq (.reg [⟨(some 4), .pl (.mv (.c (.int .i64 0))), none⟩] [4])
     (.ret))
    (.skip)))
  (.seq (.reg [⟨(some 7), .pl (.mv (.t 0)), none⟩,
     ⟨(some 8), .call (.c (.fn 45 [] [])) [(.t 7)], none⟩] [0, 1])
  (.seq (.reg [⟨(some 9), .pl (.mv (.t 0)), none⟩,
     ⟨(some 10), .pl (.nilck (.t 9)), none⟩,
     ⟨(some 11), .pl (.fa 4 (.t 10)), none⟩,
     ⟨(some 12), .pl (.load none (.t 11)), none⟩,
     ⟨(some 13), .pl (.mv (.t 1)), none⟩,
     ⟨(some 14), .call (.c (.fn 96 [] [])) [(.t 12), (.t 13)], none⟩,
     ⟨(some 4), .pl (.mv (.t 14)), none⟩] [4])
  (.ret))))⟩
theorem c57 : compF Tryz.prog 57 = some A57 := by kernel_rfl

/-- (*concourse/desc.Desc).Row -/
def A58 : AFun := ⟨44, [.cell 6 (some 5), .t 7],
  .seq (.reg [⟨(some 6), .pl (.alloc [.int .i64 0, .str ⟨#[]⟩, .int .i64 0, .str ⟨#[]⟩, .esl]), none⟩,
     ⟨(some 7), .pl (.mv (.c (.bool false))), none⟩] [0, 1, 2, 6])
  (.seq (.seq (.reg [⟨(some 11), .pl (.mv (.t 0)), none⟩,
      ⟨(some 12), .pl (.bin .eql .ptr (.t 11) (.c (.nilp))), none⟩] [0, 1, 2, 6, 12])
   (.cond (.t 12)
    (.seq (.reg [⟨(some 13), .pl (.build [.int .i64 0, .str ⟨#[]⟩, .int .i64 0, .str ⟨#[]⟩, .esl] []), none⟩,
        ⟨none, .pl (.store 5 (.t 6) (.t 13)), none⟩,
        ⟨(some 7), .pl (.mv (.c (.bool false))), none⟩] [6, 7])
     (.ret))
    (.skip)))
  (.seq (.reg [⟨(some 14), .pl (.mv (.t 0)), none⟩,
     ⟨(some 15), .call (.c (.fn 45 [] [])) [(.t 14)], none⟩] [0, 1, 2, 6])
  (.seq (.reg [⟨(some 17), .pl (.mv (.t 0)), none⟩,
     ⟨(some 18), .pl (.nilck (.t 17)), none⟩,
     ⟨(some 19), .pl (.fa 5 (.t 18)), none⟩,
     ⟨(some 20), .pl (.load none (.t 19)), none⟩,
     ⟨(some 21), .pl (.mv (.t 1)), none⟩,
     ⟨(some 22), .pl (.lookup true (.esl) false (.t 20) (.t 21)), none⟩,
     ⟨(some 23), .pl (.mv (.t 2)), none⟩,
     ⟨(some 24), .call (.c (.fn 97 [] [])) [(.t 22), (.t 23), (.c (.fn 98 [] []))], none⟩,
     ⟨(some 16), .pl (.mv (.t 24)), none⟩,
     ⟨(some 25), .pl (.ext 0 (.t 16)), none⟩,
     ⟨(some 26), .pl (.ext 1 (.t 16)), none⟩,
     ⟨(some 8), .pl (.mv (.t 25)), none⟩,
     ⟨(some 9), .pl (.mv (.t 26)), none⟩] [0, 1, 6, 8, 9])
  (.seq (.seq (.reg [⟨(some 27), .pl (.mv (.t 9)), none⟩,
      ⟨(some 28), .pl (.un .not (.t 27)), none⟩] [0, 1, 6, 8, 28])
   (.cond (.t 28)
    (.seq (.reg [⟨(some 29), .pl (.build [.int .i64 0, .str ⟨#[]⟩, .int .i64 0, .str ⟨#[]⟩, .esl] []), none⟩,
        ⟨none, .pl (.store 5 (.t 6) (.t 29)), none⟩,
        ⟨(some 7), .pl (.mv (.c (.bool false))), none⟩] [6, 7])
     (.ret))
    (.skip)))
  (.seq (.reg [⟨(some 30), .pl (.mv (.t 0)), none⟩,
     ⟨(some 31), .pl (.nilck (.t 30)), none⟩,
     ⟨(some 32), .pl (.fa 5 (.t 31)), none⟩,
     ⟨(some 33), .pl (.load none (.t 32)), none⟩,
     ⟨(some 34), .pl (.mv (.t 1)), none⟩,
     ⟨(some 35), .pl (.lookup true (.esl) false (.t 33) (.t 34)), none⟩,
     ⟨(some 36), .pl (.mv (.t 8)), none⟩,
     ⟨(some 37), .pl (.ia 5 (.t 35) (.t 36)), none⟩,
     ⟨(some 38), .pl (.load (some 5) (.t 37)), none⟩,
     ⟨(some 10), .pl (.alloc [.int .i64 0, .str ⟨#[]⟩, .int .i64 0, .str ⟨#[]⟩, .esl]), none⟩,
     ⟨none, .pl (.store 5 (.t 10) (.t 38)), none⟩] [6, 10])
  (.seq (.reg [⟨(some 39), .pl (.fa 2 (.t 10)), none⟩,
     ⟨(some 40), .pl (.load (some 3) (.t 39)), none⟩,
     ⟨(some 41), .call (.c (.fn 86 [] [])) [(.t 40)], none⟩,
     ⟨(some 42), .pl (.fa 2 (.t 10)), none⟩,
     ⟨none, .pl (.store 3 (.t 42) (.t 41)), none⟩] [6, 10])
  (.seq (.reg [⟨(some 43), .pl (.load (some 5) (.t 10)), none⟩,
     ⟨none, .pl (.store 5 (.t 6) (.t 43)), none⟩,
     ⟨(some 7), .pl (.mv (.c (.bool true))), none⟩] [6, 7])
  (.ret))))))))⟩
theorem c58 : compF Tryz.prog 58 = some A58 := by kernel_rfl

/-- concourse/lex.Tokens -/
def A71_l0 : AC := .seq (.seq (.reg [⟨(some 14), .pl (.mv (.t 4)), none⟩,
      ⟨(some 15), .pl (.nilck (.t 14)), none⟩,
      ⟨(some 16), .pl (.fa 1 (.t 15)), none⟩,
      ⟨(some 17), .pl (.load none (.t 16)), none⟩,
      ⟨(some 18), .pl (.mv (.t 0)), none⟩,
      ⟨(some 19), .pl (.lenS (.t 18)), none⟩,
      ⟨(some 20), .pl (.bin .lss .no (.t 17) (.t 19)), none⟩] [0, 3, 4, 20])
   (.cond (.t 20)
    (.skip)
    (.exit 0)))
  (.block 1 (.seq (.reg [⟨(some 21), .pl (.mv (.t 4)), none⟩,
      ⟨(some 22), .pl (.nilck (.t 21)), none⟩,
      ⟨(some 23), .pl (.fa 1 (.t 22)), none⟩,
      ⟨(some 24), .pl (.load none (.t 23)), none⟩,
      ⟨(some 5), .pl (.mv (.t 24)), none⟩] [0, 3, 4, 5])
   (.seq (.reg [⟨(some 25), .pl (.mv (.t 4)), none⟩,
      ⟨(some 26), .call (.c (.fn 122 [] [])) [(.t 25)], none⟩,
      ⟨(some 6), .pl (.mv (.t 26)), none⟩] [0, 3, 4, 5, 6])
   (.seq (.reg [⟨(some 27), .pl (.mv (.t 6)), none⟩,
      ⟨(some 28), .pl (.bin .neq .no (.t 27) (.c (.int .i64 0))), none⟩] [0, 3, 4, 5, 6, 28])
   (.cond (.t 28)
    (.seq (.reg [⟨(some 29), .pl (.mv (.t 6)), none⟩,
        ⟨(some 30), .pl (.mv (.t 5)), none⟩,
        ⟨(some 31), .pl (.build [.int .i64 0, .int .i64 0] [(0, 1, (.t 29)), (1, 1, (.t 30))]), none⟩,
        ⟨(some 2), .pl (.mv (.c (.esl))), none⟩,
        ⟨none, .pl (.store 2 (.t 3) (.t 31)), none⟩] [2, 3])
     (.ret))
    (.skip))))))
def A71_r0 : AC := .seq (.reg [⟨(some 32), .pl (.mv (.t 4)), none⟩,
     ⟨(some 33), .pl (.mv (.t 0)), none⟩,
     ⟨(some 34), .pl (.lenS (.t 33)), none⟩,
     ⟨(some 35), .call (.c (.fn 123 [] [])) [(.t 32), (.c (.int .i64 4)), (.c (.str ⟨#[]⟩)), (.c (.int .i64 0)), (.t 34)], none⟩] [3, 4])
  (.seq (.reg [⟨(some 36), .pl (.mv (.t 4)), none⟩,
     ⟨(some 37), .pl (.nilck (.t 36)), none⟩,
     ⟨(some 38), .pl (.fa 2 (.t 37)), none⟩,
     ⟨(some 39), .pl (.load none (.t 38)), none⟩,
     ⟨(some 40), .pl (.build [.int .i64 0, .int .i64 0] []), none⟩,
     ⟨(some 2), .pl (.mv (.t 39)), none⟩,
     ⟨none, .pl (.store 2 (.t 3) (.t 40)), none⟩] [2, 3])
  (.ret))
def A71 : AFun := ⟨41, [.t 2, .cell 3 (some 2)],
  .seq (.reg [⟨(some 2), .pl (.mv (.c (.esl))), none⟩,
     ⟨(some 3), .pl (.alloc [.int .i64 0, .int .i64 0]), none⟩] [0, 3])
  (.seq (.seq (.reg [⟨(some 7), .pl (.mv (.t 0)), none⟩,
      ⟨(some 8), .pl (.lenS (.t 7)), none⟩,
      ⟨(some 9), .pl (.bin .gtr .no (.t 8) (.c (.int .i64 1024))), none⟩] [0, 3, 9])
   (.cond (.t 9)
    (.seq (.reg [⟨(some 10), .pl (.build [.int .i64 0, .int .i64 0] [(0, 1, (.c (.int .i64 3)))]), none⟩,
        ⟨(some 2), .pl (.mv (.c (.esl))), none⟩,
        ⟨none, .pl (.store 2 (.t 3) (.t 10)), none⟩] [2, 3])
     (.ret))
    (.skip)))
  (.seq (.reg [⟨(some 11), .pl (.mv (.t 0)), none⟩,
     ⟨(some 12), .pl (.build [.str ⟨#[]⟩, .int .i64 0, .esl] [(0, 1, (.t 11))]), none⟩,
     ⟨(some 13), .pl (.box (.t 12)), none⟩,
     ⟨(some 4), .pl (.mv (.t 13)), none⟩] [0, 3, 4])
  (.seq (.block 0 (.loop [0, 3, 4] A71_l0))
  (A71_r0))))⟩
theorem c71 : compF Tryz.prog 71 = some A71 := by kernel_rfl

/-- (*concourse/parse.parser).decl -/
def A72 : AFun := ⟨39, [.cell 2 (some 5)],
  .seq (.reg [⟨(some 1), .pl (.box (.t 0)), none⟩,
     ⟨(some 2), .pl (.alloc [.int .i64 0, .str ⟨#[]⟩, .esl, .esl, .int .i64 0]), none⟩] [1, 2])
  (.seq (.reg [⟨(some 6), .pl (.load none (.t 1)), none⟩,
     ⟨(some 7), .call (.c (.fn 74 [] [])) [(.t 6)], none⟩,
     ⟨(some 8), .pl (.fld 3 none (.t 7)), none⟩,
     ⟨(some 9), .pl (.build [.int .i64 0, .str ⟨#[]⟩, .esl, .esl, .int .i64 0] [(4, 1, (.t 8))]), none⟩,
     ⟨(some 3), .pl (.alloc [.int .i64 0, .str ⟨#[]⟩, .esl, .esl, .int .i64 0]), none⟩,
     ⟨none, .pl (.store 5 (.t 3) (.t 9)), none⟩] [1, 2, 3])
  (.seq (.reg [⟨(some 10), .pl (.mkfn 124 [] [(.t 1), (.t 3)]), none⟩,
     ⟨(some 4), .pl (.mv (.t 10)), none⟩] [1, 2, 3, 4])
  (.seq (.reg [⟨(some 11), .pl (.mv (.t 4)), none⟩,
     ⟨(some 5), .pl (.mv (.t 11)), none⟩] [1, 2, 3, 5])
  (.seq (.block 0 (.seq (.reg [⟨(some 15), .pl (.load none (.t 1)), none⟩,
       ⟨(some 16), .call (.c (.fn 129 [] [])) [(.t 15), (.c (.str ⟨#[115, 116, 114, 117, 99, 116]⟩))], none⟩,
       ⟨(some 14), .pl (.mv (.t 16)), none⟩] [1, 2, 3, 5, 14])
    (.cond (.t 14)
     (.reg [⟨(some 17), .pl (.fa 0 (.t 3)), none⟩,
        ⟨none, .pl (.store 1 (.t 17) (.c (.int .i64 1))), none⟩] [1, 2, 3, 5])
     (.seq (.reg [⟨(some 19), .pl (.load none (.t 1)), none⟩,
         ⟨(some 20), .call (.c (.fn 129 [] [])) [(.t 19), (.c (.str ⟨#[117, 110, 105, 111, 110]⟩))], none⟩,
         ⟨(some 18), .pl (.mv (.t 20)), none⟩] [1, 2, 3, 5, 18])
      (.cond (.t 18)
       (.reg [⟨(some 21), .pl (.fa 0 (.t 3)), none⟩,
          ⟨none, .pl (.store 1 (.t 21) (.c (.int .i64 2))), none⟩] [1, 2, 3, 5])
       (.seq (.reg [⟨(some 23), .pl (.load none (.t 1)), none⟩,
           ⟨(some 24), .call (.c (.fn 129 [] [])) [(.t 23), (.c (.str ⟨#[101, 110, 117, 109]⟩))], none⟩,
           ⟨(some 22), .pl (.mv (.t 24)), none⟩] [1, 2, 3, 5, 22])
        (.cond (.t 22)
         (.seq (.reg [⟨(some 25), .pl (.fa 0 (.t 3)), none⟩,
             ⟨none, .pl (.store 1 (.t 25) (.c (.int .i64 3))), none⟩] [1, 2, 3])
          (.reg [⟨(some 26), .pl (.mkfn 130 [] [(.t 3), (.t 1)]), none⟩,
            ⟨(some 5), .pl (.mv (.t 26)), none⟩] [1, 2, 3, 5]))
         (.seq (.reg [⟨(some 28), .pl (.load none (.t 1)), none⟩,
             ⟨(some 29), .call (.c (.fn 129 [] [])) [(.t 28), (.c (.str ⟨#[115, 101, 114, 118, 105, 99, 101]⟩))], none⟩,
             ⟨(some 27), .pl (.mv (.t 29)), none⟩] [1, 2, 3, 5, 27])
          (.cond (.t 27)
           (.seq (.reg [⟨(some 30), .pl (.fa 0 (.t 3)), none⟩,
               ⟨none, .pl (.store 1 (.t 30) (.c (.int .i64 4))), none⟩] [1, 2, 3])
            (.reg [⟨(some 31), .pl (.mkfn 131 [] [(.t 3), (.t 1)]), none⟩,
              ⟨(some 5), .pl (.mv (.t 31)), none⟩] [1, 2, 3, 5]))
           (.reg [⟨(some 12), .pl (.load none (.t 1)), none⟩,
              ⟨(some 13), .call (.c (.fn 75 [] [])) [(.t 12), (.c (.int .i64 5))], none⟩] [1, 2, 3, 5]))))))))))
  (.seq (.reg [⟨(some 32), .pl (.load none (.t 1)), none⟩,
     ⟨(some 33), .call (.c (.fn 126 [] [])) [(.t 32)], none⟩,
     ⟨(some 34), .pl (.fa 1 (.t 3)), none⟩,
     ⟨none, .pl (.store 1 (.t 34) (.t 33)), none⟩] [1, 2, 3, 5])
  (.seq (.reg [⟨(some 35), .pl (.load none (.t 1)), none⟩,
     ⟨(some 36), .pl (.mv (.t 5)), none⟩,
     ⟨(some 37), .call (.c (.fn 133 [] [])) [(.t 35), (.t 36)], none⟩] [2, 3])
  (.seq (.reg [⟨(some 38), .pl (.load (some 5) (.t 3)), none⟩,
     ⟨none, .pl (.store 5 (.t 2) (.t 38)), none⟩] [2])
  (.ret))))))))⟩
theorem c72 : compF Tryz.prog 72 = some A72 := by kernel_rfl

/-- (*concourse/parse.parser).well -/
def A73 : AFun := ⟨9, [.t 2],
  .seq (.reg [⟨(some 2), .pl (.mv (.c (.bool false))), none⟩] [0])
  (.seq (.reg [⟨(some 3), .pl (.mv (.t 0)), none⟩,
     ⟨(some 4), .pl (.nilck (.t 3)), none⟩,
     ⟨(some 5), .pl (.fa 2 (.t 4)), none⟩,
     ⟨(some 6), .pl (.fa 0 (.t 5)), none⟩,
     ⟨(some 7), .pl (.load none (.t 6)), none⟩,
     ⟨(some 8), .pl (.bin .eql .no (.t 7) (.c (.int .i64 0))), none⟩,
     ⟨(some 2), .pl (.mv (.t 8)), none⟩] [2])
  (.ret))⟩
theorem c73 : compF Tryz.prog 73 = some A73 := by kernel_rfl

/-- (*concourse/parse.parser).now -/
def A74 : AFun := ⟨13, [.cell 2 (some 4)],
  .seq (.reg [⟨(some 2), .pl (.alloc [.int .i64 0, .str ⟨#[]⟩, .int .i64 0, .int .i64 0]), none⟩] [0, 2])
  (.seq (.regD [⟨(some 3), .pl (.mv (.t 0)), none⟩,
     ⟨(some 4), .pl (.nilck (.t 3)), none⟩,
     ⟨(some 5), .pl (.fa 0 (.t 4)), none⟩,
     ⟨(some 6), .pl (.load none (.t 5)), none⟩,
     ⟨(some 7), .pl (.mv (.t 0)), none⟩,
     ⟨(some 8), .pl (.nilck (.t 7)), none⟩,
     ⟨(some 9), .pl (.fa 1 (.t 8)), none⟩,
     ⟨(some 10), .pl (.load none (.t 9)), none⟩,
     ⟨(some 11), .pl (.ia 4 (.t 6) (.t 10)), none⟩,
     ⟨(some 12), .pl (.load (some 4) (.t 11)), none⟩,
     ⟨none, .pl (.store 4 (.t 2) (.t 12)), none⟩] [] [2])
  (.ret))⟩
theorem c74 : compF Tryz.prog 74 = some A74 := by kernel_rfl

/-- (*concourse/parse.parser).fail -/
def A75 : AFun := ⟨14, [],
  .seq (.reg [⟨(some 4), .pl (.mv (.t 0)), none⟩,
     ⟨(some 5), .call (.c (.fn 73 [] [])) [(.t 4)], none⟩] [0, 1, 5])
  (.cond (.t 5)
   (.reg [⟨(some 6), .pl (.mv (.t 0)), none⟩,
      ⟨(some 7), .pl (.mv (.t 1)), none⟩,
      ⟨(some 8), .pl (.mv (.t 0)), none⟩,
      ⟨(some 9), .call (.c (.fn 74 [] [])) [(.t 8)], none⟩,
      ⟨(some 10), .pl (.fld 3 none (.t 9)), none⟩,
      ⟨(some 11), .pl (.build [.int .i64 0, .int .i64 0] [(0, 1, (.t 7)), (1, 1, (.t 10))]), none⟩,
      ⟨(some 12), .pl (.nilck (.t 6)), none⟩,
      ⟨(some 13), .pl (.fa 2 (.t 12)), none⟩,
      ⟨none, .pl (.store 2 (.t 13) (.t 11)), none⟩] [])
   (.skip))⟩
theorem c75 : compF Tryz.prog 75 = some A75 := by kernel_rfl

/-- concourse/names.Of -/
def A77_l0 : AC := .seq (.reg [⟨(some 14), .pl (.bin .lss .no (.t 13) (.t 12)), none⟩] [3, 11, 12, 13, 14])
  (.seq (.cond (.t 14)
    (.skip)
    (.exit 0))
  (.seq (.block 1 (.seq (.reg [⟨(some 15), .pl (.mv (.t 13)), none⟩,
       ⟨(some 16), .pl (.ia 5 (.t 11) (.t 13)), none⟩,
       ⟨(some 17), .pl (.load (some 5) (.t 16)), none⟩,
       ⟨(some 5), .pl (.alloc [.int .i64 0, .str ⟨#[]⟩, .esl, .esl, .int .i64 0]), none⟩,
       ⟨(some 4), .pl (.mv (.t 15)), none⟩,
       ⟨none, .pl (.store 5 (.t 5) (.t 17)), none⟩] [3, 4, 5, 11, 12, 13])
    (.seq (.seq (.regD [⟨(some 19), .pl (.mv (.t 3)), none⟩,
        ⟨(some 20), .pl (.nilck (.t 19)), none⟩,
        ⟨(some 21), .pl (.fa 0 (.t 20)), none⟩,
        ⟨(some 22), .pl (.load none (.t 21)), none⟩,
        ⟨(some 23), .pl (.fa 1 (.t 5)), none⟩,
        ⟨(some 24), .pl (.load none (.t 23)), none⟩,
        ⟨(some 25), .pl (.lookup true (.int .i64 0) true (.t 22) (.t 24)), none⟩,
        ⟨(some 18), .pl (.mv (.t 25)), none⟩,
        ⟨(some 26), .pl (.ext 0 (.t 18)), none⟩,
        ⟨(some 27), .pl (.ext 1 (.t 18)), none⟩,
        ⟨(some 6), .pl (.mv (.t 26)), none⟩,
        ⟨(some 7), .pl (.mv (.t 27)), none⟩] [] [3, 4, 5, 7, 11, 12, 13])
     (.seq (.reg [⟨(some 28), .pl (.mv (.t 7)), none⟩,
        ⟨(some 29), .pl (.un .not (.t 28)), none⟩] [3, 4, 5, 11, 12, 13, 29])
     (.cond (.t 29)
      (.regD [⟨(some 30), .pl (.mv (.t 3)), none⟩,
         ⟨(some 31), .pl (.nilck (.t 30)), none⟩,
         ⟨(some 32), .pl (.fa 0 (.t 31)), none⟩,
         ⟨(some 33), .pl (.load none (.t 32)), none⟩,
         ⟨(some 34), .pl (.fa 1 (.t 5)), none⟩,
         ⟨(some 35), .pl (.load none (.t 34)), none⟩,
         ⟨(some 36), .pl (.mv (.t 4)), none⟩,
         ⟨none, .pl (.mupd true (.t 33) (.t 35) (.t 36)), none⟩] [] [3, 5, 11, 12, 13])
      (.skip))))
    (.regD [⟨(some 37), .pl (.mv (.t 3)), none⟩,
      ⟨(some 38), .pl (.mv (.t 3)), none⟩,
      ⟨(some 39), .pl (.nilck (.t 38)), none⟩,
      ⟨(some 40), .pl (.fa 1 (.t 39)), none⟩,
      ⟨(some 41), .pl (.load none (.t 40)), none⟩,
      ⟨(some 42), .pl (.fa 0 (.t 5)), none⟩,
      ⟨(some 43), .pl (.load none (.t 42)), none⟩,
      ⟨(some 44), .pl (.lit 1 [(.t 43)]), none⟩,
      ⟨(some 45), .pl (.append 3 1 8 (.t 41) (.t 44)), none⟩,
      ⟨(some 46), .pl (.nilck (.t 37)), none⟩,
      ⟨(some 47), .pl (.fa 1 (.t 46)), none⟩,
      ⟨none, .pl (.store 1 (.t 47) (.t 45)), none⟩] [] [3, 11, 12, 13]))))
  (.reg [⟨(some 48), .pl (.bin .add .no (.t 13) (.c (.int .i64 1))), none⟩,
    ⟨(some 13), .pl (.mv (.t 48)), none⟩] [3, 11, 12, 13])))
def A77_r0 : AC := .seq (.reg [⟨(some 49), .pl (.mv (.t 3)), none⟩,
     ⟨(some 2), .pl (.mv (.t 49)), none⟩] [2])
  (.ret)
def A77 : AFun := ⟨50, [.t 2],
  .seq (.reg [⟨(some 2), .pl (.mv (.c (.nilp))), none⟩] [0])
  (.seq (.reg [⟨(some 8), .pl (.mkmap), none⟩,
     ⟨(some 9), .pl (.build [.nilmap, .esl] [(0, 1, (.t 8))]), none⟩,
     ⟨(some 10), .pl (.box (.t 9)), none⟩,
     ⟨(some 3), .pl (.mv (.t 10)), none⟩] [0, 3])
  (.seq (.seq (.reg [⟨(some 11), .pl (.mv (.t 0)), none⟩,
      ⟨(some 12), .pl (.lenL (.t 11)), none⟩,
      ⟨(some 13), .pl (.mv (.c (.int .i64 0))), none⟩] [3, 11, 12, 13])
   (.block 0 (.loop [3, 11, 12, 13] A77_l0)))
  (A77_r0)))⟩
theorem c77 : compF Tryz.prog 77 = some A77 := by kernel_rfl

/-- (*concourse/check.checker).decl -/
def A78_l0 : AC := .seq (.reg [⟨(some 55), .pl (.bin .lss .no (.t 54) (.t 53)), none⟩] [0, 5, 8, 9, 10, 52, 53, 54, 55])
  (.seq (.cond (.t 55)
    (.skip)
    (.exit 1))
  (.seq (.block 2 (.seq (.reg [⟨(some 56), .pl (.ia 5 (.t 52) (.t 54)), none⟩,
       ⟨(some 57), .pl (.load (some 5) (.t 56)), none⟩,
       ⟨(some 12), .pl (.alloc [.int .i64 0, .str ⟨#[]⟩, .int .i64 0, .str ⟨#[]⟩, .esl]), none⟩,
       ⟨none, .pl (.store 5 (.t 12) (.t 57)), none⟩] [0, 5, 8, 9, 10, 12, 52, 53, 54])
    (.seq (.seq (.reg [⟨(some 58), .pl (.mv (.t 10)), none⟩,
        ⟨(some 59), .pl (.fa 0 (.t 12)), none⟩,
        ⟨(some 60), .pl (.load none (.t 59)), none⟩,
        ⟨(some 61), .pl (.fa 1 (.t 12)), none⟩,
        ⟨(some 62), .pl (.load none (.t 61)), none⟩,
        ⟨(some 63), .pl (.mv (.t 8)), none⟩,
        ⟨(some 64), .pl (.mv (.t 9)), none⟩,
        ⟨(some 65), .call (.c (.fn 134 [] [])) [(.t 58), (.t 60), (.t 62), (.t 63), (.t 64)], none⟩,
        ⟨(some 13), .pl (.mv (.t 65)), none⟩] [0, 5, 8, 9, 10, 12, 13, 52, 53, 54])
     (.seq (.reg [⟨(some 66), .pl (.mv (.t 13)), none⟩,
        ⟨(some 67), .pl (.bin .neq .no (.t 66) (.c (.int .i64 0))), none⟩] [0, 5, 8, 9, 10, 12, 13, 52, 53, 54, 67])
     (.cond (.t 67)
      (.seq (.reg [⟨(some 68), .pl (.mv (.t 13)), none⟩,
          ⟨(some 4), .pl (.mv (.t 68)), none⟩] [4])
       (.ret))
      (.skip))))
    (.seq (.reg [⟨(some 69), .pl (.mv (.t 0)), none⟩,
       ⟨(some 70), .pl (.load (some 5) (.t 5)), none⟩,
       ⟨(some 71), .pl (.load (some 5) (.t 12)), none⟩,
       ⟨(some 72), .call (.c (.fn 135 [] [])) [(.t 69), (.t 70), (.t 71)], none⟩,
       ⟨(some 14), .pl (.mv (.t 72)), none⟩] [0, 5, 8, 9, 10, 14, 52, 53, 54])
    (.seq (.reg [⟨(some 73), .pl (.mv (.t 14)), none⟩,
       ⟨(some 74), .pl (.bin .neq .no (.t 73) (.c (.int .i64 0))), none⟩] [0, 5, 8, 9, 10, 14, 52, 53, 54, 74])
    (.cond (.t 74)
     (.seq (.reg [⟨(some 75), .pl (.mv (.t 14)), none⟩,
         ⟨(some 4), .pl (.mv (.t 75)), none⟩] [4])
      (.ret))
     (.skip)))))))
  (.reg [⟨(some 76), .pl (.bin .add .no (.t 54) (.c (.int .i64 1))), none⟩,
    ⟨(some 54), .pl (.mv (.t 76)), none⟩] [0, 5, 8, 9, 10, 52, 53, 54])))
def A78_l1 : AC := .seq (.reg [⟨(some 81), .pl (.bin .lss .no (.t 80) (.t 79)), none⟩] [0, 5, 8, 9, 10, 78, 79, 80, 81])
  (.seq (.cond (.t 81)
    (.skip)
    (.exit 3))
  (.seq (.block 4 (.seq (.reg [⟨(some 82), .pl (.ia 5 (.t 78) (.t 80)), none⟩,
       ⟨(some 83), .pl (.load (some 5) (.t 82)), none⟩,
       ⟨(some 16), .pl (.alloc [.int .i64 0, .str ⟨#[]⟩, .str ⟨#[]⟩, .str ⟨#[]⟩, .bool false]), none⟩,
       ⟨none, .pl (.store 5 (.t 16) (.t 83)), none⟩] [0, 5, 8, 9, 10, 16, 78, 79, 80])
    (.seq (.seq (.reg [⟨(some 84), .pl (.mv (.t 10)), none⟩,
        ⟨(some 85), .pl (.fa 0 (.t 16)), none⟩,
        ⟨(some 86), .pl (.load none (.t 85)), none⟩,
        ⟨(some 87), .pl (.fa 1 (.t 16)), none⟩,
        ⟨(some 88), .pl (.load none (.t 87)), none⟩,
        ⟨(some 89), .pl (.mv (.t 8)), none⟩,
        ⟨(some 90), .pl (.mv (.t 9)), none⟩,
        ⟨(some 91), .call (.c (.fn 134 [] [])) [(.t 84), (.t 86), (.t 88), (.t 89), (.t 90)], none⟩,
        ⟨(some 17), .pl (.mv (.t 91)), none⟩] [0, 5, 8, 9, 10, 16, 17, 78, 79, 80])
     (.seq (.reg [⟨(some 92), .pl (.mv (.t 17)), none⟩,
        ⟨(some 93), .pl (.bin .neq .no (.t 92) (.c (.int .i64 0))), none⟩] [0, 5, 8, 9, 10, 16, 17, 78, 79, 80, 93])
     (.cond (.t 93)
      (.seq (.reg [⟨(some 94), .pl (.mv (.t 17)), none⟩,
          ⟨(some 4), .pl (.mv (.t 94)), none⟩] [4])
       (.ret))
      (.skip))))
    (.seq (.reg [⟨(some 95), .pl (.mv (.t 0)), none⟩,
       ⟨(some 96), .pl (.load (some 5) (.t 16)), none⟩,
       ⟨(some 97), .call (.c (.fn 136 [] [])) [(.t 95), (.t 96)], none⟩,
       ⟨(some 18), .pl (.mv (.t 97)), none⟩] [0, 5, 8, 9, 10, 18, 78, 79, 80])
    (.seq (.reg [⟨(some 98), .pl (.mv (.t 18)), none⟩,
       ⟨(some 99), .pl (.bin .neq .no (.t 98) (.c (.int .i64 0))), none⟩] [0, 5, 8, 9, 10, 18, 78, 79, 80, 99])
    (.cond (.t 99)
     (.seq (.reg [⟨(some 100), .pl (.mv (.t 18)), none⟩,
         ⟨(some 4), .pl (.mv (.t 100)), none⟩] [4])
      (.ret))
     (.skip)))))))
  (.reg [⟨(some 101), .pl (.bin .add .no (.t 80) (.c (.int .i64 1))), none⟩,
    ⟨(some 80), .pl (.mv (.t 101)), none⟩] [0, 5, 8, 9, 10, 78, 79, 80])))
def A78_r0 : AC := .seq (.seq (.reg [⟨(some 102), .pl (.fa 0 (.t 5)), none⟩,
      ⟨(some 103), .pl (.load none (.t 102)), none⟩,
      ⟨(some 104), .pl (.bin .eql .no (.t 103) (.c (.int .i64 2))), none⟩,
      ⟨(some 105), .pl (.mv (.t 104)), none⟩,
      ⟨(some 106), .pl (.fa 0 (.t 5)), (some (105, false))⟩,
      ⟨(some 107), .pl (.load none (.t 106)), (some (105, false))⟩,
      ⟨(some 108), .pl (.bin .eql .no (.t 107) (.c (.int .i64 3))), (some (105, false))⟩,
      ⟨(some 109), .pl (.pick (.t 105) (.c (.bool true)) (.t 108)), none⟩,
      ⟨(some 110), .pl (.mv (.t 109)), none⟩,
      ⟨(some 111), .pl (.fa 2 (.t 5)), (some (110, true))⟩,
      ⟨(some 112), .pl (.load none (.t 111)), (some (110, true))⟩,
      ⟨(some 113), .pl (.lenL (.t 112)), (some (110, true))⟩,
      ⟨(some 114), .pl (.bin .eql .no (.t 113) (.c (.int .i64 0))), (some (110, true))⟩,
      ⟨(some 115), .pl (.pick (.t 110) (.t 114) (.c (.bool false))), none⟩] [115])
   (.cond (.t 115)
    (.seq (.reg [⟨(some 4), .pl (.mv (.c (.int .i64 12))), none⟩] [4])
     (.ret))
    (.skip)))
  (.seq (.reg [⟨(some 4), .pl (.mv (.c (.int .i64 0))), none⟩] [4])
  (.ret))
def A78_r1 : AC := .seq (.seq (.reg [⟨(some 77), .pl (.fa 3 (.t 5)), none⟩,
      ⟨(some 78), .pl (.load none (.t 77)), none⟩,
      ⟨(some 79), .pl (.lenL (.t 78)), none⟩,
      ⟨(some 80), .pl (.mv (.c (.int .i64 0))), none⟩] [0, 5, 8, 9, 10, 78, 79, 80])
   (.block 3 (.loop [0, 5, 8, 9, 10, 78, 79, 80] A78_l1)))
  (A78_r0)
def A78 : AFun := ⟨116, [.t 4],
  .seq (.reg [⟨(some 4), .pl (.mv (.c (.int .i64 0))), none⟩] [0, 1])
  (.seq (.reg [⟨(some 19), .pl (.mv (.t 0)), none⟩,
     ⟨(some 20), .pl (.nilck (.t 19)), none⟩,
     ⟨(some 21), .pl (.fa 0 (.t 20)), none⟩,
     ⟨(some 22), .pl (.load none (.t 21)), none⟩,
     ⟨(some 23), .pl (.mv (.t 1)), none⟩,
     ⟨(some 24), .pl (.ia 5 (.t 22) (.t 23)), none⟩,
     ⟨(some 25), .pl (.load (some 5) (.t 24)), none⟩,
     ⟨(some 5), .pl (.alloc [.int .i64 0, .str ⟨#[]⟩, .esl, .esl, .int .i64 0]), none⟩,
     ⟨none, .pl (.store 5 (.t 5) (.t 25)), none⟩] [0, 1, 5])
  (.seq (.seq (.regD [⟨(some 27), .pl (.mv (.t 0)), none⟩,
      ⟨(some 28), .pl (.nilck (.t 27)), none⟩,
      ⟨(some 29), .pl (.fa 1 (.t 28)), none⟩,
      ⟨(some 30), .pl (.load none (.t 29)), none⟩,
      ⟨(some 31), .pl (.fa 1 (.t 5)), none⟩,
      ⟨(some 32), .pl (.load none (.t 31)), none⟩,
      ⟨(some 33), .call (.c (.fn 103 [] [])) [(.t 30), (.t 32)], none⟩,
      ⟨(some 26), .pl (.mv (.t 33)), none⟩,
      ⟨(some 34), .pl (.ext 0 (.t 26)), none⟩,
      ⟨(some 35), .pl (.ext 1 (.t 26)), none⟩,
      ⟨(some 6), .pl (.mv (.t 34)), none⟩,
      ⟨(some 7), .pl (.mv (.t 35)), none⟩] [] [0, 1, 5, 6])
   (.seq (.reg [⟨(some 36), .pl (.mv (.t 6)), none⟩,
      ⟨(some 37), .pl (.mv (.t 1)), none⟩,
      ⟨(some 38), .pl (.bin .neq .no (.t 36) (.t 37)), none⟩] [0, 5, 38])
   (.cond (.t 38)
    (.seq (.reg [⟨(some 4), .pl (.mv (.c (.int .i64 7))), none⟩] [4])
     (.ret))
    (.skip))))
  (.seq (.reg [⟨(some 8), .pl (.mv (.c (.int .i64 1))), none⟩,
     ⟨(some 9), .pl (.mv (.c (.int .i64 255))), none⟩] [0, 5, 8, 9])
  (.seq (.seq (.reg [⟨(some 39), .pl (.fa 0 (.t 5)), none⟩,
      ⟨(some 40), .pl (.load none (.t 39)), none⟩] [0, 5, 8, 9, 40])
   (.block 0 (.seq (.seq (.reg [⟨(some 42), .pl (.bin .eql .no (.t 40) (.c (.int .i64 1))), none⟩,
        ⟨(some 41), .pl (.mv (.t 42)), none⟩] [0, 5, 8, 9, 40, 41])
     (.cond (.t 41)
      (.skip)
      (.seq (.reg [⟨(some 43), .pl (.bin .eql .no (.t 40) (.c (.int .i64 2))), none⟩,
          ⟨(some 41), .pl (.mv (.t 43)), none⟩] [0, 5, 8, 9, 40, 41])
       (.cond (.t 41)
        (.skip)
        (.reg [⟨(some 44), .pl (.bin .eql .no (.t 40) (.c (.int .i64 4))), none⟩,
           ⟨(some 41), .pl (.mv (.t 44)), none⟩] [0, 5, 8, 9, 40, 41])))))
    (.cond (.t 41)
     (.skip)
     (.seq (.reg [⟨(some 46), .pl (.bin .eql .no (.t 40) (.c (.int .i64 3))), none⟩,
         ⟨(some 45), .pl (.mv (.t 46)), none⟩] [0, 5, 45])
      (.cond (.t 45)
       (.reg [⟨(some 8), .pl (.mv (.c (.int .i64 0))), none⟩,
          ⟨(some 9), .pl (.mv (.c (.int .i64 9999))), none⟩] [0, 5, 8, 9])
       (.seq (.reg [⟨(some 4), .pl (.mv (.c (.int .i64 4))), none⟩] [4])
        (.ret))))))))
  (.seq (.reg [⟨(some 47), .pl (.mkmap), none⟩,
     ⟨(some 48), .pl (.mkmap), none⟩,
     ⟨(some 49), .pl (.build [.nilmap, .nilmap] [(0, 1, (.t 47)), (1, 1, (.t 48))]), none⟩,
     ⟨(some 50), .pl (.box (.t 49)), none⟩,
     ⟨(some 10), .pl (.mv (.t 50)), none⟩] [0, 5, 8, 9, 10])
  (.seq (.seq (.reg [⟨(some 51), .pl (.fa 2 (.t 5)), none⟩,
      ⟨(some 52), .pl (.load none (.t 51)), none⟩,
      ⟨(some 53), .pl (.lenL (.t 52)), none⟩,
      ⟨(some 54), .pl (.mv (.c (.int .i64 0))), none⟩] [0, 5, 8, 9, 10, 52, 53, 54])
   (.block 1 (.loop [0, 5, 8, 9, 10, 52, 53, 54] A78_l0)))
  (A78_r1)))))))⟩
theorem c78 : compF Tryz.prog 78 = some A78 := by kernel_rfl

/-- concourse/check.Finite -/
def A79_l0 : AC := .seq (.reg [⟨(some 18), .pl (.bin .lss .no (.t 17) (.t 16)), none⟩] [0, 3, 4, 15, 16, 17, 18])
  (.seq (.cond (.t 18)
    (.skip)
    (.exit 2))
  (.seq (.block 3 (.seq (.reg [⟨(some 19), .pl (.mv (.t 17)), none⟩,
       ⟨(some 20), .pl (.ia 5 (.t 15) (.t 17)), none⟩,
       ⟨(some 21), .pl (.load (some 5) (.t 20)), none⟩,
       ⟨(some 6), .pl (.alloc [.int .i64 0, .str ⟨#[]⟩, .esl, .esl, .int .i64 0]), none⟩,
       ⟨(some 5), .pl (.mv (.t 19)), none⟩,
       ⟨none, .pl (.store 5 (.t 6) (.t 21)), none⟩] [0, 3, 4, 5, 6, 15, 16, 17])
    (.seq (.reg [⟨(some 22), .pl (.mv (.t 4)), none⟩,
       ⟨(some 23), .pl (.mv (.t 5)), none⟩,
       ⟨(some 24), .pl (.ia 1 (.t 22) (.t 23)), none⟩,
       ⟨(some 25), .pl (.load none (.t 24)), none⟩,
       ⟨(some 26), .pl (.un .not (.t 25)), none⟩,
       ⟨(some 27), .pl (.mv (.t 26)), none⟩,
       ⟨(some 28), .pl (.mv (.t 3)), (some (27, true))⟩,
       ⟨(some 29), .pl (.load (some 5) (.t 6)), (some (27, true))⟩,
       ⟨(some 30), .pl (.mv (.t 4)), (some (27, true))⟩,
       ⟨(some 31), .call (.c (.fn 137 [] [])) [(.t 28), (.t 29), (.t 30)], (some (27, true))⟩,
       ⟨(some 32), .pl (.pick (.t 27) (.t 31) (.c (.bool false))), none⟩] [0, 3, 4, 5, 15, 16, 17, 32])
    (.cond (.t 32)
     (.seq (.reg [⟨(some 33), .pl (.mv (.t 4)), none⟩,
         ⟨(some 34), .pl (.mv (.t 5)), none⟩,
         ⟨(some 35), .pl (.ia 1 (.t 33) (.t 34)), none⟩,
         ⟨none, .pl (.store 1 (.t 35) (.c (.bool true))), none⟩] [0, 3, 4])
      (.exit 1))
     (.skip)))))
  (.reg [⟨(some 36), .pl (.bin .add .no (.t 17) (.c (.int .i64 1))), none⟩,
    ⟨(some 17), .pl (.mv (.t 36)), none⟩] [0, 3, 4, 15, 16, 17])))
def A79_l1 : AC := .block 1 (.seq (.seq (.reg [⟨(some 15), .pl (.mv (.t 0)), none⟩,
       ⟨(some 16), .pl (.lenL (.t 15)), none⟩,
       ⟨(some 17), .pl (.mv (.c (.int .i64 0))), none⟩] [0, 3, 4, 15, 16, 17])
    (.block 2 (.loop [0, 3, 4, 15, 16, 17] A79_l0)))
   (.exit 0))
def A79_r0 : AC := .seq (.reg [⟨(some 37), .pl (.mv (.t 4)), none⟩,
     ⟨(some 2), .pl (.mv (.t 37)), none⟩] [2])
  (.ret)
def A79 : AFun := ⟨38, [.t 2],
  .seq (.reg [⟨(some 2), .pl (.mv (.c (.esl))), none⟩] [0])
  (.seq (.reg [⟨(some 7), .pl (.mv (.t 0)), none⟩,
     ⟨(some 8), .pl (.mv (.t 0)), none⟩,
     ⟨(some 9), .call (.c (.fn 77 [] [])) [(.t 8)], none⟩,
     ⟨(some 10), .pl (.build [.esl, .nilp] [(0, 1, (.t 7)), (1, 1, (.t 9))]), none⟩,
     ⟨(some 11), .pl (.box (.t 10)), none⟩,
     ⟨(some 3), .pl (.mv (.t 11)), none⟩] [0, 3])
  (.seq (.reg [⟨(some 12), .pl (.mv (.t 0)), none⟩,
     ⟨(some 13), .pl (.lenL (.t 12)), none⟩,
     ⟨(some 14), .pl (.mksl 1 1 [.bool false] (.t 13) (.t 13)), none⟩,
     ⟨(some 4), .pl (.mv (.t 14)), none⟩] [0, 3, 4])
  (.seq (.skip)
  (.seq (.block 0 (.loop [0, 3, 4] A79_l1))
  (A79_r0)))))⟩
theorem c79 : compF Tryz.prog 79 = some A79 := by kernel_rfl

/-- (*concourse/desc.Desc).ready$1 -/
def A81_l0 : AC := .seq (.reg [⟨(some 22), .pl (.bin .lss .no (.t 21) (.t 20)), none⟩] [0, 19, 20, 21, 22])
  (.seq (.cond (.t 22)
    (.skip)
    (.exit 0))
  (.seq (.block 1 (.seq (.reg [⟨(some 23), .pl (.ia 5 (.t 19) (.t 21)), none⟩,
       ⟨(some 24), .pl (.load (some 5) (.t 23)), none⟩,
       ⟨(some 2), .pl (.alloc [.int .i64 0, .str ⟨#[]⟩, .esl, .esl, .int .i64 0]), none⟩,
       ⟨none, .pl (.store 5 (.t 2) (.t 24)), none⟩] [0, 2, 19, 20, 21])
    (.seq (.reg [⟨(some 25), .pl (.fa 2 (.t 2)), none⟩,
       ⟨(some 26), .pl (.load none (.t 25)), none⟩,
       ⟨(some 27), .call (.c (.fn 82 [] [])) [(.t 26)], none⟩,
       ⟨(some 3), .pl (.mv (.t 27)), none⟩] [0, 2, 3, 19, 20, 21])
    (.seq (.reg [⟨(some 28), .pl (.mv (.t 3)), none⟩,
       ⟨(some 29), .call (.c (.fn 83 [] [])) [(.t 28), (.c (.fn 84 [] []))], none⟩] [0, 2, 3, 19, 20, 21])
    (.regD [⟨(some 30), .pl (.load none (.t 0)), none⟩,
      ⟨(some 31), .pl (.nilck (.t 30)), none⟩,
      ⟨(some 32), .pl (.fa 5 (.t 31)), none⟩,
      ⟨(some 33), .pl (.load none (.t 32)), none⟩,
      ⟨(some 34), .pl (.fa 1 (.t 2)), none⟩,
      ⟨(some 35), .pl (.load none (.t 34)), none⟩,
      ⟨(some 36), .pl (.mv (.t 3)), none⟩,
      ⟨none, .pl (.mupd true (.t 33) (.t 35) (.t 36)), none⟩] [] [0, 19, 20, 21])))))
  (.reg [⟨(some 37), .pl (.bin .add .no (.t 21) (.c (.int .i64 1))), none⟩,
    ⟨(some 21), .pl (.mv (.t 37)), none⟩] [0, 19, 20, 21])))
def A81 : AFun := ⟨38, [],
  .seq (.regD [⟨(some 4), .pl (.load none (.t 0)), none⟩,
     ⟨(some 5), .pl (.load none (.t 0)), none⟩,
     ⟨(some 6), .pl (.nilck (.t 5)), none⟩,
     ⟨(some 7), .pl (.fa 0 (.t 6)), none⟩,
     ⟨(some 8), .pl (.load none (.t 7)), none⟩,
     ⟨(some 9), .call (.c (.fn 77 [] [])) [(.t 8)], none⟩,
     ⟨(some 10), .pl (.nilck (.t 4)), none⟩,
     ⟨(some 11), .pl (.fa 4 (.t 10)), none⟩,
     ⟨none, .pl (.store 1 (.t 11) (.t 9)), none⟩] [(0, 5)] [0])
  (.seq (.reg [⟨(some 12), .pl (.load none (.t 0)), none⟩,
     ⟨(some 13), .pl (.mkmap), none⟩,
     ⟨(some 14), .pl (.nilck (.t 12)), none⟩,
     ⟨(some 15), .pl (.fa 5 (.t 14)), none⟩,
     ⟨none, .pl (.store 1 (.t 15) (.t 13)), none⟩] [0])
  (.seq (.reg [⟨(some 16), .pl (.load none (.t 0)), none⟩,
     ⟨(some 17), .pl (.nilck (.t 16)), none⟩,
     ⟨(some 18), .pl (.fa 0 (.t 17)), none⟩,
     ⟨(some 19), .pl (.load none (.t 18)), none⟩,
     ⟨(some 20), .pl (.lenL (.t 19)), none⟩,
     ⟨(some 21), .pl (.mv (.c (.int .i64 0))), none⟩] [0, 19, 20, 21])
  (.block 0 (.loop [0, 19, 20, 21] A81_l0))))⟩
theorem c81 : compF Tryz.prog 81 = some A81 := by kernel_rfl

/-- slices.Clone[[]concourse/api.Field,concourse/api.Field] -/
def A82 : AFun := ⟨8, [.t 2],
  .seq (.reg [⟨(some 2), .pl (.mv (.c (.esl))), none⟩] [0])
  (.seq (.seq (.reg [⟨(some 3), .pl (.mv (.t 0)), none⟩,
      ⟨(some 4), .pl (.bin .eql .no (.t 3) (.c (.esl))), none⟩] [0, 4])
   (.cond (.t 4)
    (.seq (.reg [⟨(some 2), .pl (.mv (.c (.esl))), none⟩] [2])
     (.ret))
    (.skip)))
  (.seq (.reg [⟨(some 5), .pl (.lit 5 []), none⟩,
     ⟨(some 6), .pl (.mv (.t 0)), none⟩,
     ⟨(some 7), .pl (.append 41 5 72 (.t 5) (.t 6)), none⟩,
     ⟨(some 2), .pl (.mv (.t 7)), none⟩] [2])
  (.ret)))⟩
theorem c82 : compF Tryz.prog 82 = some A82 := by kernel_rfl

/-- slices.SortStableFunc[[]concourse/api.Field,concourse/api.Field] -/
def A83 : AFun := ⟨9, [],
  .reg [⟨(some 4), .pl (.mv (.t 0)), none⟩,
    ⟨(some 5), .pl (.mv (.t 0)), none⟩,
    ⟨(some 6), .pl (.lenL (.t 5)), none⟩,
    ⟨(some 7), .pl (.mv (.t 1)), none⟩,
    ⟨(some 8), .call (.c (.fn 140 [] [])) [(.t 4), (.t 6), (.t 7)], none⟩] []⟩
theorem c83 : compF Tryz.prog 83 = some A83 := by kernel_rfl

/-- (*concourse/desc.Desc).ready$1$1 -/
def A84 : AFun := ⟨10, [.t 4],
  .seq (.reg [⟨(some 2), .pl (.box (.t 0)), none⟩,
     ⟨(some 3), .pl (.box (.t 1)), none⟩,
     ⟨(some 4), .pl (.mv (.c (.int .i64 0))), none⟩] [2, 3])
  (.seq (.reg [⟨(some 5), .pl (.fa 0 (.t 2)), none⟩,
     ⟨(some 6), .pl (.load none (.t 5)), none⟩,
     ⟨(some 7), .pl (.fa 0 (.t 3)), none⟩,
     ⟨(some 8), .pl (.load none (.t 7)), none⟩,
     ⟨(some 9), .call (.c (.fn 85 [] [])) [(.t 6), (.t 8)], none⟩,
     ⟨(some 4), .pl (.mv (.t 9)), none⟩] [4])
  (.ret))⟩
theorem c84 : compF Tryz.prog 84 = some A84 := by kernel_rfl

/-- cmp.Compare[int] -/
def A85 : AFun := ⟨20, [.t 4],
  .seq (.reg [⟨(some 4), .pl (.mv (.c (.int .i64 0))), none⟩] [0, 1])
  (.seq (.reg [⟨(some 7), .pl (.mv (.t 0)), none⟩,
     ⟨(some 8), .call (.c (.fn 141 [] [])) [(.t 7)], none⟩,
     ⟨(some 5), .pl (.mv (.t 8)), none⟩] [0, 1, 5])
  (.seq (.reg [⟨(some 9), .pl (.mv (.t 1)), none⟩,
     ⟨(some 10), .call (.c (.fn 141 [] [])) [(.t 9)], none⟩,
     ⟨(some 6), .pl (.mv (.t 10)), none⟩] [0, 1, 5, 6])
  (.seq (.seq (.reg [⟨(some 11), .pl (.mv (.t 5)), none⟩] [0, 1, 6, 11])
   (.cond (.t 11)
    (.seq (.seq (.reg [⟨(some 12), .pl (.mv (.t 6)), none⟩] [12])
      (.cond (.t 12)
       (.seq (.reg [⟨(some 4), .pl (.mv (.c (.int .i64 0))), none⟩] [4])
        (.ret))
       (.skip)))
     (.seq (.reg [⟨(some 4), .pl (.mv (.c (.int .i64 (-1)))), none⟩] [4])
     (.ret)))
    (.skip)))
  (.seq (.seq (.reg [⟨(some 13), .pl (.mv (.t 6)), none⟩] [0, 1, 13])
   (.cond (.t 13)
    (.seq (.reg [⟨(some 4), .pl (.mv (.c (.int .i64 1))), none⟩] [4])
     (.ret))
    (.skip)))
  (.seq (.seq (.reg [⟨(some 14), .pl (.mv (.t 0)), none⟩,
      ⟨(some 15), .pl (.mv (.t 1)), none⟩,
      ⟨(some 16), .pl (.bin .lss .no (.t 14) (.t 15)), none⟩] [0, 1, 16])
   (.cond (.t 16)
    (.seq (.reg [⟨(some 4), .pl (.mv (.c (.int .i64 (-1)))), none⟩] [4])
     (.ret))
    (.skip)))
  (.seq (.seq (.reg [⟨(some 17), .pl (.mv (.t 0)), none⟩,
      ⟨(some 18), .pl (.mv (.t 1)), none⟩,
      ⟨(some 19), .pl (.bin .gtr .no (.t 17) (.t 18)), none⟩] [19])
   (.cond (.t 19)
    (.seq (.reg [⟨(some 4), .pl (.mv (.c (.int .i64 1))), none⟩] [4])
     (.ret))
    (.skip)))
  (.seq (.reg [⟨(some 4), .pl (.mv (.c (.int .i64 0))), none⟩] [4])
  (.ret))))))))⟩
theorem c85 : compF Tryz.prog 85 = some A85 := by kernel_rfl

/-- concourse/desc.own -/
def A86_l0 : AC := .seq (.reg [⟨(some 15), .pl (.bin .lss .no (.t 14) (.t 13)), none⟩] [2, 3, 12, 13, 14, 15])
  (.seq (.cond (.t 15)
    (.skip)
    (.exit 0))
  (.seq (.block 1 (.seq (.reg [⟨(some 16), .pl (.ia 3 (.t 12) (.t 14)), none⟩,
       ⟨(some 17), .pl (.load (some 3) (.t 16)), none⟩,
       ⟨(some 5), .pl (.alloc [.int .i64 0, .str ⟨#[]⟩, .esl]), none⟩,
       ⟨none, .pl (.store 3 (.t 5) (.t 17)), none⟩] [2, 3, 5, 12, 13, 14])
    (.regD [⟨(some 18), .pl (.fa 2 (.t 3)), none⟩,
      ⟨(some 19), .pl (.load none (.t 18)), none⟩,
      ⟨(some 20), .pl (.load (some 3) (.t 5)), none⟩,
      ⟨(some 21), .call (.c (.fn 86 [] [])) [(.t 20)], none⟩,
      ⟨(some 22), .pl (.lit 3 [(.t 21)]), none⟩,
      ⟨(some 23), .pl (.append 39 3 48 (.t 19) (.t 22)), none⟩,
      ⟨(some 24), .pl (.fa 2 (.t 3)), none⟩,
      ⟨none, .pl (.store 1 (.t 24) (.t 23)), none⟩] [(1, 3)] [2, 3, 12, 13, 14])))
  (.reg [⟨(some 25), .pl (.bin .add .no (.t 14) (.c (.int .i64 1))), none⟩,
    ⟨(some 14), .pl (.mv (.t 25)), none⟩] [2, 3, 12, 13, 14])))
def A86_r0 : AC := .seq (.reg [⟨(some 26), .pl (.load (some 3) (.t 3)), none⟩,
     ⟨none, .pl (.store 3 (.t 2) (.t 26)), none⟩] [2])
  (.ret)
def A86 : AFun := ⟨27, [.cell 2 (some 3)],
  .seq (.reg [⟨(some 1), .pl (.box (.t 0)), none⟩,
     ⟨(some 2), .pl (.alloc [.int .i64 0, .str ⟨#[]⟩, .esl]), none⟩] [1, 2])
  (.seq (.reg [⟨(some 6), .pl (.fa 0 (.t 1)), none⟩,
     ⟨(some 7), .pl (.load none (.t 6)), none⟩,
     ⟨(some 8), .pl (.fa 1 (.t 1)), none⟩,
     ⟨(some 9), .pl (.load none (.t 8)), none⟩,
     ⟨(some 10), .pl (.build [.int .i64 0, .str ⟨#[]⟩, .esl] [(0, 1, (.t 7)), (1, 1, (.t 9))]), none⟩,
     ⟨(some 3), .pl (.alloc [.int .i64 0, .str ⟨#[]⟩, .esl]), none⟩,
     ⟨none, .pl (.store 3 (.t 3) (.t 10)), none⟩] [1, 2, 3])
  (.seq (.seq (.reg [⟨(some 11), .pl (.fa 2 (.t 1)), none⟩,
      ⟨(some 12), .pl (.load none (.t 11)), none⟩,
      ⟨(some 13), .pl (.lenL (.t 12)), none⟩,
      ⟨(some 14), .pl (.mv (.c (.int .i64 0))), none⟩] [2, 3, 12, 13, 14])
   (.block 0 (.loop [2, 3, 12, 13, 14] A86_l0)))
  (A86_r0)))⟩
theorem c86 : compF Tryz.prog 86 = some A86 := by kernel_rfl

/-- concourse/compat.first[concourse/api.Field] -/
def A91_l0 : AC := .seq (.reg [⟨(some 11), .pl (.bin .lss .no (.t 10) (.t 9)), none⟩] [1, 8, 9, 10, 11])
  (.seq (.cond (.t 11)
    (.skip)
    (.exit 0))
  (.seq (.block 1 (.seq (.reg [⟨(some 12), .pl (.ia 5 (.t 8) (.t 10)), none⟩,
       ⟨(some 13), .pl (.load (some 5) (.t 12)), none⟩,
       ⟨(some 6), .pl (.alloc [.int .i64 0, .str ⟨#[]⟩, .int .i64 0, .str ⟨#[]⟩, .esl]), none⟩,
       ⟨none, .pl (.store 5 (.t 6) (.t 13)), none⟩] [1, 6, 8, 9, 10])
    (.seq (.reg [⟨(some 14), .pl (.mv (.t 1)), none⟩,
       ⟨(some 15), .pl (.load (some 5) (.t 6)), none⟩,
       ⟨(some 16), .call (.t 14) [(.t 15)], none⟩,
       ⟨(some 7), .pl (.mv (.t 16)), none⟩] [1, 7, 8, 9, 10])
    (.seq (.reg [⟨(some 17), .pl (.mv (.t 7)), none⟩,
       ⟨(some 18), .pl (.bin .neq .no (.t 17) (.c (.int .i64 0))), none⟩] [1, 7, 8, 9, 10, 18])
    (.cond (.t 18)
     (.seq (.reg [⟨(some 19), .pl (.mv (.t 7)), none⟩,
         ⟨(some 4), .pl (.mv (.t 19)), none⟩] [4])
      (.ret))
     (.skip))))))
  (.reg [⟨(some 20), .pl (.bin .add .no (.t 10) (.c (.int .i64 1))), none⟩,
    ⟨(some 10), .pl (.mv (.t 20)), none⟩] [1, 8, 9, 10])))
def A91_r0 : AC := .seq (.reg [⟨(some 4), .pl (.mv (.c (.int .i64 0))), none⟩] [4])
  (.ret)
def A91 : AFun := ⟨21, [.t 4],
  .seq (.reg [⟨(some 4), .pl (.mv (.c (.int .i64 0))), none⟩] [0, 1])
  (.seq (.seq (.reg [⟨(some 8), .pl (.mv (.t 0)), none⟩,
      ⟨(some 9), .pl (.lenL (.t 8)), none⟩,
      ⟨(some 10), .pl (.mv (.c (.int .i64 0))), none⟩] [1, 8, 9, 10])
   (.block 0 (.loop [1, 8, 9, 10] A91_l0)))
  (A91_r0))⟩
theorem c91 : compF Tryz.prog 91 = some A91 := by kernel_rfl

/-- (*concourse/compat.judge).row -/
def A92 : AFun := ⟨47, [.t 4],
  .seq (.reg [⟨(some 3), .pl (.box (.t 1)), none⟩,
     ⟨(some 4), .pl (.mv (.c (.int .i64 0))), none⟩] [0, 3])
  (.seq (.regD [⟨(some 8), .pl (.mv (.t 0)), none⟩,
     ⟨(some 9), .pl (.nilck (.t 8)), none⟩,
     ⟨(some 10), .pl (.fa 1 (.t 9)), none⟩,
     ⟨(some 11), .pl (.load none (.t 10)), none⟩,
     ⟨(some 12), .pl (.mv (.t 0)), none⟩,
     ⟨(some 13), .pl (.nilck (.t 12)), none⟩,
     ⟨(some 14), .pl (.fa 2 (.t 13)), none⟩,
     ⟨(some 15), .pl (.fa 1 (.t 14)), none⟩,
     ⟨(some 16), .pl (.load none (.t 15)), none⟩,
     ⟨(some 17), .pl (.fa 0 (.t 3)), none⟩,
     ⟨(some 18), .pl (.load none (.t 17)), none⟩,
     ⟨(some 19), .call (.c (.fn 58 [] [])) [(.t 11), (.t 16), (.t 18)], none⟩,
     ⟨(some 7), .pl (.mv (.t 19)), none⟩,
     ⟨(some 20), .pl (.ext 0 (.t 7)), none⟩,
     ⟨(some 21), .pl (.ext 1 (.t 7)), none⟩,
     ⟨(some 5), .pl (.alloc [.int .i64 0, .str ⟨#[]⟩, .int .i64 0, .str ⟨#[]⟩, .esl]), none⟩,
     ⟨none, .pl (.store 5 (.t 5) (.t 20)), none⟩,
     ⟨(some 6), .pl (.mv (.t 21)), none⟩] [(3, 15), (8, 15), (10, 15)] [0, 3, 5, 6])
  (.seq (.block 0 (.seq (.reg [⟨(some 23), .pl (.mv (.t 6)), none⟩,
       ⟨(some 24), .pl (.un .not (.t 23)), none⟩,
       ⟨(some 25), .pl (.mv (.t 24)), none⟩,
       ⟨(some 26), .pl (.mv (.t 0)), (some (25, true))⟩,
       ⟨(some 27), .pl (.nilck (.t 26)), (some (25, true))⟩,
       ⟨(some 28), .pl (.fa 2 (.t 27)), (some (25, true))⟩,
       ⟨(some 29), .pl (.fa 0 (.t 28)), (some (25, true))⟩,
       ⟨(some 30), .pl (.load none (.t 29)), (some (25, true))⟩,
       ⟨(some 31), .pl (.bin .eql .no (.t 30) (.c (.int .i64 1))), (some (25, true))⟩,
       ⟨(some 32), .pl (.pick (.t 25) (.t 31) (.c (.bool false))), none⟩,
       ⟨(some 33), .pl (.mv (.t 32)), none⟩,
       ⟨(some 34), .pl (.load (some 5) (.t 3)), (some (33, true))⟩,
       ⟨(some 35), .call (.c (.fn 148 [] [])) [(.t 34)], (some (33, true))⟩,
       ⟨(some 36), .pl (.pick (.t 33) (.t 35) (.c (.bool false))), none⟩,
       ⟨(some 22), .pl (.mv (.t 36)), none⟩] [3, 5, 6, 22])
    (.cond (.t 22)
     (.seq (.reg [⟨(some 4), .pl (.mv (.c (.int .i64 0))), none⟩] [4])
      (.ret))
     (.seq (.reg [⟨(some 38), .pl (.mv (.t 6)), none⟩,
         ⟨(some 39), .pl (.un .not (.t 38)), none⟩,
         ⟨(some 37), .pl (.mv (.t 39)), none⟩] [3, 5, 37])
      (.cond (.t 37)
       (.seq (.reg [⟨(some 4), .pl (.mv (.c (.int .i64 9))), none⟩] [4])
        (.ret))
       (.seq (.reg [⟨(some 41), .pl (.fa 2 (.t 3)), none⟩,
           ⟨(some 42), .pl (.load (some 3) (.t 41)), none⟩,
           ⟨(some 43), .pl (.fa 2 (.t 5)), none⟩,
           ⟨(some 44), .pl (.load (some 3) (.t 43)), none⟩,
           ⟨(some 45), .call (.c (.fn 34 [] [])) [(.t 42), (.t 44)], none⟩,
           ⟨(some 46), .pl (.un .not (.t 45)), none⟩,
           ⟨(some 40), .pl (.mv (.t 46)), none⟩] [40])
        (.cond (.t 40)
         (.seq (.reg [⟨(some 4), .pl (.mv (.c (.int .i64 8))), none⟩] [4])
          (.ret))
         (.skip))))))))
  (.seq (.reg [⟨(some 4), .pl (.mv (.c (.int .i64 0))), none⟩] [4])
  (.ret))))⟩
theorem c92 : compF Tryz.prog 92 = some A92 := by kernel_rfl

/-- concourse/compat.first[concourse/api.Method] -/
def A93_l0 : AC := .seq (.reg [⟨(some 11), .pl (.bin .lss .no (.t 10) (.t 9)), none⟩] [1, 8, 9, 10, 11])
  (.seq (.cond (.t 11)
    (.skip)
    (.exit 0))
  (.seq (.block 1 (.seq (.reg [⟨(some 12), .pl (.ia 5 (.t 8) (.t 10)), none⟩,
       ⟨(some 13), .pl (.load (some 5) (.t 12)), none⟩,
       ⟨(some 6), .pl (.alloc [.int .i64 0, .str ⟨#[]⟩, .str ⟨#[]⟩, .str ⟨#[]⟩, .bool false]), none⟩,
       ⟨none, .pl (.store 5 (.t 6) (.t 13)), none⟩] [1, 6, 8, 9, 10])
    (.seq (.reg [⟨(some 14), .pl (.mv (.t 1)), none⟩,
       ⟨(some 15), .pl (.load (some 5) (.t 6)), none⟩,
       ⟨(some 16), .call (.t 14) [(.t 15)], none⟩,
       ⟨(some 7), .pl (.mv (.t 16)), none⟩] [1, 7, 8, 9, 10])
    (.seq (.reg [⟨(some 17), .pl (.mv (.t 7)), none⟩,
       ⟨(some 18), .pl (.bin .neq .no (.t 17) (.c (.int .i64 0))), none⟩] [1, 7, 8, 9, 10, 18])
    (.cond (.t 18)
     (.seq (.reg [⟨(some 19), .pl (.mv (.t 7)), none⟩,
         ⟨(some 4), .pl (.mv (.t 19)), none⟩] [4])
      (.ret))
     (.skip))))))
  (.reg [⟨(some 20), .pl (.bin .add .no (.t 10) (.c (.int .i64 1))), none⟩,
    ⟨(some 10), .pl (.mv (.t 20)), none⟩] [1, 8, 9, 10])))
def A93_r0 : AC := .seq (.reg [⟨(some 4), .pl (.mv (.c (.int .i64 0))), none⟩] [4])
  (.ret)
def A93 : AFun := ⟨21, [.t 4],
  .seq (.reg [⟨(some 4), .pl (.mv (.c (.int .i64 0))), none⟩] [0, 1])
  (.seq (.seq (.reg [⟨(some 8), .pl (.mv (.t 0)), none⟩,
      ⟨(some 9), .pl (.lenL (.t 8)), none⟩,
      ⟨(some 10), .pl (.mv (.c (.int .i64 0))), none⟩] [1, 8, 9, 10])
   (.block 0 (.loop [1, 8, 9, 10] A93_l0)))
  (A93_r0))⟩
theorem c93 : compF Tryz.prog 93 = some A93 := by kernel_rfl

/-- (*concourse/compat.judge).method -/
def A94 : AFun := ⟨29, [.t 4],
  .seq (.reg [⟨(some 3), .pl (.box (.t 1)), none⟩,
     ⟨(some 4), .pl (.mv (.c (.int .i64 0))), none⟩] [0, 3])
  (.seq (.regD [⟨(some 8), .pl (.mv (.t 0)), none⟩,
     ⟨(some 9), .pl (.nilck (.t 8)), none⟩,
     ⟨(some 10), .pl (.fa 1 (.t 9)), none⟩,
     ⟨(some 11), .pl (.load none (.t 10)), none⟩,
     ⟨(some 12), .pl (.mv (.t 0)), none⟩,
     ⟨(some 13), .pl (.nilck (.t 12)), none⟩,
     ⟨(some 14), .pl (.fa 2 (.t 13)), none⟩,
     ⟨(some 15), .pl (.fa 1 (.t 14)), none⟩,
     ⟨(some 16), .pl (.load none (.t 15)), none⟩,
     ⟨(some 17), .pl (.fa 1 (.t 3)), none⟩,
     ⟨(some 18), .pl (.load none (.t 17)), none⟩,
     ⟨(some 19), .call (.c (.fn 149 [] [])) [(.t 11), (.t 16), (.t 18)], none⟩,
     ⟨(some 7), .pl (.mv (.t 19)), none⟩,
     ⟨(some 20), .pl (.ext 0 (.t 7)), none⟩,
     ⟨(some 21), .pl (.ext 1 (.t 7)), none⟩,
     ⟨(some 5), .pl (.alloc [.int .i64 0, .str ⟨#[]⟩, .str ⟨#[]⟩, .str ⟨#[]⟩, .bool false]), none⟩,
     ⟨none, .pl (.store 5 (.t 5) (.t 20)), none⟩,
     ⟨(some 6), .pl (.mv (.t 21)), none⟩] [(3, 15), (8, 15), (10, 15)] [3, 5, 6])
  (.seq (.block 0 (.seq (.reg [⟨(some 23), .pl (.mv (.t 6)), none⟩,
       ⟨(some 24), .pl (.un .not (.t 23)), none⟩,
       ⟨(some 22), .pl (.mv (.t 24)), none⟩] [3, 5, 22])
    (.cond (.t 22)
     (.seq (.reg [⟨(some 4), .pl (.mv (.c (.int .i64 9))), none⟩] [4])
      (.ret))
     (.seq (.reg [⟨(some 26), .pl (.load (some 5) (.t 3)), none⟩,
         ⟨(some 27), .pl (.load (some 5) (.t 5)), none⟩,
         ⟨(some 28), .pl (.bin .neq (.strct [(0, 0), (1, 1), (2, 1), (3, 1), (4, 2)]) (.t 26) (.t 27)), none⟩,
         ⟨(some 25), .pl (.mv (.t 28)), none⟩] [25])
      (.cond (.t 25)
       (.seq (.reg [⟨(some 4), .pl (.mv (.c (.int .i64 8))), none⟩] [4])
        (.ret))
       (.skip))))))
  (.seq (.reg [⟨(some 4), .pl (.mv (.c (.int .i64 0))), none⟩] [4])
  (.ret))))⟩
theorem c94 : compF Tryz.prog 94 = some A94 := by kernel_rfl

/-- (*concourse/compat.judge).fresh -/
def A95 : AFun := ⟨37, [.t 4],
  .seq (.reg [⟨(some 3), .pl (.box (.t 1)), none⟩,
     ⟨(some 4), .pl (.mv (.c (.int .i64 0))), none⟩] [0, 3])
  (.seq (.seq (.regD [⟨(some 8), .pl (.mv (.t 0)), none⟩,
      ⟨(some 9), .pl (.nilck (.t 8)), none⟩,
      ⟨(some 10), .pl (.fa 0 (.t 9)), none⟩,
      ⟨(some 11), .pl (.load none (.t 10)), none⟩,
      ⟨(some 12), .pl (.mv (.t 0)), none⟩,
      ⟨(some 13), .pl (.nilck (.t 12)), none⟩,
      ⟨(some 14), .pl (.fa 2 (.t 13)), none⟩,
      ⟨(some 15), .pl (.fa 1 (.t 14)), none⟩,
      ⟨(some 16), .pl (.load none (.t 15)), none⟩,
      ⟨(some 17), .pl (.fa 0 (.t 3)), none⟩,
      ⟨(some 18), .pl (.load none (.t 17)), none⟩,
      ⟨(some 19), .call (.c (.fn 58 [] [])) [(.t 11), (.t 16), (.t 18)], none⟩,
      ⟨(some 7), .pl (.mv (.t 19)), none⟩,
      ⟨(some 20), .pl (.ext 0 (.t 7)), none⟩,
      ⟨(some 21), .pl (.ext 1 (.t 7)), none⟩,
      ⟨(some 5), .pl (.alloc [.int .i64 0, .str ⟨#[]⟩, .int .i64 0, .str ⟨#[]⟩, .esl]), none⟩,
      ⟨none, .pl (.store 5 (.t 5) (.t 20)), none⟩,
      ⟨(some 6), .pl (.mv (.t 21)), none⟩] [(3, 15), (8, 15), (10, 15)] [0, 3, 6])
   (.seq (.reg [⟨(some 22), .pl (.mv (.t 6)), none⟩,
      ⟨(some 23), .pl (.un .not (.t 22)), none⟩,
      ⟨(some 24), .pl (.mv (.t 23)), none⟩,
      ⟨(some 25), .pl (.mv (.t 0)), (some (24, true))⟩,
      ⟨(some 26), .pl (.nilck (.t 25)), (some (24, true))⟩,
      ⟨(some 27), .pl (.fa 2 (.t 26)), (some (24, true))⟩,
      ⟨(some 28), .pl (.fa 0 (.t 27)), (some (24, true))⟩,
      ⟨(some 29), .pl (.load none (.t 28)), (some (24, true))⟩,
      ⟨(some 30), .pl (.bin .eql .no (.t 29) (.c (.int .i64 1))), (some (24, true))⟩,
      ⟨(some 31), .pl (.pick (.t 24) (.t 30) (.c (.bool false))), none⟩,
      ⟨(some 32), .pl (.mv (.t 31)), none⟩,
      ⟨(some 33), .pl (.load (some 5) (.t 3)), (some (32, true))⟩,
      ⟨(some 34), .call (.c (.fn 148 [] [])) [(.t 33)], (some (32, true))⟩,
      ⟨(some 35), .pl (.un .not (.t 34)), (some (32, true))⟩,
      ⟨(some 36), .pl (.pick (.t 32) (.t 35) (.c (.bool false))), none⟩] [36])
   (.cond (.t 36)
    (.seq (.reg [⟨(some 4), .pl (.mv (.c (.int .i64 9))), none⟩] [4])
     (.ret))
    (.skip))))
  (.seq (.reg [⟨(some 4), .pl (.mv (.c (.int .i64 0))), none⟩] [4])
  (.ret)))⟩
theorem c95 : compF Tryz.prog 95 = some A95 := by kernel_rfl

/-- (*concourse/names.Table).Kind -/
def A96 : AFun := ⟨22, [.t 4],
  .seq (.reg [⟨(some 4), .pl (.mv (.c (.int .i64 0))), none⟩] [0, 1])
  (.seq (.reg [⟨(some 8), .pl (.mv (.t 0)), none⟩,
     ⟨(some 9), .pl (.mv (.t 1)), none⟩,
     ⟨(some 10), .call (.c (.fn 103 [] [])) [(.t 8), (.t 9)], none⟩,
     ⟨(some 7), .pl (.mv (.t 10)), none⟩,
     ⟨(some 11), .pl (.ext 0 (.t 7)), none⟩,
     ⟨(some 12), .pl (.ext 1 (.t 7)), none⟩,
     ⟨(some 5), .pl (.mv (.t 11)), none⟩,
     ⟨(some 6), .pl (.mv (.t 12)), none⟩] [0, 5, 6])
  (.seq (.seq (.reg [⟨(some 13), .pl (.mv (.t 6)), none⟩,
      ⟨(some 14), .pl (.un .not (.t 13)), none⟩] [0, 5, 14])
   (.cond (.t 14)
    (.seq (.reg [⟨(some 4), .pl (.mv (.c (.int .i64 0))), none⟩] [4])
     (.ret))
    (.skip)))
  (.seq (.reg [⟨(some 15), .pl (.mv (.t 0)), none⟩,
     ⟨(some 16), .pl (.nilck (.t 15)), none⟩,
     ⟨(some 17), .pl (.fa 1 (.t 16)), none⟩,
     ⟨(some 18), .pl (.load none (.t 17)), none⟩,
     ⟨(some 19), .pl (.mv (.t 5)), none⟩,
     ⟨(some 20), .pl (.ia 1 (.t 18) (.t 19)), none⟩,
     ⟨(some 21), .pl (.load none (.t 20)), none⟩,
     ⟨(some 4), .pl (.mv (.t 21)), none⟩] [4])
  (.ret))))⟩
theorem c96 : compF Tryz.prog 96 = some A96 := by kernel_rfl

/-- slices.BinarySearchFunc[[]concourse/api.Field,concourse/api.Field,int] -/
def A97_l0 : AC := .seq (.seq (.reg [⟨(some 15), .pl (.mv (.t 9)), none⟩,
      ⟨(some 16), .pl (.mv (.t 10)), none⟩,
      ⟨(some 17), .pl (.bin .lss .no (.t 15) (.t 16)), none⟩] [0, 1, 2, 8, 9, 10, 17])
   (.cond (.t 17)
    (.skip)
    (.exit 0)))
  (.block 1 (.seq (.reg [⟨(some 18), .pl (.mv (.t 9)), none⟩,
      ⟨(some 19), .pl (.mv (.t 10)), none⟩,
      ⟨(some 20), .pl (.bin .add .no (.t 18) (.t 19)), none⟩,
      ⟨(some 21), .pl (.conv .u64 (.t 20)), none⟩,
      ⟨(some 22), .pl (.bin .shr .no (.t 21) (.c (.int .u64 1))), none⟩,
      ⟨(some 23), .pl (.conv .i64 (.t 22)), none⟩,
      ⟨(some 11), .pl (.mv (.t 23)), none⟩] [0, 1, 2, 8, 9, 10, 11])
   (.seq (.reg [⟨(some 24), .pl (.mv (.t 2)), none⟩,
      ⟨(some 25), .pl (.mv (.t 0)), none⟩,
      ⟨(some 26), .pl (.mv (.t 11)), none⟩,
      ⟨(some 27), .pl (.ia 5 (.t 25) (.t 26)), none⟩,
      ⟨(some 28), .pl (.load (some 5) (.t 27)), none⟩,
      ⟨(some 29), .pl (.mv (.t 1)), none⟩,
      ⟨(some 30), .call (.t 24) [(.t 28), (.t 29)], none⟩,
      ⟨(some 31), .pl (.bin .lss .no (.t 30) (.c (.int .i64 0))), none⟩] [0, 1, 2, 8, 9, 10, 11, 31])
   (.cond (.t 31)
    (.reg [⟨(some 32), .pl (.mv (.t 11)), none⟩,
       ⟨(some 33), .pl (.bin .add .no (.t 32) (.c (.int .i64 1))), none⟩,
       ⟨(some 9), .pl (.mv (.t 33)), none⟩] [0, 1, 2, 8, 9, 10])
    (.reg [⟨(some 34), .pl (.mv (.t 11)), none⟩,
       ⟨(some 10), .pl (.mv (.t 34)), none⟩] [0, 1, 2, 8, 9, 10])))))
def A97_r0 : AC := .seq (.reg [⟨(some 35), .pl (.mv (.t 9)), none⟩,
     ⟨(some 36), .pl (.mv (.t 9)), none⟩,
     ⟨(some 37), .pl (.mv (.t 8)), none⟩,
     ⟨(some 38), .pl (.bin .lss .no (.t 36) (.t 37)), none⟩,
     ⟨(some 39), .pl (.mv (.t 38)), none⟩,
     ⟨(some 40), .pl (.mv (.t 2)), (some (39, true))⟩,
     ⟨(some 41), .pl (.mv (.t 0)), (some (39, true))⟩,
     ⟨(some 42), .pl (.mv (.t 9)), (some (39, true))⟩,
     ⟨(some 43), .pl (.ia 5 (.t 41) (.t 42)), (some (39, true))⟩,
     ⟨(some 44), .pl (.load (some 5) (.t 43)), (some (39, true))⟩,
     ⟨(some 45), .pl (.mv (.t 1)), (some (39, true))⟩,
     ⟨(some 46), .call (.t 40) [(.t 44), (.t 45)], (some (39, true))⟩,
     ⟨(some 47), .pl (.bin .eql .no (.t 46) (.c (.int .i64 0))), (some (39, true))⟩,
     ⟨(some 48), .pl (.pick (.t 39) (.t 47) (.c (.bool false))), none⟩,
     ⟨(some 6), .pl (.mv (.t 35)), none⟩,
     ⟨(some 7), .pl (.mv (.t 48)), none⟩] [6, 7])
  (.ret)
def A97 : AFun := ⟨49, [.t 6, .t 7],
  .seq (.reg [⟨(some 6), .pl (.mv (.c (.int .i64 0))), none⟩,
     ⟨(some 7), .pl (.mv (.c (.bool false))), none⟩] [0, 1, 2])
  (.seq (.reg [⟨(some 12), .pl (.mv (.t 0)), none⟩,
     ⟨(some 13), .pl (.lenL (.t 12)), none⟩,
     ⟨(some 8), .pl (.mv (.t 13)), none⟩] [0, 1, 2, 8])
  (.seq (.reg [⟨(some 14), .pl (.mv (.t 8)), none⟩,
     ⟨(some 9), .pl (.mv (.c (.int .i64 0))), none⟩,
     ⟨(some 10), .pl (.mv (.t 14)), none⟩] [0, 1, 2, 8, 9, 10])
  (.seq (.block 0 (.loop [0, 1, 2, 8, 9, 10] A97_l0))
  (A97_r0))))⟩
theorem c97 : compF Tryz.prog 97 = some A97 := by kernel_rfl

/-- (*concourse/desc.Desc).Row$1 -/
def A98 : AFun := ⟨9, [.t 4],
  .seq (.reg [⟨(some 2), .pl (.box (.t 0)), none⟩,
     ⟨(some 4), .pl (.mv (.c (.int .i64 0))), none⟩] [1, 2])
  (.seq (.reg [⟨(some 5), .pl (.fa 0 (.t 2)), none⟩,
     ⟨(some 6), .pl (.load none (.t 5)), none⟩,
     ⟨(some 7), .pl (.mv (.t 1)), none⟩,
     ⟨(some 8), .call (.c (.fn 85 [] [])) [(.t 6), (.t 7)], none⟩,
     ⟨(some 4), .pl (.mv (.t 8)), none⟩] [4])
  (.ret))⟩
theorem c98 : compF Tryz.prog 98 = some A98 := by kernel_rfl

/-- (*concourse/names.Table).Find -/
def A103 : AFun := ⟨21, [.t 4, .t 5],
  .seq (.reg [⟨(some 4), .pl (.mv (.c (.int .i64 0))), none⟩,
     ⟨(some 5), .pl (.mv (.c (.bool false))), none⟩] [0, 1])
  (.seq (.seq (.reg [⟨(some 8), .pl (.mv (.t 0)), none⟩,
      ⟨(some 9), .pl (.bin .eql .ptr (.t 8) (.c (.nilp))), none⟩] [0, 1, 9])
   (.cond (.t 9)
    (.seq (.reg [⟨(some 4), .pl (.mv (.c (.int .i64 0))), none⟩,
        ⟨(some 5), .pl (.mv (.c (.bool false))), none⟩] [4, 5])
     (.ret))
    (.skip)))
  (.seq (.reg [⟨(some 11), .pl (.mv (.t 0)), none⟩,
     ⟨(some 12), .pl (.nilck (.t 11)), none⟩,
     ⟨(some 13), .pl (.fa 0 (.t 12)), none⟩,
     ⟨(some 14), .pl (.load none (.t 13)), none⟩,
     ⟨(some 15), .pl (.mv (.t 1)), none⟩,
     ⟨(some 16), .pl (.lookup true (.int .i64 0) true (.t 14) (.t 15)), none⟩,
     ⟨(some 10), .pl (.mv (.t 16)), none⟩,
     ⟨(some 17), .pl (.ext 0 (.t 10)), none⟩,
     ⟨(some 18), .pl (.ext 1 (.t 10)), none⟩,
     ⟨(some 6), .pl (.mv (.t 17)), none⟩,
     ⟨(some 7), .pl (.mv (.t 18)), none⟩] [6, 7])
  (.seq (.reg [⟨(some 19), .pl (.mv (.t 6)), none⟩,
     ⟨(some 20), .pl (.mv (.t 7)), none⟩,
     ⟨(some 4), .pl (.mv (.t 19)), none⟩,
     ⟨(some 5), .pl (.mv (.t 20)), none⟩] [4, 5])
  (.ret))))⟩
theorem c103 : compF Tryz.prog 103 = some A103 := by kernel_rfl

/-- (*concourse/lex.lexer).one -/
def A122 : AFun := ⟨73, [.t 2],
  .seq (.reg [⟨(some 2), .pl (.mv (.c (.int .i64 0))), none⟩] [0])
  (.seq (.regD [⟨(some 4), .pl (.mv (.t 0)), none⟩,
     ⟨(some 5), .pl (.nilck (.t 4)), none⟩,
     ⟨(some 6), .pl (.fa 0 (.t 5)), none⟩,
     ⟨(some 7), .pl (.load none (.t 6)), none⟩,
     ⟨(some 8), .pl (.mv (.t 0)), none⟩,
     ⟨(some 9), .pl (.nilck (.t 8)), none⟩,
     ⟨(some 10), .pl (.fa 1 (.t 9)), none⟩,
     ⟨(some 11), .pl (.load none (.t 10)), none⟩,
     ⟨(some 12), .pl (.ixS (.t 7) (.t 11)), none⟩,
     ⟨(some 3), .pl (.mv (.t 12)), none⟩] [] [0, 3])
  (.seq (.block 0 (.seq (.reg [⟨(some 14), .pl (.mv (.t 3)), none⟩,
       ⟨(some 15), .call (.c (.fn 169 [] [])) [(.t 14)], none⟩,
       ⟨(some 13), .pl (.mv (.t 15)), none⟩] [0, 3, 13])
    (.cond (.t 13)
     (.seq (.reg [⟨(some 16), .pl (.mv (.t 0)), none⟩,
         ⟨(some 17), .call (.c (.fn 170 [] [])) [(.t 16)], none⟩,
         ⟨(some 2), .pl (.mv (.t 17)), none⟩] [2])
      (.ret))
     (.seq (.reg [⟨(some 19), .pl (.mv (.t 3)), none⟩,
         ⟨(some 20), .call (.c (.fn 171 [] [])) [(.t 19)], none⟩,
         ⟨(some 18), .pl (.mv (.t 20)), none⟩] [0, 3, 18])
      (.cond (.t 18)
       (.seq (.reg [⟨(some 21), .pl (.mv (.t 0)), none⟩,
           ⟨(some 22), .call (.c (.fn 172 [] [])) [(.t 21)], none⟩,
           ⟨(some 2), .pl (.mv (.t 22)), none⟩] [2])
        (.ret))
       (.skip))))))
  (.seq (.seq (.reg [⟨(some 23), .pl (.mv (.t 3)), none⟩] [0, 3, 23])
   (.block 1 (.seq (.block 5 (.seq (.block 4 (.block 3 (.seq (.block 2 (.seq (.seq (.seq (.reg [⟨(some 25), .pl (.bin .eql .no (.t 23) (.c (.int .u8 47))), none⟩,
                ⟨(some 24), .pl (.mv (.t 25)), none⟩] [0, 3, 23, 24])
             (.cond (.t 24)
              (.exit 2)
              (.skip)))
            (.seq (.seq (.reg [⟨(some 27), .pl (.bin .eql .no (.t 23) (.c (.int .u8 32))), none⟩,
                ⟨(some 26), .pl (.mv (.t 27)), none⟩] [0, 3, 23, 26])
             (.cond (.t 26)
              (.exit 3)
              (.skip)))
            (.seq (.seq (.reg [⟨(some 29), .pl (.bin .eql .no (.t 23) (.c (.int .u8 9))), none⟩,
                ⟨(some 28), .pl (.mv (.t 29)), none⟩] [0, 3, 23, 28])
             (.cond (.t 28)
              (.skip)
              (.seq (.reg [⟨(some 30), .pl (.bin .eql .no (.t 23) (.c (.int .u8 10))), none⟩,
                  ⟨(some 28), .pl (.mv (.t 30)), none⟩] [0, 3, 23, 28])
               (.cond (.t 28)
                (.skip)
                (.reg [⟨(some 31), .pl (.bin .eql .no (.t 23) (.c (.int .u8 13))), none⟩,
                   ⟨(some 28), .pl (.mv (.t 31)), none⟩] [0, 3, 28])))))
            (.cond (.t 28)
             (.exit 4)
             (.skip)))))
           (.exit 5)))
         (.seq (.seq (.reg [⟨(some 32), .pl (.mv (.t 0)), none⟩,
             ⟨(some 33), .call (.c (.fn 173 [] [])) [(.t 32)], none⟩,
             ⟨(some 34), .pl (.un .not (.t 33)), none⟩] [34])
          (.cond (.t 34)
           (.seq (.reg [⟨(some 2), .pl (.mv (.c (.int .i64 5))), none⟩] [2])
            (.ret))
           (.skip)))
         (.exit 1)))))
      (.seq (.reg [⟨(some 35), .pl (.mv (.t 0)), none⟩,
         ⟨(some 36), .pl (.nilck (.t 35)), none⟩,
         ⟨(some 37), .pl (.fa 1 (.t 36)), none⟩,
         ⟨(some 38), .pl (.load none (.t 37)), none⟩,
         ⟨(some 39), .pl (.bin .add .no (.t 38) (.c (.int .i64 1))), none⟩,
         ⟨(some 40), .pl (.nilck (.t 35)), none⟩,
         ⟨(some 41), .pl (.fa 1 (.t 40)), none⟩,
         ⟨none, .pl (.store 1 (.t 41) (.t 39)), none⟩] [])
      (.exit 1))))
    (.seq (.seq (.seq (.reg [⟨(some 42), .pl (.mv (.t 3)), none⟩,
         ⟨(some 43), .call (.c (.fn 174 [] [])) [(.c (.str ⟨#[123, 125, 40, 41, 60, 62, 58, 59, 44, 63]⟩)), (.t 42)], none⟩,
         ⟨(some 44), .pl (.bin .lss .no (.t 43) (.c (.int .i64 0))), none⟩] [0, 44])
      (.cond (.t 44)
       (.seq (.reg [⟨(some 2), .pl (.mv (.c (.int .i64 5))), none⟩] [2])
        (.ret))
       (.skip)))
     (.seq (.reg [⟨(some 45), .pl (.mv (.t 0)), none⟩,
        ⟨(some 46), .pl (.nilck (.t 45)), none⟩,
        ⟨(some 47), .pl (.fa 1 (.t 46)), none⟩,
        ⟨(some 48), .pl (.load none (.t 47)), none⟩,
        ⟨(some 49), .pl (.bin .add .no (.t 48) (.c (.int .i64 1))), none⟩,
        ⟨(some 50), .pl (.nilck (.t 45)), none⟩,
        ⟨(some 51), .pl (.fa 1 (.t 50)), none⟩,
        ⟨none, .pl (.store 1 (.t 51) (.t 49)), none⟩] [0])
     (.regD [⟨(some 52), .pl (.mv (.t 0)), none⟩,
       ⟨(some 53), .pl (.mv (.t 0)), none⟩,
       ⟨(some 54), .pl (.nilck (.t 53)), none⟩,
       ⟨(some 55), .pl (.fa 0 (.t 54)), none⟩,
       ⟨(some 56), .pl (.load none (.t 55)), none⟩,
       ⟨(some 57), .pl (.mv (.t 0)), none⟩,
       ⟨(some 58), .pl (.nilck (.t 57)), none⟩,
       ⟨(some 59), .pl (.fa 1 (.t 58)), none⟩,
       ⟨(some 60), .pl (.load none (.t 59)), none⟩,
       ⟨(some 61), .pl (.bin .sub .no (.t 60) (.c (.int .i64 1))), none⟩,
       ⟨(some 62), .pl (.mv (.t 0)), none⟩,
       ⟨(some 63), .pl (.nilck (.t 62)), none⟩,
       ⟨(some 64), .pl (.fa 1 (.t 63)), none⟩,
       ⟨(some 65), .pl (.load none (.t 64)), none⟩,
       ⟨(some 66), .pl (.slcS (.t 56) (some (.t 61)) (some (.t 65))), none⟩,
       ⟨(some 67), .pl (.mv (.t 0)), none⟩,
       ⟨(some 68), .pl (.nilck (.t 67)), none⟩,
       ⟨(some 69), .pl (.fa 1 (.t 68)), none⟩,
       ⟨(some 70), .pl (.load none (.t 69)), none⟩,
       ⟨(some 71), .pl (.bin .sub .no (.t 70) (.c (.int .i64 1))), none⟩,
       ⟨(some 72), .call (.c (.fn 123 [] [])) [(.t 52), (.c (.int .i64 3)), (.t 66), (.c (.int .i64 0)), (.t 71)], none⟩] [] [])))
    (.exit 1)))))
  (.seq (.reg [⟨(some 2), .pl (.mv (.c (.int .i64 0))), none⟩] [2])
  (.ret)))))⟩
theorem c122 : compF Tryz.prog 122 = some A122 := by kernel_rfl

/-- (*concourse/lex.lexer).put -/
def A123 : AFun := ⟨24, [],
  .reg [⟨(some 10), .pl (.mv (.t 0)), none⟩,
    ⟨(some 11), .pl (.mv (.t 0)), none⟩,
    ⟨(some 12), .pl (.nilck (.t 11)), none⟩,
    ⟨(some 13), .pl (.fa 2 (.t 12)), none⟩,
    ⟨(some 14), .pl (.load none (.t 13)), none⟩,
    ⟨(some 15), .pl (.mv (.t 1)), none⟩,
    ⟨(some 16), .pl (.mv (.t 2)), none⟩,
    ⟨(some 17), .pl (.mv (.t 3)), none⟩,
    ⟨(some 18), .pl (.mv (.t 4)), none⟩,
    ⟨(some 19), .pl (.build [.int .i64 0, .str ⟨#[]⟩, .int .i64 0, .int .i64 0] [(0, 1, (.t 15)), (1, 1, (.t 16)), (2, 1, (.t 17)), (3, 1, (.t 18))]), none⟩,
    ⟨(some 20), .pl (.lit 4 [(.t 19)]), none⟩,
    ⟨(some 21), .pl (.append 147 4 40 (.t 14) (.t 20)), none⟩,
    ⟨(some 22), .pl (.nilck (.t 10)), none⟩,
    ⟨(some 23), .pl (.fa 2 (.t 22)), none⟩,
    ⟨none, .pl (.store 1 (.t 23) (.t 21)), none⟩] []⟩
theorem c123 : compF Tryz.prog 123 = some A123 := by kernel_rfl

/-- (*concourse/parse.parser).decl$1 -/
def A124 : AFun := ⟨19, [],
  .seq (.regD [⟨(some 3), .pl (.load none (.t 0)), none⟩,
     ⟨(some 4), .call (.c (.fn 125 [] [])) [(.t 3)], none⟩,
     ⟨(some 5), .pl (.load none (.t 0)), none⟩,
     ⟨(some 6), .call (.c (.fn 126 [] [])) [(.t 5)], none⟩,
     ⟨(some 7), .pl (.build [.int .i64 0, .str ⟨#[]⟩, .int .i64 0, .str ⟨#[]⟩, .esl] [(0, 1, (.t 4)), (1, 1, (.t 6))]), none⟩,
     ⟨(some 2), .pl (.alloc [.int .i64 0, .str ⟨#[]⟩, .int .i64 0, .str ⟨#[]⟩, .esl]), none⟩,
     ⟨none, .pl (.store 5 (.t 2) (.t 7)), none⟩] [(0, 5), (2, 1), (2, 5)] [0, 1, 2])
  (.seq (.reg [⟨(some 8), .pl (.load none (.t 0)), none⟩,
     ⟨(some 9), .call (.c (.fn 127 [] [])) [(.t 8), (.c (.str ⟨#[58]⟩))], none⟩] [0, 1, 2])
  (.seq (.reg [⟨(some 10), .pl (.load none (.t 0)), none⟩,
     ⟨(some 11), .call (.c (.fn 128 [] [])) [(.t 10), (.c (.int .i64 0))], none⟩,
     ⟨(some 12), .pl (.fa 2 (.t 2)), none⟩,
     ⟨none, .pl (.store 3 (.t 12) (.t 11)), none⟩] [1, 2])
  (.reg [⟨(some 13), .pl (.fa 2 (.t 1)), none⟩,
    ⟨(some 14), .pl (.load none (.t 13)), none⟩,
    ⟨(some 15), .pl (.load (some 5) (.t 2)), none⟩,
    ⟨(some 16), .pl (.lit 5 [(.t 15)]), none⟩,
    ⟨(some 17), .pl (.append 41 5 72 (.t 14) (.t 16)), none⟩,
    ⟨(some 18), .pl (.fa 2 (.t 1)), none⟩,
    ⟨none, .pl (.store 1 (.t 18) (.t 17)), none⟩] [])))⟩
theorem c124 : compF Tryz.prog 124 = some A124 := by kernel_rfl

/-- (*concourse/parse.parser).number -/
def A125 : AFun := ⟨23, [.t 2],
  .seq (.reg [⟨(some 2), .pl (.mv (.c (.int .i64 0))), none⟩] [0])
  (.seq (.reg [⟨(some 4), .pl (.mv (.t 0)), none⟩,
     ⟨(some 5), .call (.c (.fn 74 [] [])) [(.t 4)], none⟩,
     ⟨(some 3), .pl (.alloc [.int .i64 0, .str ⟨#[]⟩, .int .i64 0, .int .i64 0]), none⟩,
     ⟨none, .pl (.store 4 (.t 3) (.t 5)), none⟩] [0, 3])
  (.seq (.seq (.reg [⟨(some 6), .pl (.fa 0 (.t 3)), none⟩,
      ⟨(some 7), .pl (.load none (.t 6)), none⟩,
      ⟨(some 8), .pl (.bin .neq .no (.t 7) (.c (.int .i64 2))), none⟩] [0, 3, 8])
   (.cond (.t 8)
    (.reg [⟨(some 9), .pl (.mv (.t 0)), none⟩,
       ⟨(some 10), .call (.c (.fn 75 [] [])) [(.t 9), (.c (.int .i64 5))], none⟩] [0, 3])
    (.skip)))
  (.seq (.seq (.reg [⟨(some 11), .pl (.mv (.t 0)), none⟩,
      ⟨(some 12), .call (.c (.fn 73 [] [])) [(.t 11)], none⟩,
      ⟨(some 13), .pl (.un .not (.t 12)), none⟩] [0, 3, 13])
   (.cond (.t 13)
    (.seq (.reg [⟨(some 2), .pl (.mv (.c (.int .i64 0))), none⟩] [2])
     (.ret))
    (.skip)))
  (.seq (.reg [⟨(some 14), .pl (.mv (.t 0)), none⟩,
     ⟨(some 15), .pl (.nilck (.t 14)), none⟩,
     ⟨(some 16), .pl (.fa 1 (.t 15)), none⟩,
     ⟨(some 17), .pl (.load none (.t 16)), none⟩,
     ⟨(some 18), .pl (.bin .add .no (.t 17) (.c (.int .i64 1))), none⟩,
     ⟨(some 19), .pl (.nilck (.t 14)), none⟩,
     ⟨(some 20), .pl (.fa 1 (.t 19)), none⟩,
     ⟨none, .pl (.store 1 (.t 20) (.t 18)), none⟩] [3])
  (.seq (.reg [⟨(some 21), .pl (.fa 2 (.t 3)), none⟩,
     ⟨(some 22), .pl (.load none (.t 21)), none⟩,
     ⟨(some 2), .pl (.mv (.t 22)), none⟩] [2])
  (.ret))))))⟩
theorem c125 : compF Tryz.prog 125 = some A125 := by kernel_rfl

/-- (*concourse/parse.parser).name -/
def A126 : AFun := ⟨28, [.t 2],
  .seq (.reg [⟨(some 2), .pl (.mv (.c (.str ⟨#[]⟩))), none⟩] [0])
  (.seq (.reg [⟨(some 4), .pl (.mv (.t 0)), none⟩,
     ⟨(some 5), .call (.c (.fn 74 [] [])) [(.t 4)], none⟩,
     ⟨(some 3), .pl (.alloc [.int .i64 0, .str ⟨#[]⟩, .int .i64 0, .int .i64 0]), none⟩,
     ⟨none, .pl (.store 4 (.t 3) (.t 5)), none⟩] [0, 3])
  (.seq (.seq (.reg [⟨(some 6), .pl (.fa 0 (.t 3)), none⟩,
      ⟨(some 7), .pl (.load none (.t 6)), none⟩,
      ⟨(some 8), .pl (.bin .neq .no (.t 7) (.c (.int .i64 1))), none⟩,
      ⟨(some 9), .pl (.mv (.t 8)), none⟩,
      ⟨(some 10), .pl (.fa 1 (.t 3)), (some (9, false))⟩,
      ⟨(some 11), .pl (.load none (.t 10)), (some (9, false))⟩,
      ⟨(some 12), .call (.c (.fn 175 [] [])) [(.t 11)], (some (9, false))⟩,
      ⟨(some 13), .pl (.pick (.t 9) (.c (.bool true)) (.t 12)), none⟩] [0, 3, 13])
   (.cond (.t 13)
    (.reg [⟨(some 14), .pl (.mv (.t 0)), none⟩,
       ⟨(some 15), .call (.c (.fn 75 [] [])) [(.t 14), (.c (.int .i64 5))], none⟩] [0, 3])
    (.skip)))
  (.seq (.seq (.reg [⟨(some 16), .pl (.mv (.t 0)), none⟩,
      ⟨(some 17), .call (.c (.fn 73 [] [])) [(.t 16)], none⟩,
      ⟨(some 18), .pl (.un .not (.t 17)), none⟩] [0, 3, 18])
   (.cond (.t 18)
    (.seq (.reg [⟨(some 2), .pl (.mv (.c (.str ⟨#[]⟩))), none⟩] [2])
     (.ret))
    (.skip)))
  (.seq (.reg [⟨(some 19), .pl (.mv (.t 0)), none⟩,
     ⟨(some 20), .pl (.nilck (.t 19)), none⟩,
     ⟨(some 21), .pl (.fa 1 (.t 20)), none⟩,
     ⟨(some 22), .pl (.load none (.t 21)), none⟩,
     ⟨(some 23), .pl (.bin .add .no (.t 22) (.c (.int .i64 1))), none⟩,
     ⟨(some 24), .pl (.nilck (.t 19)), none⟩,
     ⟨(some 25), .pl (.fa 1 (.t 24)), none⟩,
     ⟨none, .pl (.store 1 (.t 25) (.t 23)), none⟩] [3])
  (.seq (.reg [⟨(some 26), .pl (.fa 1 (.t 3)), none⟩,
     ⟨(some 27), .pl (.load none (.t 26)), none⟩,
     ⟨(some 2), .pl (.mv (.t 27)), none⟩] [2])
  (.ret))))))⟩
theorem c126 : compF Tryz.prog 126 = some A126 := by kernel_rfl

/-- (*concourse/parse.parser).need -/
def A127 : AFun := ⟨10, [],
  .seq (.reg [⟨(some 4), .pl (.mv (.t 0)), none⟩,
     ⟨(some 5), .pl (.mv (.t 1)), none⟩,
     ⟨(some 6), .call (.c (.fn 129 [] [])) [(.t 4), (.t 5)], none⟩,
     ⟨(some 7), .pl (.un .not (.t 6)), none⟩] [0, 7])
  (.cond (.t 7)
   (.reg [⟨(some 8), .pl (.mv (.t 0)), none⟩,
      ⟨(some 9), .call (.c (.fn 75 [] [])) [(.t 8), (.c (.int .i64 5))], none⟩] [])
   (.skip))⟩
theorem c127 : compF Tryz.prog 127 = some A127 := by kernel_rfl

/-- (*concourse/parse.parser).typ -/
def A128 : AFun := ⟨23, [.cell 4 (some 3)],
  .seq (.reg [⟨(some 4), .pl (.alloc [.int .i64 0, .str ⟨#[]⟩, .esl]), none⟩] [0, 1, 4])
  (.seq (.seq (.reg [⟨(some 6), .pl (.mv (.t 1)), none⟩,
      ⟨(some 7), .pl (.bin .gtr .no (.t 6) (.c (.int .i64 8))), none⟩] [0, 1, 4, 7])
   (.cond (.t 7)
    (.reg [⟨(some 8), .pl (.mv (.t 0)), none⟩,
       ⟨(some 9), .call (.c (.fn 75 [] [])) [(.t 8), (.c (.int .i64 10))], none⟩] [0, 1, 4])
    (.skip)))
  (.seq (.seq (.reg [⟨(some 10), .pl (.mv (.t 0)), none⟩,
      ⟨(some 11), .call (.c (.fn 73 [] [])) [(.t 10)], none⟩,
      ⟨(some 12), .pl (.un .not (.t 11)), none⟩] [0, 1, 4, 12])
   (.cond (.t 12)
    (.seq (.reg [⟨(some 13), .pl (.build [.int .i64 0, .str ⟨#[]⟩, .esl] []), none⟩,
        ⟨none, .pl (.store 3 (.t 4) (.t 13)), none⟩] [4])
     (.ret))
    (.skip)))
  (.seq (.reg [⟨(some 14), .pl (.mv (.t 0)), none⟩,
     ⟨(some 15), .pl (.mv (.t 1)), none⟩,
     ⟨(some 16), .call (.c (.fn 176 [] [])) [(.t 14), (.t 15)], none⟩,
     ⟨(some 5), .pl (.alloc [.int .i64 0, .str ⟨#[]⟩, .esl]), none⟩,
     ⟨none, .pl (.store 3 (.t 5) (.t 16)), none⟩] [0, 4, 5])
  (.seq (.seq (.reg [⟨(some 17), .pl (.mv (.t 0)), none⟩,
      ⟨(some 18), .call (.c (.fn 129 [] [])) [(.t 17), (.c (.str ⟨#[63]⟩))], none⟩] [4, 5, 18])
   (.cond (.t 18)
    (.seq (.reg [⟨(some 19), .pl (.load (some 3) (.t 5)), none⟩,
        ⟨(some 20), .pl (.lit 3 [(.t 19)]), none⟩,
        ⟨(some 21), .pl (.build [.int .i64 0, .str ⟨#[]⟩, .esl] [(0, 1, (.c (.int .i64 9))), (2, 1, (.t 20))]), none⟩,
        ⟨none, .pl (.store 3 (.t 4) (.t 21)), none⟩] [4])
     (.ret))
    (.skip)))
  (.seq (.reg [⟨(some 22), .pl (.load (some 3) (.t 5)), none⟩,
     ⟨none, .pl (.store 3 (.t 4) (.t 22)), none⟩] [4])
  (.ret))))))⟩
theorem c128 : compF Tryz.prog 128 = some A128 := by kernel_rfl

/-- (*concourse/parse.parser).may -/
def A129 : AFun := ⟨26, [.t 4],
  .seq (.reg [⟨(some 4), .pl (.mv (.c (.bool false))), none⟩] [0, 1])
  (.seq (.seq (.reg [⟨(some 5), .pl (.mv (.t 0)), none⟩,
      ⟨(some 6), .call (.c (.fn 73 [] [])) [(.t 5)], none⟩,
      ⟨(some 7), .pl (.un .not (.t 6)), none⟩,
      ⟨(some 8), .pl (.mv (.t 7)), none⟩,
      ⟨(some 9), .pl (.mv (.t 0)), (some (8, false))⟩,
      ⟨(some 10), .call (.c (.fn 74 [] [])) [(.t 9)], (some (8, false))⟩,
      ⟨(some 11), .pl (.fld 1 none (.t 10)), (some (8, false))⟩,
      ⟨(some 12), .pl (.mv (.t 1)), (some (8, false))⟩,
      ⟨(some 13), .pl (.bin .neq .no (.t 11) (.t 12)), (some (8, false))⟩,
      ⟨(some 14), .pl (.pick (.t 8) (.c (.bool true)) (.t 13)), none⟩,
      ⟨(some 15), .pl (.mv (.t 14)), none⟩,
      ⟨(some 16), .pl (.mv (.t 1)), (some (15, false))⟩,
      ⟨(some 17), .pl (.bin .eql .no (.t 16) (.c (.str ⟨#[]⟩))), (some (15, false))⟩,
      ⟨(some 18), .pl (.pick (.t 15) (.c (.bool true)) (.t 17)), none⟩] [0, 18])
   (.cond (.t 18)
    (.seq (.reg [⟨(some 4), .pl (.mv (.c (.bool false))), none⟩] [4])
     (.ret))
    (.skip)))
  (.seq (.reg [⟨(some 19), .pl (.mv (.t 0)), none⟩,
     ⟨(some 20), .pl (.nilck (.t 19)), none⟩,
     ⟨(some 21), .pl (.fa 1 (.t 20)), none⟩,
     ⟨(some 22), .pl (.load none (.t 21)), none⟩,
     ⟨(some 23), .pl (.bin .add .no (.t 22) (.c (.int .i64 1))), none⟩,
     ⟨(some 24), .pl (.nilck (.t 19)), none⟩,
     ⟨(some 25), .pl (.fa 1 (.t 24)), none⟩,
     ⟨none, .pl (.store 1 (.t 25) (.t 23)), none⟩] [])
  (.seq (.reg [⟨(some 4), .pl (.mv (.c (.bool true))), none⟩] [4])
  (.ret))))⟩
theorem c129 : compF Tryz.prog 129 = some A129 := by kernel_rfl

/-- (*concourse/parse.parser).decl$2 -/
def A130 : AFun := ⟨12, [],
  .regD [⟨(some 2), .pl (.fa 2 (.t 0)), none⟩,
    ⟨(some 3), .pl (.load none (.t 2)), none⟩,
    ⟨(some 4), .pl (.load none (.t 1)), none⟩,
    ⟨(some 5), .call (.c (.fn 125 [] [])) [(.t 4)], none⟩,
    ⟨(some 6), .pl (.load none (.t 1)), none⟩,
    ⟨(some 7), .call (.c (.fn 126 [] [])) [(.t 6)], none⟩,
    ⟨(some 8), .pl (.build [.int .i64 0, .str ⟨#[]⟩, .int .i64 0, .str ⟨#[]⟩, .esl] [(0, 1, (.t 5)), (1, 1, (.t 7))]), none⟩,
    ⟨(some 9), .pl (.lit 5 [(.t 8)]), none⟩,
    ⟨(some 10), .pl (.append 41 5 72 (.t 3) (.t 9)), none⟩,
    ⟨(some 11), .pl (.fa 2 (.t 0)), none⟩,
    ⟨none, .pl (.store 1 (.t 11) (.t 10)), none⟩] [(1, 3), (1, 5), (4, 3)] []⟩
theorem c130 : compF Tryz.prog 130 = some A130 := by kernel_rfl

/-- (*concourse/parse.parser).decl$3 -/
def A131 : AFun := ⟨9, [],
  .regD [⟨(some 2), .pl (.fa 3 (.t 0)), none⟩,
    ⟨(some 3), .pl (.load none (.t 2)), none⟩,
    ⟨(some 4), .pl (.load none (.t 1)), none⟩,
    ⟨(some 5), .call (.c (.fn 132 [] [])) [(.t 4)], none⟩,
    ⟨(some 6), .pl (.lit 5 [(.t 5)]), none⟩,
    ⟨(some 7), .pl (.append 69 5 64 (.t 3) (.t 6)), none⟩,
    ⟨(some 8), .pl (.fa 3 (.t 0)), none⟩,
    ⟨none, .pl (.store 1 (.t 8) (.t 7)), none⟩] [(1, 3)] []⟩
theorem c131 : compF Tryz.prog 131 = some A131 := by kernel_rfl

/-- (*concourse/parse.parser).method -/
def A132 : AFun := ⟨26, [.cell 2 (some 5)],
  .seq (.reg [⟨(some 2), .pl (.alloc [.int .i64 0, .str ⟨#[]⟩, .str ⟨#[]⟩, .str ⟨#[]⟩, .bool false]), none⟩] [0, 2])
  (.seq (.reg [⟨(some 4), .pl (.mv (.t 0)), none⟩,
     ⟨(some 5), .call (.c (.fn 129 [] [])) [(.t 4), (.c (.str ⟨#[111, 110, 101, 119, 97, 121]⟩))], none⟩,
     ⟨(some 6), .pl (.build [.int .i64 0, .str ⟨#[]⟩, .str ⟨#[]⟩, .str ⟨#[]⟩, .bool false] [(4, 1, (.t 5))]), none⟩,
     ⟨(some 3), .pl (.alloc [.int .i64 0, .str ⟨#[]⟩, .str ⟨#[]⟩, .str ⟨#[]⟩, .bool false]), none⟩,
     ⟨none, .pl (.store 5 (.t 3) (.t 6)), none⟩] [0, 2, 3])
  (.seq (.reg [⟨(some 7), .pl (.mv (.t 0)), none⟩,
     ⟨(some 8), .call (.c (.fn 125 [] [])) [(.t 7)], none⟩,
     ⟨(some 9), .pl (.fa 0 (.t 3)), none⟩,
     ⟨none, .pl (.store 1 (.t 9) (.t 8)), none⟩] [0, 2, 3])
  (.seq (.reg [⟨(some 10), .pl (.mv (.t 0)), none⟩,
     ⟨(some 11), .call (.c (.fn 126 [] [])) [(.t 10)], none⟩,
     ⟨(some 12), .pl (.fa 1 (.t 3)), none⟩,
     ⟨none, .pl (.store 1 (.t 12) (.t 11)), none⟩] [0, 2, 3])
  (.seq (.reg [⟨(some 13), .pl (.mv (.t 0)), none⟩,
     ⟨(some 14), .call (.c (.fn 127 [] [])) [(.t 13), (.c (.str ⟨#[40]⟩))], none⟩] [0, 2, 3])
  (.seq (.reg [⟨(some 15), .pl (.mv (.t 0)), none⟩,
     ⟨(some 16), .call (.c (.fn 126 [] [])) [(.t 15)], none⟩,
     ⟨(some 17), .pl (.fa 2 (.t 3)), none⟩,
     ⟨none, .pl (.store 1 (.t 17) (.t 16)), none⟩] [0, 2, 3])
  (.seq (.reg [⟨(some 18), .pl (.mv (.t 0)), none⟩,
     ⟨(some 19), .call (.c (.fn 127 [] [])) [(.t 18), (.c (.str ⟨#[41]⟩))], none⟩] [0, 2, 3])
  (.seq (.reg [⟨(some 20), .pl (.mv (.t 0)), none⟩,
     ⟨(some 21), .call (.c (.fn 127 [] [])) [(.t 20), (.c (.str ⟨#[58]⟩))], none⟩] [0, 2, 3])
  (.seq (.reg [⟨(some 22), .pl (.mv (.t 0)), none⟩,
     ⟨(some 23), .call (.c (.fn 126 [] [])) [(.t 22)], none⟩,
     ⟨(some 24), .pl (.fa 3 (.t 3)), none⟩,
     ⟨none, .pl (.store 1 (.t 24) (.t 23)), none⟩] [2, 3])
  (.seq (.reg [⟨(some 25), .pl (.load (some 5) (.t 3)), none⟩,
     ⟨none, .pl (.store 5 (.t 2) (.t 25)), none⟩] [2])
  (.ret))))))))))⟩
theorem c132 : compF Tryz.prog 132 = some A132 := by kernel_rfl

/-- (*concourse/parse.parser).rows -/
def A133_l0 : AC := .seq (.seq (.reg [⟨(some 7), .pl (.mv (.t 0)), none⟩,
      ⟨(some 8), .call (.c (.fn 73 [] [])) [(.t 7)], none⟩,
      ⟨(some 9), .pl (.mv (.t 8)), none⟩,
      ⟨(some 10), .pl (.mv (.t 0)), (some (9, true))⟩,
      ⟨(some 11), .call (.c (.fn 129 [] [])) [(.t 10), (.c (.str ⟨#[125]⟩))], (some (9, true))⟩,
      ⟨(some 12), .pl (.un .not (.t 11)), (some (9, true))⟩,
      ⟨(some 13), .pl (.pick (.t 9) (.t 12) (.c (.bool false))), none⟩] [0, 1, 4, 13])
   (.cond (.t 13)
    (.skip)
    (.exit 0)))
  (.seq (.block 1 (.seq (.seq (.reg [⟨(some 16), .pl (.mv (.t 4)), none⟩,
        ⟨(some 17), .pl (.bin .eql .no (.t 16) (.c (.int .i64 16))), none⟩,
        ⟨(some 18), .pl (.mv (.t 17)), none⟩,
        ⟨(some 19), .pl (.mv (.t 0)), (some (18, true))⟩,
        ⟨(some 20), .call (.c (.fn 74 [] [])) [(.t 19)], (some (18, true))⟩,
        ⟨(some 21), .pl (.fld 0 none (.t 20)), (some (18, true))⟩,
        ⟨(some 22), .pl (.bin .neq .no (.t 21) (.c (.int .i64 4))), (some (18, true))⟩,
        ⟨(some 23), .pl (.pick (.t 18) (.t 22) (.c (.bool false))), none⟩] [0, 1, 4, 23])
     (.cond (.t 23)
      (.reg [⟨(some 24), .pl (.mv (.t 0)), none⟩,
         ⟨(some 25), .call (.c (.fn 75 [] [])) [(.t 24), (.c (.int .i64 3))], none⟩] [0, 1, 4])
      (.skip)))
    (.seq (.reg [⟨(some 26), .pl (.mv (.t 0)), none⟩,
       ⟨(some 27), .call (.c (.fn 73 [] [])) [(.t 26)], none⟩] [0, 1, 4, 27])
    (.cond (.t 27)
     (.seq (.reg [⟨(some 28), .pl (.mv (.t 1)), none⟩,
         ⟨(some 29), .call (.t 28) [], none⟩] [0, 1, 4])
      (.reg [⟨(some 30), .pl (.mv (.t 0)), none⟩,
        ⟨(some 31), .call (.c (.fn 127 [] [])) [(.t 30), (.c (.str ⟨#[59]⟩))], none⟩] [0, 1, 4]))
     (.skip)))))
  (.reg [⟨(some 14), .pl (.mv (.t 4)), none⟩,
    ⟨(some 15), .pl (.bin .add .no (.t 14) (.c (.int .i64 1))), none⟩,
    ⟨(some 4), .pl (.mv (.t 15)), none⟩] [0, 1, 4]))
def A133 : AFun := ⟨32, [],
  .seq (.reg [⟨(some 5), .pl (.mv (.t 0)), none⟩,
     ⟨(some 6), .call (.c (.fn 127 [] [])) [(.t 5), (.c (.str ⟨#[123]⟩))], none⟩] [0, 1])
  (.seq (.reg [⟨(some 4), .pl (.mv (.c (.int .i64 0))), none⟩] [0, 1, 4])
  (.block 0 (.loop [0, 1, 4] A133_l0)))⟩
theorem c133 : compF Tryz.prog 133 = some A133 := by kernel_rfl

/-- (*concourse/check.seen).row -/
def A134 : AFun := ⟨49, [.t 10],
  .seq (.reg [⟨(some 10), .pl (.mv (.c (.int .i64 0))), none⟩] [0, 1, 2, 3, 4])
  (.seq (.seq (.reg [⟨(some 11), .pl (.mv (.t 1)), none⟩,
      ⟨(some 12), .pl (.mv (.t 3)), none⟩,
      ⟨(some 13), .pl (.bin .lss .no (.t 11) (.t 12)), none⟩,
      ⟨(some 14), .pl (.mv (.t 13)), none⟩,
      ⟨(some 15), .pl (.mv (.t 1)), (some (14, false))⟩,
      ⟨(some 16), .pl (.mv (.t 4)), (some (14, false))⟩,
      ⟨(some 17), .pl (.bin .gtr .no (.t 15) (.t 16)), (some (14, false))⟩,
      ⟨(some 18), .pl (.pick (.t 14) (.c (.bool true)) (.t 17)), none⟩] [0, 1, 2, 18])
   (.cond (.t 18)
    (.seq (.reg [⟨(some 10), .pl (.mv (.c (.int .i64 9))), none⟩] [10])
     (.ret))
    (.skip)))
  (.seq (.reg [⟨(some 19), .pl (.mv (.t 0)), none⟩,
     ⟨(some 20), .pl (.nilck (.t 19)), none⟩,
     ⟨(some 21), .pl (.fa 0 (.t 20)), none⟩,
     ⟨(some 22), .pl (.load none (.t 21)), none⟩,
     ⟨(some 23), .pl (.mv (.t 1)), none⟩,
     ⟨(some 24), .pl (.lookup false (.int .i64 0) false (.t 22) (.t 23)), none⟩,
     ⟨(some 25), .pl (.bin .add .no (.t 24) (.c (.int .i64 1))), none⟩,
     ⟨none, .pl (.mupd false (.t 22) (.t 23) (.t 25)), none⟩] [0, 1, 2])
  (.seq (.reg [⟨(some 26), .pl (.mv (.t 0)), none⟩,
     ⟨(some 27), .pl (.nilck (.t 26)), none⟩,
     ⟨(some 28), .pl (.fa 1 (.t 27)), none⟩,
     ⟨(some 29), .pl (.load none (.t 28)), none⟩,
     ⟨(some 30), .pl (.mv (.t 2)), none⟩,
     ⟨(some 31), .pl (.lookup true (.int .i64 0) false (.t 29) (.t 30)), none⟩,
     ⟨(some 32), .pl (.bin .add .no (.t 31) (.c (.int .i64 1))), none⟩,
     ⟨none, .pl (.mupd true (.t 29) (.t 30) (.t 32)), none⟩] [0, 1, 2])
  (.seq (.seq (.reg [⟨(some 33), .pl (.mv (.t 0)), none⟩,
      ⟨(some 34), .pl (.nilck (.t 33)), none⟩,
      ⟨(some 35), .pl (.fa 0 (.t 34)), none⟩,
      ⟨(some 36), .pl (.load none (.t 35)), none⟩,
      ⟨(some 37), .pl (.mv (.t 1)), none⟩,
      ⟨(some 38), .pl (.lookup false (.int .i64 0) false (.t 36) (.t 37)), none⟩,
      ⟨(some 39), .pl (.bin .gtr .no (.t 38) (.c (.int .i64 1))), none⟩,
      ⟨(some 40), .pl (.mv (.t 39)), none⟩,
      ⟨(some 41), .pl (.mv (.t 0)), (some (40, false))⟩,
      ⟨(some 42), .pl (.nilck (.t 41)), (some (40, false))⟩,
      ⟨(some 43), .pl (.fa 1 (.t 42)), (some (40, false))⟩,
      ⟨(some 44), .pl (.load none (.t 43)), (some (40, false))⟩,
      ⟨(some 45), .pl (.mv (.t 2)), (some (40, false))⟩,
      ⟨(some 46), .pl (.lookup true (.int .i64 0) false (.t 44) (.t 45)), (some (40, false))⟩,
      ⟨(some 47), .pl (.bin .gtr .no (.t 46) (.c (.int .i64 1))), (some (40, false))⟩,
      ⟨(some 48), .pl (.pick (.t 40) (.c (.bool true)) (.t 47)), none⟩] [48])
   (.cond (.t 48)
    (.seq (.reg [⟨(some 10), .pl (.mv (.c (.int .i64 7))), none⟩] [10])
     (.ret))
    (.skip)))
  (.seq (.reg [⟨(some 10), .pl (.mv (.c (.int .i64 0))), none⟩] [10])
  (.ret))))))⟩
theorem c134 : compF Tryz.prog 134 = some A134 := by kernel_rfl

/-- (*concourse/check.checker).field -/
def A135 : AFun := ⟨27, [.t 6],
  .seq (.reg [⟨(some 4), .pl (.box (.t 1)), none⟩,
     ⟨(some 5), .pl (.box (.t 2)), none⟩,
     ⟨(some 6), .pl (.mv (.c (.int .i64 0))), none⟩] [0, 4, 5])
  (.seq (.seq (.reg [⟨(some 8), .pl (.fa 0 (.t 4)), none⟩,
      ⟨(some 9), .pl (.load none (.t 8)), none⟩,
      ⟨(some 10), .pl (.bin .eql .no (.t 9) (.c (.int .i64 3))), none⟩] [0, 4, 5, 10])
   (.cond (.t 10)
    (.seq (.reg [⟨(some 6), .pl (.mv (.c (.int .i64 0))), none⟩] [6])
     (.ret))
    (.skip)))
  (.seq (.seq (.reg [⟨(some 11), .pl (.mv (.t 0)), none⟩,
      ⟨(some 12), .pl (.fa 2 (.t 5)), none⟩,
      ⟨(some 13), .pl (.load (some 3) (.t 12)), none⟩,
      ⟨(some 14), .call (.c (.fn 177 [] [])) [(.t 11), (.t 13), (.c (.bool false))], none⟩,
      ⟨(some 7), .pl (.mv (.t 14)), none⟩] [4, 5, 7])
   (.seq (.reg [⟨(some 15), .pl (.mv (.t 7)), none⟩,
      ⟨(some 16), .pl (.bin .neq .no (.t 15) (.c (.int .i64 0))), none⟩] [4, 5, 7, 16])
   (.cond (.t 16)
    (.seq (.reg [⟨(some 17), .pl (.mv (.t 7)), none⟩,
        ⟨(some 6), .pl (.mv (.t 17)), none⟩] [6])
     (.ret))
    (.skip))))
  (.seq (.seq (.reg [⟨(some 18), .pl (.fa 0 (.t 4)), none⟩,
      ⟨(some 19), .pl (.load none (.t 18)), none⟩,
      ⟨(some 20), .pl (.bin .eql .no (.t 19) (.c (.int .i64 2))), none⟩,
      ⟨(some 21), .pl (.mv (.t 20)), none⟩,
      ⟨(some 22), .pl (.fa 2 (.t 5)), (some (21, true))⟩,
      ⟨(some 23), .pl (.fa 0 (.t 22)), (some (21, true))⟩,
      ⟨(some 24), .pl (.load none (.t 23)), (some (21, true))⟩,
      ⟨(some 25), .pl (.bin .eql .no (.t 24) (.c (.int .i64 9))), (some (21, true))⟩,
      ⟨(some 26), .pl (.pick (.t 21) (.t 25) (.c (.bool false))), none⟩] [26])
   (.cond (.t 26)
    (.seq (.reg [⟨(some 6), .pl (.mv (.c (.int .i64 8))), none⟩] [6])
     (.ret))
    (.skip)))
  (.seq (.reg [⟨(some 6), .pl (.mv (.c (.int .i64 0))), none⟩] [6])
  (.ret)))))⟩
theorem c135 : compF Tryz.prog 135 = some A135 := by kernel_rfl

/-- (*concourse/check.checker).method -/
def A136_l0 : AC := .seq (.reg [⟨(some 16), .pl (.bin .lss .no (.t 15) (.t 14)), none⟩] [0, 13, 14, 15, 16])
  (.seq (.cond (.t 16)
    (.skip)
    (.exit 0))
  (.seq (.block 1 (.seq (.reg [⟨(some 17), .pl (.ia 1 (.t 13) (.t 15)), none⟩,
       ⟨(some 18), .pl (.load none (.t 17)), none⟩,
       ⟨(some 6), .pl (.mv (.t 18)), none⟩] [0, 6, 13, 14, 15])
    (.seq (.seq (.reg [⟨(some 20), .pl (.mv (.t 0)), none⟩,
        ⟨(some 21), .pl (.nilck (.t 20)), none⟩,
        ⟨(some 22), .pl (.fa 1 (.t 21)), none⟩,
        ⟨(some 23), .pl (.load none (.t 22)), none⟩,
        ⟨(some 24), .pl (.mv (.t 6)), none⟩,
        ⟨(some 25), .call (.c (.fn 103 [] [])) [(.t 23), (.t 24)], none⟩,
        ⟨(some 19), .pl (.mv (.t 25)), none⟩,
        ⟨(some 26), .pl (.ext 0 (.t 19)), none⟩,
        ⟨(some 27), .pl (.ext 1 (.t 19)), none⟩,
        ⟨(some 7), .pl (.mv (.t 26)), none⟩,
        ⟨(some 8), .pl (.mv (.t 27)), none⟩] [0, 6, 8, 13, 14, 15])
     (.seq (.reg [⟨(some 28), .pl (.mv (.t 8)), none⟩,
        ⟨(some 29), .pl (.un .not (.t 28)), none⟩] [0, 6, 13, 14, 15, 29])
     (.cond (.t 29)
      (.seq (.reg [⟨(some 4), .pl (.mv (.c (.int .i64 6))), none⟩] [4])
       (.ret))
      (.skip))))
    (.seq (.reg [⟨(some 30), .pl (.mv (.t 0)), none⟩,
       ⟨(some 31), .pl (.nilck (.t 30)), none⟩,
       ⟨(some 32), .pl (.fa 1 (.t 31)), none⟩,
       ⟨(some 33), .pl (.load none (.t 32)), none⟩,
       ⟨(some 34), .pl (.mv (.t 6)), none⟩,
       ⟨(some 35), .call (.c (.fn 96 [] [])) [(.t 33), (.t 34)], none⟩,
       ⟨(some 36), .pl (.bin .neq .no (.t 35) (.c (.int .i64 1))), none⟩] [0, 13, 14, 15, 36])
    (.cond (.t 36)
     (.seq (.reg [⟨(some 4), .pl (.mv (.c (.int .i64 8))), none⟩] [4])
      (.ret))
     (.skip))))))
  (.reg [⟨(some 37), .pl (.bin .add .no (.t 15) (.c (.int .i64 1))), none⟩,
    ⟨(some 15), .pl (.mv (.t 37)), none⟩] [0, 13, 14, 15])))
def A136_r0 : AC := .seq (.reg [⟨(some 4), .pl (.mv (.c (.int .i64 0))), none⟩] [4])
  (.ret)
def A136 : AFun := ⟨38, [.t 4],
  .seq (.reg [⟨(some 3), .pl (.box (.t 1)), none⟩,
     ⟨(some 4), .pl (.mv (.c (.int .i64 0))), none⟩] [0, 3])
  (.seq (.seq (.reg [⟨(some 9), .pl (.fa 2 (.t 3)), none⟩,
      ⟨(some 10), .pl (.load none (.t 9)), none⟩,
      ⟨(some 11), .pl (.fa 3 (.t 3)), none⟩,
      ⟨(some 12), .pl (.load none (.t 11)), none⟩,
      ⟨(some 13), .pl (.lit 1 [(.t 10), (.t 12)]), none⟩,
      ⟨(some 14), .pl (.lenL (.t 13)), none⟩,
      ⟨(some 15), .pl (.mv (.c (.int .i64 0))), none⟩] [0, 13, 14, 15])
   (.block 0 (.loop [0, 13, 14, 15] A136_l0)))
  (A136_r0))⟩
theorem c136 : compF Tryz.prog 136 = some A136 := by kernel_rfl

/-- (*concourse/check.checker).finite -/
def A137_l0 : AC := .seq (.reg [⟨(some 23), .pl (.bin .lss .no (.t 22) (.t 21)), none⟩] [4, 7, 20, 21, 22, 23])
  (.seq (.cond (.t 23)
    (.skip)
    (.exit 1))
  (.seq (.block 2 (.seq (.reg [⟨(some 24), .pl (.ia 5 (.t 20) (.t 22)), none⟩,
       ⟨(some 25), .pl (.load (some 5) (.t 24)), none⟩,
       ⟨(some 9), .pl (.alloc [.int .i64 0, .str ⟨#[]⟩, .int .i64 0, .str ⟨#[]⟩, .esl]), none⟩,
       ⟨none, .pl (.store 5 (.t 9) (.t 25)), none⟩] [4, 7, 9, 20, 21, 22])
    (.seq (.regD [⟨(some 26), .pl (.mv (.t 7)), none⟩,
       ⟨(some 27), .pl (.fa 2 (.t 9)), none⟩,
       ⟨(some 28), .pl (.load (some 3) (.t 27)), none⟩,
       ⟨(some 29), .call (.t 26) [(.t 28)], none⟩,
       ⟨(some 30), .pl (.fa 0 (.t 4)), none⟩,
       ⟨(some 31), .pl (.load none (.t 30)), none⟩,
       ⟨(some 32), .pl (.bin .eql .no (.t 31) (.c (.int .i64 1))), none⟩,
       ⟨(some 33), .pl (.bin .neq .bool (.t 29) (.t 32)), none⟩] [(5, 3)] [4, 7, 20, 21, 22, 33])
    (.cond (.t 33)
     (.seq (.reg [⟨(some 34), .pl (.fa 0 (.t 4)), none⟩,
         ⟨(some 35), .pl (.load none (.t 34)), none⟩,
         ⟨(some 36), .pl (.bin .eql .no (.t 35) (.c (.int .i64 2))), none⟩,
         ⟨(some 6), .pl (.mv (.t 36)), none⟩] [6])
      (.ret))
     (.skip)))))
  (.reg [⟨(some 37), .pl (.bin .add .no (.t 22) (.c (.int .i64 1))), none⟩,
    ⟨(some 22), .pl (.mv (.t 37)), none⟩] [4, 7, 20, 21, 22])))
def A137_r0 : AC := .seq (.reg [⟨(some 38), .pl (.fa 0 (.t 4)), none⟩,
     ⟨(some 39), .pl (.load none (.t 38)), none⟩,
     ⟨(some 40), .pl (.bin .eql .no (.t 39) (.c (.int .i64 1))), none⟩,
     ⟨(some 6), .pl (.mv (.t 40)), none⟩] [6])
  (.ret)
def A137_r1 : AC := .seq (.reg [⟨(some 6), .pl (.mv (.c (.bool false))), none⟩] [6])
  (.ret)
def A137 : AFun := ⟨41, [.t 6],
  .seq (.reg [⟨(some 3), .pl (.box (.t 0)), none⟩,
     ⟨(some 4), .pl (.box (.t 1)), none⟩,
     ⟨(some 5), .pl (.box (.t 2)), none⟩,
     ⟨(some 6), .pl (.mv (.c (.bool false))), none⟩] [3, 4, 5])
  (.seq (.reg [⟨(some 10), .pl (.mkfn 178 [] [(.t 3), (.t 5)]), none⟩,
     ⟨(some 7), .pl (.mv (.t 10)), none⟩] [4, 7])
  (.seq (.seq (.reg [⟨(some 11), .pl (.fa 0 (.t 4)), none⟩,
      ⟨(some 12), .pl (.load none (.t 11)), none⟩] [4, 7, 12])
   (.block 0 (.seq (.seq (.reg [⟨(some 14), .pl (.bin .eql .no (.t 12) (.c (.int .i64 3))), none⟩,
        ⟨(some 13), .pl (.mv (.t 14)), none⟩] [4, 7, 12, 13])
     (.cond (.t 13)
      (.skip)
      (.reg [⟨(some 15), .pl (.bin .eql .no (.t 12) (.c (.int .i64 4))), none⟩,
         ⟨(some 13), .pl (.mv (.t 15)), none⟩] [4, 7, 12, 13])))
    (.cond (.t 13)
     (.seq (.reg [⟨(some 6), .pl (.mv (.c (.bool true))), none⟩] [6])
      (.ret))
     (.seq (.seq (.reg [⟨(some 17), .pl (.bin .eql .no (.t 12) (.c (.int .i64 1))), none⟩,
          ⟨(some 16), .pl (.mv (.t 17)), none⟩] [4, 7, 12, 16])
       (.cond (.t 16)
        (.skip)
        (.reg [⟨(some 18), .pl (.bin .eql .no (.t 12) (.c (.int .i64 2))), none⟩,
           ⟨(some 16), .pl (.mv (.t 18)), none⟩] [4, 7, 16])))
      (.cond (.t 16)
       (.seq (.seq (.reg [⟨(some 19), .pl (.fa 2 (.t 4)), none⟩,
            ⟨(some 20), .pl (.load none (.t 19)), none⟩,
            ⟨(some 21), .pl (.lenL (.t 20)), none⟩,
            ⟨(some 22), .pl (.mv (.c (.int .i64 0))), none⟩] [4, 7, 20, 21, 22])
         (.block 1 (.loop [4, 7, 20, 21, 22] A137_l0)))
        (A137_r0))
       (.skip)))))))
  (A137_r1)))⟩
theorem c137 : compF Tryz.prog 137 = some A137 := by kernel_rfl

/-- slices.stableCmpFunc[concourse/api.Field] -/
def A140_l0 : AC := .seq (.seq (.reg [⟨(some 11), .pl (.mv (.t 8)), none⟩,
      ⟨(some 12), .pl (.mv (.t 1)), none⟩,
      ⟨(some 13), .pl (.bin .leq .no (.t 11) (.t 12)), none⟩] [0, 1, 2, 6, 7, 8, 13])
   (.cond (.t 13)
    (.skip)
    (.exit 0)))
  (.block 1 (.seq (.reg [⟨(some 14), .pl (.mv (.t 0)), none⟩,
      ⟨(some 15), .pl (.mv (.t 7)), none⟩,
      ⟨(some 16), .pl (.mv (.t 8)), none⟩,
      ⟨(some 17), .pl (.mv (.t 2)), none⟩,
      ⟨(some 18), .call (.c (.fn 183 [] [])) [(.t 14), (.t 15), (.t 16), (.t 17)], none⟩] [0, 1, 2, 6, 8])
   (.seq (.reg [⟨(some 19), .pl (.mv (.t 8)), none⟩,
      ⟨(some 7), .pl (.mv (.t 19)), none⟩] [0, 1, 2, 6, 7, 8])
   (.reg [⟨(some 20), .pl (.mv (.t 8)), none⟩,
     ⟨(some 21), .pl (.mv (.t 6)), none⟩,
     ⟨(some 22), .pl (.bin .add .no (.t 20) (.t 21)), none⟩,
     ⟨(some 8), .pl (.mv (.t 22)), none⟩] [0, 1, 2, 6, 7, 8]))))
def A140_l1 : AC := .seq (.seq (.reg [⟨(some 33), .pl (.mv (.t 8)), none⟩,
      ⟨(some 34), .pl (.mv (.t 1)), none⟩,
      ⟨(some 35), .pl (.bin .leq .no (.t 33) (.t 34)), none⟩] [0, 1, 2, 6, 7, 8, 35])
   (.cond (.t 35)
    (.skip)
    (.exit 4)))
  (.block 5 (.seq (.reg [⟨(some 36), .pl (.mv (.t 0)), none⟩,
      ⟨(some 37), .pl (.mv (.t 7)), none⟩,
      ⟨(some 38), .pl (.mv (.t 7)), none⟩,
      ⟨(some 39), .pl (.mv (.t 6)), none⟩,
      ⟨(some 40), .pl (.bin .add .no (.t 38) (.t 39)), none⟩,
      ⟨(some 41), .pl (.mv (.t 8)), none⟩,
      ⟨(some 42), .pl (.mv (.t 2)), none⟩,
      ⟨(some 43), .call (.c (.fn 184 [] [])) [(.t 36), (.t 37), (.t 40), (.t 41), (.t 42)], none⟩] [0, 1, 2, 6, 8])
   (.seq (.reg [⟨(some 44), .pl (.mv (.t 8)), none⟩,
      ⟨(some 7), .pl (.mv (.t 44)), none⟩] [0, 1, 2, 6, 7, 8])
   (.reg [⟨(some 45), .pl (.mv (.t 8)), none⟩,
     ⟨(some 46), .pl (.mv (.t 6)), none⟩,
     ⟨(some 47), .pl (.bin .mul .no (.c (.int .i64 2)) (.t 46)), none⟩,
     ⟨(some 48), .pl (.bin .add .no (.t 45) (.t 47)), none⟩,
     ⟨(some 8), .pl (.mv (.t 48)), none⟩] [0, 1, 2, 6, 7, 8]))))
def A140_r0 : AC := .seq (.seq (.reg [⟨(some 49), .pl (.mv (.t 7)), none⟩,
      ⟨(some 50), .pl (.mv (.t 6)), none⟩,
      ⟨(some 51), .pl (.bin .add .no (.t 49) (.t 50)), none⟩,
      ⟨(some 9), .pl (.mv (.t 51)), none⟩] [0, 1, 2, 6, 7, 9])
   (.seq (.reg [⟨(some 52), .pl (.mv (.t 9)), none⟩,
      ⟨(some 53), .pl (.mv (.t 1)), none⟩,
      ⟨(some 54), .pl (.bin .lss .no (.t 52) (.t 53)), none⟩] [0, 1, 2, 6, 7, 9, 54])
   (.cond (.t 54)
    (.reg [⟨(some 55), .pl (.mv (.t 0)), none⟩,
       ⟨(some 56), .pl (.mv (.t 7)), none⟩,
       ⟨(some 57), .pl (.mv (.t 9)), none⟩,
       ⟨(some 58), .pl (.mv (.t 1)), none⟩,
       ⟨(some 59), .pl (.mv (.t 2)), none⟩,
       ⟨(some 60), .call (.c (.fn 184 [] [])) [(.t 55), (.t 56), (.t 57), (.t 58), (.t 59)], none⟩] [0, 1, 2, 6])
    (.skip))))
  (.reg [⟨(some 61), .pl (.mv (.t 6)), none⟩,
    ⟨(some 62), .pl (.bin .mul .no (.t 61) (.c (.int .i64 2))), none⟩,
    ⟨(some 6), .pl (.mv (.t 62)), none⟩] [0, 1, 2, 6])
def A140_l2 : AC := .seq (.seq (.reg [⟨(some 28), .pl (.mv (.t 6)), none⟩,
      ⟨(some 29), .pl (.mv (.t 1)), none⟩,
      ⟨(some 30), .pl (.bin .lss .no (.t 28) (.t 29)), none⟩] [0, 1, 2, 6, 30])
   (.cond (.t 30)
    (.skip)
    (.exit 2)))
  (.block 3 (.seq (.reg [⟨(some 31), .pl (.mv (.t 6)), none⟩,
      ⟨(some 32), .pl (.bin .mul .no (.c (.int .i64 2)) (.t 31)), none⟩,
      ⟨(some 7), .pl (.mv (.c (.int .i64 0))), none⟩,
      ⟨(some 8), .pl (.mv (.t 32)), none⟩] [0, 1, 2, 6, 7, 8])
   (.seq (.block 4 (.loop [0, 1, 2, 6, 7, 8] A140_l1))
   (A140_r0))))
def A140_r1 : AC := .seq (.reg [⟨(some 23), .pl (.mv (.t 0)), none⟩,
     ⟨(some 24), .pl (.mv (.t 7)), none⟩,
     ⟨(some 25), .pl (.mv (.t 1)), none⟩,
     ⟨(some 26), .pl (.mv (.t 2)), none⟩,
     ⟨(some 27), .call (.c (.fn 183 [] [])) [(.t 23), (.t 24), (.t 25), (.t 26)], none⟩] [0, 1, 2, 6])
  (.block 2 (.loop [0, 1, 2, 6] A140_l2))
def A140 : AFun := ⟨63, [],
  .seq (.reg [⟨(some 6), .pl (.mv (.c (.int .i64 20))), none⟩] [0, 1, 2, 6])
  (.seq (.reg [⟨(some 10), .pl (.mv (.t 6)), none⟩,
     ⟨(some 7), .pl (.mv (.c (.int .i64 0))), none⟩,
     ⟨(some 8), .pl (.mv (.t 10)), none⟩] [0, 1, 2, 6, 7, 8])
  (.seq (.block 0 (.loop [0, 1, 2, 6, 7, 8] A140_l0))
  (A140_r1)))⟩
theorem c140 : compF Tryz.prog 140 = some A140 := by kernel_rfl

/-- cmp.isNaN[int] -/
def A141 : AFun := ⟨6, [.t 2],
  .seq (.reg [⟨(some 2), .pl (.mv (.c (.bool false))), none⟩] [0])
  (.seq (.reg [⟨(some 3), .pl (.mv (.t 0)), none⟩,
     ⟨(some 4), .pl (.mv (.t 0)), none⟩,
     ⟨(some 5), .pl (.bin .neq .no (.t 3) (.t 4)), none⟩,
     ⟨(some 2), .pl (.mv (.t 5)), none⟩] [2])
  (.ret))⟩
theorem c141 : compF Tryz.prog 141 = some A141 := by kernel_rfl

/-- concourse/compat.optional -/
def A148 : AFun := ⟨7, [.t 2],
  .seq (.reg [⟨(some 1), .pl (.box (.t 0)), none⟩,
     ⟨(some 2), .pl (.mv (.c (.bool false))), none⟩] [1])
  (.seq (.reg [⟨(some 3), .pl (.fa 2 (.t 1)), none⟩,
     ⟨(some 4), .pl (.fa 0 (.t 3)), none⟩,
     ⟨(some 5), .pl (.load none (.t 4)), none⟩,
     ⟨(some 6), .pl (.bin .eql .no (.t 5) (.c (.int .i64 9))), none⟩,
     ⟨(some 2), .pl (.mv (.t 6)), none⟩] [2])
  (.ret))⟩
theorem c148 : compF Tryz.prog 148 = some A148 := by kernel_rfl

/-- concourse/compat.bearer -/
def A149_l0 : AC := .seq (.reg [⟨(some 23), .pl (.bin .lss .no (.t 22) (.t 21)), none⟩] [1, 2, 6, 9, 13, 14, 15, 20, 21, 22, 23])
  (.seq (.cond (.t 23)
    (.skip)
    (.exit 2))
  (.seq (.block 3 (.seq (.reg [⟨(some 24), .pl (.ia 5 (.t 20) (.t 22)), none⟩,
       ⟨(some 25), .pl (.load (some 5) (.t 24)), none⟩,
       ⟨(some 11), .pl (.alloc [.int .i64 0, .str ⟨#[]⟩, .str ⟨#[]⟩, .str ⟨#[]⟩, .bool false]), none⟩,
       ⟨none, .pl (.store 5 (.t 11) (.t 25)), none⟩] [1, 2, 6, 9, 11, 13, 14, 15, 20, 21, 22])
    (.seq (.reg [⟨(some 26), .pl (.fa 1 (.t 9)), none⟩,
       ⟨(some 27), .pl (.load none (.t 26)), none⟩,
       ⟨(some 28), .pl (.mv (.t 1)), none⟩,
       ⟨(some 29), .pl (.bin .eql .no (.t 27) (.t 28)), none⟩,
       ⟨(some 30), .pl (.mv (.t 29)), none⟩,
       ⟨(some 31), .pl (.fa 1 (.t 11)), (some (30, true))⟩,
       ⟨(some 32), .pl (.load none (.t 31)), (some (30, true))⟩,
       ⟨(some 33), .pl (.mv (.t 2)), (some (30, true))⟩,
       ⟨(some 34), .pl (.bin .eql .no (.t 32) (.t 33)), (some (30, true))⟩,
       ⟨(some 35), .pl (.pick (.t 30) (.t 34) (.c (.bool false))), none⟩] [1, 2, 6, 9, 11, 13, 14, 15, 20, 21, 22, 35])
    (.cond (.t 35)
     (.seq (.reg [⟨(some 36), .pl (.load (some 5) (.t 11)), none⟩,
         ⟨none, .pl (.store 5 (.t 6) (.t 36)), none⟩,
         ⟨(some 7), .pl (.mv (.c (.bool true))), none⟩] [6, 7])
      (.ret))
     (.skip)))))
  (.reg [⟨(some 37), .pl (.bin .add .no (.t 22) (.c (.int .i64 1))), none⟩,
    ⟨(some 22), .pl (.mv (.t 37)), none⟩] [1, 2, 6, 9, 13, 14, 15, 20, 21, 22])))
def A149_r0 : AC := .reg [⟨(some 38), .pl (.bin .add .no (.t 15) (.c (.int .i64 1))), none⟩,
    ⟨(some 15), .pl (.mv (.t 38)), none⟩] [1, 2, 6, 13, 14, 15]
def A149_l1 : AC := .seq (.reg [⟨(some 16), .pl (.bin .lss .no (.t 15) (.t 14)), none⟩] [1, 2, 6, 13, 14, 15, 16])
  (.seq (.cond (.t 16)
    (.skip)
    (.exit 0))
  (.seq (.block 1 (.seq (.reg [⟨(some 17), .pl (.ia 5 (.t 13) (.t 15)), none⟩,
       ⟨(some 18), .pl (.load (some 5) (.t 17)), none⟩,
       ⟨(some 9), .pl (.alloc [.int .i64 0, .str ⟨#[]⟩, .esl, .esl, .int .i64 0]), none⟩,
       ⟨none, .pl (.store 5 (.t 9) (.t 18)), none⟩] [1, 2, 6, 9, 13, 14, 15])
    (.seq (.reg [⟨(some 19), .pl (.fa 3 (.t 9)), none⟩,
       ⟨(some 20), .pl (.load none (.t 19)), none⟩,
       ⟨(some 21), .pl (.lenL (.t 20)), none⟩,
       ⟨(some 22), .pl (.mv (.c (.int .i64 0))), none⟩] [1, 2, 6, 9, 13, 14, 15, 20, 21, 22])
    (.block 2 (.loop [1, 2, 6, 9, 13, 14, 15, 20, 21, 22] A149_l0)))))
  (A149_r0)))
def A149_r1 : AC := .seq (.reg [⟨(some 39), .pl (.build [.int .i64 0, .str ⟨#[]⟩, .str ⟨#[]⟩, .str ⟨#[]⟩, .bool false] []), none⟩,
     ⟨none, .pl (.store 5 (.t 6) (.t 39)), none⟩,
     ⟨(some 7), .pl (.mv (.c (.bool false))), none⟩] [6, 7])
  (.ret)
def A149 : AFun := ⟨40, [.cell 6 (some 5), .t 7],
  .seq (.reg [⟨(some 6), .pl (.alloc [.int .i64 0, .str ⟨#[]⟩, .str ⟨#[]⟩, .str ⟨#[]⟩, .bool false]), none⟩,
     ⟨(some 7), .pl (.mv (.c (.bool false))), none⟩] [0, 1, 2, 6])
  (.seq (.seq (.reg [⟨(some 12), .pl (.mv (.t 0)), none⟩,
      ⟨(some 13), .call (.c (.fn 13 [] [])) [(.t 12)], none⟩,
      ⟨(some 14), .pl (.lenL (.t 13)), none⟩,
      ⟨(some 15), .pl (.mv (.c (.int .i64 0))), none⟩] [1, 2, 6, 13, 14, 15])
   (.block 0 (.loop [1, 2, 6, 13, 14, 15] A149_l1)))
  (A149_r1))⟩
theorem c149 : compF Tryz.prog 149 = some A149 := by kernel_rfl

/-- concourse/lex.letter -/
def A169 : AFun := ⟨17, [.t 2],
  .seq (.reg [⟨(some 2), .pl (.mv (.c (.bool false))), none⟩] [0])
  (.seq (.reg [⟨(some 3), .pl (.mv (.t 0)), none⟩,
     ⟨(some 4), .pl (.bin .geq .no (.t 3) (.c (.int .u8 97))), none⟩,
     ⟨(some 5), .pl (.mv (.t 4)), none⟩,
     ⟨(some 6), .pl (.mv (.t 0)), (some (5, true))⟩,
     ⟨(some 7), .pl (.bin .leq .no (.t 6) (.c (.int .u8 122))), (some (5, true))⟩,
     ⟨(some 8), .pl (.pick (.t 5) (.t 7) (.c (.bool false))), none⟩,
     ⟨(some 9), .pl (.mv (.t 8)), none⟩,
     ⟨(some 10), .pl (.mv (.t 0)), (some (9, false))⟩,
     ⟨(some 11), .pl (.bin .geq .no (.t 10) (.c (.int .u8 65))), (some (9, false))⟩,
     ⟨(some 12), .pl (.mv (.t 11)), (some (9, false))⟩,
     ⟨(some 13), .pl (.mv (.t 0)), (some (12, true))⟩,
     ⟨(some 14), .pl (.bin .leq .no (.t 13) (.c (.int .u8 90))), (some (12, true))⟩,
     ⟨(some 15), .pl (.pick (.t 12) (.t 14) (.c (.bool false))), (some (9, false))⟩,
     ⟨(some 16), .pl (.pick (.t 9) (.c (.bool true)) (.t 15)), none⟩,
     ⟨(some 2), .pl (.mv (.t 16)), none⟩] [2])
  (.ret))⟩
theorem c169 : compF Tryz.prog 169 = some A169 := by kernel_rfl

/-- (*concourse/lex.lexer).word -/
def A170 : AFun := ⟨18, [.t 2],
  .seq (.reg [⟨(some 2), .pl (.mv (.c (.int .i64 0))), none⟩] [0])
  (.seq (.reg [⟨(some 5), .pl (.mv (.t 0)), none⟩,
     ⟨(some 6), .pl (.nilck (.t 5)), none⟩,
     ⟨(some 7), .pl (.fa 1 (.t 6)), none⟩,
     ⟨(some 8), .pl (.load none (.t 7)), none⟩,
     ⟨(some 3), .pl (.mv (.t 8)), none⟩] [0, 3])
  (.seq (.reg [⟨(some 9), .pl (.mv (.t 0)), none⟩,
     ⟨(some 10), .call (.c (.fn 196 [] [])) [(.t 9), (.c (.fn 197 [] []))], none⟩,
     ⟨(some 4), .pl (.mv (.t 10)), none⟩] [0, 3, 4])
  (.seq (.seq (.reg [⟨(some 11), .pl (.mv (.t 4)), none⟩,
      ⟨(some 12), .pl (.lenS (.t 11)), none⟩,
      ⟨(some 13), .pl (.bin .gtr .no (.t 12) (.c (.int .i64 16))), none⟩] [0, 3, 4, 13])
   (.cond (.t 13)
    (.seq (.reg [⟨(some 2), .pl (.mv (.c (.int .i64 6))), none⟩] [2])
     (.ret))
    (.skip)))
  (.seq (.reg [⟨(some 14), .pl (.mv (.t 0)), none⟩,
     ⟨(some 15), .pl (.mv (.t 4)), none⟩,
     ⟨(some 16), .pl (.mv (.t 3)), none⟩,
     ⟨(some 17), .call (.c (.fn 123 [] [])) [(.t 14), (.c (.int .i64 1)), (.t 15), (.c (.int .i64 0)), (.t 16)], none⟩] [])
  (.seq (.reg [⟨(some 2), .pl (.mv (.c (.int .i64 0))), none⟩] [2])
  (.ret))))))⟩
theorem c170 : compF Tryz.prog 170 = some A170 := by kernel_rfl

/-- concourse/lex.digit -/
def A171 : AFun := ⟨9, [.t 2],
  .seq (.reg [⟨(some 2), .pl (.mv (.c (.bool false))), none⟩] [0])
  (.seq (.reg [⟨(some 3), .pl (.mv (.t 0)), none⟩,
     ⟨(some 4), .pl (.bin .geq .no (.t 3) (.c (.int .u8 48))), none⟩,
     ⟨(some 5), .pl (.mv (.t 4)), none⟩,
     ⟨(some 6), .pl (.mv (.t 0)), (some (5, true))⟩,
     ⟨(some 7), .pl (.bin .leq .no (.t 6) (.c (.int .u8 57))), (some (5, true))⟩,
     ⟨(some 8), .pl (.pick (.t 5) (.t 7) (.c (.bool false))), none⟩,
     ⟨(some 2), .pl (.mv (.t 8)), none⟩] [2])
  (.ret))⟩
theorem c171 : compF Tryz.prog 171 = some A171 := by kernel_rfl

/-- (*concourse/lex.lexer).number -/
def A172_l0 : AC := .seq (.reg [⟨(some 29), .pl (.bin .lss .no (.t 28) (.t 27)), none⟩] [0, 3, 4, 5, 27, 28, 29])
  (.seq (.cond (.t 29)
    (.skip)
    (.exit 1))
  (.seq (.block 2 (.seq (.reg [⟨(some 30), .pl (.mv (.t 28)), none⟩,
       ⟨(some 6), .pl (.mv (.t 30)), none⟩] [0, 3, 4, 5, 6, 27, 28])
    (.reg [⟨(some 31), .pl (.mv (.t 5)), none⟩,
      ⟨(some 32), .pl (.bin .mul .no (.c (.int .i64 10)) (.t 31)), none⟩,
      ⟨(some 33), .pl (.mv (.t 4)), none⟩,
      ⟨(some 34), .pl (.mv (.t 6)), none⟩,
      ⟨(some 35), .pl (.ixS (.t 33) (.t 34)), none⟩,
      ⟨(some 36), .pl (.bin .sub .no (.t 35) (.c (.int .u8 48))), none⟩,
      ⟨(some 37), .pl (.conv .i64 (.t 36)), none⟩,
      ⟨(some 38), .pl (.bin .add .no (.t 32) (.t 37)), none⟩,
      ⟨(some 5), .pl (.mv (.t 38)), none⟩] [0, 3, 4, 5, 27, 28])))
  (.reg [⟨(some 39), .pl (.bin .add .no (.t 28) (.c (.int .i64 1))), none⟩,
    ⟨(some 28), .pl (.mv (.t 39)), none⟩] [0, 3, 4, 5, 27, 28])))
def A172_r0 : AC := .seq (.reg [⟨(some 40), .pl (.mv (.t 0)), none⟩,
     ⟨(some 41), .pl (.mv (.t 4)), none⟩,
     ⟨(some 42), .pl (.mv (.t 5)), none⟩,
     ⟨(some 43), .pl (.mv (.t 3)), none⟩,
     ⟨(some 44), .call (.c (.fn 123 [] [])) [(.t 40), (.c (.int .i64 2)), (.t 41), (.t 42), (.t 43)], none⟩] [])
  (.seq (.reg [⟨(some 2), .pl (.mv (.c (.int .i64 0))), none⟩] [2])
  (.ret))
def A172 : AFun := ⟨45, [.t 2],
  .seq (.reg [⟨(some 2), .pl (.mv (.c (.int .i64 0))), none⟩] [0])
  (.seq (.reg [⟨(some 7), .pl (.mv (.t 0)), none⟩,
     ⟨(some 8), .pl (.nilck (.t 7)), none⟩,
     ⟨(some 9), .pl (.fa 1 (.t 8)), none⟩,
     ⟨(some 10), .pl (.load none (.t 9)), none⟩,
     ⟨(some 3), .pl (.mv (.t 10)), none⟩] [0, 3])
  (.seq (.reg [⟨(some 11), .pl (.mv (.t 0)), none⟩,
     ⟨(some 12), .call (.c (.fn 196 [] [])) [(.t 11), (.c (.fn 171 [] []))], none⟩,
     ⟨(some 4), .pl (.mv (.t 12)), none⟩] [0, 3, 4])
  (.seq (.block 0 (.seq (.reg [⟨(some 14), .pl (.mv (.t 4)), none⟩,
       ⟨(some 15), .pl (.lenS (.t 14)), none⟩,
       ⟨(some 16), .pl (.bin .gtr .no (.t 15) (.c (.int .i64 1))), none⟩,
       ⟨(some 17), .pl (.mv (.t 16)), none⟩,
       ⟨(some 18), .pl (.mv (.t 4)), (some (17, true))⟩,
       ⟨(some 19), .pl (.ixS (.t 18) (.c (.int .i64 0))), (some (17, true))⟩,
       ⟨(some 20), .pl (.bin .eql .no (.t 19) (.c (.int .u8 48))), (some (17, true))⟩,
       ⟨(some 21), .pl (.pick (.t 17) (.t 20) (.c (.bool false))), none⟩,
       ⟨(some 13), .pl (.mv (.t 21)), none⟩] [0, 3, 4, 13])
    (.cond (.t 13)
     (.seq (.reg [⟨(some 2), .pl (.mv (.c (.int .i64 1))), none⟩] [2])
      (.ret))
     (.seq (.reg [⟨(some 23), .pl (.mv (.t 4)), none⟩,
         ⟨(some 24), .pl (.lenS (.t 23)), none⟩,
         ⟨(some 25), .pl (.bin .gtr .no (.t 24) (.c (.int .i64 4))), none⟩,
         ⟨(some 22), .pl (.mv (.t 25)), none⟩] [0, 3, 4, 22])
      (.cond (.t 22)
       (.seq (.reg [⟨(some 2), .pl (.mv (.c (.int .i64 3))), none⟩] [2])
        (.ret))
       (.skip))))))
  (.seq (.reg [⟨(some 5), .pl (.mv (.c (.int .i64 0))), none⟩] [0, 3, 4, 5])
  (.seq (.seq (.reg [⟨(some 26), .pl (.mv (.t 4)), none⟩,
      ⟨(some 27), .pl (.lenS (.t 26)), none⟩,
      ⟨(some 28), .pl (.mv (.c (.int .i64 0))), none⟩] [0, 3, 4, 5, 27, 28])
   (.block 1 (.loop [0, 3, 4, 5, 27, 28] A172_l0)))
  (A172_r0))))))⟩
theorem c172 : compF Tryz.prog 172 = some A172 := by kernel_rfl

/-- (*concourse/lex.lexer).note -/
def A173 : AFun := ⟨16, [.t 2],
  .seq (.reg [⟨(some 2), .pl (.mv (.c (.bool false))), none⟩] [0])
  (.seq (.seq (.regD [⟨(some 3), .pl (.mv (.t 0)), none⟩,
      ⟨(some 4), .pl (.nilck (.t 3)), none⟩,
      ⟨(some 5), .pl (.fa 0 (.t 4)), none⟩,
      ⟨(some 6), .pl (.load none (.t 5)), none⟩,
      ⟨(some 7), .pl (.mv (.t 0)), none⟩,
      ⟨(some 8), .pl (.nilck (.t 7)), none⟩,
      ⟨(some 9), .pl (.fa 1 (.t 8)), none⟩,
      ⟨(some 10), .pl (.load none (.t 9)), none⟩,
      ⟨(some 11), .pl (.slcS (.t 6) (some (.t 10)) none), none⟩,
      ⟨(some 12), .call (.c (.fn 198 [] [])) [(.t 11), (.c (.str ⟨#[47, 47]⟩))], none⟩,
      ⟨(some 13), .pl (.un .not (.t 12)), none⟩] [] [0, 13])
   (.cond (.t 13)
    (.seq (.reg [⟨(some 2), .pl (.mv (.c (.bool false))), none⟩] [2])
     (.ret))
    (.skip)))
  (.seq (.reg [⟨(some 14), .pl (.mv (.t 0)), none⟩,
     ⟨(some 15), .call (.c (.fn 196 [] [])) [(.t 14), (.c (.fn 199 [] []))], none⟩] [])
  (.seq (.reg [⟨(some 2), .pl (.mv (.c (.bool true))), none⟩] [2])
  (.ret))))⟩
theorem c173 : compF Tryz.prog 173 = some A173 := by kernel_rfl

/-- concourse/parse.Word -/
def A175 : AFun := ⟨16, [.t 2],
  .seq (.reg [⟨(some 2), .pl (.mv (.c (.bool false))), none⟩] [0])
  (.seq (.reg [⟨(some 3), .pl (.mv (.t 0)), none⟩,
     ⟨(some 4), .pl (.bin .neq .no (.t 3) (.c (.str ⟨#[]⟩))), none⟩,
     ⟨(some 5), .pl (.mv (.t 4)), none⟩,
     ⟨(some 6), .pl (.mv (.t 0)), (some (5, true))⟩,
     ⟨(some 7), .call (.c (.fn 201 [] [])) [(.t 6), (.c (.str ⟨#[32]⟩))], (some (5, true))⟩,
     ⟨(some 8), .pl (.un .not (.t 7)), (some (5, true))⟩,
     ⟨(some 9), .pl (.pick (.t 5) (.t 8) (.c (.bool false))), none⟩,
     ⟨(some 10), .pl (.mv (.t 9)), none⟩,
     ⟨(some 11), .pl (.mv (.t 0)), (some (10, true))⟩,
     ⟨(some 12), .pl (.bin .add .no (.c (.str ⟨#[32]⟩)) (.t 11)), (some (10, true))⟩,
     ⟨(some 13), .pl (.bin .add .no (.t 12) (.c (.str ⟨#[32]⟩))), (some (10, true))⟩,
     ⟨(some 14), .call (.c (.fn 201 [] [])) [(.c (.str ⟨#[32, 115, 116, 114, 117, 99, 116, 32, 117, 110, 105, 111, 110, 32, 101, 110, 117, 109, 32, 115, 101, 114, 118, 105, 99, 101, 32, 98, 111, 111, 108, 32, 105, 110, 116, 32, 117, 105, 110, 116, 32, 116, 101, 120, 116, 32, 98, 121, 116, 101, 115, 32, 108, 105, 115, 116, 32, 109, 97, 112, 32, 111, 110, 101, 119, 97, 121, 32]⟩)), (.t 13)], (some (10, true))⟩,
     ⟨(some 15), .pl (.pick (.t 10) (.t 14) (.c (.bool false))), none⟩,
     ⟨(some 2), .pl (.mv (.t 15)), none⟩] [2])
  (.ret))⟩
theorem c175 : compF Tryz.prog 175 = some A175 := by kernel_rfl

/-- (*concourse/parse.parser).base -/
def A176 : AFun := ⟨64, [.cell 4 (some 3)],
  .seq (.reg [⟨(some 4), .pl (.alloc [.int .i64 0, .str ⟨#[]⟩, .esl]), none⟩] [0, 1, 4])
  (.seq (.reg [⟨(some 10), .pl (.mv (.t 0)), none⟩,
     ⟨(some 11), .call (.c (.fn 74 [] [])) [(.t 10)], none⟩,
     ⟨(some 5), .pl (.alloc [.int .i64 0, .str ⟨#[]⟩, .int .i64 0, .int .i64 0]), none⟩,
     ⟨none, .pl (.store 4 (.t 5) (.t 11)), none⟩] [0, 1, 4, 5])
  (.seq (.seq (.reg [⟨(some 12), .pl (.fa 1 (.t 5)), none⟩,
      ⟨(some 13), .pl (.load none (.t 12)), none⟩,
      ⟨(some 14), .call (.c (.fn 202 [] [])) [(.t 13)], none⟩,
      ⟨(some 6), .pl (.mv (.t 14)), none⟩] [0, 1, 4, 6])
   (.seq (.reg [⟨(some 15), .pl (.mv (.t 6)), none⟩,
      ⟨(some 16), .pl (.bin .gtr .no (.t 15) (.c (.int .i64 0))), none⟩] [0, 1, 4, 6, 16])
   (.cond (.t 16)
    (.seq (.reg [⟨(some 17), .pl (.mv (.t 0)), none⟩,
        ⟨(some 18), .pl (.nilck (.t 17)), none⟩,
        ⟨(some 19), .pl (.fa 1 (.t 18)), none⟩,
        ⟨(some 20), .pl (.load none (.t 19)), none⟩,
        ⟨(some 21), .pl (.bin .add .no (.t 20) (.c (.int .i64 1))), none⟩,
        ⟨(some 22), .pl (.nilck (.t 17)), none⟩,
        ⟨(some 23), .pl (.fa 1 (.t 22)), none⟩,
        ⟨none, .pl (.store 1 (.t 23) (.t 21)), none⟩] [4, 6])
     (.seq (.reg [⟨(some 24), .pl (.mv (.t 6)), none⟩,
        ⟨(some 25), .pl (.build [.int .i64 0, .str ⟨#[]⟩, .esl] [(0, 1, (.t 24))]), none⟩,
        ⟨none, .pl (.store 3 (.t 4) (.t 25)), none⟩] [4])
     (.ret)))
    (.skip))))
  (.seq (.block 0 (.seq (.reg [⟨(some 27), .pl (.mv (.t 0)), none⟩,
       ⟨(some 28), .call (.c (.fn 129 [] [])) [(.t 27), (.c (.str ⟨#[108, 105, 115, 116]⟩))], none⟩,
       ⟨(some 26), .pl (.mv (.t 28)), none⟩] [0, 1, 4, 26])
    (.cond (.t 26)
     (.seq (.reg [⟨(some 29), .pl (.mv (.t 0)), none⟩,
         ⟨(some 30), .call (.c (.fn 127 [] [])) [(.t 29), (.c (.str ⟨#[60]⟩))], none⟩] [0, 1, 4])
      (.seq (.reg [⟨(some 31), .pl (.mv (.t 0)), none⟩,
         ⟨(some 32), .pl (.mv (.t 1)), none⟩,
         ⟨(some 33), .pl (.bin .add .no (.t 32) (.c (.int .i64 1))), none⟩,
         ⟨(some 34), .call (.c (.fn 128 [] [])) [(.t 31), (.t 33)], none⟩,
         ⟨(some 7), .pl (.alloc [.int .i64 0, .str ⟨#[]⟩, .esl]), none⟩,
         ⟨none, .pl (.store 3 (.t 7) (.t 34)), none⟩] [0, 4, 7])
      (.seq (.reg [⟨(some 35), .pl (.mv (.t 0)), none⟩,
         ⟨(some 36), .call (.c (.fn 127 [] [])) [(.t 35), (.c (.str ⟨#[62]⟩))], none⟩] [4, 7])
      (.seq (.reg [⟨(some 37), .pl (.load (some 3) (.t 7)), none⟩,
         ⟨(some 38), .pl (.lit 3 [(.t 37)]), none⟩,
         ⟨(some 39), .pl (.build [.int .i64 0, .str ⟨#[]⟩, .esl] [(0, 1, (.c (.int .i64 7))), (2, 1, (.t 38))]), none⟩,
         ⟨none, .pl (.store 3 (.t 4) (.t 39)), none⟩] [4])
      (.ret)))))
     (.seq (.reg [⟨(some 41), .pl (.mv (.t 0)), none⟩,
         ⟨(some 42), .call (.c (.fn 129 [] [])) [(.t 41), (.c (.str ⟨#[109, 97, 112]⟩))], none⟩,
         ⟨(some 40), .pl (.mv (.t 42)), none⟩] [0, 1, 4, 40])
      (.cond (.t 40)
       (.seq (.reg [⟨(some 43), .pl (.mv (.t 0)), none⟩,
           ⟨(some 44), .call (.c (.fn 127 [] [])) [(.t 43), (.c (.str ⟨#[60]⟩))], none⟩] [0, 1, 4])
        (.seq (.reg [⟨(some 45), .pl (.mv (.t 0)), none⟩,
           ⟨(some 46), .pl (.mv (.t 1)), none⟩,
           ⟨(some 47), .pl (.bin .add .no (.t 46) (.c (.int .i64 1))), none⟩,
           ⟨(some 48), .call (.c (.fn 128 [] [])) [(.t 45), (.t 47)], none⟩,
           ⟨(some 8), .pl (.alloc [.int .i64 0, .str ⟨#[]⟩, .esl]), none⟩,
           ⟨none, .pl (.store 3 (.t 8) (.t 48)), none⟩] [0, 1, 4, 8])
        (.seq (.reg [⟨(some 49), .pl (.mv (.t 0)), none⟩,
           ⟨(some 50), .call (.c (.fn 127 [] [])) [(.t 49), (.c (.str ⟨#[44]⟩))], none⟩] [0, 1, 4, 8])
        (.seq (.reg [⟨(some 51), .pl (.mv (.t 0)), none⟩,
           ⟨(some 52), .pl (.mv (.t 1)), none⟩,
           ⟨(some 53), .pl (.bin .add .no (.t 52) (.c (.int .i64 1))), none⟩,
           ⟨(some 54), .call (.c (.fn 128 [] [])) [(.t 51), (.t 53)], none⟩,
           ⟨(some 9), .pl (.alloc [.int .i64 0, .str ⟨#[]⟩, .esl]), none⟩,
           ⟨none, .pl (.store 3 (.t 9) (.t 54)), none⟩] [0, 4, 8, 9])
        (.seq (.reg [⟨(some 55), .pl (.mv (.t 0)), none⟩,
           ⟨(some 56), .call (.c (.fn 127 [] [])) [(.t 55), (.c (.str ⟨#[62]⟩))], none⟩] [4, 8, 9])
        (.seq (.reg [⟨(some 57), .pl (.load (some 3) (.t 8)), none⟩,
           ⟨(some 58), .pl (.load (some 3) (.t 9)), none⟩,
           ⟨(some 59), .pl (.lit 3 [(.t 57), (.t 58)]), none⟩,
           ⟨(some 60), .pl (.build [.int .i64 0, .str ⟨#[]⟩, .esl] [(0, 1, (.c (.int .i64 8))), (2, 1, (.t 59))]), none⟩,
           ⟨none, .pl (.store 3 (.t 4) (.t 60)), none⟩] [4])
        (.ret)))))))
       (.skip))))))
  (.seq (.reg [⟨(some 61), .pl (.mv (.t 0)), none⟩,
     ⟨(some 62), .call (.c (.fn 126 [] [])) [(.t 61)], none⟩,
     ⟨(some 63), .pl (.build [.int .i64 0, .str ⟨#[]⟩, .esl] [(0, 1, (.c (.int .i64 6))), (1, 1, (.t 62))]), none⟩,
     ⟨none, .pl (.store 3 (.t 4) (.t 63)), none⟩] [4])
  (.ret)))))⟩
theorem c176 : compF Tryz.prog 176 = some A176 := by kernel_rfl

/-- (*concourse/check.checker).typ -/
def A177_l0 : AC := .seq (.reg [⟨(some 72), .pl (.bin .lss .no (.t 71) (.t 70)), none⟩] [0, 69, 70, 71, 72])
  (.seq (.cond (.t 72)
    (.skip)
    (.exit 2))
  (.seq (.block 3 (.seq (.reg [⟨(some 73), .pl (.ia 3 (.t 69) (.t 71)), none⟩,
       ⟨(some 74), .pl (.load (some 3) (.t 73)), none⟩,
       ⟨(some 10), .pl (.alloc [.int .i64 0, .str ⟨#[]⟩, .esl]), none⟩,
       ⟨none, .pl (.store 3 (.t 10) (.t 74)), none⟩] [0, 10, 69, 70, 71])
    (.seq (.reg [⟨(some 75), .pl (.mv (.t 0)), none⟩,
       ⟨(some 76), .pl (.load (some 3) (.t 10)), none⟩,
       ⟨(some 77), .call (.c (.fn 177 [] [])) [(.t 75), (.t 76), (.c (.bool true))], none⟩,
       ⟨(some 11), .pl (.mv (.t 77)), none⟩] [0, 11, 69, 70, 71])
    (.seq (.reg [⟨(some 78), .pl (.mv (.t 11)), none⟩,
       ⟨(some 79), .pl (.bin .neq .no (.t 78) (.c (.int .i64 0))), none⟩] [0, 11, 69, 70, 71, 79])
    (.cond (.t 79)
     (.seq (.reg [⟨(some 80), .pl (.mv (.t 11)), none⟩,
         ⟨(some 6), .pl (.mv (.t 80)), none⟩] [6])
      (.ret))
     (.skip))))))
  (.reg [⟨(some 81), .pl (.bin .add .no (.t 71) (.c (.int .i64 1))), none⟩,
    ⟨(some 71), .pl (.mv (.t 81)), none⟩] [0, 69, 70, 71])))
def A177_r0 : AC := .seq (.reg [⟨(some 6), .pl (.mv (.c (.int .i64 0))), none⟩] [6])
  (.ret)
def A177 : AFun := ⟨82, [.t 6],
  .seq (.reg [⟨(some 4), .pl (.box (.t 1)), none⟩,
     ⟨(some 6), .pl (.mv (.c (.int .i64 0))), none⟩] [0, 2, 4])
  (.seq (.seq (.regD [⟨(some 12), .pl (.fa 2 (.t 4)), none⟩,
      ⟨(some 13), .pl (.load none (.t 12)), none⟩,
      ⟨(some 14), .pl (.lenL (.t 13)), none⟩,
      ⟨(some 15), .pl (.fa 0 (.t 4)), none⟩,
      ⟨(some 16), .pl (.load none (.t 15)), none⟩,
      ⟨(some 17), .call (.c (.fn 203 [] [])) [(.t 16)], none⟩,
      ⟨(some 18), .pl (.bin .neq .no (.t 14) (.t 17)), none⟩,
      ⟨(some 19), .pl (.mv (.t 18)), none⟩,
      ⟨(some 20), .pl (.fa 0 (.t 4)), (some (19, false))⟩,
      ⟨(some 21), .pl (.load none (.t 20)), (some (19, false))⟩,
      ⟨(some 22), .pl (.bin .neq .no (.t 21) (.c (.int .i64 6))), (some (19, false))⟩,
      ⟨(some 23), .pl (.mv (.t 22)), (some (19, false))⟩,
      ⟨(some 24), .pl (.fa 1 (.t 4)), (some (23, true))⟩,
      ⟨(some 25), .pl (.load none (.t 24)), (some (23, true))⟩,
      ⟨(some 26), .pl (.bin .neq .no (.t 25) (.c (.str ⟨#[]⟩))), (some (23, true))⟩,
      ⟨(some 27), .pl (.pick (.t 23) (.t 26) (.c (.bool false))), (some (19, false))⟩,
      ⟨(some 28), .pl (.pick (.t 19) (.c (.bool true)) (.t 27)), none⟩] [(1, 5)] [0, 2, 4, 28])
   (.cond (.t 28)
    (.seq (.reg [⟨(some 6), .pl (.mv (.c (.int .i64 8))), none⟩] [6])
     (.ret))
    (.skip)))
  (.seq (.seq (.reg [⟨(some 29), .pl (.fa 0 (.t 4)), none⟩,
      ⟨(some 30), .pl (.load none (.t 29)), none⟩] [0, 2, 4, 30])
   (.block 0 (.seq (.reg [⟨(some 32), .pl (.bin .eql .no (.t 30) (.c (.int .i64 6))), none⟩,
       ⟨(some 31), .pl (.mv (.t 32)), none⟩] [0, 2, 4, 30, 31])
    (.cond (.t 31)
     (.seq (.seq (.regD [⟨(some 33), .pl (.mv (.t 0)), none⟩,
          ⟨(some 34), .pl (.nilck (.t 33)), none⟩,
          ⟨(some 35), .pl (.fa 1 (.t 34)), none⟩,
          ⟨(some 36), .pl (.load none (.t 35)), none⟩,
          ⟨(some 37), .pl (.fa 1 (.t 4)), none⟩,
          ⟨(some 38), .pl (.load none (.t 37)), none⟩,
          ⟨(some 39), .call (.c (.fn 96 [] [])) [(.t 36), (.t 38)], none⟩] [] [0, 4, 39])
       (.block 1 (.seq (.seq (.reg [⟨(some 41), .pl (.bin .eql .no (.t 39) (.c (.int .i64 1))), none⟩,
            ⟨(some 40), .pl (.mv (.t 41)), none⟩] [0, 4, 39, 40])
         (.cond (.t 40)
          (.skip)
          (.seq (.reg [⟨(some 42), .pl (.bin .eql .no (.t 39) (.c (.int .i64 2))), none⟩,
              ⟨(some 40), .pl (.mv (.t 42)), none⟩] [0, 4, 39, 40])
           (.cond (.t 40)
            (.skip)
            (.reg [⟨(some 43), .pl (.bin .eql .no (.t 39) (.c (.int .i64 3))), none⟩,
               ⟨(some 40), .pl (.mv (.t 43)), none⟩] [0, 4, 40])))))
        (.cond (.t 40)
         (.seq (.reg [⟨(some 6), .pl (.mv (.c (.int .i64 0))), none⟩] [6])
          (.ret))
         (.skip)))))
      (.seq (.seq (.regD [⟨(some 45), .pl (.mv (.t 0)), none⟩,
          ⟨(some 46), .pl (.nilck (.t 45)), none⟩,
          ⟨(some 47), .pl (.fa 1 (.t 46)), none⟩,
          ⟨(some 48), .pl (.load none (.t 47)), none⟩,
          ⟨(some 49), .pl (.fa 1 (.t 4)), none⟩,
          ⟨(some 50), .pl (.load none (.t 49)), none⟩,
          ⟨(some 51), .call (.c (.fn 103 [] [])) [(.t 48), (.t 50)], none⟩,
          ⟨(some 44), .pl (.mv (.t 51)), none⟩,
          ⟨(some 52), .pl (.ext 0 (.t 44)), none⟩,
          ⟨(some 53), .pl (.ext 1 (.t 44)), none⟩,
          ⟨(some 7), .pl (.mv (.t 52)), none⟩,
          ⟨(some 8), .pl (.mv (.t 53)), none⟩] [] [8])
       (.seq (.reg [⟨(some 54), .pl (.mv (.t 8)), none⟩,
          ⟨(some 55), .pl (.un .not (.t 54)), none⟩] [55])
       (.cond (.t 55)
        (.seq (.reg [⟨(some 6), .pl (.mv (.c (.int .i64 6))), none⟩] [6])
         (.ret))
        (.skip))))
      (.seq (.reg [⟨(some 6), .pl (.mv (.c (.int .i64 8))), none⟩] [6])
      (.ret))))
     (.seq (.reg [⟨(some 57), .pl (.bin .eql .no (.t 30) (.c (.int .i64 9))), none⟩,
         ⟨(some 56), .pl (.mv (.t 57)), none⟩] [0, 2, 4, 30, 56])
      (.cond (.t 56)
       (.seq (.reg [⟨(some 58), .pl (.mv (.t 2)), none⟩] [0, 4, 58])
        (.cond (.t 58)
         (.seq (.reg [⟨(some 6), .pl (.mv (.c (.int .i64 8))), none⟩] [6])
          (.ret))
         (.skip)))
       (.seq (.reg [⟨(some 60), .pl (.bin .eql .no (.t 30) (.c (.int .i64 8))), none⟩,
           ⟨(some 59), .pl (.mv (.t 60)), none⟩] [0, 4, 59])
        (.cond (.t 59)
         (.seq (.reg [⟨(some 61), .pl (.mv (.t 0)), none⟩,
             ⟨(some 62), .pl (.fa 2 (.t 4)), none⟩,
             ⟨(some 63), .pl (.load none (.t 62)), none⟩,
             ⟨(some 64), .pl (.ia 3 (.t 63) (.c (.int .i64 0))), none⟩,
             ⟨(some 65), .pl (.load (some 3) (.t 64)), none⟩,
             ⟨(some 66), .call (.c (.fn 204 [] [])) [(.t 61), (.t 65)], none⟩,
             ⟨(some 67), .pl (.un .not (.t 66)), none⟩] [0, 4, 67])
          (.cond (.t 67)
           (.seq (.reg [⟨(some 6), .pl (.mv (.c (.int .i64 8))), none⟩] [6])
            (.ret))
           (.skip)))
         (.skip)))))))))
  (.seq (.seq (.reg [⟨(some 68), .pl (.fa 2 (.t 4)), none⟩,
      ⟨(some 69), .pl (.load none (.t 68)), none⟩,
      ⟨(some 70), .pl (.lenL (.t 69)), none⟩,
      ⟨(some 71), .pl (.mv (.c (.int .i64 0))), none⟩] [0, 69, 70, 71])
   (.block 2 (.loop [0, 69, 70, 71] A177_l0)))
  (A177_r0))))⟩
theorem c177 : compF Tryz.prog 177 = some A177 := by kernel_rfl

/-- (*concourse/check.checker).finite$1 -/
def A178 : AFun := ⟨29, [.t 4],
  .seq (.reg [⟨(some 3), .pl (.box (.t 0)), none⟩,
     ⟨(some 4), .pl (.mv (.c (.bool false))), none⟩] [1, 2, 3])
  (.seq (.regD [⟨(some 8), .pl (.load none (.t 1)), none⟩,
     ⟨(some 9), .pl (.nilck (.t 8)), none⟩,
     ⟨(some 10), .pl (.fa 1 (.t 9)), none⟩,
     ⟨(some 11), .pl (.load none (.t 10)), none⟩,
     ⟨(some 12), .pl (.fa 1 (.t 3)), none⟩,
     ⟨(some 13), .pl (.load none (.t 12)), none⟩,
     ⟨(some 14), .call (.c (.fn 103 [] [])) [(.t 11), (.t 13)], none⟩,
     ⟨(some 7), .pl (.mv (.t 14)), none⟩,
     ⟨(some 15), .pl (.ext 0 (.t 7)), none⟩,
     ⟨(some 16), .pl (.ext 1 (.t 7)), none⟩,
     ⟨(some 5), .pl (.mv (.t 15)), none⟩,
     ⟨(some 6), .pl (.mv (.t 16)), none⟩] [] [2, 3, 5, 6])
  (.seq (.reg [⟨(some 17), .pl (.fa 0 (.t 3)), none⟩,
     ⟨(some 18), .pl (.load none (.t 17)), none⟩,
     ⟨(some 19), .pl (.bin .neq .no (.t 18) (.c (.int .i64 6))), none⟩,
     ⟨(some 20), .pl (.mv (.t 19)), none⟩,
     ⟨(some 21), .pl (.mv (.t 6)), (some (20, false))⟩,
     ⟨(some 22), .pl (.mv (.t 21)), (some (20, false))⟩,
     ⟨(some 23), .pl (.load none (.t 2)), (some (22, true))⟩,
     ⟨(some 24), .pl (.mv (.t 5)), (some (22, true))⟩,
     ⟨(some 25), .pl (.ia 1 (.t 23) (.t 24)), (some (22, true))⟩,
     ⟨(some 26), .pl (.load none (.t 25)), (some (22, true))⟩,
     ⟨(some 27), .pl (.pick (.t 22) (.t 26) (.c (.bool false))), (some (20, false))⟩,
     ⟨(some 28), .pl (.pick (.t 20) (.c (.bool true)) (.t 27)), none⟩,
     ⟨(some 4), .pl (.mv (.t 28)), none⟩] [4])
  (.ret)))⟩
theorem c178 : compF Tryz.prog 178 = some A178 := by kernel_rfl

/-- slices.insertionSortCmpFunc[concourse/api.Field] -/
def A183_l0 : AC := .seq (.seq (.regD [⟨(some 18), .pl (.mv (.t 9)), none⟩,
      ⟨(some 19), .pl (.mv (.t 1)), none⟩,
      ⟨(some 20), .pl (.bin .gtr .no (.t 18) (.t 19)), none⟩,
      ⟨(some 21), .pl (.mv (.t 20)), none⟩,
      ⟨(some 22), .pl (.mv (.t 3)), (some (21, true))⟩,
      ⟨(some 23), .pl (.mv (.t 0)), (some (21, true))⟩,
      ⟨(some 24), .pl (.mv (.t 9)), (some (21, true))⟩,
      ⟨(some 25), .pl (.ia 5 (.t 23) (.t 24)), (some (21, true))⟩,
      ⟨(some 26), .pl (.load (some 5) (.t 25)), (some (21, true))⟩,
      ⟨(some 27), .pl (.mv (.t 0)), (some (21, true))⟩,
      ⟨(some 28), .pl (.mv (.t 9)), (some (21, true))⟩,
      ⟨(some 29), .pl (.bin .sub .no (.t 28) (.c (.int .i64 1))), (some (21, true))⟩,
      ⟨(some 30), .pl (.ia 5 (.t 27) (.t 29)), (some (21, true))⟩,
      ⟨(some 31), .pl (.load (some 5) (.t 30)), (some (21, true))⟩,
      ⟨(some 32), .call (.t 22) [(.t 26), (.t 31)], (some (21, true))⟩,
      ⟨(some 33), .pl (.bin .lss .no (.t 32) (.c (.int .i64 0))), (some (21, true))⟩,
      ⟨(some 34), .pl (.pick (.t 21) (.t 33) (.c (.bool false))), none⟩] [] [0, 1, 2, 3, 8, 9, 34])
   (.cond (.t 34)
    (.skip)
    (.exit 2)))
  (.seq (.block 3 (.regD [⟨(some 37), .pl (.mv (.t 0)), none⟩,
      ⟨(some 38), .pl (.mv (.t 9)), none⟩,
      ⟨(some 39), .pl (.mv (.t 0)), none⟩,
      ⟨(some 40), .pl (.mv (.t 9)), none⟩,
      ⟨(some 41), .pl (.bin .sub .no (.t 40) (.c (.int .i64 1))), none⟩,
      ⟨(some 42), .pl (.mv (.t 0)), none⟩,
      ⟨(some 43), .pl (.mv (.t 9)), none⟩,
      ⟨(some 44), .pl (.bin .sub .no (.t 43) (.c (.int .i64 1))), none⟩,
      ⟨(some 45), .pl (.ia 5 (.t 42) (.t 44)), none⟩,
      ⟨(some 46), .pl (.load (some 5) (.t 45)), none⟩,
      ⟨(some 47), .pl (.mv (.t 0)), none⟩,
      ⟨(some 48), .pl (.mv (.t 9)), none⟩,
      ⟨(some 49), .pl (.ia 5 (.t 47) (.t 48)), none⟩,
      ⟨(some 50), .pl (.load (some 5) (.t 49)), none⟩,
      ⟨(some 51), .pl (.ia 5 (.t 37) (.t 38)), none⟩,
      ⟨none, .pl (.store 5 (.t 51) (.t 46)), none⟩,
      ⟨(some 52), .pl (.ia 5 (.t 39) (.t 41)), none⟩,
      ⟨none, .pl (.store 5 (.t 52) (.t 50)), none⟩] [] [0, 1, 2, 3, 8, 9]))
  (.reg [⟨(some 35), .pl (.mv (.t 9)), none⟩,
    ⟨(some 36), .pl (.bin .sub .no (.t 35) (.c (.int .i64 1))), none⟩,
    ⟨(some 9), .pl (.mv (.t 36)), none⟩] [0, 1, 2, 3, 8, 9]))
def A183_r0 : AC := .reg [⟨(some 15), .pl (.mv (.t 8)), none⟩,
    ⟨(some 16), .pl (.bin .add .no (.t 15) (.c (.int .i64 1))), none⟩,
    ⟨(some 8), .pl (.mv (.t 16)), none⟩] [0, 1, 2, 3, 8]
def A183_l1 : AC := .seq (.seq (.reg [⟨(some 12), .pl (.mv (.t 8)), none⟩,
      ⟨(some 13), .pl (.mv (.t 2)), none⟩,
      ⟨(some 14), .pl (.bin .lss .no (.t 12) (.t 13)), none⟩] [0, 1, 2, 3, 8, 14])
   (.cond (.t 14)
    (.skip)
    (.exit 0)))
  (.seq (.block 1 (.seq (.reg [⟨(some 17), .pl (.mv (.t 8)), none⟩,
       ⟨(some 9), .pl (.mv (.t 17)), none⟩] [0, 1, 2, 3, 8, 9])
    (.block 2 (.loop [0, 1, 2, 3, 8, 9] A183_l0))))
  (A183_r0))
def A183 : AFun := ⟨53, [],
  .seq (.reg [⟨(some 10), .pl (.mv (.t 1)), none⟩,
     ⟨(some 11), .pl (.bin .add .no (.t 10) (.c (.int .i64 1))), none⟩,
     ⟨(some 8), .pl (.mv (.t 11)), none⟩] [0, 1, 2, 3, 8])
  (.block 0 (.loop [0, 1, 2, 3, 8] A183_l1))⟩
theorem c183 : compF Tryz.prog 183 = some A183 := by kernel_rfl

/-- slices.symMergeCmpFunc[concourse/api.Field] -/
def A184_l0 : AC := .seq (.seq (.reg [⟨(some 31), .pl (.mv (.t 10)), none⟩,
      ⟨(some 32), .pl (.mv (.t 11)), none⟩,
      ⟨(some 33), .pl (.bin .lss .no (.t 31) (.t 32)), none⟩] [0, 1, 4, 10, 11, 33])
   (.cond (.t 33)
    (.skip)
    (.exit 0)))
  (.block 1 (.seq (.reg [⟨(some 34), .pl (.mv (.t 10)), none⟩,
      ⟨(some 35), .pl (.mv (.t 11)), none⟩,
      ⟨(some 36), .pl (.bin .add .no (.t 34) (.t 35)), none⟩,
      ⟨(some 37), .pl (.conv .u64 (.t 36)), none⟩,
      ⟨(some 38), .pl (.bin .shr .no (.t 37) (.c (.int .u64 1))), none⟩,
      ⟨(some 39), .pl (.conv .i64 (.t 38)), none⟩,
      ⟨(some 12), .pl (.mv (.t 39)), none⟩] [0, 1, 4, 10, 11, 12])
   (.seq (.regD [⟨(some 40), .pl (.mv (.t 4)), none⟩,
      ⟨(some 41), .pl (.mv (.t 0)), none⟩,
      ⟨(some 42), .pl (.mv (.t 12)), none⟩,
      ⟨(some 43), .pl (.ia 5 (.t 41) (.t 42)), none⟩,
      ⟨(some 44), .pl (.load (some 5) (.t 43)), none⟩,
      ⟨(some 45), .pl (.mv (.t 0)), none⟩,
      ⟨(some 46), .pl (.mv (.t 1)), none⟩,
      ⟨(some 47), .pl (.ia 5 (.t 45) (.t 46)), none⟩,
      ⟨(some 48), .pl (.load (some 5) (.t 47)), none⟩,
      ⟨(some 49), .call (.t 40) [(.t 44), (.t 48)], none⟩,
      ⟨(some 50), .pl (.bin .lss .no (.t 49) (.c (.int .i64 0))), none⟩] [] [0, 1, 4, 10, 11, 12, 50])
   (.cond (.t 50)
    (.reg [⟨(some 51), .pl (.mv (.t 12)), none⟩,
       ⟨(some 52), .pl (.bin .add .no (.t 51) (.c (.int .i64 1))), none⟩,
       ⟨(some 10), .pl (.mv (.t 52)), none⟩] [0, 1, 4, 10, 11])
    (.reg [⟨(some 53), .pl (.mv (.t 12)), none⟩,
       ⟨(some 11), .pl (.mv (.t 53)), none⟩] [0, 1, 4, 10, 11])))))
def A184_l1 : AC := .seq (.seq (.reg [⟨(some 55), .pl (.mv (.t 13)), none⟩,
      ⟨(some 56), .pl (.mv (.t 10)), none⟩,
      ⟨(some 57), .pl (.bin .sub .no (.t 56) (.c (.int .i64 1))), none⟩,
      ⟨(some 58), .pl (.bin .lss .no (.t 55) (.t 57)), none⟩] [0, 10, 13, 58])
   (.cond (.t 58)
    (.skip)
    (.exit 2)))
  (.seq (.block 3 (.regD [⟨(some 61), .pl (.mv (.t 0)), none⟩,
      ⟨(some 62), .pl (.mv (.t 13)), none⟩,
      ⟨(some 63), .pl (.mv (.t 0)), none⟩,
      ⟨(some 64), .pl (.mv (.t 13)), none⟩,
      ⟨(some 65), .pl (.bin .add .no (.t 64) (.c (.int .i64 1))), none⟩,
      ⟨(some 66), .pl (.mv (.t 0)), none⟩,
      ⟨(some 67), .pl (.mv (.t 13)), none⟩,
      ⟨(some 68), .pl (.bin .add .no (.t 67) (.c (.int .i64 1))), none⟩,
      ⟨(some 69), .pl (.ia 5 (.t 66) (.t 68)), none⟩,
      ⟨(some 70), .pl (.load (some 5) (.t 69)), none⟩,
      ⟨(some 71), .pl (.mv (.t 0)), none⟩,
      ⟨(some 72), .pl (.mv (.t 13)), none⟩,
      ⟨(some 73), .pl (.ia 5 (.t 71) (.t 72)), none⟩,
      ⟨(some 74), .pl (.load (some 5) (.t 73)), none⟩,
      ⟨(some 75), .pl (.ia 5 (.t 61) (.t 62)), none⟩,
      ⟨none, .pl (.store 5 (.t 75) (.t 70)), none⟩,
      ⟨(some 76), .pl (.ia 5 (.t 63) (.t 65)), none⟩,
      ⟨none, .pl (.store 5 (.t 76) (.t 74)), none⟩] [] [0, 10, 13]))
  (.reg [⟨(some 59), .pl (.mv (.t 13)), none⟩,
    ⟨(some 60), .pl (.bin .add .no (.t 59) (.c (.int .i64 1))), none⟩,
    ⟨(some 13), .pl (.mv (.t 60)), none⟩] [0, 10, 13]))
def A184_r0 : AC := .seq (.seq (.reg [⟨(some 54), .pl (.mv (.t 1)), none⟩,
      ⟨(some 13), .pl (.mv (.t 54)), none⟩] [0, 10, 13])
   (.block 2 (.loop [0, 10, 13] A184_l1)))
  (.ret)
def A184_l2 : AC := .seq (.seq (.reg [⟨(some 83), .pl (.mv (.t 14)), none⟩,
      ⟨(some 84), .pl (.mv (.t 15)), none⟩,
      ⟨(some 85), .pl (.bin .lss .no (.t 83) (.t 84)), none⟩] [0, 2, 4, 14, 15, 85])
   (.cond (.t 85)
    (.skip)
    (.exit 4)))
  (.block 5 (.seq (.reg [⟨(some 86), .pl (.mv (.t 14)), none⟩,
      ⟨(some 87), .pl (.mv (.t 15)), none⟩,
      ⟨(some 88), .pl (.bin .add .no (.t 86) (.t 87)), none⟩,
      ⟨(some 89), .pl (.conv .u64 (.t 88)), none⟩,
      ⟨(some 90), .pl (.bin .shr .no (.t 89) (.c (.int .u64 1))), none⟩,
      ⟨(some 91), .pl (.conv .i64 (.t 90)), none⟩,
      ⟨(some 16), .pl (.mv (.t 91)), none⟩] [0, 2, 4, 14, 15, 16])
   (.seq (.regD [⟨(some 92), .pl (.mv (.t 4)), none⟩,
      ⟨(some 93), .pl (.mv (.t 0)), none⟩,
      ⟨(some 94), .pl (.mv (.t 2)), none⟩,
      ⟨(some 95), .pl (.ia 5 (.t 93) (.t 94)), none⟩,
      ⟨(some 96), .pl (.load (some 5) (.t 95)), none⟩,
      ⟨(some 97), .pl (.mv (.t 0)), none⟩,
      ⟨(some 98), .pl (.mv (.t 16)), none⟩,
      ⟨(some 99), .pl (.ia 5 (.t 97) (.t 98)), none⟩,
      ⟨(some 100), .pl (.load (some 5) (.t 99)), none⟩,
      ⟨(some 101), .call (.t 92) [(.t 96), (.t 100)], none⟩,
      ⟨(some 102), .pl (.bin .lss .no (.t 101) (.c (.int .i64 0))), none⟩,
      ⟨(some 103), .pl (.un .not (.t 102)), none⟩] [] [0, 2, 4, 14, 15, 16, 103])
   (.cond (.t 103)
    (.reg [⟨(some 104), .pl (.mv (.t 16)), none⟩,
       ⟨(some 105), .pl (.bin .add .no (.t 104) (.c (.int .i64 1))), none⟩,
       ⟨(some 14), .pl (.mv (.t 105)), none⟩] [0, 2, 4, 14, 15])
    (.reg [⟨(some 106), .pl (.mv (.t 16)), none⟩,
       ⟨(some 15), .pl (.mv (.t 106)), none⟩] [0, 2, 4, 14, 15])))))
def A184_l3 : AC := .seq (.seq (.reg [⟨(some 108), .pl (.mv (.t 17)), none⟩,
      ⟨(some 109), .pl (.mv (.t 14)), none⟩,
      ⟨(some 110), .pl (.bin .gtr .no (.t 108) (.t 109)), none⟩] [0, 14, 17, 110])
   (.cond (.t 110)
    (.skip)
    (.exit 6)))
  (.seq (.block 7 (.regD [⟨(some 113), .pl (.mv (.t 0)), none⟩,
      ⟨(some 114), .pl (.mv (.t 17)), none⟩,
      ⟨(some 115), .pl (.mv (.t 0)), none⟩,
      ⟨(some 116), .pl (.mv (.t 17)), none⟩,
      ⟨(some 117), .pl (.bin .sub .no (.t 116) (.c (.int .i64 1))), none⟩,
      ⟨(some 118), .pl (.mv (.t 0)), none⟩,
      ⟨(some 119), .pl (.mv (.t 17)), none⟩,
      ⟨(some 120), .pl (.bin .sub .no (.t 119) (.c (.int .i64 1))), none⟩,
      ⟨(some 121), .pl (.ia 5 (.t 118) (.t 120)), none⟩,
      ⟨(some 122), .pl (.load (some 5) (.t 121)), none⟩,
      ⟨(some 123), .pl (.mv (.t 0)), none⟩,
      ⟨(some 124), .pl (.mv (.t 17)), none⟩,
      ⟨(some 125), .pl (.ia 5 (.t 123) (.t 124)), none⟩,
      ⟨(some 126), .pl (.load (some 5) (.t 125)), none⟩,
      ⟨(some 127), .pl (.ia 5 (.t 113) (.t 114)), none⟩,
      ⟨none, .pl (.store 5 (.t 127) (.t 122)), none⟩,
      ⟨(some 128), .pl (.ia 5 (.t 115) (.t 117)), none⟩,
      ⟨none, .pl (.store 5 (.t 128) (.t 126)), none⟩] [] [0, 14, 17]))
  (.reg [⟨(some 111), .pl (.mv (.t 17)), none⟩,
    ⟨(some 112), .pl (.bin .sub .no (.t 111) (.c (.int .i64 1))), none⟩,
    ⟨(some 17), .pl (.mv (.t 112)), none⟩] [0, 14, 17]))
def A184_r1 : AC := .seq (.seq (.reg [⟨(some 107), .pl (.mv (.t 2)), none⟩,
      ⟨(some 17), .pl (.mv (.t 107)), none⟩] [0, 14, 17])
   (.block 6 (.loop [0, 14, 17] A184_l3)))
  (.ret)
def A184_l4 : AC := .seq (.seq (.reg [⟨(some 149), .pl (.mv (.t 20)), none⟩,
      ⟨(some 150), .pl (.mv (.t 21)), none⟩,
      ⟨(some 151), .pl (.bin .lss .no (.t 149) (.t 150)), none⟩] [0, 1, 2, 3, 4, 18, 19, 20, 21, 22, 151])
   (.cond (.t 151)
    (.skip)
    (.exit 8)))
  (.block 9 (.seq (.reg [⟨(some 152), .pl (.mv (.t 20)), none⟩,
      ⟨(some 153), .pl (.mv (.t 21)), none⟩,
      ⟨(some 154), .pl (.bin .add .no (.t 152) (.t 153)), none⟩,
      ⟨(some 155), .pl (.conv .u64 (.t 154)), none⟩,
      ⟨(some 156), .pl (.bin .shr .no (.t 155) (.c (.int .u64 1))), none⟩,
      ⟨(some 157), .pl (.conv .i64 (.t 156)), none⟩,
      ⟨(some 23), .pl (.mv (.t 157)), none⟩] [0, 1, 2, 3, 4, 18, 19, 20, 21, 22, 23])
   (.seq (.regD [⟨(some 158), .pl (.mv (.t 4)), none⟩,
      ⟨(some 159), .pl (.mv (.t 0)), none⟩,
      ⟨(some 160), .pl (.mv (.t 22)), none⟩,
      ⟨(some 161), .pl (.mv (.t 23)), none⟩,
      ⟨(some 162), .pl (.bin .sub .no (.t 160) (.t 161)), none⟩,
      ⟨(some 163), .pl (.ia 5 (.t 159) (.t 162)), none⟩,
      ⟨(some 164), .pl (.load (some 5) (.t 163)), none⟩,
      ⟨(some 165), .pl (.mv (.t 0)), none⟩,
      ⟨(some 166), .pl (.mv (.t 23)), none⟩,
      ⟨(some 167), .pl (.ia 5 (.t 165) (.t 166)), none⟩,
      ⟨(some 168), .pl (.load (some 5) (.t 167)), none⟩,
      ⟨(some 169), .call (.t 158) [(.t 164), (.t 168)], none⟩,
      ⟨(some 170), .pl (.bin .lss .no (.t 169) (.c (.int .i64 0))), none⟩,
      ⟨(some 171), .pl (.un .not (.t 170)), none⟩] [] [0, 1, 2, 3, 4, 18, 19, 20, 21, 22, 23, 171])
   (.cond (.t 171)
    (.reg [⟨(some 172), .pl (.mv (.t 23)), none⟩,
       ⟨(some 173), .pl (.bin .add .no (.t 172) (.c (.int .i64 1))), none⟩,
       ⟨(some 20), .pl (.mv (.t 173)), none⟩] [0, 1, 2, 3, 4, 18, 19, 20, 21, 22])
    (.reg [⟨(some 174), .pl (.mv (.t 23)), none⟩,
       ⟨(some 21), .pl (.mv (.t 174)), none⟩] [0, 1, 2, 3, 4, 18, 19, 20, 21, 22])))))
def A184_r2 : AC := .seq (.reg [⟨(some 175), .pl (.mv (.t 19)), none⟩,
     ⟨(some 176), .pl (.mv (.t 20)), none⟩,
     ⟨(some 177), .pl (.bin .sub .no (.t 175) (.t 176)), none⟩,
     ⟨(some 24), .pl (.mv (.t 177)), none⟩] [0, 1, 2, 3, 4, 18, 20, 24])
  (.seq (.seq (.reg [⟨(some 178), .pl (.mv (.t 20)), none⟩,
      ⟨(some 179), .pl (.mv (.t 2)), none⟩,
      ⟨(some 180), .pl (.bin .lss .no (.t 178) (.t 179)), none⟩,
      ⟨(some 181), .pl (.mv (.t 180)), none⟩,
      ⟨(some 182), .pl (.mv (.t 2)), (some (181, true))⟩,
      ⟨(some 183), .pl (.mv (.t 24)), (some (181, true))⟩,
      ⟨(some 184), .pl (.bin .lss .no (.t 182) (.t 183)), (some (181, true))⟩,
      ⟨(some 185), .pl (.pick (.t 181) (.t 184) (.c (.bool false))), none⟩] [0, 1, 2, 3, 4, 18, 20, 24, 185])
   (.cond (.t 185)
    (.reg [⟨(some 186), .pl (.mv (.t 0)), none⟩,
       ⟨(some 187), .pl (.mv (.t 20)), none⟩,
       ⟨(some 188), .pl (.mv (.t 2)), none⟩,
       ⟨(some 189), .pl (.mv (.t 24)), none⟩,
       ⟨(some 190), .pl (.mv (.t 4)), none⟩,
       ⟨(some 191), .call (.c (.fn 209 [] [])) [(.t 186), (.t 187), (.t 188), (.t 189), (.t 190)], none⟩] [0, 1, 3, 4, 18, 20, 24])
    (.skip)))
  (.seq (.seq (.reg [⟨(some 192), .pl (.mv (.t 1)), none⟩,
      ⟨(some 193), .pl (.mv (.t 20)), none⟩,
      ⟨(some 194), .pl (.bin .lss .no (.t 192) (.t 193)), none⟩,
      ⟨(some 195), .pl (.mv (.t 194)), none⟩,
      ⟨(some 196), .pl (.mv (.t 20)), (some (195, true))⟩,
      ⟨(some 197), .pl (.mv (.t 18)), (some (195, true))⟩,
      ⟨(some 198), .pl (.bin .lss .no (.t 196) (.t 197)), (some (195, true))⟩,
      ⟨(some 199), .pl (.pick (.t 195) (.t 198) (.c (.bool false))), none⟩] [0, 1, 3, 4, 18, 20, 24, 199])
   (.cond (.t 199)
    (.reg [⟨(some 200), .pl (.mv (.t 0)), none⟩,
       ⟨(some 201), .pl (.mv (.t 1)), none⟩,
       ⟨(some 202), .pl (.mv (.t 20)), none⟩,
       ⟨(some 203), .pl (.mv (.t 18)), none⟩,
       ⟨(some 204), .pl (.mv (.t 4)), none⟩,
       ⟨(some 205), .call (.c (.fn 184 [] [])) [(.t 200), (.t 201), (.t 202), (.t 203), (.t 204)], none⟩] [0, 3, 4, 18, 24])
    (.skip)))
  (.seq (.reg [⟨(some 206), .pl (.mv (.t 18)), none⟩,
     ⟨(some 207), .pl (.mv (.t 24)), none⟩,
     ⟨(some 208), .pl (.bin .lss .no (.t 206) (.t 207)), none⟩,
     ⟨(some 209), .pl (.mv (.t 208)), none⟩,
     ⟨(some 210), .pl (.mv (.t 24)), (some (209, true))⟩,
     ⟨(some 211), .pl (.mv (.t 3)), (some (209, true))⟩,
     ⟨(some 212), .pl (.bin .lss .no (.t 210) (.t 211)), (some (209, true))⟩,
     ⟨(some 213), .pl (.pick (.t 209) (.t 212) (.c (.bool false))), none⟩] [0, 3, 4, 18, 24, 213])
  (.cond (.t 213)
   (.reg [⟨(some 214), .pl (.mv (.t 0)), none⟩,
      ⟨(some 215), .pl (.mv (.t 18)), none⟩,
      ⟨(some 216), .pl (.mv (.t 24)), none⟩,
      ⟨(some 217), .pl (.mv (.t 3)), none⟩,
      ⟨(some 218), .pl (.mv (.t 4)), none⟩,
      ⟨(some 219), .call (.c (.fn 184 [] [])) [(.t 214), (.t 215), (.t 216), (.t 217), (.t 218)], none⟩] [])
   (.skip)))))
def A184_r3 : AC := .seq (.reg [⟨(some 129), .pl (.mv (.t 1)), none⟩,
     ⟨(some 130), .pl (.mv (.t 3)), none⟩,
     ⟨(some 131), .pl (.bin .add .no (.t 129) (.t 130)), none⟩,
     ⟨(some 132), .pl (.conv .u64 (.t 131)), none⟩,
     ⟨(some 133), .pl (.bin .shr .no (.t 132) (.c (.int .u64 1))), none⟩,
     ⟨(some 134), .pl (.conv .i64 (.t 133)), none⟩,
     ⟨(some 18), .pl (.mv (.t 134)), none⟩] [0, 1, 2, 3, 4, 18])
  (.seq (.reg [⟨(some 135), .pl (.mv (.t 18)), none⟩,
     ⟨(some 136), .pl (.mv (.t 2)), none⟩,
     ⟨(some 137), .pl (.bin .add .no (.t 135) (.t 136)), none⟩,
     ⟨(some 19), .pl (.mv (.t 137)), none⟩] [0, 1, 2, 3, 4, 18, 19])
  (.seq (.reg [⟨(some 20), .pl (.mv (.c (.int .i64 0))), none⟩,
     ⟨(some 21), .pl (.mv (.c (.int .i64 0))), none⟩] [0, 1, 2, 3, 4, 18, 19])
  (.seq (.seq (.reg [⟨(some 138), .pl (.mv (.t 2)), none⟩,
      ⟨(some 139), .pl (.mv (.t 18)), none⟩,
      ⟨(some 140), .pl (.bin .gtr .no (.t 138) (.t 139)), none⟩] [0, 1, 2, 3, 4, 18, 19, 140])
   (.cond (.t 140)
    (.seq (.reg [⟨(some 141), .pl (.mv (.t 19)), none⟩,
        ⟨(some 142), .pl (.mv (.t 3)), none⟩,
        ⟨(some 143), .pl (.bin .sub .no (.t 141) (.t 142)), none⟩,
        ⟨(some 20), .pl (.mv (.t 143)), none⟩] [0, 1, 2, 3, 4, 18, 19, 20])
     (.reg [⟨(some 144), .pl (.mv (.t 18)), none⟩,
       ⟨(some 21), .pl (.mv (.t 144)), none⟩] [0, 1, 2, 3, 4, 18, 19, 20, 21]))
    (.seq (.reg [⟨(some 145), .pl (.mv (.t 1)), none⟩,
        ⟨(some 20), .pl (.mv (.t 145)), none⟩] [0, 1, 2, 3, 4, 18, 19, 20])
     (.reg [⟨(some 146), .pl (.mv (.t 2)), none⟩,
       ⟨(some 21), .pl (.mv (.t 146)), none⟩] [0, 1, 2, 3, 4, 18, 19, 20, 21]))))
  (.seq (.reg [⟨(some 147), .pl (.mv (.t 19)), none⟩,
     ⟨(some 148), .pl (.bin .sub .no (.t 147) (.c (.int .i64 1))), none⟩,
     ⟨(some 22), .pl (.mv (.t 148)), none⟩] [0, 1, 2, 3, 4, 18, 19, 20, 21, 22])
  (.seq (.block 8 (.loop [0, 1, 2, 3, 4, 18, 19, 20, 21, 22] A184_l4))
  (A184_r2))))))
def A184_r4 : AC := .seq (.seq (.reg [⟨(some 77), .pl (.mv (.t 3)), none⟩,
      ⟨(some 78), .pl (.mv (.t 2)), none⟩,
      ⟨(some 79), .pl (.bin .sub .no (.t 77) (.t 78)), none⟩,
      ⟨(some 80), .pl (.bin .eql .no (.t 79) (.c (.int .i64 1))), none⟩] [0, 1, 2, 3, 4, 80])
   (.cond (.t 80)
    (.seq (.reg [⟨(some 81), .pl (.mv (.t 1)), none⟩,
        ⟨(some 14), .pl (.mv (.t 81)), none⟩] [0, 2, 4, 14])
     (.seq (.reg [⟨(some 82), .pl (.mv (.t 2)), none⟩,
        ⟨(some 15), .pl (.mv (.t 82)), none⟩] [0, 2, 4, 14, 15])
     (.seq (.block 4 (.loop [0, 2, 4, 14, 15] A184_l2))
     (A184_r1))))
    (.skip)))
  (A184_r3)
def A184 : AFun := ⟨220, [],
  .seq (.seq (.reg [⟨(some 25), .pl (.mv (.t 2)), none⟩,
      ⟨(some 26), .pl (.mv (.t 1)), none⟩,
      ⟨(some 27), .pl (.bin .sub .no (.t 25) (.t 26)), none⟩,
      ⟨(some 28), .pl (.bin .eql .no (.t 27) (.c (.int .i64 1))), none⟩] [0, 1, 2, 3, 4, 28])
   (.cond (.t 28)
    (.seq (.reg [⟨(some 29), .pl (.mv (.t 2)), none⟩,
        ⟨(some 10), .pl (.mv (.t 29)), none⟩] [0, 1, 3, 4, 10])
     (.seq (.reg [⟨(some 30), .pl (.mv (.t 3)), none⟩,
        ⟨(some 11), .pl (.mv (.t 30)), none⟩] [0, 1, 4, 10, 11])
     (.seq (.block 0 (.loop [0, 1, 4, 10, 11] A184_l0))
     (A184_r0))))
    (.skip)))
  (A184_r4)⟩
theorem c184 : compF Tryz.prog 184 = some A184 := by kernel_rfl

/-- (*concourse/lex.lexer).while -/
def A196_l0 : AC := .seq (.seq (.regD [⟨(some 10), .pl (.mv (.t 0)), none⟩,
      ⟨(some 11), .pl (.nilck (.t 10)), none⟩,
      ⟨(some 12), .pl (.fa 1 (.t 11)), none⟩,
      ⟨(some 13), .pl (.load none (.t 12)), none⟩,
      ⟨(some 14), .pl (.mv (.t 0)), none⟩,
      ⟨(some 15), .pl (.nilck (.t 14)), none⟩,
      ⟨(some 16), .pl (.fa 0 (.t 15)), none⟩,
      ⟨(some 17), .pl (.load none (.t 16)), none⟩,
      ⟨(some 18), .pl (.lenS (.t 17)), none⟩,
      ⟨(some 19), .pl (.bin .lss .no (.t 13) (.t 18)), none⟩,
      ⟨(some 20), .pl (.mv (.t 19)), none⟩,
      ⟨(some 21), .pl (.mv (.t 1)), (some (20, true))⟩,
      ⟨(some 22), .pl (.mv (.t 0)), (some (20, true))⟩,
      ⟨(some 23), .pl (.nilck (.t 22)), (some (20, true))⟩,
      ⟨(some 24), .pl (.fa 0 (.t 23)), (some (20, true))⟩,
      ⟨(some 25), .pl (.load none (.t 24)), (some (20, true))⟩,
      ⟨(some 26), .pl (.mv (.t 0)), (some (20, true))⟩,
      ⟨(some 27), .pl (.nilck (.t 26)), (some (20, true))⟩,
      ⟨(some 28), .pl (.fa 1 (.t 27)), (some (20, true))⟩,
      ⟨(some 29), .pl (.load none (.t 28)), (some (20, true))⟩,
      ⟨(some 30), .pl (.ixS (.t 25) (.t 29)), (some (20, true))⟩,
      ⟨(some 31), .call (.t 21) [(.t 30)], (some (20, true))⟩,
      ⟨(some 32), .pl (.pick (.t 20) (.t 31) (.c (.bool false))), none⟩] [] [0, 1, 5, 32])
   (.cond (.t 32)
    (.skip)
    (.exit 0)))
  (.block 1 (.reg [⟨(some 33), .pl (.mv (.t 0)), none⟩,
     ⟨(some 34), .pl (.nilck (.t 33)), none⟩,
     ⟨(some 35), .pl (.fa 1 (.t 34)), none⟩,
     ⟨(some 36), .pl (.load none (.t 35)), none⟩,
     ⟨(some 37), .pl (.bin .add .no (.t 36) (.c (.int .i64 1))), none⟩,
     ⟨(some 38), .pl (.nilck (.t 33)), none⟩,
     ⟨(some 39), .pl (.fa 1 (.t 38)), none⟩,
     ⟨none, .pl (.store 1 (.t 39) (.t 37)), none⟩] [0, 1, 5]))
def A196_r0 : AC := .seq (.regD [⟨(some 40), .pl (.mv (.t 0)), none⟩,
     ⟨(some 41), .pl (.nilck (.t 40)), none⟩,
     ⟨(some 42), .pl (.fa 0 (.t 41)), none⟩,
     ⟨(some 43), .pl (.load none (.t 42)), none⟩,
     ⟨(some 44), .pl (.mv (.t 5)), none⟩,
     ⟨(some 45), .pl (.mv (.t 0)), none⟩,
     ⟨(some 46), .pl (.nilck (.t 45)), none⟩,
     ⟨(some 47), .pl (.fa 1 (.t 46)), none⟩,
     ⟨(some 48), .pl (.load none (.t 47)), none⟩,
     ⟨(some 49), .pl (.slcS (.t 43) (some (.t 44)) (some (.t 48))), none⟩,
     ⟨(some 4), .pl (.mv (.t 49)), none⟩] [] [4])
  (.ret)
def A196 : AFun := ⟨50, [.t 4],
  .seq (.reg [⟨(some 4), .pl (.mv (.c (.str ⟨#[]⟩))), none⟩] [0, 1])
  (.seq (.reg [⟨(some 6), .pl (.mv (.t 0)), none⟩,
     ⟨(some 7), .pl (.nilck (.t 6)), none⟩,
     ⟨(some 8), .pl (.fa 1 (.t 7)), none⟩,
     ⟨(some 9), .pl (.load none (.t 8)), none⟩,
     ⟨(some 5), .pl (.mv (.t 9)), none⟩] [0, 1, 5])
  (.seq (.block 0 (.loop [0, 1, 5] A196_l0))
  (A196_r0)))⟩
theorem c196 : compF Tryz.prog 196 = some A196 := by kernel_rfl

/-- concourse/lex.inner -/
def A197 : AFun := ⟨13, [.t 2],
  .seq (.reg [⟨(some 2), .pl (.mv (.c (.bool false))), none⟩] [0])
  (.seq (.reg [⟨(some 3), .pl (.mv (.t 0)), none⟩,
     ⟨(some 4), .call (.c (.fn 169 [] [])) [(.t 3)], none⟩,
     ⟨(some 5), .pl (.mv (.t 4)), none⟩,
     ⟨(some 6), .pl (.mv (.t 0)), (some (5, false))⟩,
     ⟨(some 7), .call (.c (.fn 171 [] [])) [(.t 6)], (some (5, false))⟩,
     ⟨(some 8), .pl (.pick (.t 5) (.c (.bool true)) (.t 7)), none⟩,
     ⟨(some 9), .pl (.mv (.t 8)), none⟩,
     ⟨(some 10), .pl (.mv (.t 0)), (some (9, false))⟩,
     ⟨(some 11), .pl (.bin .eql .no (.t 10) (.c (.int .u8 95))), (some (9, false))⟩,
     ⟨(some 12), .pl (.pick (.t 9) (.c (.bool true)) (.t 11)), none⟩,
     ⟨(some 2), .pl (.mv (.t 12)), none⟩] [2])
  (.ret))⟩
theorem c197 : compF Tryz.prog 197 = some A197 := by kernel_rfl

/-- (*concourse/lex.lexer).note$1 -/
def A199 : AFun := ⟨5, [.t 2],
  .seq (.reg [⟨(some 2), .pl (.mv (.c (.bool false))), none⟩] [0])
  (.seq (.reg [⟨(some 3), .pl (.mv (.t 0)), none⟩,
     ⟨(some 4), .pl (.bin .neq .no (.t 3) (.c (.int .u8 10))), none⟩,
     ⟨(some 2), .pl (.mv (.t 4)), none⟩] [2])
  (.ret))⟩
theorem c199 : compF Tryz.prog 199 = some A199 := by kernel_rfl

/-- concourse/parse.plain -/
def A202 : AFun := ⟨14, [.t 2],
  .seq (.reg [⟨(some 2), .pl (.mv (.c (.int .i64 0))), none⟩] [0])
  (.seq (.seq (.reg [⟨(some 3), .pl (.mv (.t 0)), none⟩] [3])
   (.block 0 (.seq (.reg [⟨(some 5), .pl (.bin .eql .no (.t 3) (.c (.str ⟨#[98, 111, 111, 108]⟩))), none⟩,
       ⟨(some 4), .pl (.mv (.t 5)), none⟩] [3, 4])
    (.cond (.t 4)
     (.seq (.reg [⟨(some 2), .pl (.mv (.c (.int .i64 1))), none⟩] [2])
      (.ret))
     (.seq (.reg [⟨(some 7), .pl (.bin .eql .no (.t 3) (.c (.str ⟨#[105, 110, 116]⟩))), none⟩,
         ⟨(some 6), .pl (.mv (.t 7)), none⟩] [3, 6])
      (.cond (.t 6)
       (.seq (.reg [⟨(some 2), .pl (.mv (.c (.int .i64 2))), none⟩] [2])
        (.ret))
       (.seq (.reg [⟨(some 9), .pl (.bin .eql .no (.t 3) (.c (.str ⟨#[117, 105, 110, 116]⟩))), none⟩,
           ⟨(some 8), .pl (.mv (.t 9)), none⟩] [3, 8])
        (.cond (.t 8)
         (.seq (.reg [⟨(some 2), .pl (.mv (.c (.int .i64 3))), none⟩] [2])
          (.ret))
         (.seq (.reg [⟨(some 11), .pl (.bin .eql .no (.t 3) (.c (.str ⟨#[116, 101, 120, 116]⟩))), none⟩,
             ⟨(some 10), .pl (.mv (.t 11)), none⟩] [3, 10])
          (.cond (.t 10)
           (.seq (.reg [⟨(some 2), .pl (.mv (.c (.int .i64 4))), none⟩] [2])
            (.ret))
           (.seq (.reg [⟨(some 13), .pl (.bin .eql .no (.t 3) (.c (.str ⟨#[98, 121, 116, 101, 115]⟩))), none⟩,
               ⟨(some 12), .pl (.mv (.t 13)), none⟩] [12])
            (.cond (.t 12)
             (.seq (.reg [⟨(some 2), .pl (.mv (.c (.int .i64 5))), none⟩] [2])
              (.ret))
             (.skip)))))))))))))
  (.seq (.reg [⟨(some 2), .pl (.mv (.c (.int .i64 0))), none⟩] [2])
  (.ret)))⟩
theorem c202 : compF Tryz.prog 202 = some A202 := by kernel_rfl

/-- concourse/check.arity -/
def A203 : AFun := ⟨16, [.t 2],
  .seq (.reg [⟨(some 2), .pl (.mv (.c (.int .i64 0))), none⟩] [0])
  (.seq (.seq (.reg [⟨(some 3), .pl (.mv (.t 0)), none⟩] [3])
   (.block 0 (.seq (.seq (.reg [⟨(some 5), .pl (.bin .eql .no (.t 3) (.c (.int .i64 1))), none⟩,
        ⟨(some 4), .pl (.mv (.t 5)), none⟩] [3, 4])
     (.cond (.t 4)
      (.skip)
      (.seq (.reg [⟨(some 6), .pl (.bin .eql .no (.t 3) (.c (.int .i64 2))), none⟩,
          ⟨(some 4), .pl (.mv (.t 6)), none⟩] [3, 4])
       (.cond (.t 4)
        (.skip)
        (.seq (.reg [⟨(some 7), .pl (.bin .eql .no (.t 3) (.c (.int .i64 3))), none⟩,
            ⟨(some 4), .pl (.mv (.t 7)), none⟩] [3, 4])
         (.cond (.t 4)
          (.skip)
          (.seq (.reg [⟨(some 8), .pl (.bin .eql .no (.t 3) (.c (.int .i64 4))), none⟩,
              ⟨(some 4), .pl (.mv (.t 8)), none⟩] [3, 4])
           (.cond (.t 4)
            (.skip)
            (.seq (.reg [⟨(some 9), .pl (.bin .eql .no (.t 3) (.c (.int .i64 5))), none⟩,
                ⟨(some 4), .pl (.mv (.t 9)), none⟩] [3, 4])
             (.cond (.t 4)
              (.skip)
              (.reg [⟨(some 10), .pl (.bin .eql .no (.t 3) (.c (.int .i64 6))), none⟩,
                 ⟨(some 4), .pl (.mv (.t 10)), none⟩] [3, 4])))))))))))
    (.cond (.t 4)
     (.seq (.reg [⟨(some 2), .pl (.mv (.c (.int .i64 0))), none⟩] [2])
      (.ret))
     (.seq (.seq (.reg [⟨(some 12), .pl (.bin .eql .no (.t 3) (.c (.int .i64 7))), none⟩,
          ⟨(some 11), .pl (.mv (.t 12)), none⟩] [3, 11])
       (.cond (.t 11)
        (.skip)
        (.reg [⟨(some 13), .pl (.bin .eql .no (.t 3) (.c (.int .i64 9))), none⟩,
           ⟨(some 11), .pl (.mv (.t 13)), none⟩] [3, 11])))
      (.cond (.t 11)
       (.seq (.reg [⟨(some 2), .pl (.mv (.c (.int .i64 1))), none⟩] [2])
        (.ret))
       (.seq (.reg [⟨(some 15), .pl (.bin .eql .no (.t 3) (.c (.int .i64 8))), none⟩,
           ⟨(some 14), .pl (.mv (.t 15)), none⟩] [14])
        (.cond (.t 14)
         (.seq (.reg [⟨(some 2), .pl (.mv (.c (.int .i64 2))), none⟩] [2])
          (.ret))
         (.skip)))))))))
  (.seq (.reg [⟨(some 2), .pl (.mv (.c (.int .i64 (-1)))), none⟩] [2])
  (.ret)))⟩
theorem c203 : compF Tryz.prog 203 = some A203 := by kernel_rfl

/-- (*concourse/check.checker).keyed -/
def A204 : AFun := ⟨22, [.t 4],
  .seq (.reg [⟨(some 3), .pl (.box (.t 1)), none⟩,
     ⟨(some 4), .pl (.mv (.c (.bool false))), none⟩] [0, 3])
  (.seq (.seq (.reg [⟨(some 5), .pl (.fa 0 (.t 3)), none⟩,
      ⟨(some 6), .pl (.load none (.t 5)), none⟩] [0, 3, 6])
   (.block 0 (.seq (.seq (.reg [⟨(some 8), .pl (.bin .eql .no (.t 6) (.c (.int .i64 1))), none⟩,
        ⟨(some 7), .pl (.mv (.t 8)), none⟩] [0, 3, 6, 7])
     (.cond (.t 7)
      (.skip)
      (.seq (.reg [⟨(some 9), .pl (.bin .eql .no (.t 6) (.c (.int .i64 2))), none⟩,
          ⟨(some 7), .pl (.mv (.t 9)), none⟩] [0, 3, 6, 7])
       (.cond (.t 7)
        (.skip)
        (.seq (.reg [⟨(some 10), .pl (.bin .eql .no (.t 6) (.c (.int .i64 3))), none⟩,
            ⟨(some 7), .pl (.mv (.t 10)), none⟩] [0, 3, 6, 7])
         (.cond (.t 7)
          (.skip)
          (.reg [⟨(some 11), .pl (.bin .eql .no (.t 6) (.c (.int .i64 4))), none⟩,
             ⟨(some 7), .pl (.mv (.t 11)), none⟩] [0, 3, 6, 7])))))))
    (.cond (.t 7)
     (.seq (.reg [⟨(some 4), .pl (.mv (.c (.bool true))), none⟩] [4])
      (.ret))
     (.seq (.reg [⟨(some 13), .pl (.bin .eql .no (.t 6) (.c (.int .i64 6))), none⟩,
         ⟨(some 12), .pl (.mv (.t 13)), none⟩] [0, 3, 12])
      (.cond (.t 12)
       (.seq (.regD [⟨(some 14), .pl (.mv (.t 0)), none⟩,
           ⟨(some 15), .pl (.nilck (.t 14)), none⟩,
           ⟨(some 16), .pl (.fa 1 (.t 15)), none⟩,
           ⟨(some 17), .pl (.load none (.t 16)), none⟩,
           ⟨(some 18), .pl (.fa 1 (.t 3)), none⟩,
           ⟨(some 19), .pl (.load none (.t 18)), none⟩,
           ⟨(some 20), .call (.c (.fn 96 [] [])) [(.t 17), (.t 19)], none⟩,
           ⟨(some 21), .pl (.bin .eql .no (.t 20) (.c (.int .i64 3))), none⟩,
           ⟨(some 4), .pl (.mv (.t 21)), none⟩] [] [4])
        (.ret))
       (.skip)))))))
  (.seq (.reg [⟨(some 4), .pl (.mv (.c (.bool false))), none⟩] [4])
  (.ret)))⟩
theorem c204 : compF Tryz.prog 204 = some A204 := by kernel_rfl

/-- slices.rotateCmpFunc[concourse/api.Field] -/
def A209_l0 : AC := .seq (.seq (.reg [⟨(some 18), .pl (.mv (.t 10)), none⟩,
      ⟨(some 19), .pl (.mv (.t 11)), none⟩,
      ⟨(some 20), .pl (.bin .neq .no (.t 18) (.t 19)), none⟩] [0, 2, 4, 10, 11, 20])
   (.cond (.t 20)
    (.skip)
    (.exit 0)))
  (.block 1 (.seq (.reg [⟨(some 21), .pl (.mv (.t 10)), none⟩,
      ⟨(some 22), .pl (.mv (.t 11)), none⟩,
      ⟨(some 23), .pl (.bin .gtr .no (.t 21) (.t 22)), none⟩] [0, 2, 4, 10, 11, 23])
   (.cond (.t 23)
    (.seq (.reg [⟨(some 24), .pl (.mv (.t 0)), none⟩,
        ⟨(some 25), .pl (.mv (.t 2)), none⟩,
        ⟨(some 26), .pl (.mv (.t 10)), none⟩,
        ⟨(some 27), .pl (.bin .sub .no (.t 25) (.t 26)), none⟩,
        ⟨(some 28), .pl (.mv (.t 2)), none⟩,
        ⟨(some 29), .pl (.mv (.t 11)), none⟩,
        ⟨(some 30), .pl (.mv (.t 4)), none⟩,
        ⟨(some 31), .call (.c (.fn 221 [] [])) [(.t 24), (.t 27), (.t 28), (.t 29), (.t 30)], none⟩] [0, 2, 4, 10, 11])
     (.reg [⟨(some 32), .pl (.mv (.t 10)), none⟩,
       ⟨(some 33), .pl (.mv (.t 11)), none⟩,
       ⟨(some 34), .pl (.bin .sub .no (.t 32) (.t 33)), none⟩,
       ⟨(some 10), .pl (.mv (.t 34)), none⟩] [0, 2, 4, 10, 11]))
    (.seq (.reg [⟨(some 35), .pl (.mv (.t 0)), none⟩,
        ⟨(some 36), .pl (.mv (.t 2)), none⟩,
        ⟨(some 37), .pl (.mv (.t 10)), none⟩,
        ⟨(some 38), .pl (.bin .sub .no (.t 36) (.t 37)), none⟩,
        ⟨(some 39), .pl (.mv (.t 2)), none⟩,
        ⟨(some 40), .pl (.mv (.t 11)), none⟩,
        ⟨(some 41), .pl (.bin .add .no (.t 39) (.t 40)), none⟩,
        ⟨(some 42), .pl (.mv (.t 10)), none⟩,
        ⟨(some 43), .pl (.bin .sub .no (.t 41) (.t 42)), none⟩,
        ⟨(some 44), .pl (.mv (.t 10)), none⟩,
        ⟨(some 45), .pl (.mv (.t 4)), none⟩,
        ⟨(some 46), .call (.c (.fn 221 [] [])) [(.t 35), (.t 38), (.t 43), (.t 44), (.t 45)], none⟩] [0, 2, 4, 10, 11])
     (.reg [⟨(some 47), .pl (.mv (.t 11)), none⟩,
       ⟨(some 48), .pl (.mv (.t 10)), none⟩,
       ⟨(some 49), .pl (.bin .sub .no (.t 47) (.t 48)), none⟩,
       ⟨(some 11), .pl (.mv (.t 49)), none⟩] [0, 2, 4, 10, 11])))))
def A209_r0 : AC := .reg [⟨(some 50), .pl (.mv (.t 0)), none⟩,
    ⟨(some 51), .pl (.mv (.t 2)), none⟩,
    ⟨(some 52), .pl (.mv (.t 10)), none⟩,
    ⟨(some 53), .pl (.bin .sub .no (.t 51) (.t 52)), none⟩,
    ⟨(some 54), .pl (.mv (.t 2)), none⟩,
    ⟨(some 55), .pl (.mv (.t 10)), none⟩,
    ⟨(some 56), .pl (.mv (.t 4)), none⟩,
    ⟨(some 57), .call (.c (.fn 221 [] [])) [(.t 50), (.t 53), (.t 54), (.t 55), (.t 56)], none⟩] []
def A209 : AFun := ⟨58, [],
  .seq (.reg [⟨(some 12), .pl (.mv (.t 2)), none⟩,
     ⟨(some 13), .pl (.mv (.t 1)), none⟩,
     ⟨(some 14), .pl (.bin .sub .no (.t 12) (.t 13)), none⟩,
     ⟨(some 10), .pl (.mv (.t 14)), none⟩] [0, 2, 3, 4, 10])
  (.seq (.reg [⟨(some 15), .pl (.mv (.t 3)), none⟩,
     ⟨(some 16), .pl (.mv (.t 2)), none⟩,
     ⟨(some 17), .pl (.bin .sub .no (.t 15) (.t 16)), none⟩,
     ⟨(some 11), .pl (.mv (.t 17)), none⟩] [0, 2, 4, 10, 11])
  (.seq (.block 0 (.loop [0, 2, 4, 10, 11] A209_l0))
  (A209_r0)))⟩
theorem c209 : compF Tryz.prog 209 = some A209 := by kernel_rfl

/-- slices.swapRangeCmpFunc[concourse/api.Field] -/
def A221_l0 : AC := .seq (.seq (.reg [⟨(some 11), .pl (.mv (.t 10)), none⟩,
      ⟨(some 12), .pl (.mv (.t 3)), none⟩,
      ⟨(some 13), .pl (.bin .lss .no (.t 11) (.t 12)), none⟩] [0, 1, 2, 3, 10, 13])
   (.cond (.t 13)
    (.skip)
    (.exit 0)))
  (.seq (.block 1 (.regD [⟨(some 16), .pl (.mv (.t 0)), none⟩,
      ⟨(some 17), .pl (.mv (.t 1)), none⟩,
      ⟨(some 18), .pl (.mv (.t 10)), none⟩,
      ⟨(some 19), .pl (.bin .add .no (.t 17) (.t 18)), none⟩,
      ⟨(some 20), .pl (.mv (.t 0)), none⟩,
      ⟨(some 21), .pl (.mv (.t 2)), none⟩,
      ⟨(some 22), .pl (.mv (.t 10)), none⟩,
      ⟨(some 23), .pl (.bin .add .no (.t 21) (.t 22)), none⟩,
      ⟨(some 24), .pl (.mv (.t 0)), none⟩,
      ⟨(some 25), .pl (.mv (.t 2)), none⟩,
      ⟨(some 26), .pl (.mv (.t 10)), none⟩,
      ⟨(some 27), .pl (.bin .add .no (.t 25) (.t 26)), none⟩,
      ⟨(some 28), .pl (.ia 5 (.t 24) (.t 27)), none⟩,
      ⟨(some 29), .pl (.load (some 5) (.t 28)), none⟩,
      ⟨(some 30), .pl (.mv (.t 0)), none⟩,
      ⟨(some 31), .pl (.mv (.t 1)), none⟩,
      ⟨(some 32), .pl (.mv (.t 10)), none⟩,
      ⟨(some 33), .pl (.bin .add .no (.t 31) (.t 32)), none⟩,
      ⟨(some 34), .pl (.ia 5 (.t 30) (.t 33)), none⟩,
      ⟨(some 35), .pl (.load (some 5) (.t 34)), none⟩,
      ⟨(some 36), .pl (.ia 5 (.t 16) (.t 19)), none⟩,
      ⟨none, .pl (.store 5 (.t 36) (.t 29)), none⟩,
      ⟨(some 37), .pl (.ia 5 (.t 20) (.t 23)), none⟩,
      ⟨none, .pl (.store 5 (.t 37) (.t 35)), none⟩] [] [0, 1, 2, 3, 10]))
  (.reg [⟨(some 14), .pl (.mv (.t 10)), none⟩,
    ⟨(some 15), .pl (.bin .add .no (.t 14) (.c (.int .i64 1))), none⟩,
    ⟨(some 10), .pl (.mv (.t 15)), none⟩] [0, 1, 2, 3, 10]))
def A221 : AFun := ⟨38, [],
  .seq (.reg [⟨(some 10), .pl (.mv (.c (.int .i64 0))), none⟩] [0, 1, 2, 3, 10])
  (.block 0 (.loop [0, 1, 2, 3, 10] A221_l0))⟩
theorem c221 : compF Tryz.prog 221 = some A221 := by kernel_rfl

end Go.Proofs.YtjljhmeadfejhaaGreat
