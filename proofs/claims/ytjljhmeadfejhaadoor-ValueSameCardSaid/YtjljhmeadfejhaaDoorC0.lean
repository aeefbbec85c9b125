/- The compiled form of the functions of this claim: each equation is checked by the kernel. -/
import Derived.Test.YtjljhmeadfejhaaDoorChecked
import Derived.Test.YtjljhmeadfejhaaDoorE21
set_option maxRecDepth 100000
namespace Go.Proofs.YtjljhmeadfejhaaDoor
open Go.Eng
/-- concourse/concourselaw15.ValueSame -/
def A5 : AFun := ⟨46, [.t 4],
  .seq (.reg [⟨(some 2), .pl (.box (.t 0)), none⟩,
     ⟨(some 3), .pl (.box (.t 1)), none⟩,
     ⟨(some 4), .pl (.mv (.c (.bool false))), none⟩] [2, 3])
  (.seq (.seq (.reg [⟨(some 5), .pl (.load (some 5) (.t 2)), none⟩,
      ⟨(some 6), .call (.c (.fn 9 [] [])) [(.t 5), (.c (.int .i64 0))], none⟩,
      ⟨(some 7), .pl (.mv (.t 6)), none⟩,
      ⟨(some 8), .pl (.load (some 5) (.t 3)), (some (7, false))⟩,
      ⟨(some 9), .call (.c (.fn 9 [] [])) [(.t 8), (.c (.int .i64 0))], (some (7, false))⟩,
      ⟨(some 10), .pl (.pick (.t 7) (.c (.bool true)) (.t 9)), none⟩] [2, 3, 10])
   (.cond (.t 10)
    (.seq (.reg [⟨(some 11), .call (.c (.fn 10 [] [])) [], none⟩,
        ⟨(some 4), .pl (.mv (.t 11)), none⟩] [4])
     (.ret))
    (.skip)))
  (.seq (.regD [⟨(some 12), .pl (.load (some 5) (.t 2)), none⟩,
     ⟨(some 13), .pl (.load (some 5) (.t 3)), none⟩,
     ⟨(some 14), .call (.c (.fn 19 [] [])) [(.t 12), (.t 13)], none⟩,
     ⟨(some 15), .pl (.load (some 5) (.t 2)), none⟩,
     ⟨(some 16), .pl (.load (some 5) (.t 3)), none⟩,
     ⟨(some 17), .call (.c (.fn 20 [] [])) [(.t 15), (.t 16)], none⟩,
     ⟨(some 18), .pl (.bin .eql .bool (.t 14) (.t 17)), none⟩,
     ⟨(some 19), .pl (.mv (.t 18)), none⟩,
     ⟨(some 20), .pl (.load (some 5) (.t 2)), (some (19, true))⟩,
     ⟨(some 21), .pl (.load (some 5) (.t 2)), (some (19, true))⟩,
     ⟨(some 22), .call (.c (.fn 19 [] [])) [(.t 20), (.t 21)], (some (19, true))⟩,
     ⟨(some 23), .pl (.pick (.t 19) (.t 22) (.c (.bool false))), none⟩,
     ⟨(some 24), .pl (.mv (.t 23)), none⟩,
     ⟨(some 25), .pl (.load (some 5) (.t 2)), (some (24, true))⟩,
     ⟨(some 26), .pl (.load (some 5) (.t 3)), (some (24, true))⟩,
     ⟨(some 27), .call (.c (.fn 21 [] [])) [(.t 25), (.t 26)], (some (24, true))⟩,
     ⟨(some 28), .pl (.load (some 5) (.t 2)), (some (24, true))⟩,
     ⟨(some 29), .pl (.load (some 5) (.t 3)), (some (24, true))⟩,
     ⟨(some 30), .call (.c (.fn 22 [] [])) [(.t 28), (.t 29)], (some (24, true))⟩,
     ⟨(some 31), .pl (.bin .eql .no (.t 27) (.t 30)), (some (24, true))⟩,
     ⟨(some 32), .pl (.pick (.t 24) (.t 31) (.c (.bool false))), none⟩,
     ⟨(some 33), .pl (.mv (.t 32)), none⟩,
     ⟨(some 34), .pl (.load (some 5) (.t 2)), (some (33, true))⟩,
     ⟨(some 35), .pl (.load (some 5) (.t 3)), (some (33, true))⟩,
     ⟨(some 36), .call (.c (.fn 21 [] [])) [(.t 34), (.t 35)], (some (33, true))⟩,
     ⟨(some 37), .pl (.load (some 5) (.t 3)), (some (33, true))⟩,
     ⟨(some 38), .pl (.load (some 5) (.t 2)), (some (33, true))⟩,
     ⟨(some 39), .call (.c (.fn 21 [] [])) [(.t 37), (.t 38)], (some (33, true))⟩,
     ⟨(some 40), .pl (.un .neg (.t 39)), (some (33, true))⟩,
     ⟨(some 41), .pl (.bin .eql .no (.t 36) (.t 40)), (some (33, true))⟩,
     ⟨(some 42), .pl (.pick (.t 33) (.t 41) (.c (.bool false))), none⟩,
     ⟨(some 43), .pl (.mv (.t 42)), none⟩,
     ⟨(some 44), .call (.c (.fn 10 [] [])) [], (some (43, true))⟩,
     ⟨(some 45), .pl (.pick (.t 43) (.t 44) (.c (.bool false))), none⟩,
     ⟨(some 4), .pl (.mv (.t 45)), none⟩] [(3, 2), (4, 2), (16, 15), (17, 15), (25, 24), (26, 24)] [4])
  (.ret)))⟩
theorem c5 : compF Tryd.prog 5 = some A5 := by kernel_rfl

/-- concourse/concourseref15.Great -/
def A9_l0 : AC := .seq (.seq (.reg [⟨(some 27), .pl (.mv (.t 6)), none⟩,
      ⟨(some 28), .pl (.fa 4 (.t 2)), none⟩,
      ⟨(some 29), .pl (.load none (.t 28)), none⟩,
      ⟨(some 30), .pl (.lenL (.t 29)), none⟩,
      ⟨(some 31), .pl (.bin .lss .no (.t 27) (.t 30)), none⟩] [1, 2, 5, 6, 31])
   (.cond (.t 31)
    (.skip)
    (.exit 0)))
  (.seq (.block 1 (.seq (.seq (.regD [⟨(some 34), .pl (.fa 4 (.t 2)), none⟩,
        ⟨(some 35), .pl (.load none (.t 34)), none⟩,
        ⟨(some 36), .pl (.mv (.t 6)), none⟩,
        ⟨(some 37), .pl (.ia 5 (.t 35) (.t 36)), none⟩,
        ⟨(some 38), .pl (.load (some 5) (.t 37)), none⟩,
        ⟨(some 39), .pl (.mv (.t 1)), none⟩,
        ⟨(some 40), .pl (.bin .add .no (.t 39) (.c (.int .i64 1))), none⟩,
        ⟨(some 41), .pl (.fa 4 (.t 2)), none⟩,
        ⟨(some 42), .pl (.load none (.t 41)), none⟩,
        ⟨(some 43), .pl (.lenL (.t 42)), none⟩,
        ⟨(some 44), .pl (.bin .quo .no (.t 43) (.c (.int .i64 4))), none⟩,
        ⟨(some 45), .pl (.bin .add .no (.t 40) (.t 44)), none⟩,
        ⟨(some 46), .call (.c (.fn 9 [] [])) [(.t 38), (.t 45)], none⟩] [] [1, 2, 5, 6, 46])
     (.cond (.t 46)
      (.seq (.reg [⟨(some 4), .pl (.mv (.c (.bool true))), none⟩] [4])
       (.ret))
      (.skip)))
    (.reg [⟨(some 47), .pl (.mv (.t 5)), none⟩,
      ⟨(some 48), .pl (.fa 4 (.t 2)), none⟩,
      ⟨(some 49), .pl (.load none (.t 48)), none⟩,
      ⟨(some 50), .pl (.mv (.t 6)), none⟩,
      ⟨(some 51), .pl (.ia 5 (.t 49) (.t 50)), none⟩,
      ⟨(some 52), .pl (.load (some 5) (.t 51)), none⟩,
      ⟨(some 53), .call (.c (.fn 18 [] [])) [(.t 52)], none⟩,
      ⟨(some 54), .pl (.bin .add .no (.t 47) (.t 53)), none⟩,
      ⟨(some 55), .pl (.mm false (.t 54) (.c (.int .i64 100000))), none⟩,
      ⟨(some 5), .pl (.mv (.t 55)), none⟩] [1, 2, 5, 6])))
  (.reg [⟨(some 32), .pl (.mv (.t 6)), none⟩,
    ⟨(some 33), .pl (.bin .add .no (.t 32) (.c (.int .i64 1))), none⟩,
    ⟨(some 6), .pl (.mv (.t 33)), none⟩] [1, 2, 5, 6]))
def A9_r0 : AC := .seq (.reg [⟨(some 56), .pl (.mv (.t 5)), none⟩,
     ⟨(some 57), .pl (.bin .gtr .no (.t 56) (.c (.int .i64 20000))), none⟩,
     ⟨(some 4), .pl (.mv (.t 57)), none⟩] [4])
  (.ret)
def A9 : AFun := ⟨58, [.t 4],
  .seq (.reg [⟨(some 2), .pl (.box (.t 0)), none⟩,
     ⟨(some 4), .pl (.mv (.c (.bool false))), none⟩] [1, 2])
  (.seq (.seq (.reg [⟨(some 7), .pl (.mv (.t 1)), none⟩,
      ⟨(some 8), .pl (.bin .gtr .no (.t 7) (.c (.int .i64 40))), none⟩,
      ⟨(some 9), .pl (.mv (.t 8)), none⟩,
      ⟨(some 10), .pl (.fa 4 (.t 2)), (some (9, false))⟩,
      ⟨(some 11), .pl (.load none (.t 10)), (some (9, false))⟩,
      ⟨(some 12), .pl (.lenL (.t 11)), (some (9, false))⟩,
      ⟨(some 13), .pl (.bin .gtr .no (.t 12) (.c (.int .i64 60))), (some (9, false))⟩,
      ⟨(some 14), .pl (.pick (.t 9) (.c (.bool true)) (.t 13)), none⟩,
      ⟨(some 15), .pl (.mv (.t 14)), none⟩,
      ⟨(some 16), .pl (.fa 3 (.t 2)), (some (15, false))⟩,
      ⟨(some 17), .pl (.load none (.t 16)), (some (15, false))⟩,
      ⟨(some 18), .pl (.lenL (.t 17)), (some (15, false))⟩,
      ⟨(some 19), .pl (.bin .gtr .no (.t 18) (.c (.int .i64 300))), (some (15, false))⟩,
      ⟨(some 20), .pl (.pick (.t 15) (.c (.bool true)) (.t 19)), none⟩,
      ⟨(some 21), .pl (.mv (.t 20)), none⟩,
      ⟨(some 22), .pl (.fa 2 (.t 2)), (some (21, false))⟩,
      ⟨(some 23), .pl (.load none (.t 22)), (some (21, false))⟩,
      ⟨(some 24), .pl (.lenS (.t 23)), (some (21, false))⟩,
      ⟨(some 25), .pl (.bin .gtr .no (.t 24) (.c (.int .i64 2000))), (some (21, false))⟩,
      ⟨(some 26), .pl (.pick (.t 21) (.c (.bool true)) (.t 25)), none⟩] [1, 2, 26])
   (.cond (.t 26)
    (.seq (.reg [⟨(some 4), .pl (.mv (.c (.bool true))), none⟩] [4])
     (.ret))
    (.skip)))
  (.seq (.reg [⟨(some 5), .pl (.mv (.c (.int .i64 0))), none⟩] [1, 2, 5])
  (.seq (.seq (.reg [⟨(some 6), .pl (.mv (.c (.int .i64 0))), none⟩] [1, 2, 5, 6])
   (.block 0 (.loop [1, 2, 5, 6] A9_l0)))
  (A9_r0))))⟩
theorem c9 : compF Tryd.prog 9 = some A9 := by kernel_rfl

/-- concourse/concourselaw15.awake -/
def A10 : AFun := ⟨23, [.t 0],
  .seq (.reg [⟨(some 0), .pl (.mv (.c (.bool false))), none⟩] [])
  (.seq (.reg [⟨(some 3), .pl (.build [.int .i64 0, .int .i64 0, .str ⟨#[]⟩, .esl, .esl] [(0, 1, (.c (.int .i64 2))), (1, 1, (.c (.int .i64 1)))]), none⟩,
     ⟨(some 4), .pl (.build [.int .i64 0, .int .i64 0, .str ⟨#[]⟩, .esl, .esl] [(0, 1, (.c (.int .i64 2))), (1, 1, (.c (.int .i64 2)))]), none⟩,
     ⟨(some 5), .pl (.lit 5 [(.t 3), (.t 4)]), none⟩,
     ⟨(some 6), .pl (.build [.int .i64 0, .int .i64 0, .str ⟨#[]⟩, .esl, .esl] [(0, 1, (.c (.int .i64 7))), (4, 1, (.t 5))]), none⟩,
     ⟨(some 1), .pl (.alloc [.int .i64 0, .int .i64 0, .str ⟨#[]⟩, .esl, .esl]), none⟩,
     ⟨none, .pl (.store 5 (.t 1) (.t 6)), none⟩] [1])
  (.seq (.reg [⟨(some 7), .pl (.lit 1 [(.c (.int .i64 1))]), none⟩,
     ⟨(some 8), .pl (.load (some 5) (.t 1)), none⟩,
     ⟨(some 9), .pl (.lit 5 [(.t 8)]), none⟩,
     ⟨(some 10), .pl (.build [.int .i64 0, .int .i64 0, .str ⟨#[]⟩, .esl, .esl] [(0, 1, (.c (.int .i64 9))), (3, 1, (.t 7)), (4, 1, (.t 9))]), none⟩,
     ⟨(some 2), .pl (.alloc [.int .i64 0, .int .i64 0, .str ⟨#[]⟩, .esl, .esl]), none⟩,
     ⟨none, .pl (.store 5 (.t 2) (.t 10)), none⟩] [2])
  (.seq (.reg [⟨(some 11), .pl (.load (some 5) (.t 2)), none⟩,
     ⟨(some 12), .call (.c (.fn 11 [] [])) [(.t 11)], none⟩,
     ⟨(some 13), .pl (.bin .eql .no (.t 12) (.c (.str ⟨#[40, 49, 61, 91, 49, 44, 50, 93, 41]⟩))), none⟩,
     ⟨(some 14), .pl (.mv (.t 13)), none⟩,
     ⟨(some 15), .pl (.load (some 5) (.t 2)), (some (14, true))⟩,
     ⟨(some 16), .call (.c (.fn 13 [] [])) [(.t 15)], (some (14, true))⟩,
     ⟨(some 17), .pl (.pick (.t 14) (.t 16) (.c (.bool false))), none⟩,
     ⟨(some 18), .pl (.mv (.t 17)), none⟩,
     ⟨(some 19), .pl (.load (some 5) (.t 2)), (some (18, true))⟩,
     ⟨(some 20), .call (.c (.fn 15 [] [])) [(.t 19)], (some (18, true))⟩,
     ⟨(some 21), .pl (.bin .eql .no (.t 20) (.c (.int .i64 3))), (some (18, true))⟩,
     ⟨(some 22), .pl (.pick (.t 18) (.t 21) (.c (.bool false))), none⟩,
     ⟨(some 0), .pl (.mv (.t 22)), none⟩] [0])
  (.ret))))⟩
theorem c10 : compF Tryd.prog 10 = some A10 := by kernel_rfl

/-- concourse/value.Text -/
def A11 : AFun := ⟨62, [.t 2],
  .seq (.reg [⟨(some 1), .pl (.box (.t 0)), none⟩,
     ⟨(some 2), .pl (.mv (.c (.str ⟨#[]⟩))), none⟩] [1])
  (.seq (.seq (.reg [⟨(some 3), .pl (.fa 0 (.t 1)), none⟩,
      ⟨(some 4), .pl (.load none (.t 3)), none⟩,
      ⟨(some 5), .call (.c (.fn 29 [] [])) [(.t 4)], none⟩] [1, 5])
   (.block 0 (.seq (.reg [⟨(some 6), .pl (.tas 49 (.agg [.int .i64 0, .int .i64 0]) (.t 5)), none⟩,
       ⟨(some 7), .pl (.ext 1 (.t 6)), none⟩,
       ⟨(some 8), .pl (.ext 0 (.t 6)), none⟩] [1, 5, 7])
    (.cond (.t 7)
     (.seq (.block 1 (.seq (.reg [⟨(some 10), .pl (.fa 0 (.t 1)), none⟩,
           ⟨(some 11), .pl (.load none (.t 10)), none⟩,
           ⟨(some 12), .pl (.bin .eql .no (.t 11) (.c (.int .i64 1))), none⟩,
           ⟨(some 9), .pl (.mv (.t 12)), none⟩] [1, 9])
        (.cond (.t 9)
         (.seq (.reg [⟨(some 13), .pl (.fa 1 (.t 1)), none⟩,
             ⟨(some 14), .pl (.load none (.t 13)), none⟩,
             ⟨(some 15), .pl (.bin .neq .no (.t 14) (.c (.int .i64 0))), none⟩,
             ⟨(some 16), .call (.c (.fn 30 [] [])) [(.t 15)], none⟩,
             ⟨(some 2), .pl (.mv (.t 16)), none⟩] [2])
          (.ret))
         (.seq (.reg [⟨(some 18), .pl (.fa 0 (.t 1)), none⟩,
             ⟨(some 19), .pl (.load none (.t 18)), none⟩,
             ⟨(some 20), .pl (.bin .eql .no (.t 19) (.c (.int .i64 3))), none⟩,
             ⟨(some 17), .pl (.mv (.t 20)), none⟩] [1, 17])
          (.cond (.t 17)
           (.seq (.reg [⟨(some 21), .pl (.fa 1 (.t 1)), none⟩,
               ⟨(some 22), .pl (.load none (.t 21)), none⟩,
               ⟨(some 23), .pl (.conv .u64 (.t 22)), none⟩,
               ⟨(some 24), .call (.c (.fn 31 [] [])) [(.t 23), (.c (.int .i64 10))], none⟩,
               ⟨(some 2), .pl (.mv (.t 24)), none⟩] [2])
            (.ret))
           (.skip))))))
      (.seq (.reg [⟨(some 25), .pl (.fa 1 (.t 1)), none⟩,
         ⟨(some 26), .pl (.load none (.t 25)), none⟩,
         ⟨(some 27), .call (.c (.fn 32 [] [])) [(.t 26), (.c (.int .i64 10))], none⟩,
         ⟨(some 2), .pl (.mv (.t 27)), none⟩] [2])
      (.ret)))
     (.seq (.reg [⟨(some 28), .pl (.tas 55 (.agg [.bool false]) (.t 5)), none⟩,
         ⟨(some 29), .pl (.ext 1 (.t 28)), none⟩,
         ⟨(some 30), .pl (.ext 0 (.t 28)), none⟩] [1, 5, 29])
      (.cond (.t 29)
       (.seq (.reg [⟨(some 31), .pl (.fa 2 (.t 1)), none⟩,
           ⟨(some 32), .pl (.load none (.t 31)), none⟩,
           ⟨(some 33), .call (.c (.fn 33 [] [])) [(.t 32)], none⟩,
           ⟨(some 2), .pl (.mv (.t 33)), none⟩] [2])
        (.ret))
       (.seq (.reg [⟨(some 34), .pl (.tas 58 (.agg []) (.t 5)), none⟩,
           ⟨(some 35), .pl (.ext 1 (.t 34)), none⟩,
           ⟨(some 36), .pl (.ext 0 (.t 34)), none⟩] [1, 5, 35])
        (.cond (.t 35)
         (.seq (.reg [⟨(some 37), .pl (.load (some 5) (.t 1)), none⟩,
             ⟨(some 38), .call (.c (.fn 34 [] [])) [(.t 37), (.c (.bool false))], none⟩,
             ⟨(some 39), .pl (.bin .add .no (.c (.str ⟨#[91]⟩)) (.t 38)), none⟩,
             ⟨(some 40), .pl (.bin .add .no (.t 39) (.c (.str ⟨#[93]⟩))), none⟩,
             ⟨(some 2), .pl (.mv (.t 40)), none⟩] [2])
          (.ret))
         (.seq (.reg [⟨(some 41), .pl (.tas 60 (.agg []) (.t 5)), none⟩,
             ⟨(some 42), .pl (.ext 1 (.t 41)), none⟩,
             ⟨(some 43), .pl (.ext 0 (.t 41)), none⟩] [1, 5, 42])
          (.cond (.t 42)
           (.seq (.reg [⟨(some 44), .pl (.load (some 5) (.t 1)), none⟩,
               ⟨(some 45), .call (.c (.fn 35 [] [])) [(.t 44)], none⟩,
               ⟨(some 46), .pl (.bin .add .no (.c (.str ⟨#[123]⟩)) (.t 45)), none⟩,
               ⟨(some 47), .pl (.bin .add .no (.t 46) (.c (.str ⟨#[125]⟩))), none⟩,
               ⟨(some 2), .pl (.mv (.t 47)), none⟩] [2])
            (.ret))
           (.seq (.reg [⟨(some 48), .pl (.tas 62 (.agg [.int .i64 0]) (.t 5)), none⟩,
               ⟨(some 49), .pl (.ext 1 (.t 48)), none⟩,
               ⟨(some 50), .pl (.ext 0 (.t 48)), none⟩] [1, 49])
            (.cond (.t 49)
             (.seq (.seq (.reg [⟨(some 51), .pl (.fa 0 (.t 1)), none⟩,
                  ⟨(some 52), .pl (.load none (.t 51)), none⟩,
                  ⟨(some 53), .pl (.bin .eql .no (.t 52) (.c (.int .i64 9))), none⟩] [1, 53])
               (.cond (.t 53)
                (.seq (.reg [⟨(some 54), .pl (.load (some 5) (.t 1)), none⟩,
                    ⟨(some 55), .call (.c (.fn 34 [] [])) [(.t 54), (.c (.bool true))], none⟩,
                    ⟨(some 56), .pl (.bin .add .no (.c (.str ⟨#[40]⟩)) (.t 55)), none⟩,
                    ⟨(some 57), .pl (.bin .add .no (.t 56) (.c (.str ⟨#[41]⟩))), none⟩,
                    ⟨(some 2), .pl (.mv (.t 57)), none⟩] [2])
                 (.ret))
                (.skip)))
              (.seq (.reg [⟨(some 58), .pl (.load (some 5) (.t 1)), none⟩,
                 ⟨(some 59), .call (.c (.fn 34 [] [])) [(.t 58), (.c (.bool true))], none⟩,
                 ⟨(some 60), .pl (.bin .add .no (.c (.str ⟨#[60]⟩)) (.t 59)), none⟩,
                 ⟨(some 61), .pl (.bin .add .no (.t 60) (.c (.str ⟨#[62]⟩))), none⟩,
                 ⟨(some 2), .pl (.mv (.t 61)), none⟩] [2])
              (.ret)))
             (.skip)))))))))))))
  (.seq (.reg [⟨(some 2), .pl (.mv (.c (.str ⟨#[63]⟩))), none⟩] [2])
  (.ret)))⟩
theorem c11 : compF Tryd.prog 11 = some A11 := by kernel_rfl

/-- concourse/value.Well -/
def A13 : AFun := ⟨19, [.t 2],
  .seq (.reg [⟨(some 1), .pl (.box (.t 0)), none⟩,
     ⟨(some 2), .pl (.mv (.c (.bool false))), none⟩] [1])
  (.seq (.reg [⟨(some 4), .pl (.fa 0 (.t 1)), none⟩,
     ⟨(some 5), .pl (.load none (.t 4)), none⟩,
     ⟨(some 6), .call (.c (.fn 29 [] [])) [(.t 5)], none⟩,
     ⟨(some 3), .pl (.mv (.t 6)), none⟩] [1, 3])
  (.seq (.seq (.reg [⟨(some 7), .pl (.mv (.t 3)), none⟩,
      ⟨(some 8), .pl (.bin .eql .ifc (.t 7) (.c (.nilif))), none⟩,
      ⟨(some 9), .pl (.mv (.t 8)), none⟩,
      ⟨(some 10), .pl (.mv (.t 3)), (some (9, false))⟩,
      ⟨(some 11), .pl (.load (some 5) (.t 1)), (some (9, false))⟩,
      ⟨(some 12), .call (.m [(49, 162), (55, 164), (58, 169), (60, 170), (62, 171)] 10) [(.t 11)], (some (9, false))⟩,
      ⟨(some 13), .pl (.un .not (.t 12)), (some (9, false))⟩,
      ⟨(some 14), .pl (.pick (.t 9) (.c (.bool true)) (.t 13)), none⟩] [1, 14])
   (.cond (.t 14)
    (.seq (.reg [⟨(some 2), .pl (.mv (.c (.bool false))), none⟩] [2])
     (.ret))
    (.skip)))
  (.seq (.reg [⟨(some 15), .pl (.fa 4 (.t 1)), none⟩,
     ⟨(some 16), .pl (.load none (.t 15)), none⟩,
     ⟨(some 17), .call (.c (.fn 40 [] [])) [(.t 16), (.c (.fn 41 [] []))], none⟩,
     ⟨(some 18), .pl (.un .not (.t 17)), none⟩,
     ⟨(some 2), .pl (.mv (.t 18)), none⟩] [2])
  (.ret))))⟩
theorem c13 : compF Tryd.prog 13 = some A13 := by kernel_rfl

/-- concourse/value.Deep -/
def A15_l0 : AC := .seq (.reg [⟨(some 10), .pl (.bin .lss .no (.t 9) (.t 8)), none⟩] [3, 7, 8, 9, 10])
  (.seq (.cond (.t 10)
    (.skip)
    (.exit 0))
  (.seq (.block 1 (.seq (.reg [⟨(some 11), .pl (.ia 5 (.t 7) (.t 9)), none⟩,
       ⟨(some 12), .pl (.load (some 5) (.t 11)), none⟩,
       ⟨(some 5), .pl (.alloc [.int .i64 0, .int .i64 0, .str ⟨#[]⟩, .esl, .esl]), none⟩,
       ⟨none, .pl (.store 5 (.t 5) (.t 12)), none⟩] [3, 5, 7, 8, 9])
    (.reg [⟨(some 13), .pl (.mv (.t 3)), none⟩,
      ⟨(some 14), .pl (.load (some 5) (.t 5)), none⟩,
      ⟨(some 15), .call (.c (.fn 15 [] [])) [(.t 14)], none⟩,
      ⟨(some 16), .pl (.mm true (.t 13) (.t 15)), none⟩,
      ⟨(some 3), .pl (.mv (.t 16)), none⟩] [3, 7, 8, 9])))
  (.reg [⟨(some 17), .pl (.bin .add .no (.t 9) (.c (.int .i64 1))), none⟩,
    ⟨(some 9), .pl (.mv (.t 17)), none⟩] [3, 7, 8, 9])))
def A15_r0 : AC := .seq (.reg [⟨(some 18), .pl (.mv (.t 3)), none⟩,
     ⟨(some 19), .pl (.bin .add .no (.t 18) (.c (.int .i64 1))), none⟩,
     ⟨(some 2), .pl (.mv (.t 19)), none⟩] [2])
  (.ret)
def A15 : AFun := ⟨20, [.t 2],
  .seq (.reg [⟨(some 1), .pl (.box (.t 0)), none⟩,
     ⟨(some 2), .pl (.mv (.c (.int .i64 0))), none⟩] [1])
  (.seq (.reg [⟨(some 3), .pl (.mv (.c (.int .i64 0))), none⟩] [1, 3])
  (.seq (.seq (.reg [⟨(some 6), .pl (.fa 4 (.t 1)), none⟩,
      ⟨(some 7), .pl (.load none (.t 6)), none⟩,
      ⟨(some 8), .pl (.lenL (.t 7)), none⟩,
      ⟨(some 9), .pl (.mv (.c (.int .i64 0))), none⟩] [3, 7, 8, 9])
   (.block 0 (.loop [3, 7, 8, 9] A15_l0)))
  (A15_r0)))⟩
theorem c15 : compF Tryd.prog 15 = some A15 := by kernel_rfl

/-- concourse/concourseref15.Size -/
def A18_l0 : AC := .seq (.seq (.reg [⟨(some 9), .pl (.mv (.t 4)), none⟩,
      ⟨(some 10), .pl (.fa 4 (.t 1)), none⟩,
      ⟨(some 11), .pl (.load none (.t 10)), none⟩,
      ⟨(some 12), .pl (.lenL (.t 11)), none⟩,
      ⟨(some 13), .pl (.bin .lss .no (.t 9) (.t 12)), none⟩] [1, 3, 4, 13])
   (.cond (.t 13)
    (.skip)
    (.exit 0)))
  (.seq (.block 1 (.reg [⟨(some 16), .pl (.mv (.t 3)), none⟩,
      ⟨(some 17), .pl (.fa 4 (.t 1)), none⟩,
      ⟨(some 18), .pl (.load none (.t 17)), none⟩,
      ⟨(some 19), .pl (.mv (.t 4)), none⟩,
      ⟨(some 20), .pl (.ia 5 (.t 18) (.t 19)), none⟩,
      ⟨(some 21), .pl (.load (some 5) (.t 20)), none⟩,
      ⟨(some 22), .call (.c (.fn 18 [] [])) [(.t 21)], none⟩,
      ⟨(some 23), .pl (.bin .add .no (.t 16) (.t 22)), none⟩,
      ⟨(some 3), .pl (.mv (.t 23)), none⟩] [1, 3, 4]))
  (.reg [⟨(some 14), .pl (.mv (.t 4)), none⟩,
    ⟨(some 15), .pl (.bin .add .no (.t 14) (.c (.int .i64 1))), none⟩,
    ⟨(some 4), .pl (.mv (.t 15)), none⟩] [1, 3, 4]))
def A18_r0 : AC := .seq (.reg [⟨(some 24), .pl (.mv (.t 3)), none⟩,
     ⟨(some 2), .pl (.mv (.t 24)), none⟩] [2])
  (.ret)
def A18 : AFun := ⟨25, [.t 2],
  .seq (.reg [⟨(some 1), .pl (.box (.t 0)), none⟩,
     ⟨(some 2), .pl (.mv (.c (.int .i64 0))), none⟩] [1])
  (.seq (.reg [⟨(some 5), .pl (.fa 2 (.t 1)), none⟩,
     ⟨(some 6), .pl (.load none (.t 5)), none⟩,
     ⟨(some 7), .pl (.lenS (.t 6)), none⟩,
     ⟨(some 8), .pl (.bin .add .no (.c (.int .i64 8)) (.t 7)), none⟩,
     ⟨(some 3), .pl (.mv (.t 8)), none⟩] [1, 3])
  (.seq (.seq (.reg [⟨(some 4), .pl (.mv (.c (.int .i64 0))), none⟩] [1, 3, 4])
   (.block 0 (.loop [1, 3, 4] A18_l0)))
  (A18_r0)))⟩
theorem c18 : compF Tryd.prog 18 = some A18 := by kernel_rfl

/-- concourse/value.Size -/
def A17_l0 : AC := .seq (.reg [⟨(some 14), .pl (.bin .lss .no (.t 13) (.t 12)), none⟩] [3, 11, 12, 13, 14])
  (.seq (.cond (.t 14)
    (.skip)
    (.exit 0))
  (.seq (.block 1 (.seq (.reg [⟨(some 15), .pl (.ia 5 (.t 11) (.t 13)), none⟩,
       ⟨(some 16), .pl (.load (some 5) (.t 15)), none⟩,
       ⟨(some 5), .pl (.alloc [.int .i64 0, .int .i64 0, .str ⟨#[]⟩, .esl, .esl]), none⟩,
       ⟨none, .pl (.store 5 (.t 5) (.t 16)), none⟩] [3, 5, 11, 12, 13])
    (.reg [⟨(some 17), .pl (.mv (.t 3)), none⟩,
      ⟨(some 18), .pl (.load (some 5) (.t 5)), none⟩,
      ⟨(some 19), .call (.c (.fn 17 [] [])) [(.t 18)], none⟩,
      ⟨(some 20), .pl (.bin .add .no (.t 17) (.t 19)), none⟩,
      ⟨(some 3), .pl (.mv (.t 20)), none⟩] [3, 11, 12, 13])))
  (.reg [⟨(some 21), .pl (.bin .add .no (.t 13) (.c (.int .i64 1))), none⟩,
    ⟨(some 13), .pl (.mv (.t 21)), none⟩] [3, 11, 12, 13])))
def A17_r0 : AC := .seq (.reg [⟨(some 22), .pl (.mv (.t 3)), none⟩,
     ⟨(some 2), .pl (.mv (.t 22)), none⟩] [2])
  (.ret)
def A17 : AFun := ⟨23, [.t 2],
  .seq (.reg [⟨(some 1), .pl (.box (.t 0)), none⟩,
     ⟨(some 2), .pl (.mv (.c (.int .i64 0))), none⟩] [1])
  (.seq (.reg [⟨(some 6), .pl (.fa 2 (.t 1)), none⟩,
     ⟨(some 7), .pl (.load none (.t 6)), none⟩,
     ⟨(some 8), .pl (.lenS (.t 7)), none⟩,
     ⟨(some 9), .pl (.bin .add .no (.c (.int .i64 8)) (.t 8)), none⟩,
     ⟨(some 3), .pl (.mv (.t 9)), none⟩] [1, 3])
  (.seq (.seq (.reg [⟨(some 10), .pl (.fa 4 (.t 1)), none⟩,
      ⟨(some 11), .pl (.load none (.t 10)), none⟩,
      ⟨(some 12), .pl (.lenL (.t 11)), none⟩,
      ⟨(some 13), .pl (.mv (.c (.int .i64 0))), none⟩] [3, 11, 12, 13])
   (.block 0 (.loop [3, 11, 12, 13] A17_l0)))
  (A17_r0)))⟩
theorem c17 : compF Tryd.prog 17 = some A17 := by kernel_rfl

/-- concourse/value.Same -/
def A19 : AFun := ⟨38, [.t 4],
  .seq (.reg [⟨(some 2), .pl (.box (.t 0)), none⟩,
     ⟨(some 3), .pl (.box (.t 1)), none⟩,
     ⟨(some 4), .pl (.mv (.c (.bool false))), none⟩] [2, 3])
  (.seq (.reg [⟨(some 5), .pl (.fa 0 (.t 2)), none⟩,
     ⟨(some 6), .pl (.load none (.t 5)), none⟩,
     ⟨(some 7), .pl (.fa 0 (.t 3)), none⟩,
     ⟨(some 8), .pl (.load none (.t 7)), none⟩,
     ⟨(some 9), .pl (.bin .eql .no (.t 6) (.t 8)), none⟩,
     ⟨(some 10), .pl (.mv (.t 9)), none⟩,
     ⟨(some 11), .pl (.fa 1 (.t 2)), (some (10, true))⟩,
     ⟨(some 12), .pl (.load none (.t 11)), (some (10, true))⟩,
     ⟨(some 13), .pl (.fa 1 (.t 3)), (some (10, true))⟩,
     ⟨(some 14), .pl (.load none (.t 13)), (some (10, true))⟩,
     ⟨(some 15), .pl (.bin .eql .no (.t 12) (.t 14)), (some (10, true))⟩,
     ⟨(some 16), .pl (.pick (.t 10) (.t 15) (.c (.bool false))), none⟩,
     ⟨(some 17), .pl (.mv (.t 16)), none⟩,
     ⟨(some 18), .pl (.fa 2 (.t 2)), (some (17, true))⟩,
     ⟨(some 19), .pl (.load none (.t 18)), (some (17, true))⟩,
     ⟨(some 20), .pl (.fa 2 (.t 3)), (some (17, true))⟩,
     ⟨(some 21), .pl (.load none (.t 20)), (some (17, true))⟩,
     ⟨(some 22), .pl (.bin .eql .no (.t 19) (.t 21)), (some (17, true))⟩,
     ⟨(some 23), .pl (.pick (.t 17) (.t 22) (.c (.bool false))), none⟩,
     ⟨(some 24), .pl (.mv (.t 23)), none⟩,
     ⟨(some 25), .pl (.fa 3 (.t 2)), (some (24, true))⟩,
     ⟨(some 26), .pl (.load none (.t 25)), (some (24, true))⟩,
     ⟨(some 27), .pl (.fa 3 (.t 3)), (some (24, true))⟩,
     ⟨(some 28), .pl (.load none (.t 27)), (some (24, true))⟩,
     ⟨(some 29), .call (.c (.fn 43 [] [])) [(.t 26), (.t 28)], (some (24, true))⟩,
     ⟨(some 30), .pl (.pick (.t 24) (.t 29) (.c (.bool false))), none⟩,
     ⟨(some 31), .pl (.mv (.t 30)), none⟩,
     ⟨(some 32), .pl (.fa 4 (.t 2)), (some (31, true))⟩,
     ⟨(some 33), .pl (.load none (.t 32)), (some (31, true))⟩,
     ⟨(some 34), .pl (.fa 4 (.t 3)), (some (31, true))⟩,
     ⟨(some 35), .pl (.load none (.t 34)), (some (31, true))⟩,
     ⟨(some 36), .call (.c (.fn 44 [] [])) [(.t 33), (.t 35), (.c (.fn 19 [] []))], (some (31, true))⟩,
     ⟨(some 37), .pl (.pick (.t 31) (.t 36) (.c (.bool false))), none⟩,
     ⟨(some 4), .pl (.mv (.t 37)), none⟩] [4])
  (.ret))⟩
theorem c19 : compF Tryd.prog 19 = some A19 := by kernel_rfl

/-- concourse/concourseref15.Same -/
def A20_l0 : AC := .seq (.seq (.reg [⟨(some 42), .pl (.mv (.t 5)), none⟩,
      ⟨(some 43), .pl (.fa 4 (.t 2)), none⟩,
      ⟨(some 44), .pl (.load none (.t 43)), none⟩,
      ⟨(some 45), .pl (.lenL (.t 44)), none⟩,
      ⟨(some 46), .pl (.bin .lss .no (.t 42) (.t 45)), none⟩] [2, 3, 5, 46])
   (.cond (.t 46)
    (.skip)
    (.exit 0)))
  (.seq (.block 1 (.seq (.regD [⟨(some 49), .pl (.fa 4 (.t 2)), none⟩,
       ⟨(some 50), .pl (.load none (.t 49)), none⟩,
       ⟨(some 51), .pl (.mv (.t 5)), none⟩,
       ⟨(some 52), .pl (.ia 5 (.t 50) (.t 51)), none⟩,
       ⟨(some 53), .pl (.load (some 5) (.t 52)), none⟩,
       ⟨(some 54), .pl (.fa 4 (.t 3)), none⟩,
       ⟨(some 55), .pl (.load none (.t 54)), none⟩,
       ⟨(some 56), .pl (.mv (.t 5)), none⟩,
       ⟨(some 57), .pl (.ia 5 (.t 55) (.t 56)), none⟩,
       ⟨(some 58), .pl (.load (some 5) (.t 57)), none⟩,
       ⟨(some 59), .call (.c (.fn 20 [] [])) [(.t 53), (.t 58)], none⟩,
       ⟨(some 60), .pl (.un .not (.t 59)), none⟩] [] [2, 3, 5, 60])
    (.cond (.t 60)
     (.seq (.reg [⟨(some 4), .pl (.mv (.c (.bool false))), none⟩] [4])
      (.ret))
     (.skip))))
  (.reg [⟨(some 47), .pl (.mv (.t 5)), none⟩,
    ⟨(some 48), .pl (.bin .add .no (.t 47) (.c (.int .i64 1))), none⟩,
    ⟨(some 5), .pl (.mv (.t 48)), none⟩] [2, 3, 5]))
def A20_r0 : AC := .seq (.reg [⟨(some 4), .pl (.mv (.c (.bool true))), none⟩] [4])
  (.ret)
def A20 : AFun := ⟨61, [.t 4],
  .seq (.reg [⟨(some 2), .pl (.box (.t 0)), none⟩,
     ⟨(some 3), .pl (.box (.t 1)), none⟩,
     ⟨(some 4), .pl (.mv (.c (.bool false))), none⟩] [2, 3])
  (.seq (.seq (.reg [⟨(some 6), .pl (.fa 0 (.t 2)), none⟩,
      ⟨(some 7), .pl (.load none (.t 6)), none⟩,
      ⟨(some 8), .pl (.fa 0 (.t 3)), none⟩,
      ⟨(some 9), .pl (.load none (.t 8)), none⟩,
      ⟨(some 10), .pl (.bin .neq .no (.t 7) (.t 9)), none⟩,
      ⟨(some 11), .pl (.mv (.t 10)), none⟩,
      ⟨(some 12), .pl (.fa 1 (.t 2)), (some (11, false))⟩,
      ⟨(some 13), .pl (.load none (.t 12)), (some (11, false))⟩,
      ⟨(some 14), .pl (.fa 1 (.t 3)), (some (11, false))⟩,
      ⟨(some 15), .pl (.load none (.t 14)), (some (11, false))⟩,
      ⟨(some 16), .pl (.bin .neq .no (.t 13) (.t 15)), (some (11, false))⟩,
      ⟨(some 17), .pl (.pick (.t 11) (.c (.bool true)) (.t 16)), none⟩,
      ⟨(some 18), .pl (.mv (.t 17)), none⟩,
      ⟨(some 19), .pl (.fa 2 (.t 2)), (some (18, false))⟩,
      ⟨(some 20), .pl (.load none (.t 19)), (some (18, false))⟩,
      ⟨(some 21), .pl (.fa 2 (.t 3)), (some (18, false))⟩,
      ⟨(some 22), .pl (.load none (.t 21)), (some (18, false))⟩,
      ⟨(some 23), .pl (.bin .neq .no (.t 20) (.t 22)), (some (18, false))⟩,
      ⟨(some 24), .pl (.pick (.t 18) (.c (.bool true)) (.t 23)), none⟩,
      ⟨(some 25), .pl (.mv (.t 24)), none⟩,
      ⟨(some 26), .pl (.fa 3 (.t 2)), (some (25, false))⟩,
      ⟨(some 27), .pl (.load none (.t 26)), (some (25, false))⟩,
      ⟨(some 28), .pl (.fa 3 (.t 3)), (some (25, false))⟩,
      ⟨(some 29), .pl (.load none (.t 28)), (some (25, false))⟩,
      ⟨(some 30), .call (.c (.fn 45 [] [])) [(.t 27), (.t 29)], (some (25, false))⟩,
      ⟨(some 31), .pl (.un .not (.t 30)), (some (25, false))⟩,
      ⟨(some 32), .pl (.pick (.t 25) (.c (.bool true)) (.t 31)), none⟩,
      ⟨(some 33), .pl (.mv (.t 32)), none⟩,
      ⟨(some 34), .pl (.fa 4 (.t 2)), (some (33, false))⟩,
      ⟨(some 35), .pl (.load none (.t 34)), (some (33, false))⟩,
      ⟨(some 36), .pl (.lenL (.t 35)), (some (33, false))⟩,
      ⟨(some 37), .pl (.fa 4 (.t 3)), (some (33, false))⟩,
      ⟨(some 38), .pl (.load none (.t 37)), (some (33, false))⟩,
      ⟨(some 39), .pl (.lenL (.t 38)), (some (33, false))⟩,
      ⟨(some 40), .pl (.bin .neq .no (.t 36) (.t 39)), (some (33, false))⟩,
      ⟨(some 41), .pl (.pick (.t 33) (.c (.bool true)) (.t 40)), none⟩] [2, 3, 41])
   (.cond (.t 41)
    (.seq (.reg [⟨(some 4), .pl (.mv (.c (.bool false))), none⟩] [4])
     (.ret))
    (.skip)))
  (.seq (.seq (.reg [⟨(some 5), .pl (.mv (.c (.int .i64 0))), none⟩] [2, 3, 5])
   (.block 0 (.loop [2, 3, 5] A20_l0)))
  (A20_r0)))⟩
theorem c20 : compF Tryd.prog 20 = some A20 := by kernel_rfl

/-- concourse/value.Cmp -/
def A21 : AFun := ⟨46, [.t 4],
  .seq (.reg [⟨(some 2), .pl (.box (.t 0)), none⟩,
     ⟨(some 3), .pl (.box (.t 1)), none⟩,
     ⟨(some 4), .pl (.mv (.c (.int .i64 0))), none⟩] [2, 3])
  (.seq (.block 0 (.seq (.reg [⟨(some 6), .pl (.fa 0 (.t 2)), none⟩,
       ⟨(some 7), .pl (.load none (.t 6)), none⟩,
       ⟨(some 8), .pl (.fa 0 (.t 3)), none⟩,
       ⟨(some 9), .pl (.load none (.t 8)), none⟩,
       ⟨(some 10), .pl (.bin .neq .no (.t 7) (.t 9)), none⟩,
       ⟨(some 5), .pl (.mv (.t 10)), none⟩] [2, 3, 5])
    (.cond (.t 5)
     (.seq (.reg [⟨(some 11), .pl (.fa 0 (.t 2)), none⟩,
         ⟨(some 12), .pl (.load none (.t 11)), none⟩,
         ⟨(some 13), .pl (.fa 0 (.t 3)), none⟩,
         ⟨(some 14), .pl (.load none (.t 13)), none⟩,
         ⟨(some 15), .call (.c (.fn 46 [] [])) [(.t 12), (.t 14)], none⟩,
         ⟨(some 4), .pl (.mv (.t 15)), none⟩] [4])
      (.ret))
     (.seq (.reg [⟨(some 17), .pl (.fa 0 (.t 2)), none⟩,
         ⟨(some 18), .pl (.load none (.t 17)), none⟩,
         ⟨(some 19), .call (.c (.fn 47 [] [])) [(.t 18)], none⟩,
         ⟨(some 20), .pl (.un .not (.t 19)), none⟩,
         ⟨(some 16), .pl (.mv (.t 20)), none⟩] [2, 3, 16])
      (.cond (.t 16)
       (.seq (.reg [⟨(some 4), .pl (.mv (.c (.int .i64 0))), none⟩] [4])
        (.ret))
       (.seq (.reg [⟨(some 22), .pl (.fa 0 (.t 2)), none⟩,
           ⟨(some 23), .pl (.load none (.t 22)), none⟩,
           ⟨(some 24), .pl (.bin .eql .no (.t 23) (.c (.int .i64 4))), none⟩,
           ⟨(some 21), .pl (.mv (.t 24)), none⟩] [2, 3, 21])
        (.cond (.t 21)
         (.seq (.reg [⟨(some 25), .pl (.fa 2 (.t 2)), none⟩,
             ⟨(some 26), .pl (.load none (.t 25)), none⟩,
             ⟨(some 27), .pl (.fa 2 (.t 3)), none⟩,
             ⟨(some 28), .pl (.load none (.t 27)), none⟩,
             ⟨(some 29), .call (.c (.fn 48 [] [])) [(.t 26), (.t 28)], none⟩,
             ⟨(some 4), .pl (.mv (.t 29)), none⟩] [4])
          (.ret))
         (.seq (.reg [⟨(some 31), .pl (.fa 0 (.t 2)), none⟩,
             ⟨(some 32), .pl (.load none (.t 31)), none⟩,
             ⟨(some 33), .pl (.bin .eql .no (.t 32) (.c (.int .i64 3))), none⟩,
             ⟨(some 30), .pl (.mv (.t 33)), none⟩] [2, 3, 30])
          (.cond (.t 30)
           (.seq (.reg [⟨(some 34), .pl (.fa 1 (.t 2)), none⟩,
               ⟨(some 35), .pl (.load none (.t 34)), none⟩,
               ⟨(some 36), .pl (.conv .u64 (.t 35)), none⟩,
               ⟨(some 37), .pl (.fa 1 (.t 3)), none⟩,
               ⟨(some 38), .pl (.load none (.t 37)), none⟩,
               ⟨(some 39), .pl (.conv .u64 (.t 38)), none⟩,
               ⟨(some 40), .call (.c (.fn 49 [] [])) [(.t 36), (.t 39)], none⟩,
               ⟨(some 4), .pl (.mv (.t 40)), none⟩] [4])
            (.ret))
           (.skip))))))))))
  (.seq (.reg [⟨(some 41), .pl (.fa 1 (.t 2)), none⟩,
     ⟨(some 42), .pl (.load none (.t 41)), none⟩,
     ⟨(some 43), .pl (.fa 1 (.t 3)), none⟩,
     ⟨(some 44), .pl (.load none (.t 43)), none⟩,
     ⟨(some 45), .call (.c (.fn 50 [] [])) [(.t 42), (.t 44)], none⟩,
     ⟨(some 4), .pl (.mv (.t 45)), none⟩] [4])
  (.ret)))⟩
theorem c21 : compF Tryd.prog 21 = some A21 := by kernel_rfl

/-- concourse/concourseref15.Cmp -/
def A22 : AFun := ⟨71, [.t 4],
  .seq (.reg [⟨(some 2), .pl (.box (.t 0)), none⟩,
     ⟨(some 3), .pl (.box (.t 1)), none⟩,
     ⟨(some 4), .pl (.mv (.c (.int .i64 0))), none⟩] [2, 3])
  (.seq (.seq (.reg [⟨(some 5), .pl (.fa 0 (.t 2)), none⟩,
      ⟨(some 6), .pl (.load none (.t 5)), none⟩,
      ⟨(some 7), .pl (.fa 0 (.t 3)), none⟩,
      ⟨(some 8), .pl (.load none (.t 7)), none⟩,
      ⟨(some 9), .pl (.bin .neq .no (.t 6) (.t 8)), none⟩,
      ⟨(some 10), .pl (.mv (.t 9)), none⟩,
      ⟨(some 11), .pl (.fa 0 (.t 2)), (some (10, false))⟩,
      ⟨(some 12), .pl (.load none (.t 11)), (some (10, false))⟩,
      ⟨(some 13), .call (.c (.fn 23 [] [])) [(.t 12)], (some (10, false))⟩,
      ⟨(some 14), .pl (.un .not (.t 13)), (some (10, false))⟩,
      ⟨(some 15), .pl (.pick (.t 10) (.c (.bool true)) (.t 14)), none⟩] [2, 3, 15])
   (.cond (.t 15)
    (.seq (.reg [⟨(some 16), .pl (.fa 0 (.t 2)), none⟩,
        ⟨(some 17), .pl (.load none (.t 16)), none⟩,
        ⟨(some 18), .pl (.fa 0 (.t 3)), none⟩,
        ⟨(some 19), .pl (.load none (.t 18)), none⟩,
        ⟨(some 20), .pl (.bin .lss .no (.t 17) (.t 19)), none⟩,
        ⟨(some 21), .pl (.fa 0 (.t 2)), none⟩,
        ⟨(some 22), .pl (.load none (.t 21)), none⟩,
        ⟨(some 23), .pl (.fa 0 (.t 3)), none⟩,
        ⟨(some 24), .pl (.load none (.t 23)), none⟩,
        ⟨(some 25), .pl (.bin .gtr .no (.t 22) (.t 24)), none⟩,
        ⟨(some 26), .call (.c (.fn 51 [] [])) [(.t 20), (.t 25)], none⟩,
        ⟨(some 4), .pl (.mv (.t 26)), none⟩] [4])
     (.ret))
    (.skip)))
  (.seq (.seq (.reg [⟨(some 27), .pl (.fa 0 (.t 2)), none⟩,
      ⟨(some 28), .pl (.load none (.t 27)), none⟩,
      ⟨(some 29), .pl (.bin .eql .no (.t 28) (.c (.int .i64 4))), none⟩] [2, 3, 29])
   (.cond (.t 29)
    (.seq (.reg [⟨(some 30), .pl (.fa 2 (.t 2)), none⟩,
        ⟨(some 31), .pl (.load none (.t 30)), none⟩,
        ⟨(some 32), .pl (.fa 2 (.t 3)), none⟩,
        ⟨(some 33), .pl (.load none (.t 32)), none⟩,
        ⟨(some 34), .pl (.bin .lss .no (.t 31) (.t 33)), none⟩,
        ⟨(some 35), .pl (.fa 2 (.t 2)), none⟩,
        ⟨(some 36), .pl (.load none (.t 35)), none⟩,
        ⟨(some 37), .pl (.fa 2 (.t 3)), none⟩,
        ⟨(some 38), .pl (.load none (.t 37)), none⟩,
        ⟨(some 39), .pl (.bin .gtr .no (.t 36) (.t 38)), none⟩,
        ⟨(some 40), .call (.c (.fn 51 [] [])) [(.t 34), (.t 39)], none⟩,
        ⟨(some 4), .pl (.mv (.t 40)), none⟩] [4])
     (.ret))
    (.skip)))
  (.seq (.seq (.reg [⟨(some 41), .pl (.fa 0 (.t 2)), none⟩,
      ⟨(some 42), .pl (.load none (.t 41)), none⟩,
      ⟨(some 43), .pl (.bin .eql .no (.t 42) (.c (.int .i64 3))), none⟩,
      ⟨(some 44), .pl (.mv (.t 43)), none⟩,
      ⟨(some 45), .pl (.fa 1 (.t 2)), (some (44, true))⟩,
      ⟨(some 46), .pl (.load none (.t 45)), (some (44, true))⟩,
      ⟨(some 47), .pl (.bin .lss .no (.t 46) (.c (.int .i64 0))), (some (44, true))⟩,
      ⟨(some 48), .pl (.fa 1 (.t 3)), (some (44, true))⟩,
      ⟨(some 49), .pl (.load none (.t 48)), (some (44, true))⟩,
      ⟨(some 50), .pl (.bin .lss .no (.t 49) (.c (.int .i64 0))), (some (44, true))⟩,
      ⟨(some 51), .pl (.bin .neq .bool (.t 47) (.t 50)), (some (44, true))⟩,
      ⟨(some 52), .pl (.pick (.t 44) (.t 51) (.c (.bool false))), none⟩] [2, 3, 52])
   (.cond (.t 52)
    (.seq (.reg [⟨(some 53), .pl (.fa 1 (.t 3)), none⟩,
        ⟨(some 54), .pl (.load none (.t 53)), none⟩,
        ⟨(some 55), .pl (.bin .lss .no (.t 54) (.c (.int .i64 0))), none⟩,
        ⟨(some 56), .pl (.fa 1 (.t 2)), none⟩,
        ⟨(some 57), .pl (.load none (.t 56)), none⟩,
        ⟨(some 58), .pl (.bin .lss .no (.t 57) (.c (.int .i64 0))), none⟩,
        ⟨(some 59), .call (.c (.fn 51 [] [])) [(.t 55), (.t 58)], none⟩,
        ⟨(some 4), .pl (.mv (.t 59)), none⟩] [4])
     (.ret))
    (.skip)))
  (.seq (.reg [⟨(some 60), .pl (.fa 1 (.t 2)), none⟩,
     ⟨(some 61), .pl (.load none (.t 60)), none⟩,
     ⟨(some 62), .pl (.fa 1 (.t 3)), none⟩,
     ⟨(some 63), .pl (.load none (.t 62)), none⟩,
     ⟨(some 64), .pl (.bin .lss .no (.t 61) (.t 63)), none⟩,
     ⟨(some 65), .pl (.fa 1 (.t 2)), none⟩,
     ⟨(some 66), .pl (.load none (.t 65)), none⟩,
     ⟨(some 67), .pl (.fa 1 (.t 3)), none⟩,
     ⟨(some 68), .pl (.load none (.t 67)), none⟩,
     ⟨(some 69), .pl (.bin .gtr .no (.t 66) (.t 68)), none⟩,
     ⟨(some 70), .call (.c (.fn 51 [] [])) [(.t 64), (.t 69)], none⟩,
     ⟨(some 4), .pl (.mv (.t 70)), none⟩] [4])
  (.ret)))))⟩
theorem c22 : compF Tryd.prog 22 = some A22 := by kernel_rfl

/-- concourse/concourseref15.Key -/
def A23 : AFun := ⟨13, [.t 2],
  .seq (.reg [⟨(some 2), .pl (.mv (.c (.bool false))), none⟩] [0])
  (.seq (.reg [⟨(some 3), .pl (.mv (.t 0)), none⟩,
     ⟨(some 4), .pl (.bin .geq .no (.t 3) (.c (.int .i64 1))), none⟩,
     ⟨(some 5), .pl (.mv (.t 4)), none⟩,
     ⟨(some 6), .pl (.mv (.t 0)), (some (5, true))⟩,
     ⟨(some 7), .pl (.bin .leq .no (.t 6) (.c (.int .i64 4))), (some (5, true))⟩,
     ⟨(some 8), .pl (.pick (.t 5) (.t 7) (.c (.bool false))), none⟩,
     ⟨(some 9), .pl (.mv (.t 8)), none⟩,
     ⟨(some 10), .pl (.mv (.t 0)), (some (9, false))⟩,
     ⟨(some 11), .pl (.bin .eql .no (.t 10) (.c (.int .i64 6))), (some (9, false))⟩,
     ⟨(some 12), .pl (.pick (.t 9) (.c (.bool true)) (.t 11)), none⟩,
     ⟨(some 2), .pl (.mv (.t 12)), none⟩] [2])
  (.ret))⟩
theorem c23 : compF Tryd.prog 23 = some A23 := by kernel_rfl

/-- concourse/value.of -/
def A29 : AFun := ⟨40, [.t 2],
  .seq (.reg [⟨(some 2), .pl (.mv (.c (.nilif))), none⟩] [0])
  (.seq (.seq (.reg [⟨(some 3), .pl (.mv (.t 0)), none⟩] [0, 3])
   (.block 0 (.seq (.reg [⟨(some 5), .pl (.bin .eql .no (.t 3) (.c (.int .i64 1))), none⟩,
       ⟨(some 4), .pl (.mv (.t 5)), none⟩] [0, 3, 4])
    (.cond (.t 4)
     (.seq (.reg [⟨(some 6), .pl (.build [.int .i64 0, .int .i64 0] [(0, 1, (.c (.int .i64 0))), (1, 1, (.c (.int .i64 1)))]), none⟩,
         ⟨(some 7), .pl (.mkif 49 (.t 6)), none⟩,
         ⟨(some 2), .pl (.mv (.t 7)), none⟩] [2])
      (.ret))
     (.seq (.seq (.reg [⟨(some 9), .pl (.bin .eql .no (.t 3) (.c (.int .i64 2))), none⟩,
          ⟨(some 8), .pl (.mv (.t 9)), none⟩] [0, 3, 8])
       (.cond (.t 8)
        (.skip)
        (.reg [⟨(some 10), .pl (.bin .eql .no (.t 3) (.c (.int .i64 3))), none⟩,
           ⟨(some 8), .pl (.mv (.t 10)), none⟩] [0, 3, 8])))
      (.cond (.t 8)
       (.seq (.reg [⟨(some 11), .pl (.build [.int .i64 0, .int .i64 0] [(0, 1, (.c (.int .i64 (-9223372036854775808)))), (1, 1, (.c (.int .i64 9223372036854775807)))]), none⟩,
           ⟨(some 12), .pl (.mkif 49 (.t 11)), none⟩,
           ⟨(some 2), .pl (.mv (.t 12)), none⟩] [2])
        (.ret))
       (.seq (.reg [⟨(some 14), .pl (.bin .eql .no (.t 3) (.c (.int .i64 6))), none⟩,
           ⟨(some 13), .pl (.mv (.t 14)), none⟩] [0, 3, 13])
        (.cond (.t 13)
         (.seq (.reg [⟨(some 15), .pl (.build [.int .i64 0, .int .i64 0] [(0, 1, (.c (.int .i64 0))), (1, 1, (.c (.int .i64 9999)))]), none⟩,
             ⟨(some 16), .pl (.mkif 49 (.t 15)), none⟩,
             ⟨(some 2), .pl (.mv (.t 16)), none⟩] [2])
          (.ret))
         (.seq (.seq (.reg [⟨(some 18), .pl (.bin .eql .no (.t 3) (.c (.int .i64 4))), none⟩,
              ⟨(some 17), .pl (.mv (.t 18)), none⟩] [0, 3, 17])
           (.cond (.t 17)
            (.skip)
            (.reg [⟨(some 19), .pl (.bin .eql .no (.t 3) (.c (.int .i64 5))), none⟩,
               ⟨(some 17), .pl (.mv (.t 19)), none⟩] [0, 3, 17])))
          (.cond (.t 17)
           (.seq (.reg [⟨(some 20), .pl (.mv (.t 0)), none⟩,
               ⟨(some 21), .pl (.bin .eql .no (.t 20) (.c (.int .i64 4))), none⟩,
               ⟨(some 22), .pl (.build [.bool false] [(0, 1, (.t 21))]), none⟩,
               ⟨(some 23), .pl (.mkif 55 (.t 22)), none⟩,
               ⟨(some 2), .pl (.mv (.t 23)), none⟩] [2])
            (.ret))
           (.seq (.reg [⟨(some 25), .pl (.bin .eql .no (.t 3) (.c (.int .i64 7))), none⟩,
               ⟨(some 24), .pl (.mv (.t 25)), none⟩] [3, 24])
            (.cond (.t 24)
             (.seq (.reg [⟨(some 26), .pl (.build [] []), none⟩,
                 ⟨(some 27), .pl (.mkif 58 (.t 26)), none⟩,
                 ⟨(some 2), .pl (.mv (.t 27)), none⟩] [2])
              (.ret))
             (.seq (.reg [⟨(some 29), .pl (.bin .eql .no (.t 3) (.c (.int .i64 8))), none⟩,
                 ⟨(some 28), .pl (.mv (.t 29)), none⟩] [3, 28])
              (.cond (.t 28)
               (.seq (.reg [⟨(some 30), .pl (.build [] []), none⟩,
                   ⟨(some 31), .pl (.mkif 60 (.t 30)), none⟩,
                   ⟨(some 2), .pl (.mv (.t 31)), none⟩] [2])
                (.ret))
               (.seq (.reg [⟨(some 33), .pl (.bin .eql .no (.t 3) (.c (.int .i64 9))), none⟩,
                   ⟨(some 32), .pl (.mv (.t 33)), none⟩] [3, 32])
                (.cond (.t 32)
                 (.seq (.reg [⟨(some 34), .pl (.build [.int .i64 0] []), none⟩,
                     ⟨(some 35), .pl (.mkif 62 (.t 34)), none⟩,
                     ⟨(some 2), .pl (.mv (.t 35)), none⟩] [2])
                  (.ret))
                 (.seq (.reg [⟨(some 37), .pl (.bin .eql .no (.t 3) (.c (.int .i64 10))), none⟩,
                     ⟨(some 36), .pl (.mv (.t 37)), none⟩] [36])
                  (.cond (.t 36)
                   (.seq (.reg [⟨(some 38), .pl (.build [.int .i64 0] [(0, 1, (.c (.int .i64 1)))]), none⟩,
                       ⟨(some 39), .pl (.mkif 62 (.t 38)), none⟩,
                       ⟨(some 2), .pl (.mv (.t 39)), none⟩] [2])
                    (.ret))
                   (.skip)))))))))))))))))))
  (.seq (.reg [⟨(some 2), .pl (.mv (.c (.nilif))), none⟩] [2])
  (.ret)))⟩
theorem c29 : compF Tryd.prog 29 = some A29 := by kernel_rfl

/-- strconv.FormatInt -/
def A32 : AFun := ⟨8, [.t 4],
  .seq (.reg [⟨(some 4), .pl (.mv (.c (.str ⟨#[]⟩))), none⟩] [0, 1])
  (.seq (.reg [⟨(some 5), .pl (.mv (.t 0)), none⟩,
     ⟨(some 6), .pl (.mv (.t 1)), none⟩,
     ⟨(some 7), .call (.c (.fn 63 [] [])) [(.t 5), (.t 6)], none⟩,
     ⟨(some 4), .pl (.mv (.t 7)), none⟩] [4])
  (.ret))⟩
theorem c32 : compF Tryd.prog 32 = some A32 := by kernel_rfl

/-- concourse/value.items -/
def A34_l0 : AC := .seq (.reg [⟨(some 14), .pl (.bin .lss .no (.t 13) (.t 12)), none⟩] [1, 2, 5, 11, 12, 13, 14])
  (.seq (.cond (.t 14)
    (.skip)
    (.exit 0))
  (.seq (.block 1 (.seq (.reg [⟨(some 15), .pl (.mv (.t 13)), none⟩,
       ⟨(some 16), .pl (.ia 5 (.t 11) (.t 13)), none⟩,
       ⟨(some 17), .pl (.load (some 5) (.t 16)), none⟩,
       ⟨(some 7), .pl (.alloc [.int .i64 0, .int .i64 0, .str ⟨#[]⟩, .esl, .esl]), none⟩,
       ⟨(some 6), .pl (.mv (.t 15)), none⟩,
       ⟨none, .pl (.store 5 (.t 7) (.t 17)), none⟩] [1, 2, 5, 6, 7, 11, 12, 13])
    (.seq (.reg [⟨(some 18), .pl (.load (some 5) (.t 7)), none⟩,
       ⟨(some 19), .call (.c (.fn 11 [] [])) [(.t 18)], none⟩,
       ⟨(some 8), .pl (.mv (.t 19)), none⟩] [1, 2, 5, 6, 8, 11, 12, 13])
    (.seq (.seq (.reg [⟨(some 20), .pl (.mv (.t 1)), none⟩] [1, 2, 5, 6, 8, 11, 12, 13, 20])
     (.cond (.t 20)
      (.seq (.reg [⟨(some 9), .pl (.mv (.c (.int .i64 0))), none⟩] [1, 2, 5, 6, 8, 9, 11, 12, 13])
       (.seq (.seq (.reg [⟨(some 21), .pl (.mv (.t 6)), none⟩,
           ⟨(some 22), .pl (.fa 3 (.t 2)), none⟩,
           ⟨(some 23), .pl (.load none (.t 22)), none⟩,
           ⟨(some 24), .pl (.lenL (.t 23)), none⟩,
           ⟨(some 25), .pl (.bin .lss .no (.t 21) (.t 24)), none⟩] [1, 2, 5, 6, 8, 9, 11, 12, 13, 25])
        (.cond (.t 25)
         (.reg [⟨(some 26), .pl (.fa 3 (.t 2)), none⟩,
            ⟨(some 27), .pl (.load none (.t 26)), none⟩,
            ⟨(some 28), .pl (.mv (.t 6)), none⟩,
            ⟨(some 29), .pl (.ia 1 (.t 27) (.t 28)), none⟩,
            ⟨(some 30), .pl (.load none (.t 29)), none⟩,
            ⟨(some 9), .pl (.mv (.t 30)), none⟩] [1, 2, 5, 8, 9, 11, 12, 13])
         (.skip)))
       (.reg [⟨(some 31), .pl (.mv (.t 9)), none⟩,
         ⟨(some 32), .call (.c (.fn 66 [] [])) [(.t 31)], none⟩,
         ⟨(some 33), .pl (.bin .add .no (.t 32) (.c (.str ⟨#[61]⟩))), none⟩,
         ⟨(some 34), .pl (.mv (.t 8)), none⟩,
         ⟨(some 35), .pl (.bin .add .no (.t 33) (.t 34)), none⟩,
         ⟨(some 8), .pl (.mv (.t 35)), none⟩] [1, 2, 5, 8, 11, 12, 13])))
      (.skip)))
    (.reg [⟨(some 36), .pl (.mv (.t 5)), none⟩,
      ⟨(some 37), .pl (.mv (.t 8)), none⟩,
      ⟨(some 38), .pl (.lit 1 [(.t 37)]), none⟩,
      ⟨(some 39), .pl (.append 9 1 16 (.t 36) (.t 38)), none⟩,
      ⟨(some 5), .pl (.mv (.t 39)), none⟩] [1, 2, 5, 11, 12, 13])))))
  (.reg [⟨(some 40), .pl (.bin .add .no (.t 13) (.c (.int .i64 1))), none⟩,
    ⟨(some 13), .pl (.mv (.t 40)), none⟩] [1, 2, 5, 11, 12, 13])))
def A34_r0 : AC := .seq (.reg [⟨(some 41), .pl (.mv (.t 5)), none⟩,
     ⟨(some 42), .call (.c (.fn 67 [] [])) [(.t 41), (.c (.str ⟨#[44]⟩))], none⟩,
     ⟨(some 4), .pl (.mv (.t 42)), none⟩] [4])
  (.ret)
def A34 : AFun := ⟨43, [.t 4],
  .seq (.reg [⟨(some 2), .pl (.box (.t 0)), none⟩,
     ⟨(some 4), .pl (.mv (.c (.str ⟨#[]⟩))), none⟩] [1, 2])
  (.seq (.reg [⟨(some 5), .pl (.mv (.c (.esl))), none⟩] [1, 2, 5])
  (.seq (.seq (.reg [⟨(some 10), .pl (.fa 4 (.t 2)), none⟩,
      ⟨(some 11), .pl (.load none (.t 10)), none⟩,
      ⟨(some 12), .pl (.lenL (.t 11)), none⟩,
      ⟨(some 13), .pl (.mv (.c (.int .i64 0))), none⟩] [1, 2, 5, 11, 12, 13])
   (.block 0 (.loop [1, 2, 5, 11, 12, 13] A34_l0)))
  (A34_r0)))⟩
theorem c34 : compF Tryd.prog 34 = some A34 := by kernel_rfl

/-- slices.ContainsFunc[[]concourse/api.Value,concourse/api.Value] -/
def A40 : AFun := ⟨9, [.t 4],
  .seq (.reg [⟨(some 4), .pl (.mv (.c (.bool false))), none⟩] [0, 1])
  (.seq (.reg [⟨(some 5), .pl (.mv (.t 0)), none⟩,
     ⟨(some 6), .pl (.mv (.t 1)), none⟩,
     ⟨(some 7), .call (.c (.fn 70 [] [])) [(.t 5), (.t 6)], none⟩,
     ⟨(some 8), .pl (.bin .geq .no (.t 7) (.c (.int .i64 0))), none⟩,
     ⟨(some 4), .pl (.mv (.t 8)), none⟩] [4])
  (.ret))⟩
theorem c40 : compF Tryd.prog 40 = some A40 := by kernel_rfl

/-- concourse/value.Well$1 -/
def A41 : AFun := ⟨6, [.t 2],
  .seq (.reg [⟨(some 1), .pl (.box (.t 0)), none⟩,
     ⟨(some 2), .pl (.mv (.c (.bool false))), none⟩] [1])
  (.seq (.reg [⟨(some 3), .pl (.load (some 5) (.t 1)), none⟩,
     ⟨(some 4), .call (.c (.fn 13 [] [])) [(.t 3)], none⟩,
     ⟨(some 5), .pl (.un .not (.t 4)), none⟩,
     ⟨(some 2), .pl (.mv (.t 5)), none⟩] [2])
  (.ret))⟩
theorem c41 : compF Tryd.prog 41 = some A41 := by kernel_rfl

/-- slices.Equal[[]int,int] -/
def A43_l0 : AC := .seq (.reg [⟨(some 14), .pl (.bin .lss .no (.t 13) (.t 12)), none⟩] [0, 1, 12, 13, 14])
  (.seq (.cond (.t 14)
    (.skip)
    (.exit 0))
  (.seq (.block 1 (.seq (.reg [⟨(some 15), .pl (.mv (.t 13)), none⟩,
       ⟨(some 5), .pl (.mv (.t 15)), none⟩] [0, 1, 5, 12, 13])
    (.seq (.regD [⟨(some 16), .pl (.mv (.t 0)), none⟩,
       ⟨(some 17), .pl (.mv (.t 5)), none⟩,
       ⟨(some 18), .pl (.ia 1 (.t 16) (.t 17)), none⟩,
       ⟨(some 19), .pl (.load none (.t 18)), none⟩,
       ⟨(some 20), .pl (.mv (.t 1)), none⟩,
       ⟨(some 21), .pl (.mv (.t 5)), none⟩,
       ⟨(some 22), .pl (.ia 1 (.t 20) (.t 21)), none⟩,
       ⟨(some 23), .pl (.load none (.t 22)), none⟩,
       ⟨(some 24), .pl (.bin .neq .no (.t 19) (.t 23)), none⟩] [] [0, 1, 12, 13, 24])
    (.cond (.t 24)
     (.seq (.reg [⟨(some 4), .pl (.mv (.c (.bool false))), none⟩] [4])
      (.ret))
     (.skip)))))
  (.reg [⟨(some 25), .pl (.bin .add .no (.t 13) (.c (.int .i64 1))), none⟩,
    ⟨(some 13), .pl (.mv (.t 25)), none⟩] [0, 1, 12, 13])))
def A43_r0 : AC := .seq (.reg [⟨(some 4), .pl (.mv (.c (.bool true))), none⟩] [4])
  (.ret)
def A43 : AFun := ⟨26, [.t 4],
  .seq (.reg [⟨(some 4), .pl (.mv (.c (.bool false))), none⟩] [0, 1])
  (.seq (.seq (.reg [⟨(some 6), .pl (.mv (.t 0)), none⟩,
      ⟨(some 7), .pl (.lenL (.t 6)), none⟩,
      ⟨(some 8), .pl (.mv (.t 1)), none⟩,
      ⟨(some 9), .pl (.lenL (.t 8)), none⟩,
      ⟨(some 10), .pl (.bin .neq .no (.t 7) (.t 9)), none⟩] [0, 1, 10])
   (.cond (.t 10)
    (.seq (.reg [⟨(some 4), .pl (.mv (.c (.bool false))), none⟩] [4])
     (.ret))
    (.skip)))
  (.seq (.seq (.reg [⟨(some 11), .pl (.mv (.t 0)), none⟩,
      ⟨(some 12), .pl (.lenL (.t 11)), none⟩,
      ⟨(some 13), .pl (.mv (.c (.int .i64 0))), none⟩] [0, 1, 12, 13])
   (.block 0 (.loop [0, 1, 12, 13] A43_l0)))
  (A43_r0)))⟩
theorem c43 : compF Tryd.prog 43 = some A43 := by kernel_rfl

/-- slices.EqualFunc[[]concourse/api.Value,[]concourse/api.Value,concourse/api.Value,concourse/api.Value] -/
def A44_l0 : AC := .seq (.reg [⟨(some 18), .pl (.bin .lss .no (.t 17) (.t 16)), none⟩] [1, 2, 15, 16, 17, 18])
  (.seq (.cond (.t 18)
    (.skip)
    (.exit 0))
  (.seq (.block 1 (.seq (.reg [⟨(some 19), .pl (.mv (.t 17)), none⟩,
       ⟨(some 20), .pl (.ia 5 (.t 15) (.t 17)), none⟩,
       ⟨(some 21), .pl (.load (some 5) (.t 20)), none⟩,
       ⟨(some 8), .pl (.alloc [.int .i64 0, .int .i64 0, .str ⟨#[]⟩, .esl, .esl]), none⟩,
       ⟨(some 7), .pl (.mv (.t 19)), none⟩,
       ⟨none, .pl (.store 5 (.t 8) (.t 21)), none⟩] [1, 2, 7, 8, 15, 16, 17])
    (.seq (.reg [⟨(some 22), .pl (.mv (.t 1)), none⟩,
       ⟨(some 23), .pl (.mv (.t 7)), none⟩,
       ⟨(some 24), .pl (.ia 5 (.t 22) (.t 23)), none⟩,
       ⟨(some 25), .pl (.load (some 5) (.t 24)), none⟩,
       ⟨(some 9), .pl (.alloc [.int .i64 0, .int .i64 0, .str ⟨#[]⟩, .esl, .esl]), none⟩,
       ⟨none, .pl (.store 5 (.t 9) (.t 25)), none⟩] [1, 2, 8, 9, 15, 16, 17])
    (.seq (.reg [⟨(some 26), .pl (.mv (.t 2)), none⟩,
       ⟨(some 27), .pl (.load (some 5) (.t 8)), none⟩,
       ⟨(some 28), .pl (.load (some 5) (.t 9)), none⟩,
       ⟨(some 29), .call (.t 26) [(.t 27), (.t 28)], none⟩,
       ⟨(some 30), .pl (.un .not (.t 29)), none⟩] [1, 2, 15, 16, 17, 30])
    (.cond (.t 30)
     (.seq (.reg [⟨(some 6), .pl (.mv (.c (.bool false))), none⟩] [6])
      (.ret))
     (.skip))))))
  (.reg [⟨(some 31), .pl (.bin .add .no (.t 17) (.c (.int .i64 1))), none⟩,
    ⟨(some 17), .pl (.mv (.t 31)), none⟩] [1, 2, 15, 16, 17])))
def A44_r0 : AC := .seq (.reg [⟨(some 6), .pl (.mv (.c (.bool true))), none⟩] [6])
  (.ret)
def A44 : AFun := ⟨32, [.t 6],
  .seq (.reg [⟨(some 6), .pl (.mv (.c (.bool false))), none⟩] [0, 1, 2])
  (.seq (.seq (.reg [⟨(some 10), .pl (.mv (.t 0)), none⟩,
      ⟨(some 11), .pl (.lenL (.t 10)), none⟩,
      ⟨(some 12), .pl (.mv (.t 1)), none⟩,
      ⟨(some 13), .pl (.lenL (.t 12)), none⟩,
      ⟨(some 14), .pl (.bin .neq .no (.t 11) (.t 13)), none⟩] [0, 1, 2, 14])
   (.cond (.t 14)
    (.seq (.reg [⟨(some 6), .pl (.mv (.c (.bool false))), none⟩] [6])
     (.ret))
    (.skip)))
  (.seq (.seq (.reg [⟨(some 15), .pl (.mv (.t 0)), none⟩,
      ⟨(some 16), .pl (.lenL (.t 15)), none⟩,
      ⟨(some 17), .pl (.mv (.c (.int .i64 0))), none⟩] [1, 2, 15, 16, 17])
   (.block 0 (.loop [1, 2, 15, 16, 17] A44_l0)))
  (A44_r0)))⟩
theorem c44 : compF Tryd.prog 44 = some A44 := by kernel_rfl

/-- concourse/concourseref04.Ints -/
def A45_l0 : AC := .seq (.seq (.reg [⟨(some 11), .pl (.mv (.t 5)), none⟩,
      ⟨(some 12), .pl (.mv (.t 0)), none⟩,
      ⟨(some 13), .pl (.lenL (.t 12)), none⟩,
      ⟨(some 14), .pl (.bin .lss .no (.t 11) (.t 13)), none⟩] [0, 1, 5, 14])
   (.cond (.t 14)
    (.skip)
    (.exit 0)))
  (.seq (.block 1 (.seq (.regD [⟨(some 17), .pl (.mv (.t 0)), none⟩,
       ⟨(some 18), .pl (.mv (.t 5)), none⟩,
       ⟨(some 19), .pl (.ia 1 (.t 17) (.t 18)), none⟩,
       ⟨(some 20), .pl (.load none (.t 19)), none⟩,
       ⟨(some 21), .pl (.mv (.t 1)), none⟩,
       ⟨(some 22), .pl (.mv (.t 5)), none⟩,
       ⟨(some 23), .pl (.ia 1 (.t 21) (.t 22)), none⟩,
       ⟨(some 24), .pl (.load none (.t 23)), none⟩,
       ⟨(some 25), .pl (.bin .neq .no (.t 20) (.t 24)), none⟩] [] [0, 1, 5, 25])
    (.cond (.t 25)
     (.seq (.reg [⟨(some 4), .pl (.mv (.c (.bool false))), none⟩] [4])
      (.ret))
     (.skip))))
  (.reg [⟨(some 15), .pl (.mv (.t 5)), none⟩,
    ⟨(some 16), .pl (.bin .add .no (.t 15) (.c (.int .i64 1))), none⟩,
    ⟨(some 5), .pl (.mv (.t 16)), none⟩] [0, 1, 5]))
def A45_r0 : AC := .seq (.reg [⟨(some 4), .pl (.mv (.c (.bool true))), none⟩] [4])
  (.ret)
def A45 : AFun := ⟨26, [.t 4],
  .seq (.reg [⟨(some 4), .pl (.mv (.c (.bool false))), none⟩] [0, 1])
  (.seq (.seq (.reg [⟨(some 6), .pl (.mv (.t 0)), none⟩,
      ⟨(some 7), .pl (.lenL (.t 6)), none⟩,
      ⟨(some 8), .pl (.mv (.t 1)), none⟩,
      ⟨(some 9), .pl (.lenL (.t 8)), none⟩,
      ⟨(some 10), .pl (.bin .neq .no (.t 7) (.t 9)), none⟩] [0, 1, 10])
   (.cond (.t 10)
    (.seq (.reg [⟨(some 4), .pl (.mv (.c (.bool false))), none⟩] [4])
     (.ret))
    (.skip)))
  (.seq (.seq (.reg [⟨(some 5), .pl (.mv (.c (.int .i64 0))), none⟩] [0, 1, 5])
   (.block 0 (.loop [0, 1, 5] A45_l0)))
  (A45_r0)))⟩
theorem c45 : compF Tryd.prog 45 = some A45 := by kernel_rfl

/-- cmp.Compare[int] -/
def A46 : AFun := ⟨20, [.t 4],
  .seq (.reg [⟨(some 4), .pl (.mv (.c (.int .i64 0))), none⟩] [0, 1])
  (.seq (.reg [⟨(some 7), .pl (.mv (.t 0)), none⟩,
     ⟨(some 8), .call (.c (.fn 75 [] [])) [(.t 7)], none⟩,
     ⟨(some 5), .pl (.mv (.t 8)), none⟩] [0, 1, 5])
  (.seq (.reg [⟨(some 9), .pl (.mv (.t 1)), none⟩,
     ⟨(some 10), .call (.c (.fn 75 [] [])) [(.t 9)], none⟩,
     ⟨(some 6), .pl (.mv (.t 10)), none⟩] [0, 1, 5, 6])
  (.seq (.seq (.reg [⟨(some 11), .pl (.mv (.t 5)), none⟩] [0, 1, 6, 11])
   (.cond (.t 11)
    (.seq (.seq (.reg [⟨(some 12), .pl (.mv (.t 6)), none⟩] [12])
      (.cond (.t 12)
       (.seq (.reg [⟨(some 4), .pl (.mv (.c (.int .i64 0))), none⟩] [4])
        (.ret))
       (.skip)))
     (.seq (.reg [⟨(some 4), .pl (.mv (.c (.int .i64 (-1)))), none⟩] [4])
     (.ret)))
    (.skip)))
  (.seq (.seq (.reg [⟨(some 13), .pl (.mv (.t 6)), none⟩] [0, 1, 13])
   (.cond (.t 13)
    (.seq (.reg [⟨(some 4), .pl (.mv (.c (.int .i64 1))), none⟩] [4])
     (.ret))
    (.skip)))
  (.seq (.seq (.reg [⟨(some 14), .pl (.mv (.t 0)), none⟩,
      ⟨(some 15), .pl (.mv (.t 1)), none⟩,
      ⟨(some 16), .pl (.bin .lss .no (.t 14) (.t 15)), none⟩] [0, 1, 16])
   (.cond (.t 16)
    (.seq (.reg [⟨(some 4), .pl (.mv (.c (.int .i64 (-1)))), none⟩] [4])
     (.ret))
    (.skip)))
  (.seq (.seq (.reg [⟨(some 17), .pl (.mv (.t 0)), none⟩,
      ⟨(some 18), .pl (.mv (.t 1)), none⟩,
      ⟨(some 19), .pl (.bin .gtr .no (.t 17) (.t 18)), none⟩] [19])
   (.cond (.t 19)
    (.seq (.reg [⟨(some 4), .pl (.mv (.c (.int .i64 1))), none⟩] [4])
     (.ret))
    (.skip)))
  (.seq (.reg [⟨(some 4), .pl (.mv (.c (.int .i64 0))), none⟩] [4])
  (.ret))))))))⟩
theorem c46 : compF Tryd.prog 46 = some A46 := by kernel_rfl

/-- concourse/value.keyed -/
def A47 : AFun := ⟨10, [.t 2],
  .seq (.reg [⟨(some 2), .pl (.mv (.c (.bool false))), none⟩] [0])
  (.seq (.seq (.reg [⟨(some 3), .pl (.mv (.t 0)), none⟩] [3])
   (.block 0 (.seq (.seq (.reg [⟨(some 5), .pl (.bin .eql .no (.t 3) (.c (.int .i64 1))), none⟩,
        ⟨(some 4), .pl (.mv (.t 5)), none⟩] [3, 4])
     (.cond (.t 4)
      (.skip)
      (.seq (.reg [⟨(some 6), .pl (.bin .eql .no (.t 3) (.c (.int .i64 2))), none⟩,
          ⟨(some 4), .pl (.mv (.t 6)), none⟩] [3, 4])
       (.cond (.t 4)
        (.skip)
        (.seq (.reg [⟨(some 7), .pl (.bin .eql .no (.t 3) (.c (.int .i64 3))), none⟩,
            ⟨(some 4), .pl (.mv (.t 7)), none⟩] [3, 4])
         (.cond (.t 4)
          (.skip)
          (.seq (.reg [⟨(some 8), .pl (.bin .eql .no (.t 3) (.c (.int .i64 6))), none⟩,
              ⟨(some 4), .pl (.mv (.t 8)), none⟩] [3, 4])
           (.cond (.t 4)
            (.skip)
            (.reg [⟨(some 9), .pl (.bin .eql .no (.t 3) (.c (.int .i64 4))), none⟩,
               ⟨(some 4), .pl (.mv (.t 9)), none⟩] [4])))))))))
    (.cond (.t 4)
     (.seq (.reg [⟨(some 2), .pl (.mv (.c (.bool true))), none⟩] [2])
      (.ret))
     (.skip)))))
  (.seq (.reg [⟨(some 2), .pl (.mv (.c (.bool false))), none⟩] [2])
  (.ret)))⟩
theorem c47 : compF Tryd.prog 47 = some A47 := by kernel_rfl

/-- cmp.Compare[uint64] -/
def A49 : AFun := ⟨20, [.t 4],
  .seq (.reg [⟨(some 4), .pl (.mv (.c (.int .i64 0))), none⟩] [0, 1])
  (.seq (.reg [⟨(some 7), .pl (.mv (.t 0)), none⟩,
     ⟨(some 8), .call (.c (.fn 77 [] [])) [(.t 7)], none⟩,
     ⟨(some 5), .pl (.mv (.t 8)), none⟩] [0, 1, 5])
  (.seq (.reg [⟨(some 9), .pl (.mv (.t 1)), none⟩,
     ⟨(some 10), .call (.c (.fn 77 [] [])) [(.t 9)], none⟩,
     ⟨(some 6), .pl (.mv (.t 10)), none⟩] [0, 1, 5, 6])
  (.seq (.seq (.reg [⟨(some 11), .pl (.mv (.t 5)), none⟩] [0, 1, 6, 11])
   (.cond (.t 11)
    (.seq (.seq (.reg [⟨(some 12), .pl (.mv (.t 6)), none⟩] [12])
      (.cond (.t 12)
       (.seq (.reg [⟨(some 4), .pl (.mv (.c (.int .i64 0))), none⟩] [4])
        (.ret))
       (.skip)))
     (.seq (.reg [⟨(some 4), .pl (.mv (.c (.int .i64 (-1)))), none⟩] [4])
     (.ret)))
    (.skip)))
  (.seq (.seq (.reg [⟨(some 13), .pl (.mv (.t 6)), none⟩] [0, 1, 13])
   (.cond (.t 13)
    (.seq (.reg [⟨(some 4), .pl (.mv (.c (.int .i64 1))), none⟩] [4])
     (.ret))
    (.skip)))
  (.seq (.seq (.reg [⟨(some 14), .pl (.mv (.t 0)), none⟩,
      ⟨(some 15), .pl (.mv (.t 1)), none⟩,
      ⟨(some 16), .pl (.bin .lss .no (.t 14) (.t 15)), none⟩] [0, 1, 16])
   (.cond (.t 16)
    (.seq (.reg [⟨(some 4), .pl (.mv (.c (.int .i64 (-1)))), none⟩] [4])
     (.ret))
    (.skip)))
  (.seq (.seq (.reg [⟨(some 17), .pl (.mv (.t 0)), none⟩,
      ⟨(some 18), .pl (.mv (.t 1)), none⟩,
      ⟨(some 19), .pl (.bin .gtr .no (.t 17) (.t 18)), none⟩] [19])
   (.cond (.t 19)
    (.seq (.reg [⟨(some 4), .pl (.mv (.c (.int .i64 1))), none⟩] [4])
     (.ret))
    (.skip)))
  (.seq (.reg [⟨(some 4), .pl (.mv (.c (.int .i64 0))), none⟩] [4])
  (.ret))))))))⟩
theorem c49 : compF Tryd.prog 49 = some A49 := by kernel_rfl

/-- cmp.Compare[int64] -/
def A50 : AFun := ⟨20, [.t 4],
  .seq (.reg [⟨(some 4), .pl (.mv (.c (.int .i64 0))), none⟩] [0, 1])
  (.seq (.reg [⟨(some 7), .pl (.mv (.t 0)), none⟩,
     ⟨(some 8), .call (.c (.fn 78 [] [])) [(.t 7)], none⟩,
     ⟨(some 5), .pl (.mv (.t 8)), none⟩] [0, 1, 5])
  (.seq (.reg [⟨(some 9), .pl (.mv (.t 1)), none⟩,
     ⟨(some 10), .call (.c (.fn 78 [] [])) [(.t 9)], none⟩,
     ⟨(some 6), .pl (.mv (.t 10)), none⟩] [0, 1, 5, 6])
  (.seq (.seq (.reg [⟨(some 11), .pl (.mv (.t 5)), none⟩] [0, 1, 6, 11])
   (.cond (.t 11)
    (.seq (.seq (.reg [⟨(some 12), .pl (.mv (.t 6)), none⟩] [12])
      (.cond (.t 12)
       (.seq (.reg [⟨(some 4), .pl (.mv (.c (.int .i64 0))), none⟩] [4])
        (.ret))
       (.skip)))
     (.seq (.reg [⟨(some 4), .pl (.mv (.c (.int .i64 (-1)))), none⟩] [4])
     (.ret)))
    (.skip)))
  (.seq (.seq (.reg [⟨(some 13), .pl (.mv (.t 6)), none⟩] [0, 1, 13])
   (.cond (.t 13)
    (.seq (.reg [⟨(some 4), .pl (.mv (.c (.int .i64 1))), none⟩] [4])
     (.ret))
    (.skip)))
  (.seq (.seq (.reg [⟨(some 14), .pl (.mv (.t 0)), none⟩,
      ⟨(some 15), .pl (.mv (.t 1)), none⟩,
      ⟨(some 16), .pl (.bin .lss .no (.t 14) (.t 15)), none⟩] [0, 1, 16])
   (.cond (.t 16)
    (.seq (.reg [⟨(some 4), .pl (.mv (.c (.int .i64 (-1)))), none⟩] [4])
     (.ret))
    (.skip)))
  (.seq (.seq (.reg [⟨(some 17), .pl (.mv (.t 0)), none⟩,
      ⟨(some 18), .pl (.mv (.t 1)), none⟩,
      ⟨(some 19), .pl (.bin .gtr .no (.t 17) (.t 18)), none⟩] [19])
   (.cond (.t 19)
    (.seq (.reg [⟨(some 4), .pl (.mv (.c (.int .i64 1))), none⟩] [4])
     (.ret))
    (.skip)))
  (.seq (.reg [⟨(some 4), .pl (.mv (.c (.int .i64 0))), none⟩] [4])
  (.ret))))))))⟩
theorem c50 : compF Tryd.prog 50 = some A50 := by kernel_rfl

/-- concourse/concourseref15.order -/
def A51 : AFun := ⟨7, [.t 4],
  .seq (.reg [⟨(some 4), .pl (.mv (.c (.int .i64 0))), none⟩] [0, 1])
  (.seq (.seq (.reg [⟨(some 5), .pl (.mv (.t 0)), none⟩] [1, 5])
   (.cond (.t 5)
    (.seq (.reg [⟨(some 4), .pl (.mv (.c (.int .i64 (-1)))), none⟩] [4])
     (.ret))
    (.skip)))
  (.seq (.seq (.reg [⟨(some 6), .pl (.mv (.t 1)), none⟩] [6])
   (.cond (.t 6)
    (.seq (.reg [⟨(some 4), .pl (.mv (.c (.int .i64 1))), none⟩] [4])
     (.ret))
    (.skip)))
  (.seq (.reg [⟨(some 4), .pl (.mv (.c (.int .i64 0))), none⟩] [4])
  (.ret))))⟩
theorem c51 : compF Tryd.prog 51 = some A51 := by kernel_rfl

/-- internal/strconv.FormatInt -/
def A63 : AFun := ⟨54, [.t 4],
  .seq (.reg [⟨(some 4), .pl (.mv (.c (.str ⟨#[]⟩))), none⟩] [0, 1])
  (.seq (.seq (.reg [⟨(some 10), .pl (.mv (.t 1)), none⟩,
      ⟨(some 11), .pl (.bin .eql .no (.t 10) (.c (.int .i64 10))), none⟩] [0, 1, 11])
   (.cond (.t 11)
    (.seq (.seq (.reg [⟨(some 12), .pl (.mv (.t 0)), none⟩,
         ⟨(some 13), .pl (.bin .leq .no (.c (.int .i64 0)) (.t 12)), none⟩,
         ⟨(some 14), .pl (.mv (.t 13)), none⟩,
         ⟨(some 15), .pl (.mv (.t 0)), (some (14, true))⟩,
         ⟨(some 16), .pl (.bin .lss .no (.t 15) (.c (.int .i64 100))), (some (14, true))⟩,
         ⟨(some 17), .pl (.pick (.t 14) (.t 16) (.c (.bool false))), none⟩] [0, 17])
      (.cond (.t 17)
       (.seq (.reg [⟨(some 18), .pl (.mv (.t 0)), none⟩,
           ⟨(some 19), .call (.c (.fn 96 [] [])) [(.t 18)], none⟩,
           ⟨(some 4), .pl (.mv (.t 19)), none⟩] [4])
        (.ret))
       (.skip)))
     (.seq (.reg [⟨(some 5), .pl (.alloc [.int .u8 0, .int .u8 0, .int .u8 0, .int .u8 0, .int .u8 0, .int .u8 0, .int .u8 0, .int .u8 0, .int .u8 0, .int .u8 0, .int .u8 0, .int .u8 0, .int .u8 0, .int .u8 0, .int .u8 0, .int .u8 0, .int .u8 0, .int .u8 0, .int .u8 0, .int .u8 0, .int .u8 0, .int .u8 0, .int .u8 0, .int .u8 0]), none⟩] [0])
     (.seq (.reg [⟨(some 20), .pl (.mv (.t 0)), none⟩,
        ⟨(some 21), .pl (.conv .u64 (.t 20)), none⟩,
        ⟨(some 6), .pl (.mv (.t 21)), none⟩] [0, 6])
     (.seq (.seq (.reg [⟨(some 22), .pl (.mv (.t 0)), none⟩,
         ⟨(some 23), .pl (.bin .lss .no (.t 22) (.c (.int .i64 0))), none⟩] [6, 23])
      (.cond (.t 23)
       (.reg [⟨(some 24), .pl (.mv (.t 6)), none⟩,
          ⟨(some 25), .pl (.un .neg (.t 24)), none⟩,
          ⟨(some 6), .pl (.mv (.t 25)), none⟩] [6])
       (.skip)))
     (.seq (.reg [⟨(some 26), .pl (.mv (.t 6)), none⟩,
        ⟨(some 27), .call (.c (.fn 97 [] [])) [(.t 26)], none⟩,
        ⟨(some 7), .pl (.mv (.t 27)), none⟩] [])
     (.seq (.fail)
     (.seq (.seq (.reg [⟨(some 33), .pl (.mv (.t 0)), none⟩,
         ⟨(some 34), .pl (.bin .lss .no (.t 33) (.c (.int .i64 0))), none⟩] [5, 34])
      (.cond (.t 34)
       (.seq (.reg [⟨(some 35), .pl (.iaA 24 1 (.t 5) (.c (.int .i64 0))), none⟩,
           ⟨none, .pl (.store 1 (.t 35) (.c (.int .u8 45))), none⟩] [])
        (.seq (.fail)
        (.ret)))
       (.skip)))
     (.seq (.fail)
     (.ret)))))))))
    (.skip)))
  (.seq (.reg [⟨(some 45), .pl (.mv (.t 0)), none⟩,
     ⟨(some 46), .pl (.conv .u64 (.t 45)), none⟩,
     ⟨(some 47), .pl (.mv (.t 1)), none⟩,
     ⟨(some 48), .pl (.mv (.t 0)), none⟩,
     ⟨(some 49), .pl (.bin .lss .no (.t 48) (.c (.int .i64 0))), none⟩,
     ⟨(some 50), .call (.c (.fn 99 [] [])) [(.c (.esl)), (.t 46), (.t 47), (.t 49), (.c (.bool false))], none⟩,
     ⟨(some 44), .pl (.mv (.t 50)), none⟩,
     ⟨(some 51), .pl (.ext 0 (.t 44)), none⟩,
     ⟨(some 52), .pl (.ext 1 (.t 44)), none⟩,
     ⟨(some 8), .pl (.mv (.t 51)), none⟩,
     ⟨(some 9), .pl (.mv (.t 52)), none⟩] [9])
  (.seq (.reg [⟨(some 53), .pl (.mv (.t 9)), none⟩,
     ⟨(some 4), .pl (.mv (.t 53)), none⟩] [4])
  (.ret))))⟩
theorem c63 : compF Tryd.prog 63 = some A63 := by kernel_rfl

/-- strconv.Itoa -/
def A66 : AFun := ⟨5, [.t 2],
  .seq (.reg [⟨(some 2), .pl (.mv (.c (.str ⟨#[]⟩))), none⟩] [0])
  (.seq (.reg [⟨(some 3), .pl (.mv (.t 0)), none⟩,
     ⟨(some 4), .call (.c (.fn 101 [] [])) [(.t 3)], none⟩,
     ⟨(some 2), .pl (.mv (.t 4)), none⟩] [2])
  (.ret))⟩
theorem c66 : compF Tryd.prog 66 = some A66 := by kernel_rfl

/-- slices.IndexFunc[[]concourse/api.Value,concourse/api.Value] -/
def A70_l0 : AC := .seq (.reg [⟨(some 9), .pl (.bin .lss .no (.t 8) (.t 7)), none⟩] [0, 1, 7, 8, 9])
  (.seq (.cond (.t 9)
    (.skip)
    (.exit 0))
  (.seq (.block 1 (.seq (.reg [⟨(some 10), .pl (.mv (.t 8)), none⟩,
       ⟨(some 5), .pl (.mv (.t 10)), none⟩] [0, 1, 5, 7, 8])
    (.seq (.reg [⟨(some 11), .pl (.mv (.t 1)), none⟩,
       ⟨(some 12), .pl (.mv (.t 0)), none⟩,
       ⟨(some 13), .pl (.mv (.t 5)), none⟩,
       ⟨(some 14), .pl (.ia 5 (.t 12) (.t 13)), none⟩,
       ⟨(some 15), .pl (.load (some 5) (.t 14)), none⟩,
       ⟨(some 16), .call (.t 11) [(.t 15)], none⟩] [0, 1, 5, 7, 8, 16])
    (.cond (.t 16)
     (.seq (.reg [⟨(some 17), .pl (.mv (.t 5)), none⟩,
         ⟨(some 4), .pl (.mv (.t 17)), none⟩] [4])
      (.ret))
     (.skip)))))
  (.reg [⟨(some 18), .pl (.bin .add .no (.t 8) (.c (.int .i64 1))), none⟩,
    ⟨(some 8), .pl (.mv (.t 18)), none⟩] [0, 1, 7, 8])))
def A70_r0 : AC := .seq (.reg [⟨(some 4), .pl (.mv (.c (.int .i64 (-1)))), none⟩] [4])
  (.ret)
def A70 : AFun := ⟨19, [.t 4],
  .seq (.reg [⟨(some 4), .pl (.mv (.c (.int .i64 0))), none⟩] [0, 1])
  (.seq (.seq (.reg [⟨(some 6), .pl (.mv (.t 0)), none⟩,
      ⟨(some 7), .pl (.lenL (.t 6)), none⟩,
      ⟨(some 8), .pl (.mv (.c (.int .i64 0))), none⟩] [0, 1, 7, 8])
   (.block 0 (.loop [0, 1, 7, 8] A70_l0)))
  (A70_r0))⟩
theorem c70 : compF Tryd.prog 70 = some A70 := by kernel_rfl

/-- cmp.isNaN[int] -/
def A75 : AFun := ⟨6, [.t 2],
  .seq (.reg [⟨(some 2), .pl (.mv (.c (.bool false))), none⟩] [0])
  (.seq (.reg [⟨(some 3), .pl (.mv (.t 0)), none⟩,
     ⟨(some 4), .pl (.mv (.t 0)), none⟩,
     ⟨(some 5), .pl (.bin .neq .no (.t 3) (.t 4)), none⟩,
     ⟨(some 2), .pl (.mv (.t 5)), none⟩] [2])
  (.ret))⟩
theorem c75 : compF Tryd.prog 75 = some A75 := by kernel_rfl

/-- cmp.isNaN[uint64] -/
def A77 : AFun := ⟨6, [.t 2],
  .seq (.reg [⟨(some 2), .pl (.mv (.c (.bool false))), none⟩] [0])
  (.seq (.reg [⟨(some 3), .pl (.mv (.t 0)), none⟩,
     ⟨(some 4), .pl (.mv (.t 0)), none⟩,
     ⟨(some 5), .pl (.bin .neq .no (.t 3) (.t 4)), none⟩,
     ⟨(some 2), .pl (.mv (.t 5)), none⟩] [2])
  (.ret))⟩
theorem c77 : compF Tryd.prog 77 = some A77 := by kernel_rfl

/-- cmp.isNaN[int64] -/
def A78 : AFun := ⟨6, [.t 2],
  .seq (.reg [⟨(some 2), .pl (.mv (.c (.bool false))), none⟩] [0])
  (.seq (.reg [⟨(some 3), .pl (.mv (.t 0)), none⟩,
     ⟨(some 4), .pl (.mv (.t 0)), none⟩,
     ⟨(some 5), .pl (.bin .neq .no (.t 3) (.t 4)), none⟩,
     ⟨(some 2), .pl (.mv (.t 5)), none⟩] [2])
  (.ret))⟩
theorem c78 : compF Tryd.prog 78 = some A78 := by kernel_rfl

/-- internal/strconv.small -/
def A96 : AFun := ⟨15, [.t 2],
  .seq (.reg [⟨(some 2), .pl (.mv (.c (.str ⟨#[]⟩))), none⟩] [0])
  (.seq (.seq (.reg [⟨(some 3), .pl (.mv (.t 0)), none⟩,
      ⟨(some 4), .pl (.bin .lss .no (.t 3) (.c (.int .i64 10))), none⟩] [0, 4])
   (.cond (.t 4)
    (.seq (.reg [⟨(some 5), .pl (.mv (.t 0)), none⟩,
        ⟨(some 6), .pl (.mv (.t 0)), none⟩,
        ⟨(some 7), .pl (.bin .add .no (.t 6) (.c (.int .i64 1))), none⟩,
        ⟨(some 8), .pl (.slcS (.c (.str ⟨#[48, 49, 50, 51, 52, 53, 54, 55, 56, 57, 97, 98, 99, 100, 101, 102, 103, 104, 105, 106, 107, 108, 109, 110, 111, 112, 113, 114, 115, 116, 117, 118, 119, 120, 121, 122]⟩)) (some (.t 5)) (some (.t 7))), none⟩,
        ⟨(some 2), .pl (.mv (.t 8)), none⟩] [2])
     (.ret))
    (.skip)))
  (.seq (.reg [⟨(some 9), .pl (.mv (.t 0)), none⟩,
     ⟨(some 10), .pl (.bin .mul .no (.t 9) (.c (.int .i64 2))), none⟩,
     ⟨(some 11), .pl (.mv (.t 0)), none⟩,
     ⟨(some 12), .pl (.bin .mul .no (.t 11) (.c (.int .i64 2))), none⟩,
     ⟨(some 13), .pl (.bin .add .no (.t 12) (.c (.int .i64 2))), none⟩,
     ⟨(some 14), .pl (.slcS (.c (.str ⟨#[48, 48, 48, 49, 48, 50, 48, 51, 48, 52, 48, 53, 48, 54, 48, 55, 48, 56, 48, 57, 49, 48, 49, 49, 49, 50, 49, 51, 49, 52, 49, 53, 49, 54, 49, 55, 49, 56, 49, 57, 50, 48, 50, 49, 50, 50, 50, 51, 50, 52, 50, 53, 50, 54, 50, 55, 50, 56, 50, 57, 51, 48, 51, 49, 51, 50, 51, 51, 51, 52, 51, 53, 51, 54, 51, 55, 51, 56, 51, 57, 52, 48, 52, 49, 52, 50, 52, 51, 52, 52, 52, 53, 52, 54, 52, 55, 52, 56, 52, 57, 53, 48, 53, 49, 53, 50, 53, 51, 53, 52, 53, 53, 53, 54, 53, 55, 53, 56, 53, 57, 54, 48, 54, 49, 54, 50, 54, 51, 54, 52, 54, 53, 54, 54, 54, 55, 54, 56, 54, 57, 55, 48, 55, 49, 55, 50, 55, 51, 55, 52, 55, 53, 55, 54, 55, 55, 55, 56, 55, 57, 56, 48, 56, 49, 56, 50, 56, 51, 56, 52, 56, 53, 56, 54, 56, 55, 56, 56, 56, 57, 57, 48, 57, 49, 57, 50, 57, 51, 57, 52, 57, 53, 57, 54, 57, 55, 57, 56, 57, 57]⟩)) (some (.t 10)) (some (.t 13))), none⟩,
     ⟨(some 2), .pl (.mv (.t 14)), none⟩] [2])
  (.ret)))⟩
theorem c96 : compF Tryd.prog 96 = some A96 := by kernel_rfl

/-- internal/strconv.Itoa -/
def A101 : AFun := ⟨5, [.t 2],
  .seq (.reg [⟨(some 2), .pl (.mv (.c (.str ⟨#[]⟩))), none⟩] [0])
  (.seq (.reg [⟨(some 3), .pl (.mv (.t 0)), none⟩,
     ⟨(some 4), .call (.c (.fn 63 [] [])) [(.t 3), (.c (.int .i64 10))], none⟩,
     ⟨(some 2), .pl (.mv (.t 4)), none⟩] [2])
  (.ret))⟩
theorem c101 : compF Tryd.prog 101 = some A101 := by kernel_rfl

/-- (concourse/value.single).well -/
def A162 : AFun := ⟨26, [.t 4],
  .seq (.reg [⟨(some 2), .pl (.box (.t 0)), none⟩,
     ⟨(some 3), .pl (.box (.t 1)), none⟩,
     ⟨(some 4), .pl (.mv (.c (.bool false))), none⟩] [2, 3])
  (.seq (.reg [⟨(some 5), .pl (.load (some 5) (.t 3)), none⟩,
     ⟨(some 6), .call (.c (.fn 163 [] [])) [(.t 5)], none⟩,
     ⟨(some 7), .pl (.mv (.t 6)), none⟩,
     ⟨(some 8), .pl (.fa 2 (.t 3)), (some (7, true))⟩,
     ⟨(some 9), .pl (.load none (.t 8)), (some (7, true))⟩,
     ⟨(some 10), .pl (.bin .eql .no (.t 9) (.c (.str ⟨#[]⟩))), (some (7, true))⟩,
     ⟨(some 11), .pl (.pick (.t 7) (.t 10) (.c (.bool false))), none⟩,
     ⟨(some 12), .pl (.mv (.t 11)), none⟩,
     ⟨(some 13), .pl (.fa 1 (.t 3)), (some (12, true))⟩,
     ⟨(some 14), .pl (.load none (.t 13)), (some (12, true))⟩,
     ⟨(some 15), .pl (.fa 0 (.t 2)), (some (12, true))⟩,
     ⟨(some 16), .pl (.load none (.t 15)), (some (12, true))⟩,
     ⟨(some 17), .pl (.bin .geq .no (.t 14) (.t 16)), (some (12, true))⟩,
     ⟨(some 18), .pl (.pick (.t 12) (.t 17) (.c (.bool false))), none⟩,
     ⟨(some 19), .pl (.mv (.t 18)), none⟩,
     ⟨(some 20), .pl (.fa 1 (.t 3)), (some (19, true))⟩,
     ⟨(some 21), .pl (.load none (.t 20)), (some (19, true))⟩,
     ⟨(some 22), .pl (.fa 1 (.t 2)), (some (19, true))⟩,
     ⟨(some 23), .pl (.load none (.t 22)), (some (19, true))⟩,
     ⟨(some 24), .pl (.bin .leq .no (.t 21) (.t 23)), (some (19, true))⟩,
     ⟨(some 25), .pl (.pick (.t 19) (.t 24) (.c (.bool false))), none⟩,
     ⟨(some 4), .pl (.mv (.t 25)), none⟩] [4])
  (.ret))⟩
theorem c162 : compF Tryd.prog 162 = some A162 := by kernel_rfl

/-- concourse/value.bare -/
def A163 : AFun := ⟨13, [.t 2],
  .seq (.reg [⟨(some 1), .pl (.box (.t 0)), none⟩,
     ⟨(some 2), .pl (.mv (.c (.bool false))), none⟩] [1])
  (.seq (.reg [⟨(some 3), .pl (.fa 3 (.t 1)), none⟩,
     ⟨(some 4), .pl (.load none (.t 3)), none⟩,
     ⟨(some 5), .pl (.lenL (.t 4)), none⟩,
     ⟨(some 6), .pl (.bin .eql .no (.t 5) (.c (.int .i64 0))), none⟩,
     ⟨(some 7), .pl (.mv (.t 6)), none⟩,
     ⟨(some 8), .pl (.fa 4 (.t 1)), (some (7, true))⟩,
     ⟨(some 9), .pl (.load none (.t 8)), (some (7, true))⟩,
     ⟨(some 10), .pl (.lenL (.t 9)), (some (7, true))⟩,
     ⟨(some 11), .pl (.bin .eql .no (.t 10) (.c (.int .i64 0))), (some (7, true))⟩,
     ⟨(some 12), .pl (.pick (.t 7) (.t 11) (.c (.bool false))), none⟩,
     ⟨(some 2), .pl (.mv (.t 12)), none⟩] [2])
  (.ret))⟩
theorem c163 : compF Tryd.prog 163 = some A163 := by kernel_rfl

/-- (concourse/value.many).well -/
def A169 : AFun := ⟨19, [.t 4],
  .seq (.reg [⟨(some 2), .pl (.box (.t 0)), none⟩,
     ⟨(some 3), .pl (.box (.t 1)), none⟩,
     ⟨(some 4), .pl (.mv (.c (.bool false))), none⟩] [3])
  (.seq (.reg [⟨(some 5), .pl (.fa 1 (.t 3)), none⟩,
     ⟨(some 6), .pl (.load none (.t 5)), none⟩,
     ⟨(some 7), .pl (.bin .eql .no (.t 6) (.c (.int .i64 0))), none⟩,
     ⟨(some 8), .pl (.mv (.t 7)), none⟩,
     ⟨(some 9), .pl (.fa 2 (.t 3)), (some (8, true))⟩,
     ⟨(some 10), .pl (.load none (.t 9)), (some (8, true))⟩,
     ⟨(some 11), .pl (.bin .eql .no (.t 10) (.c (.str ⟨#[]⟩))), (some (8, true))⟩,
     ⟨(some 12), .pl (.pick (.t 8) (.t 11) (.c (.bool false))), none⟩,
     ⟨(some 13), .pl (.mv (.t 12)), none⟩,
     ⟨(some 14), .pl (.fa 3 (.t 3)), (some (13, true))⟩,
     ⟨(some 15), .pl (.load none (.t 14)), (some (13, true))⟩,
     ⟨(some 16), .pl (.lenL (.t 15)), (some (13, true))⟩,
     ⟨(some 17), .pl (.bin .eql .no (.t 16) (.c (.int .i64 0))), (some (13, true))⟩,
     ⟨(some 18), .pl (.pick (.t 13) (.t 17) (.c (.bool false))), none⟩,
     ⟨(some 4), .pl (.mv (.t 18)), none⟩] [4])
  (.ret))⟩
theorem c169 : compF Tryd.prog 169 = some A169 := by kernel_rfl

/-- (concourse/value.tagged).well -/
def A171_l0 : AC := .seq (.reg [⟨(some 42), .pl (.bin .lss .no (.t 41) (.t 40)), none⟩] [5, 39, 40, 41, 42])
  (.seq (.cond (.t 42)
    (.skip)
    (.exit 0))
  (.seq (.block 1 (.seq (.reg [⟨(some 43), .pl (.ia 1 (.t 39) (.t 41)), none⟩,
       ⟨(some 44), .pl (.load none (.t 43)), none⟩,
       ⟨(some 7), .pl (.mv (.t 44)), none⟩] [5, 7, 39, 40, 41])
    (.seq (.seq (.reg [⟨(some 45), .pl (.mv (.t 7)), none⟩,
        ⟨(some 46), .pl (.mv (.t 5)), none⟩,
        ⟨(some 47), .pl (.bin .leq .no (.t 45) (.t 46)), none⟩,
        ⟨(some 48), .pl (.mv (.t 47)), none⟩,
        ⟨(some 49), .pl (.mv (.t 7)), (some (48, false))⟩,
        ⟨(some 50), .pl (.bin .gtr .no (.t 49) (.c (.int .i64 255))), (some (48, false))⟩,
        ⟨(some 51), .pl (.pick (.t 48) (.c (.bool true)) (.t 50)), none⟩] [7, 39, 40, 41, 51])
     (.cond (.t 51)
      (.seq (.reg [⟨(some 4), .pl (.mv (.c (.bool false))), none⟩] [4])
       (.ret))
      (.skip)))
    (.reg [⟨(some 52), .pl (.mv (.t 7)), none⟩,
      ⟨(some 5), .pl (.mv (.t 52)), none⟩] [5, 39, 40, 41]))))
  (.reg [⟨(some 53), .pl (.bin .add .no (.t 41) (.c (.int .i64 1))), none⟩,
    ⟨(some 41), .pl (.mv (.t 53)), none⟩] [5, 39, 40, 41])))
def A171_r0 : AC := .seq (.reg [⟨(some 4), .pl (.mv (.c (.bool true))), none⟩] [4])
  (.ret)
def A171 : AFun := ⟨54, [.t 4],
  .seq (.reg [⟨(some 2), .pl (.box (.t 0)), none⟩,
     ⟨(some 3), .pl (.box (.t 1)), none⟩,
     ⟨(some 4), .pl (.mv (.c (.bool false))), none⟩] [2, 3])
  (.seq (.seq (.reg [⟨(some 8), .pl (.fa 1 (.t 3)), none⟩,
      ⟨(some 9), .pl (.load none (.t 8)), none⟩,
      ⟨(some 10), .pl (.bin .neq .no (.t 9) (.c (.int .i64 0))), none⟩,
      ⟨(some 11), .pl (.mv (.t 10)), none⟩,
      ⟨(some 12), .pl (.fa 2 (.t 3)), (some (11, false))⟩,
      ⟨(some 13), .pl (.load none (.t 12)), (some (11, false))⟩,
      ⟨(some 14), .pl (.bin .neq .no (.t 13) (.c (.str ⟨#[]⟩))), (some (11, false))⟩,
      ⟨(some 15), .pl (.pick (.t 11) (.c (.bool true)) (.t 14)), none⟩,
      ⟨(some 16), .pl (.mv (.t 15)), none⟩,
      ⟨(some 17), .pl (.fa 3 (.t 3)), (some (16, false))⟩,
      ⟨(some 18), .pl (.load none (.t 17)), (some (16, false))⟩,
      ⟨(some 19), .pl (.lenL (.t 18)), (some (16, false))⟩,
      ⟨(some 20), .pl (.fa 4 (.t 3)), (some (16, false))⟩,
      ⟨(some 21), .pl (.load none (.t 20)), (some (16, false))⟩,
      ⟨(some 22), .pl (.lenL (.t 21)), (some (16, false))⟩,
      ⟨(some 23), .pl (.bin .neq .no (.t 19) (.t 22)), (some (16, false))⟩,
      ⟨(some 24), .pl (.pick (.t 16) (.c (.bool true)) (.t 23)), none⟩,
      ⟨(some 25), .pl (.mv (.t 24)), none⟩,
      ⟨(some 26), .pl (.fa 0 (.t 2)), (some (25, false))⟩,
      ⟨(some 27), .pl (.load none (.t 26)), (some (25, false))⟩,
      ⟨(some 28), .pl (.bin .gtr .no (.t 27) (.c (.int .i64 0))), (some (25, false))⟩,
      ⟨(some 29), .pl (.mv (.t 28)), (some (25, false))⟩,
      ⟨(some 30), .pl (.fa 3 (.t 3)), (some (29, true))⟩,
      ⟨(some 31), .pl (.load none (.t 30)), (some (29, true))⟩,
      ⟨(some 32), .pl (.lenL (.t 31)), (some (29, true))⟩,
      ⟨(some 33), .pl (.fa 0 (.t 2)), (some (29, true))⟩,
      ⟨(some 34), .pl (.load none (.t 33)), (some (29, true))⟩,
      ⟨(some 35), .pl (.bin .neq .no (.t 32) (.t 34)), (some (29, true))⟩,
      ⟨(some 36), .pl (.pick (.t 29) (.t 35) (.c (.bool false))), (some (25, false))⟩,
      ⟨(some 37), .pl (.pick (.t 25) (.c (.bool true)) (.t 36)), none⟩] [3, 37])
   (.cond (.t 37)
    (.seq (.reg [⟨(some 4), .pl (.mv (.c (.bool false))), none⟩] [4])
     (.ret))
    (.skip)))
  (.seq (.reg [⟨(some 5), .pl (.mv (.c (.int .i64 0))), none⟩] [3, 5])
  (.seq (.seq (.reg [⟨(some 38), .pl (.fa 3 (.t 3)), none⟩,
      ⟨(some 39), .pl (.load none (.t 38)), none⟩,
      ⟨(some 40), .pl (.lenL (.t 39)), none⟩,
      ⟨(some 41), .pl (.mv (.c (.int .i64 0))), none⟩] [5, 39, 40, 41])
   (.block 0 (.loop [5, 39, 40, 41] A171_l0)))
  (A171_r0))))⟩
theorem c171 : compF Tryd.prog 171 = some A171 := by kernel_rfl

end Go.Proofs.YtjljhmeadfejhaaDoor
