/- The compiled form of the functions of this claim: each equation is checked by the kernel. -/
import Derived.Test.YtjljhmeadfejhaaGreatChecked
import Derived.Test.YtjljhmeadfejhaaGreatME3
set_option maxRecDepth 100000
namespace Go.Proofs.YtjljhmeadfejhaaGreat
open Go.Eng
/-- concourse/concourseref15.Same -/
def A37_l0 : AC := .seq (.seq (.reg [⟨(some 42), .pl (.mv (.t 5)), none⟩,
      ⟨(some 43), .pl (.fa 4 (.t 2)), none⟩,
      ⟨(some 44), .pl (.load none (.t 43)), none⟩,
      ⟨(some 45), .pl (.lenL (.t 44)), none⟩,
      ⟨(some 46), .pl (.bin .lss .no (.t 42) (.t 45)), none⟩] [2, 3, 5, 46])
   (.cond (.t 46)
    (.skip)
    (.exit 0)))
  (.seq (.block 1 (.seq (.regD [⟨(some 49), .pl (.fa 4 (.t 2)), none⟩,
       ⟨(some 50), .pl (.load none (.t 49)), none⟩,
       ⟨(some 51), .pl (.mv (.t 5)), none⟩,
       ⟨(some 52), .pl (.ia 5 (.t 50) (.t 51)), none⟩,
       ⟨(some 53), .pl (.load (some 5) (.t 52)), none⟩,
       ⟨(some 54), .pl (.fa 4 (.t 3)), none⟩,
       ⟨(some 55), .pl (.load none (.t 54)), none⟩,
       ⟨(some 56), .pl (.mv (.t 5)), none⟩,
       ⟨(some 57), .pl (.ia 5 (.t 55) (.t 56)), none⟩,
       ⟨(some 58), .pl (.load (some 5) (.t 57)), none⟩,
       ⟨(some 59), .call (.c (.fn 37 [] [])) [(.t 53), (.t 58)], none⟩,
       ⟨(some 60), .pl (.un .not (.t 59)), none⟩] [] [2, 3, 5, 60])
    (.cond (.t 60)
     (.seq (.reg [⟨(some 4), .pl (.mv (.c (.bool false))), none⟩] [4])
      (.ret))
     (.skip))))
  (.reg [⟨(some 47), .pl (.mv (.t 5)), none⟩,
    ⟨(some 48), .pl (.bin .add .no (.t 47) (.c (.int .i64 1))), none⟩,
    ⟨(some 5), .pl (.mv (.t 48)), none⟩] [2, 3, 5]))
def A37_r0 : AC := .seq (.reg [⟨(some 4), .pl (.mv (.c (.bool true))), none⟩] [4])
  (.ret)
def A37 : AFun := ⟨61, [.t 4],
  .seq (.reg [⟨(some 2), .pl (.box (.t 0)), none⟩,
     ⟨(some 3), .pl (.box (.t 1)), none⟩,
     ⟨(some 4), .pl (.mv (.c (.bool false))), none⟩] [2, 3])
  (.seq (.seq (.reg [⟨(some 6), .pl (.fa 0 (.t 2)), none⟩,
      ⟨(some 7), .pl (.load none (.t 6)), none⟩,
      ⟨(some 8), .pl (.fa 0 (.t 3)), none⟩,
      ⟨(some 9), .pl (.load none (.t 8)), none⟩,
      ⟨(some 10), .pl (.bin .neq .no (.t 7) (.t 9)), none⟩,
      ⟨(some 11), .pl (.mv (.t 10)), none⟩,
      ⟨(some 12), .pl (.fa 1 (.t 2)), (some (11, false))⟩,
      ⟨(some 13), .pl (.load none (.t 12)), (some (11, false))⟩,
      ⟨(some 14), .pl (.fa 1 (.t 3)), (some (11, false))⟩,
      ⟨(some 15), .pl (.load none (.t 14)), (some (11, false))⟩,
      ⟨(some 16), .pl (.bin .neq .no (.t 13) (.t 15)), (some (11, false))⟩,
      ⟨(some 17), .pl (.pick (.t 11) (.c (.bool true)) (.t 16)), none⟩,
      ⟨(some 18), .pl (.mv (.t 17)), none⟩,
      ⟨(some 19), .pl (.fa 2 (.t 2)), (some (18, false))⟩,
      ⟨(some 20), .pl (.load none (.t 19)), (some (18, false))⟩,
      ⟨(some 21), .pl (.fa 2 (.t 3)), (some (18, false))⟩,
      ⟨(some 22), .pl (.load none (.t 21)), (some (18, false))⟩,
      ⟨(some 23), .pl (.bin .neq .no (.t 20) (.t 22)), (some (18, false))⟩,
      ⟨(some 24), .pl (.pick (.t 18) (.c (.bool true)) (.t 23)), none⟩,
      ⟨(some 25), .pl (.mv (.t 24)), none⟩,
      ⟨(some 26), .pl (.fa 3 (.t 2)), (some (25, false))⟩,
      ⟨(some 27), .pl (.load none (.t 26)), (some (25, false))⟩,
      ⟨(some 28), .pl (.fa 3 (.t 3)), (some (25, false))⟩,
      ⟨(some 29), .pl (.load none (.t 28)), (some (25, false))⟩,
      ⟨(some 30), .call (.c (.fn 68 [] [])) [(.t 27), (.t 29)], (some (25, false))⟩,
      ⟨(some 31), .pl (.un .not (.t 30)), (some (25, false))⟩,
      ⟨(some 32), .pl (.pick (.t 25) (.c (.bool true)) (.t 31)), none⟩,
      ⟨(some 33), .pl (.mv (.t 32)), none⟩,
      ⟨(some 34), .pl (.fa 4 (.t 2)), (some (33, false))⟩,
      ⟨(some 35), .pl (.load none (.t 34)), (some (33, false))⟩,
      ⟨(some 36), .pl (.lenL (.t 35)), (some (33, false))⟩,
      ⟨(some 37), .pl (.fa 4 (.t 3)), (some (33, false))⟩,
      ⟨(some 38), .pl (.load none (.t 37)), (some (33, false))⟩,
      ⟨(some 39), .pl (.lenL (.t 38)), (some (33, false))⟩,
      ⟨(some 40), .pl (.bin .neq .no (.t 36) (.t 39)), (some (33, false))⟩,
      ⟨(some 41), .pl (.pick (.t 33) (.c (.bool true)) (.t 40)), none⟩] [2, 3, 41])
   (.cond (.t 41)
    (.seq (.reg [⟨(some 4), .pl (.mv (.c (.bool false))), none⟩] [4])
     (.ret))
    (.skip)))
  (.seq (.seq (.reg [⟨(some 5), .pl (.mv (.c (.int .i64 0))), none⟩] [2, 3, 5])
   (.block 0 (.loop [2, 3, 5] A37_l0)))
  (A37_r0)))⟩
theorem c37 : compF Tryz.prog 37 = some A37 := by kernel_rfl

/-- concourse/concourseref04.Ints -/
def A68_l0 : AC := .seq (.seq (.reg [⟨(some 11), .pl (.mv (.t 5)), none⟩,
      ⟨(some 12), .pl (.mv (.t 0)), none⟩,
      ⟨(some 13), .pl (.lenL (.t 12)), none⟩,
      ⟨(some 14), .pl (.bin .lss .no (.t 11) (.t 13)), none⟩] [0, 1, 5, 14])
   (.cond (.t 14)
    (.skip)
    (.exit 0)))
  (.seq (.block 1 (.seq (.regD [⟨(some 17), .pl (.mv (.t 0)), none⟩,
       ⟨(some 18), .pl (.mv (.t 5)), none⟩,
       ⟨(some 19), .pl (.ia 1 (.t 17) (.t 18)), none⟩,
       ⟨(some 20), .pl (.load none (.t 19)), none⟩,
       ⟨(some 21), .pl (.mv (.t 1)), none⟩,
       ⟨(some 22), .pl (.mv (.t 5)), none⟩,
       ⟨(some 23), .pl (.ia 1 (.t 21) (.t 22)), none⟩,
       ⟨(some 24), .pl (.load none (.t 23)), none⟩,
       ⟨(some 25), .pl (.bin .neq .no (.t 20) (.t 24)), none⟩] [] [0, 1, 5, 25])
    (.cond (.t 25)
     (.seq (.reg [⟨(some 4), .pl (.mv (.c (.bool false))), none⟩] [4])
      (.ret))
     (.skip))))
  (.reg [⟨(some 15), .pl (.mv (.t 5)), none⟩,
    ⟨(some 16), .pl (.bin .add .no (.t 15) (.c (.int .i64 1))), none⟩,
    ⟨(some 5), .pl (.mv (.t 16)), none⟩] [0, 1, 5]))
def A68_r0 : AC := .seq (.reg [⟨(some 4), .pl (.mv (.c (.bool true))), none⟩] [4])
  (.ret)
def A68 : AFun := ⟨26, [.t 4],
  .seq (.reg [⟨(some 4), .pl (.mv (.c (.bool false))), none⟩] [0, 1])
  (.seq (.seq (.reg [⟨(some 6), .pl (.mv (.t 0)), none⟩,
      ⟨(some 7), .pl (.lenL (.t 6)), none⟩,
      ⟨(some 8), .pl (.mv (.t 1)), none⟩,
      ⟨(some 9), .pl (.lenL (.t 8)), none⟩,
      ⟨(some 10), .pl (.bin .neq .no (.t 7) (.t 9)), none⟩] [0, 1, 10])
   (.cond (.t 10)
    (.seq (.reg [⟨(some 4), .pl (.mv (.c (.bool false))), none⟩] [4])
     (.ret))
    (.skip)))
  (.seq (.seq (.reg [⟨(some 5), .pl (.mv (.c (.int .i64 0))), none⟩] [0, 1, 5])
   (.block 0 (.loop [0, 1, 5] A68_l0)))
  (A68_r0)))⟩
theorem c68 : compF Tryz.prog 68 = some A68 := by kernel_rfl

end Go.Proofs.YtjljhmeadfejhaaGreat
