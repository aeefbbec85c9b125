/- The compiled form of the functions of this claim: each equation is checked by the kernel. -/
import Derived.Test.YtjljhmeadfejhaaChecked
import Derived.Test.YtjljhmeadfejhaaME3
set_option maxRecDepth 100000
namespace Go.Proofs.Ytjljhmeadfejhaa
open Go.Eng
/-- concourse/concourselaw12.CheckLess -/
def A7 : AFun := ⟨48, [.t 2],
  .seq (.reg [⟨(some 2), .pl (.mv (.c (.bool false))), none⟩] [0])
  (.seq (.seq (.reg [⟨(some 4), .pl (.mv (.t 0)), none⟩,
      ⟨(some 5), .call (.c (.fn 23 [] [])) [(.t 4)], none⟩,
      ⟨(some 6), .pl (.mv (.t 5)), none⟩,
      ⟨(some 7), .pl (.mv (.t 0)), (some (6, false))⟩,
      ⟨(some 8), .pl (.lenL (.t 7)), (some (6, false))⟩,
      ⟨(some 9), .pl (.bin .eql .no (.t 8) (.c (.int .i64 0))), (some (6, false))⟩,
      ⟨(some 10), .pl (.pick (.t 6) (.c (.bool true)) (.t 9)), none⟩,
      ⟨(some 11), .pl (.mv (.t 10)), none⟩,
      ⟨(some 12), .pl (.mv (.t 0)), (some (11, false))⟩,
      ⟨(some 13), .call (.c (.fn 27 [] [])) [(.t 12)], (some (11, false))⟩,
      ⟨(some 14), .pl (.fld 0 none (.t 13)), (some (11, false))⟩,
      ⟨(some 15), .pl (.bin .neq .no (.t 14) (.c (.int .i64 0))), (some (11, false))⟩,
      ⟨(some 16), .pl (.pick (.t 11) (.c (.bool true)) (.t 15)), none⟩] [0, 16])
   (.cond (.t 16)
    (.seq (.reg [⟨(some 17), .call (.c (.fn 24 [] [])) [], none⟩,
        ⟨(some 2), .pl (.mv (.t 17)), none⟩] [2])
     (.ret))
    (.skip)))
  (.seq (.reg [⟨(some 18), .pl (.mv (.t 0)), none⟩,
     ⟨(some 19), .pl (.mv (.t 0)), none⟩,
     ⟨(some 20), .pl (.lenL (.t 19)), none⟩,
     ⟨(some 21), .pl (.bin .sub .no (.t 20) (.c (.int .i64 1))), none⟩,
     ⟨(some 22), .pl (.slcL 5 (.t 18) none (some (.t 21))), none⟩,
     ⟨(some 23), .call (.c (.fn 27 [] [])) [(.t 22)], none⟩,
     ⟨(some 24), .pl (.fld 0 none (.t 23)), none⟩,
     ⟨(some 3), .pl (.mv (.t 24)), none⟩] [0, 3])
  (.seq (.reg [⟨(some 25), .pl (.mv (.t 3)), none⟩,
     ⟨(some 26), .pl (.bin .eql .no (.t 25) (.c (.int .i64 0))), none⟩,
     ⟨(some 27), .pl (.mv (.t 26)), none⟩,
     ⟨(some 28), .pl (.mv (.t 3)), (some (27, false))⟩,
     ⟨(some 29), .pl (.bin .eql .no (.t 28) (.c (.int .i64 6))), (some (27, false))⟩,
     ⟨(some 30), .pl (.pick (.t 27) (.c (.bool true)) (.t 29)), none⟩,
     ⟨(some 31), .pl (.mv (.t 30)), none⟩,
     ⟨(some 32), .pl (.mv (.t 3)), (some (31, false))⟩,
     ⟨(some 33), .pl (.bin .eql .no (.t 32) (.c (.int .i64 8))), (some (31, false))⟩,
     ⟨(some 34), .pl (.mv (.t 33)), (some (31, false))⟩,
     ⟨(some 35), .pl (.mv (.t 0)), (some (34, true))⟩,
     ⟨(some 36), .pl (.mv (.t 0)), (some (34, true))⟩,
     ⟨(some 37), .pl (.lenL (.t 36)), (some (34, true))⟩,
     ⟨(some 38), .pl (.bin .sub .no (.t 37) (.c (.int .i64 1))), (some (34, true))⟩,
     ⟨(some 39), .pl (.ia 5 (.t 35) (.t 38)), (some (34, true))⟩,
     ⟨(some 40), .pl (.fa 0 (.t 39)), (some (34, true))⟩,
     ⟨(some 41), .pl (.load none (.t 40)), (some (34, true))⟩,
     ⟨(some 42), .pl (.bin .eql .no (.t 41) (.c (.int .i64 3))), (some (34, true))⟩,
     ⟨(some 43), .pl (.pick (.t 34) (.t 42) (.c (.bool false))), (some (31, false))⟩,
     ⟨(some 44), .pl (.pick (.t 31) (.c (.bool true)) (.t 43)), none⟩,
     ⟨(some 45), .pl (.mv (.t 44)), none⟩,
     ⟨(some 46), .call (.c (.fn 24 [] [])) [], (some (45, true))⟩,
     ⟨(some 47), .pl (.pick (.t 45) (.t 46) (.c (.bool false))), none⟩,
     ⟨(some 2), .pl (.mv (.t 47)), none⟩] [2])
  (.ret))))⟩
theorem c7 : compF Try.prog 7 = some A7 := by kernel_rfl

end Go.Proofs.Ytjljhmeadfejhaa
