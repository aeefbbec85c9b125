/- The compiled form of the functions of this claim: each equation is checked by the kernel. -/
import Derived.Test.YtjljhmeadfejhaaChecked
import Derived.Test.YtjljhmeadfejhaaME3
set_option maxRecDepth 100000
namespace Go.Proofs.Ytjljhmeadfejhaa
open Go.Eng
/-- (*sync.Once).Do -/
def A97 : AFun := ⟨12, [],
  .seq (.reg [⟨(some 4), .pl (.mv (.t 0)), none⟩,
     ⟨(some 5), .pl (.nilck (.t 4)), none⟩,
     ⟨(some 6), .pl (.fa 0 (.t 5)), none⟩,
     ⟨(some 7), .call (.c (.fn 115 [] [])) [(.t 6)], none⟩,
     ⟨(some 8), .pl (.un .not (.t 7)), none⟩] [0, 1, 8])
  (.cond (.t 8)
   (.reg [⟨(some 9), .pl (.mv (.t 0)), none⟩,
      ⟨(some 10), .pl (.mv (.t 1)), none⟩,
      ⟨(some 11), .call (.c (.fn 116 [] [])) [(.t 9), (.t 10)], none⟩] [])
   (.skip))⟩
theorem c97 : compF Try.prog 97 = some A97 := by kernel_rfl

/-- (*sync/atomic.Bool).Load -/
def A115 : AFun := ⟨8, [.t 2],
  .seq (.reg [⟨(some 2), .pl (.mv (.c (.bool false))), none⟩] [0])
  (.seq (.reg [⟨(some 3), .pl (.mv (.t 0)), none⟩,
     ⟨(some 4), .pl (.nilck (.t 3)), none⟩,
     ⟨(some 5), .pl (.fa 0 (.t 4)), none⟩,
     ⟨(some 6), .call (.c (.fn 122 [] [])) [(.t 5)], none⟩,
     ⟨(some 7), .pl (.bin .neq .no (.t 6) (.c (.int .u32 0))), none⟩,
     ⟨(some 2), .pl (.mv (.t 7)), none⟩] [2])
  (.ret))⟩
theorem c115 : compF Try.prog 115 = some A115 := by kernel_rfl

/-- (*sync.Mutex).Lock -/
def A123 : AFun := ⟨6, [],
  .reg [⟨(some 2), .pl (.mv (.t 0)), none⟩,
    ⟨(some 3), .pl (.nilck (.t 2)), none⟩,
    ⟨(some 4), .pl (.fa 0 (.t 3)), none⟩,
    ⟨(some 5), .call (.c (.fn 128 [] [])) [(.t 4)], none⟩] []⟩
theorem c123 : compF Try.prog 123 = some A123 := by kernel_rfl

/-- (*sync.Mutex).Unlock -/
def A124 : AFun := ⟨6, [],
  .reg [⟨(some 2), .pl (.mv (.t 0)), none⟩,
    ⟨(some 3), .pl (.nilck (.t 2)), none⟩,
    ⟨(some 4), .pl (.fa 0 (.t 3)), none⟩,
    ⟨(some 5), .call (.c (.fn 129 [] [])) [(.t 4)], none⟩] []⟩
theorem c124 : compF Try.prog 124 = some A124 := by kernel_rfl

/-- (*sync/atomic.Bool).Store -/
def A125 : AFun := ⟨10, [],
  .regD [⟨(some 4), .pl (.mv (.t 0)), none⟩,
    ⟨(some 5), .pl (.nilck (.t 4)), none⟩,
    ⟨(some 6), .pl (.fa 0 (.t 5)), none⟩,
    ⟨(some 7), .pl (.mv (.t 1)), none⟩,
    ⟨(some 8), .call (.c (.fn 131 [] [])) [(.t 7)], none⟩,
    ⟨(some 9), .call (.c (.fn 130 [] [])) [(.t 6), (.t 8)], none⟩] [] []⟩
theorem c125 : compF Try.prog 125 = some A125 := by kernel_rfl

/-- (*internal/sync.Mutex).Lock -/
def A128 : AFun := ⟨13, [],
  .seq (.reg [⟨(some 2), .call (.c (.fn 133 [] [])) [], none⟩] [0])
  (.seq (.seq (.reg [⟨(some 3), .pl (.mv (.t 0)), none⟩,
      ⟨(some 4), .pl (.nilck (.t 3)), none⟩,
      ⟨(some 5), .pl (.fa 0 (.t 4)), none⟩,
      ⟨(some 6), .call (.c (.fn 134 [] [])) [(.t 5), (.c (.int .i32 0)), (.c (.int .i32 1))], none⟩] [0, 6])
   (.cond (.t 6)
    (.seq (.cond (.c (.bool true))
       (.seq (.reg [⟨(some 7), .call (.c (.fn 135 [] [])) [], none⟩] [0])
        (.reg [⟨(some 8), .pl (.mv (.t 0)), none⟩,
          ⟨(some 9), .pl (.cvp (.t 8)), none⟩,
          ⟨(some 10), .call (.c (.fn 136 [] [])) [(.t 9)], none⟩] []))
       (.skip))
     (.ret))
    (.skip)))
  (.reg [⟨(some 11), .pl (.mv (.t 0)), none⟩,
    ⟨(some 12), .call (.c (.fn 137 [] [])) [(.t 11)], none⟩] []))⟩
theorem c128 : compF Try.prog 128 = some A128 := by kernel_rfl

/-- (*internal/sync.Mutex).Unlock -/
def A129 : AFun := ⟨21, [],
  .seq (.cond (.c (.bool true))
    (.seq (.reg [⟨(some 3), .pl (.mv (.t 0)), none⟩,
        ⟨(some 4), .pl (.nilck (.t 3)), none⟩,
        ⟨(some 5), .pl (.fa 0 (.t 4)), none⟩,
        ⟨(some 6), .pl (.load none (.t 5)), none⟩] [0])
     (.seq (.reg [⟨(some 7), .pl (.mv (.t 0)), none⟩,
        ⟨(some 8), .pl (.cvp (.t 7)), none⟩,
        ⟨(some 9), .call (.c (.fn 138 [] [])) [(.t 8)], none⟩] [0])
     (.reg [⟨(some 10), .call (.c (.fn 133 [] [])) [], none⟩] [0])))
    (.skip))
  (.seq (.reg [⟨(some 11), .pl (.mv (.t 0)), none⟩,
     ⟨(some 12), .pl (.nilck (.t 11)), none⟩,
     ⟨(some 13), .pl (.fa 0 (.t 12)), none⟩,
     ⟨(some 14), .call (.c (.fn 139 [] [])) [(.t 13), (.c (.int .i32 (-1)))], none⟩,
     ⟨(some 2), .pl (.mv (.t 14)), none⟩] [0, 2])
  (.seq (.seq (.reg [⟨(some 15), .pl (.mv (.t 2)), none⟩,
      ⟨(some 16), .pl (.bin .neq .no (.t 15) (.c (.int .i32 0))), none⟩] [0, 2, 16])
   (.cond (.t 16)
    (.reg [⟨(some 17), .pl (.mv (.t 0)), none⟩,
       ⟨(some 18), .pl (.mv (.t 2)), none⟩,
       ⟨(some 19), .call (.c (.fn 140 [] [])) [(.t 17), (.t 18)], none⟩] [])
    (.skip)))
  (.reg [⟨(some 20), .call (.c (.fn 135 [] [])) [], none⟩] [])))⟩
theorem c129 : compF Try.prog 129 = some A129 := by kernel_rfl

/-- sync/atomic.b32 -/
def A131 : AFun := ⟨4, [.t 2],
  .seq (.reg [⟨(some 2), .pl (.mv (.c (.int .u32 0))), none⟩] [0])
  (.seq (.seq (.reg [⟨(some 3), .pl (.mv (.t 0)), none⟩] [3])
   (.cond (.t 3)
    (.seq (.reg [⟨(some 2), .pl (.mv (.c (.int .u32 1))), none⟩] [2])
     (.ret))
    (.skip)))
  (.seq (.reg [⟨(some 2), .pl (.mv (.c (.int .u32 0))), none⟩] [2])
  (.ret)))⟩
theorem c131 : compF Try.prog 131 = some A131 := by kernel_rfl

end Go.Proofs.Ytjljhmeadfejhaa
