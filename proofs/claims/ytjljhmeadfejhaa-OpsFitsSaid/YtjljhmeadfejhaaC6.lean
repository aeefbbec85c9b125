/- The compiled form of the functions of this claim: each equation is checked by the kernel. -/
import Derived.Test.YtjljhmeadfejhaaChecked
import Derived.Test.YtjljhmeadfejhaaME3
set_option maxRecDepth 100000
namespace Go.Proofs.Ytjljhmeadfejhaa
open Go.Eng
/-- concourse/desc.own -/
def A114_l0 : AC := .seq (.reg [⟨(some 15), .pl (.bin .lss .no (.t 14) (.t 13)), none⟩] [2, 3, 12, 13, 14, 15])
  (.seq (.cond (.t 15)
    (.skip)
    (.exit 0))
  (.seq (.block 1 (.seq (.reg [⟨(some 16), .pl (.ia 3 (.t 12) (.t 14)), none⟩,
       ⟨(some 17), .pl (.load (some 3) (.t 16)), none⟩,
       ⟨(some 5), .pl (.alloc [.int .i64 0, .str ⟨#[]⟩, .esl]), none⟩,
       ⟨none, .pl (.store 3 (.t 5) (.t 17)), none⟩] [2, 3, 5, 12, 13, 14])
    (.regD [⟨(some 18), .pl (.fa 2 (.t 3)), none⟩,
      ⟨(some 19), .pl (.load none (.t 18)), none⟩,
      ⟨(some 20), .pl (.load (some 3) (.t 5)), none⟩,
      ⟨(some 21), .call (.c (.fn 114 [] [])) [(.t 20)], none⟩,
      ⟨(some 22), .pl (.lit 3 [(.t 21)]), none⟩,
      ⟨(some 23), .pl (.append 74 3 48 (.t 19) (.t 22)), none⟩,
      ⟨(some 24), .pl (.fa 2 (.t 3)), none⟩,
      ⟨none, .pl (.store 1 (.t 24) (.t 23)), none⟩] [(1, 3)] [2, 3, 12, 13, 14])))
  (.reg [⟨(some 25), .pl (.bin .add .no (.t 14) (.c (.int .i64 1))), none⟩,
    ⟨(some 14), .pl (.mv (.t 25)), none⟩] [2, 3, 12, 13, 14])))
def A114_r0 : AC := .seq (.reg [⟨(some 26), .pl (.load (some 3) (.t 3)), none⟩,
     ⟨none, .pl (.store 3 (.t 2) (.t 26)), none⟩] [2])
  (.ret)
def A114 : AFun := ⟨27, [.cell 2 (some 3)],
  .seq (.reg [⟨(some 1), .pl (.box (.t 0)), none⟩,
     ⟨(some 2), .pl (.alloc [.int .i64 0, .str ⟨#[]⟩, .esl]), none⟩] [1, 2])
  (.seq (.reg [⟨(some 6), .pl (.fa 0 (.t 1)), none⟩,
     ⟨(some 7), .pl (.load none (.t 6)), none⟩,
     ⟨(some 8), .pl (.fa 1 (.t 1)), none⟩,
     ⟨(some 9), .pl (.load none (.t 8)), none⟩,
     ⟨(some 10), .pl (.build [.int .i64 0, .str ⟨#[]⟩, .esl] [(0, 1, (.t 7)), (1, 1, (.t 9))]), none⟩,
     ⟨(some 3), .pl (.alloc [.int .i64 0, .str ⟨#[]⟩, .esl]), none⟩,
     ⟨none, .pl (.store 3 (.t 3) (.t 10)), none⟩] [1, 2, 3])
  (.seq (.seq (.reg [⟨(some 11), .pl (.fa 2 (.t 1)), none⟩,
      ⟨(some 12), .pl (.load none (.t 11)), none⟩,
      ⟨(some 13), .pl (.lenL (.t 12)), none⟩,
      ⟨(some 14), .pl (.mv (.c (.int .i64 0))), none⟩] [2, 3, 12, 13, 14])
   (.block 0 (.loop [2, 3, 12, 13, 14] A114_l0)))
  (A114_r0)))⟩
theorem c114 : compF Try.prog 114 = some A114 := by kernel_rfl

/-- concourse/desc.fields -/
def A95_l0 : AC := .seq (.reg [⟨(some 9), .pl (.bin .lss .no (.t 8) (.t 7)), none⟩] [3, 6, 7, 8, 9])
  (.seq (.cond (.t 9)
    (.skip)
    (.exit 0))
  (.seq (.block 1 (.seq (.reg [⟨(some 10), .pl (.ia 5 (.t 6) (.t 8)), none⟩,
       ⟨(some 11), .pl (.load (some 5) (.t 10)), none⟩,
       ⟨(some 5), .pl (.alloc [.int .i64 0, .str ⟨#[]⟩, .int .i64 0, .str ⟨#[]⟩, .esl]), none⟩,
       ⟨none, .pl (.store 5 (.t 5) (.t 11)), none⟩] [3, 5, 6, 7, 8])
    (.seq (.reg [⟨(some 12), .pl (.fa 2 (.t 5)), none⟩,
       ⟨(some 13), .pl (.load (some 3) (.t 12)), none⟩,
       ⟨(some 14), .call (.c (.fn 114 [] [])) [(.t 13)], none⟩,
       ⟨(some 15), .pl (.fa 2 (.t 5)), none⟩,
       ⟨none, .pl (.store 3 (.t 15) (.t 14)), none⟩] [3, 5, 6, 7, 8])
    (.reg [⟨(some 16), .pl (.mv (.t 3)), none⟩,
      ⟨(some 17), .pl (.load (some 5) (.t 5)), none⟩,
      ⟨(some 18), .pl (.lit 5 [(.t 17)]), none⟩,
      ⟨(some 19), .pl (.append 76 5 72 (.t 16) (.t 18)), none⟩,
      ⟨(some 3), .pl (.mv (.t 19)), none⟩] [3, 6, 7, 8]))))
  (.reg [⟨(some 20), .pl (.bin .add .no (.t 8) (.c (.int .i64 1))), none⟩,
    ⟨(some 8), .pl (.mv (.t 20)), none⟩] [3, 6, 7, 8])))
def A95_r0 : AC := .seq (.reg [⟨(some 21), .pl (.mv (.t 3)), none⟩,
     ⟨(some 2), .pl (.mv (.t 21)), none⟩] [2])
  (.ret)
def A95 : AFun := ⟨22, [.t 2],
  .seq (.reg [⟨(some 2), .pl (.mv (.c (.esl))), none⟩] [0])
  (.seq (.reg [⟨(some 3), .pl (.mv (.c (.esl))), none⟩] [0, 3])
  (.seq (.seq (.reg [⟨(some 6), .pl (.mv (.t 0)), none⟩,
      ⟨(some 7), .pl (.lenL (.t 6)), none⟩,
      ⟨(some 8), .pl (.mv (.c (.int .i64 0))), none⟩] [3, 6, 7, 8])
   (.block 0 (.loop [3, 6, 7, 8] A95_l0)))
  (A95_r0)))⟩
theorem c95 : compF Try.prog 95 = some A95 := by kernel_rfl

/-- concourse/desc.decls -/
def A79_l0 : AC := .seq (.reg [⟨(some 9), .pl (.bin .lss .no (.t 8) (.t 7)), none⟩] [3, 6, 7, 8, 9])
  (.seq (.cond (.t 9)
    (.skip)
    (.exit 0))
  (.seq (.block 1 (.seq (.reg [⟨(some 10), .pl (.ia 5 (.t 6) (.t 8)), none⟩,
       ⟨(some 11), .pl (.load (some 5) (.t 10)), none⟩,
       ⟨(some 5), .pl (.alloc [.int .i64 0, .str ⟨#[]⟩, .esl, .esl, .int .i64 0]), none⟩,
       ⟨none, .pl (.store 5 (.t 5) (.t 11)), none⟩] [3, 5, 6, 7, 8])
    (.seq (.reg [⟨(some 12), .pl (.fa 2 (.t 5)), none⟩,
       ⟨(some 13), .pl (.load none (.t 12)), none⟩,
       ⟨(some 14), .call (.c (.fn 95 [] [])) [(.t 13)], none⟩,
       ⟨(some 15), .pl (.fa 2 (.t 5)), none⟩,
       ⟨none, .pl (.store 1 (.t 15) (.t 14)), none⟩] [3, 5, 6, 7, 8])
    (.seq (.reg [⟨(some 16), .pl (.fa 3 (.t 5)), none⟩,
       ⟨(some 17), .pl (.load none (.t 16)), none⟩,
       ⟨(some 18), .call (.c (.fn 96 [] [])) [(.t 17)], none⟩,
       ⟨(some 19), .pl (.fa 3 (.t 5)), none⟩,
       ⟨none, .pl (.store 1 (.t 19) (.t 18)), none⟩] [3, 5, 6, 7, 8])
    (.reg [⟨(some 20), .pl (.mv (.t 3)), none⟩,
      ⟨(some 21), .pl (.load (some 5) (.t 5)), none⟩,
      ⟨(some 22), .pl (.lit 5 [(.t 21)]), none⟩,
      ⟨(some 23), .pl (.append 34 5 80 (.t 20) (.t 22)), none⟩,
      ⟨(some 3), .pl (.mv (.t 23)), none⟩] [3, 6, 7, 8])))))
  (.reg [⟨(some 24), .pl (.bin .add .no (.t 8) (.c (.int .i64 1))), none⟩,
    ⟨(some 8), .pl (.mv (.t 24)), none⟩] [3, 6, 7, 8])))
def A79_r0 : AC := .seq (.reg [⟨(some 25), .pl (.mv (.t 3)), none⟩,
     ⟨(some 2), .pl (.mv (.t 25)), none⟩] [2])
  (.ret)
def A79 : AFun := ⟨26, [.t 2],
  .seq (.reg [⟨(some 2), .pl (.mv (.c (.esl))), none⟩] [0])
  (.seq (.reg [⟨(some 3), .pl (.mv (.c (.esl))), none⟩] [0, 3])
  (.seq (.seq (.reg [⟨(some 6), .pl (.mv (.t 0)), none⟩,
      ⟨(some 7), .pl (.lenL (.t 6)), none⟩,
      ⟨(some 8), .pl (.mv (.c (.int .i64 0))), none⟩] [3, 6, 7, 8])
   (.block 0 (.loop [3, 6, 7, 8] A79_l0)))
  (A79_r0)))⟩
theorem c79 : compF Try.prog 79 = some A79 := by kernel_rfl

/-- concourse/desc.Of -/
def A53 : AFun := ⟨16, [.t 2, .cell 3 (some 2)],
  .seq (.reg [⟨(some 2), .pl (.mv (.c (.nilp))), none⟩,
     ⟨(some 3), .pl (.alloc [.int .i64 0, .int .i64 0]), none⟩] [0, 3])
  (.seq (.seq (.reg [⟨(some 5), .pl (.mv (.t 0)), none⟩,
      ⟨(some 6), .call (.c (.fn 27 [] [])) [(.t 5)], none⟩,
      ⟨(some 4), .pl (.alloc [.int .i64 0, .int .i64 0]), none⟩,
      ⟨none, .pl (.store 2 (.t 4) (.t 6)), none⟩] [0, 3, 4])
   (.seq (.reg [⟨(some 7), .pl (.fa 0 (.t 4)), none⟩,
      ⟨(some 8), .pl (.load none (.t 7)), none⟩,
      ⟨(some 9), .pl (.bin .neq .no (.t 8) (.c (.int .i64 0))), none⟩] [0, 3, 4, 9])
   (.cond (.t 9)
    (.seq (.regD [⟨(some 10), .pl (.load (some 2) (.t 4)), none⟩,
        ⟨(some 2), .pl (.mv (.c (.nilp))), none⟩,
        ⟨none, .pl (.store 2 (.t 3) (.t 10)), none⟩] [] [2, 3])
     (.ret))
    (.skip))))
  (.seq (.reg [⟨(some 11), .pl (.mv (.t 0)), none⟩,
     ⟨(some 12), .call (.c (.fn 79 [] [])) [(.t 11)], none⟩,
     ⟨(some 13), .pl (.build [.esl, .int .u32 0, .int .i32 0, .int .u32 0, .nilp, .nilmap] [(0, 1, (.t 12))]), none⟩,
     ⟨(some 14), .pl (.box (.t 13)), none⟩,
     ⟨(some 15), .pl (.build [.int .i64 0, .int .i64 0] []), none⟩,
     ⟨(some 2), .pl (.mv (.t 14)), none⟩,
     ⟨none, .pl (.store 2 (.t 3) (.t 15)), none⟩] [2, 3])
  (.ret)))⟩
theorem c53 : compF Try.prog 53 = some A53 := by kernel_rfl

/-- (*concourse/desc.Desc).ready -/
def A81 : AFun := ⟨7, [],
  .seq (.reg [⟨(some 1), .pl (.box (.t 0)), none⟩] [1])
  (.reg [⟨(some 2), .pl (.load none (.t 1)), none⟩,
    ⟨(some 3), .pl (.nilck (.t 2)), none⟩,
    ⟨(some 4), .pl (.fa 1 (.t 3)), none⟩,
    ⟨(some 5), .pl (.mkfn 98 [] [(.t 1)]), none⟩,
    ⟨(some 6), .call (.c (.fn 97 [] [])) [(.t 4), (.t 5)], none⟩] [])⟩
theorem c81 : compF Try.prog 81 = some A81 := by kernel_rfl

/-- (*concourse/desc.Desc).ready$1 -/
def A98_l0 : AC := .seq (.reg [⟨(some 22), .pl (.bin .lss .no (.t 21) (.t 20)), none⟩] [0, 19, 20, 21, 22])
  (.seq (.cond (.t 22)
    (.skip)
    (.exit 0))
  (.seq (.block 1 (.seq (.reg [⟨(some 23), .pl (.ia 5 (.t 19) (.t 21)), none⟩,
       ⟨(some 24), .pl (.load (some 5) (.t 23)), none⟩,
       ⟨(some 2), .pl (.alloc [.int .i64 0, .str ⟨#[]⟩, .esl, .esl, .int .i64 0]), none⟩,
       ⟨none, .pl (.store 5 (.t 2) (.t 24)), none⟩] [0, 2, 19, 20, 21])
    (.seq (.reg [⟨(some 25), .pl (.fa 2 (.t 2)), none⟩,
       ⟨(some 26), .pl (.load none (.t 25)), none⟩,
       ⟨(some 27), .call (.c (.fn 99 [] [])) [(.t 26)], none⟩,
       ⟨(some 3), .pl (.mv (.t 27)), none⟩] [0, 2, 3, 19, 20, 21])
    (.seq (.reg [⟨(some 28), .pl (.mv (.t 3)), none⟩,
       ⟨(some 29), .call (.c (.fn 100 [] [])) [(.t 28), (.c (.fn 101 [] []))], none⟩] [0, 2, 3, 19, 20, 21])
    (.regD [⟨(some 30), .pl (.load none (.t 0)), none⟩,
      ⟨(some 31), .pl (.nilck (.t 30)), none⟩,
      ⟨(some 32), .pl (.fa 5 (.t 31)), none⟩,
      ⟨(some 33), .pl (.load none (.t 32)), none⟩,
      ⟨(some 34), .pl (.fa 1 (.t 2)), none⟩,
      ⟨(some 35), .pl (.load none (.t 34)), none⟩,
      ⟨(some 36), .pl (.mv (.t 3)), none⟩,
      ⟨none, .pl (.mupd true (.t 33) (.t 35) (.t 36)), none⟩] [] [0, 19, 20, 21])))))
  (.reg [⟨(some 37), .pl (.bin .add .no (.t 21) (.c (.int .i64 1))), none⟩,
    ⟨(some 21), .pl (.mv (.t 37)), none⟩] [0, 19, 20, 21])))
def A98 : AFun := ⟨38, [],
  .seq (.regD [⟨(some 4), .pl (.load none (.t 0)), none⟩,
     ⟨(some 5), .pl (.load none (.t 0)), none⟩,
     ⟨(some 6), .pl (.nilck (.t 5)), none⟩,
     ⟨(some 7), .pl (.fa 0 (.t 6)), none⟩,
     ⟨(some 8), .pl (.load none (.t 7)), none⟩,
     ⟨(some 9), .call (.c (.fn 11 [] [])) [(.t 8)], none⟩,
     ⟨(some 10), .pl (.nilck (.t 4)), none⟩,
     ⟨(some 11), .pl (.fa 4 (.t 10)), none⟩,
     ⟨none, .pl (.store 1 (.t 11) (.t 9)), none⟩] [(0, 5)] [0])
  (.seq (.reg [⟨(some 12), .pl (.load none (.t 0)), none⟩,
     ⟨(some 13), .pl (.mkmap), none⟩,
     ⟨(some 14), .pl (.nilck (.t 12)), none⟩,
     ⟨(some 15), .pl (.fa 5 (.t 14)), none⟩,
     ⟨none, .pl (.store 1 (.t 15) (.t 13)), none⟩] [0])
  (.seq (.reg [⟨(some 16), .pl (.load none (.t 0)), none⟩,
     ⟨(some 17), .pl (.nilck (.t 16)), none⟩,
     ⟨(some 18), .pl (.fa 0 (.t 17)), none⟩,
     ⟨(some 19), .pl (.load none (.t 18)), none⟩,
     ⟨(some 20), .pl (.lenL (.t 19)), none⟩,
     ⟨(some 21), .pl (.mv (.c (.int .i64 0))), none⟩] [0, 19, 20, 21])
  (.block 0 (.loop [0, 19, 20, 21] A98_l0))))⟩
theorem c98 : compF Try.prog 98 = some A98 := by kernel_rfl

/-- (*concourse/desc.Desc).ready$1$1 -/
def A101 : AFun := ⟨10, [.t 4],
  .seq (.reg [⟨(some 2), .pl (.box (.t 0)), none⟩,
     ⟨(some 3), .pl (.box (.t 1)), none⟩,
     ⟨(some 4), .pl (.mv (.c (.int .i64 0))), none⟩] [2, 3])
  (.seq (.reg [⟨(some 5), .pl (.fa 0 (.t 2)), none⟩,
     ⟨(some 6), .pl (.load none (.t 5)), none⟩,
     ⟨(some 7), .pl (.fa 0 (.t 3)), none⟩,
     ⟨(some 8), .pl (.load none (.t 7)), none⟩,
     ⟨(some 9), .call (.c (.fn 102 [] [])) [(.t 6), (.t 8)], none⟩,
     ⟨(some 4), .pl (.mv (.t 9)), none⟩] [4])
  (.ret))⟩
theorem c101 : compF Try.prog 101 = some A101 := by kernel_rfl

/-- cmp.Compare[int] -/
def A102 : AFun := ⟨20, [.t 4],
  .seq (.reg [⟨(some 4), .pl (.mv (.c (.int .i64 0))), none⟩] [0, 1])
  (.seq (.reg [⟨(some 7), .pl (.mv (.t 0)), none⟩,
     ⟨(some 8), .call (.c (.fn 118 [] [])) [(.t 7)], none⟩,
     ⟨(some 5), .pl (.mv (.t 8)), none⟩] [0, 1, 5])
  (.seq (.reg [⟨(some 9), .pl (.mv (.t 1)), none⟩,
     ⟨(some 10), .call (.c (.fn 118 [] [])) [(.t 9)], none⟩,
     ⟨(some 6), .pl (.mv (.t 10)), none⟩] [0, 1, 5, 6])
  (.seq (.seq (.reg [⟨(some 11), .pl (.mv (.t 5)), none⟩] [0, 1, 6, 11])
   (.cond (.t 11)
    (.seq (.seq (.reg [⟨(some 12), .pl (.mv (.t 6)), none⟩] [12])
      (.cond (.t 12)
       (.seq (.reg [⟨(some 4), .pl (.mv (.c (.int .i64 0))), none⟩] [4])
        (.ret))
       (.skip)))
     (.seq (.reg [⟨(some 4), .pl (.mv (.c (.int .i64 (-1)))), none⟩] [4])
     (.ret)))
    (.skip)))
  (.seq (.seq (.reg [⟨(some 13), .pl (.mv (.t 6)), none⟩] [0, 1, 13])
   (.cond (.t 13)
    (.seq (.reg [⟨(some 4), .pl (.mv (.c (.int .i64 1))), none⟩] [4])
     (.ret))
    (.skip)))
  (.seq (.seq (.reg [⟨(some 14), .pl (.mv (.t 0)), none⟩,
      ⟨(some 15), .pl (.mv (.t 1)), none⟩,
      ⟨(some 16), .pl (.bin .lss .no (.t 14) (.t 15)), none⟩] [0, 1, 16])
   (.cond (.t 16)
    (.seq (.reg [⟨(some 4), .pl (.mv (.c (.int .i64 (-1)))), none⟩] [4])
     (.ret))
    (.skip)))
  (.seq (.seq (.reg [⟨(some 17), .pl (.mv (.t 0)), none⟩,
      ⟨(some 18), .pl (.mv (.t 1)), none⟩,
      ⟨(some 19), .pl (.bin .gtr .no (.t 17) (.t 18)), none⟩] [19])
   (.cond (.t 19)
    (.seq (.reg [⟨(some 4), .pl (.mv (.c (.int .i64 1))), none⟩] [4])
     (.ret))
    (.skip)))
  (.seq (.reg [⟨(some 4), .pl (.mv (.c (.int .i64 0))), none⟩] [4])
  (.ret))))))))⟩
theorem c102 : compF Try.prog 102 = some A102 := by kernel_rfl

/-- cmp.isNaN[int] -/
def A118 : AFun := ⟨6, [.t 2],
  .seq (.reg [⟨(some 2), .pl (.mv (.c (.bool false))), none⟩] [0])
  (.seq (.reg [⟨(some 3), .pl (.mv (.t 0)), none⟩,
     ⟨(some 4), .pl (.mv (.t 0)), none⟩,
     ⟨(some 5), .pl (.bin .neq .no (.t 3) (.t 4)), none⟩,
     ⟨(some 2), .pl (.mv (.t 5)), none⟩] [2])
  (.ret))⟩
theorem c118 : compF Try.prog 118 = some A118 := by kernel_rfl

/-- slices.SortStableFunc[[]concourse/api.Field,concourse/api.Field] -/
def A100 : AFun := ⟨9, [],
  .reg [⟨(some 4), .pl (.mv (.t 0)), none⟩,
    ⟨(some 5), .pl (.mv (.t 0)), none⟩,
    ⟨(some 6), .pl (.lenL (.t 5)), none⟩,
    ⟨(some 7), .pl (.mv (.t 1)), none⟩,
    ⟨(some 8), .call (.c (.fn 117 [] [])) [(.t 4), (.t 6), (.t 7)], none⟩] []⟩
theorem c100 : compF Try.prog 100 = some A100 := by kernel_rfl

/-- slices.stableCmpFunc[concourse/api.Field] -/
def A117_l0 : AC := .seq (.seq (.reg [⟨(some 11), .pl (.mv (.t 8)), none⟩,
      ⟨(some 12), .pl (.mv (.t 1)), none⟩,
      ⟨(some 13), .pl (.bin .leq .no (.t 11) (.t 12)), none⟩] [0, 1, 2, 6, 7, 8, 13])
   (.cond (.t 13)
    (.skip)
    (.exit 0)))
  (.block 1 (.seq (.reg [⟨(some 14), .pl (.mv (.t 0)), none⟩,
      ⟨(some 15), .pl (.mv (.t 7)), none⟩,
      ⟨(some 16), .pl (.mv (.t 8)), none⟩,
      ⟨(some 17), .pl (.mv (.t 2)), none⟩,
      ⟨(some 18), .call (.c (.fn 126 [] [])) [(.t 14), (.t 15), (.t 16), (.t 17)], none⟩] [0, 1, 2, 6, 8])
   (.seq (.reg [⟨(some 19), .pl (.mv (.t 8)), none⟩,
      ⟨(some 7), .pl (.mv (.t 19)), none⟩] [0, 1, 2, 6, 7, 8])
   (.reg [⟨(some 20), .pl (.mv (.t 8)), none⟩,
     ⟨(some 21), .pl (.mv (.t 6)), none⟩,
     ⟨(some 22), .pl (.bin .add .no (.t 20) (.t 21)), none⟩,
     ⟨(some 8), .pl (.mv (.t 22)), none⟩] [0, 1, 2, 6, 7, 8]))))
def A117_l1 : AC := .seq (.seq (.reg [⟨(some 33), .pl (.mv (.t 8)), none⟩,
      ⟨(some 34), .pl (.mv (.t 1)), none⟩,
      ⟨(some 35), .pl (.bin .leq .no (.t 33) (.t 34)), none⟩] [0, 1, 2, 6, 7, 8, 35])
   (.cond (.t 35)
    (.skip)
    (.exit 4)))
  (.block 5 (.seq (.reg [⟨(some 36), .pl (.mv (.t 0)), none⟩,
      ⟨(some 37), .pl (.mv (.t 7)), none⟩,
      ⟨(some 38), .pl (.mv (.t 7)), none⟩,
      ⟨(some 39), .pl (.mv (.t 6)), none⟩,
      ⟨(some 40), .pl (.bin .add .no (.t 38) (.t 39)), none⟩,
      ⟨(some 41), .pl (.mv (.t 8)), none⟩,
      ⟨(some 42), .pl (.mv (.t 2)), none⟩,
      ⟨(some 43), .call (.c (.fn 127 [] [])) [(.t 36), (.t 37), (.t 40), (.t 41), (.t 42)], none⟩] [0, 1, 2, 6, 8])
   (.seq (.reg [⟨(some 44), .pl (.mv (.t 8)), none⟩,
      ⟨(some 7), .pl (.mv (.t 44)), none⟩] [0, 1, 2, 6, 7, 8])
   (.reg [⟨(some 45), .pl (.mv (.t 8)), none⟩,
     ⟨(some 46), .pl (.mv (.t 6)), none⟩,
     ⟨(some 47), .pl (.bin .mul .no (.c (.int .i64 2)) (.t 46)), none⟩,
     ⟨(some 48), .pl (.bin .add .no (.t 45) (.t 47)), none⟩,
     ⟨(some 8), .pl (.mv (.t 48)), none⟩] [0, 1, 2, 6, 7, 8]))))
def A117_r0 : AC := .seq (.seq (.reg [⟨(some 49), .pl (.mv (.t 7)), none⟩,
      ⟨(some 50), .pl (.mv (.t 6)), none⟩,
      ⟨(some 51), .pl (.bin .add .no (.t 49) (.t 50)), none⟩,
      ⟨(some 9), .pl (.mv (.t 51)), none⟩] [0, 1, 2, 6, 7, 9])
   (.seq (.reg [⟨(some 52), .pl (.mv (.t 9)), none⟩,
      ⟨(some 53), .pl (.mv (.t 1)), none⟩,
      ⟨(some 54), .pl (.bin .lss .no (.t 52) (.t 53)), none⟩] [0, 1, 2, 6, 7, 9, 54])
   (.cond (.t 54)
    (.reg [⟨(some 55), .pl (.mv (.t 0)), none⟩,
       ⟨(some 56), .pl (.mv (.t 7)), none⟩,
       ⟨(some 57), .pl (.mv (.t 9)), none⟩,
       ⟨(some 58), .pl (.mv (.t 1)), none⟩,
       ⟨(some 59), .pl (.mv (.t 2)), none⟩,
       ⟨(some 60), .call (.c (.fn 127 [] [])) [(.t 55), (.t 56), (.t 57), (.t 58), (.t 59)], none⟩] [0, 1, 2, 6])
    (.skip))))
  (.reg [⟨(some 61), .pl (.mv (.t 6)), none⟩,
    ⟨(some 62), .pl (.bin .mul .no (.t 61) (.c (.int .i64 2))), none⟩,
    ⟨(some 6), .pl (.mv (.t 62)), none⟩] [0, 1, 2, 6])
def A117_l2 : AC := .seq (.seq (.reg [⟨(some 28), .pl (.mv (.t 6)), none⟩,
      ⟨(some 29), .pl (.mv (.t 1)), none⟩,
      ⟨(some 30), .pl (.bin .lss .no (.t 28) (.t 29)), none⟩] [0, 1, 2, 6, 30])
   (.cond (.t 30)
    (.skip)
    (.exit 2)))
  (.block 3 (.seq (.reg [⟨(some 31), .pl (.mv (.t 6)), none⟩,
      ⟨(some 32), .pl (.bin .mul .no (.c (.int .i64 2)) (.t 31)), none⟩,
      ⟨(some 7), .pl (.mv (.c (.int .i64 0))), none⟩,
      ⟨(some 8), .pl (.mv (.t 32)), none⟩] [0, 1, 2, 6, 7, 8])
   (.seq (.block 4 (.loop [0, 1, 2, 6, 7, 8] A117_l1))
   (A117_r0))))
def A117_r1 : AC := .seq (.reg [⟨(some 23), .pl (.mv (.t 0)), none⟩,
     ⟨(some 24), .pl (.mv (.t 7)), none⟩,
     ⟨(some 25), .pl (.mv (.t 1)), none⟩,
     ⟨(some 26), .pl (.mv (.t 2)), none⟩,
     ⟨(some 27), .call (.c (.fn 126 [] [])) [(.t 23), (.t 24), (.t 25), (.t 26)], none⟩] [0, 1, 2, 6])
  (.block 2 (.loop [0, 1, 2, 6] A117_l2))
def A117 : AFun := ⟨63, [],
  .seq (.reg [⟨(some 6), .pl (.mv (.c (.int .i64 20))), none⟩] [0, 1, 2, 6])
  (.seq (.reg [⟨(some 10), .pl (.mv (.t 6)), none⟩,
     ⟨(some 7), .pl (.mv (.c (.int .i64 0))), none⟩,
     ⟨(some 8), .pl (.mv (.t 10)), none⟩] [0, 1, 2, 6, 7, 8])
  (.seq (.block 0 (.loop [0, 1, 2, 6, 7, 8] A117_l0))
  (A117_r1)))⟩
theorem c117 : compF Try.prog 117 = some A117 := by kernel_rfl

/-- slices.insertionSortCmpFunc[concourse/api.Field] -/
def A126_l0 : AC := .seq (.seq (.regD [⟨(some 18), .pl (.mv (.t 9)), none⟩,
      ⟨(some 19), .pl (.mv (.t 1)), none⟩,
      ⟨(some 20), .pl (.bin .gtr .no (.t 18) (.t 19)), none⟩,
      ⟨(some 21), .pl (.mv (.t 20)), none⟩,
      ⟨(some 22), .pl (.mv (.t 3)), (some (21, true))⟩,
      ⟨(some 23), .pl (.mv (.t 0)), (some (21, true))⟩,
      ⟨(some 24), .pl (.mv (.t 9)), (some (21, true))⟩,
      ⟨(some 25), .pl (.ia 5 (.t 23) (.t 24)), (some (21, true))⟩,
      ⟨(some 26), .pl (.load (some 5) (.t 25)), (some (21, true))⟩,
      ⟨(some 27), .pl (.mv (.t 0)), (some (21, true))⟩,
      ⟨(some 28), .pl (.mv (.t 9)), (some (21, true))⟩,
      ⟨(some 29), .pl (.bin .sub .no (.t 28) (.c (.int .i64 1))), (some (21, true))⟩,
      ⟨(some 30), .pl (.ia 5 (.t 27) (.t 29)), (some (21, true))⟩,
      ⟨(some 31), .pl (.load (some 5) (.t 30)), (some (21, true))⟩,
      ⟨(some 32), .call (.t 22) [(.t 26), (.t 31)], (some (21, true))⟩,
      ⟨(some 33), .pl (.bin .lss .no (.t 32) (.c (.int .i64 0))), (some (21, true))⟩,
      ⟨(some 34), .pl (.pick (.t 21) (.t 33) (.c (.bool false))), none⟩] [] [0, 1, 2, 3, 8, 9, 34])
   (.cond (.t 34)
    (.skip)
    (.exit 2)))
  (.seq (.block 3 (.regD [⟨(some 37), .pl (.mv (.t 0)), none⟩,
      ⟨(some 38), .pl (.mv (.t 9)), none⟩,
      ⟨(some 39), .pl (.mv (.t 0)), none⟩,
      ⟨(some 40), .pl (.mv (.t 9)), none⟩,
      ⟨(some 41), .pl (.bin .sub .no (.t 40) (.c (.int .i64 1))), none⟩,
      ⟨(some 42), .pl (.mv (.t 0)), none⟩,
      ⟨(some 43), .pl (.mv (.t 9)), none⟩,
      ⟨(some 44), .pl (.bin .sub .no (.t 43) (.c (.int .i64 1))), none⟩,
      ⟨(some 45), .pl (.ia 5 (.t 42) (.t 44)), none⟩,
      ⟨(some 46), .pl (.load (some 5) (.t 45)), none⟩,
      ⟨(some 47), .pl (.mv (.t 0)), none⟩,
      ⟨(some 48), .pl (.mv (.t 9)), none⟩,
      ⟨(some 49), .pl (.ia 5 (.t 47) (.t 48)), none⟩,
      ⟨(some 50), .pl (.load (some 5) (.t 49)), none⟩,
      ⟨(some 51), .pl (.ia 5 (.t 37) (.t 38)), none⟩,
      ⟨none, .pl (.store 5 (.t 51) (.t 46)), none⟩,
      ⟨(some 52), .pl (.ia 5 (.t 39) (.t 41)), none⟩,
      ⟨none, .pl (.store 5 (.t 52) (.t 50)), none⟩] [] [0, 1, 2, 3, 8, 9]))
  (.reg [⟨(some 35), .pl (.mv (.t 9)), none⟩,
    ⟨(some 36), .pl (.bin .sub .no (.t 35) (.c (.int .i64 1))), none⟩,
    ⟨(some 9), .pl (.mv (.t 36)), none⟩] [0, 1, 2, 3, 8, 9]))
def A126_r0 : AC := .reg [⟨(some 15), .pl (.mv (.t 8)), none⟩,
    ⟨(some 16), .pl (.bin .add .no (.t 15) (.c (.int .i64 1))), none⟩,
    ⟨(some 8), .pl (.mv (.t 16)), none⟩] [0, 1, 2, 3, 8]
def A126_l1 : AC := .seq (.seq (.reg [⟨(some 12), .pl (.mv (.t 8)), none⟩,
      ⟨(some 13), .pl (.mv (.t 2)), none⟩,
      ⟨(some 14), .pl (.bin .lss .no (.t 12) (.t 13)), none⟩] [0, 1, 2, 3, 8, 14])
   (.cond (.t 14)
    (.skip)
    (.exit 0)))
  (.seq (.block 1 (.seq (.reg [⟨(some 17), .pl (.mv (.t 8)), none⟩,
       ⟨(some 9), .pl (.mv (.t 17)), none⟩] [0, 1, 2, 3, 8, 9])
    (.block 2 (.loop [0, 1, 2, 3, 8, 9] A126_l0))))
  (A126_r0))
def A126 : AFun := ⟨53, [],
  .seq (.reg [⟨(some 10), .pl (.mv (.t 1)), none⟩,
     ⟨(some 11), .pl (.bin .add .no (.t 10) (.c (.int .i64 1))), none⟩,
     ⟨(some 8), .pl (.mv (.t 11)), none⟩] [0, 1, 2, 3, 8])
  (.block 0 (.loop [0, 1, 2, 3, 8] A126_l1))⟩
theorem c126 : compF Try.prog 126 = some A126 := by kernel_rfl

/-- slices.symMergeCmpFunc[concourse/api.Field] -/
def A127_l0 : AC := .seq (.seq (.reg [⟨(some 31), .pl (.mv (.t 10)), none⟩,
      ⟨(some 32), .pl (.mv (.t 11)), none⟩,
      ⟨(some 33), .pl (.bin .lss .no (.t 31) (.t 32)), none⟩] [0, 1, 4, 10, 11, 33])
   (.cond (.t 33)
    (.skip)
    (.exit 0)))
  (.block 1 (.seq (.reg [⟨(some 34), .pl (.mv (.t 10)), none⟩,
      ⟨(some 35), .pl (.mv (.t 11)), none⟩,
      ⟨(some 36), .pl (.bin .add .no (.t 34) (.t 35)), none⟩,
      ⟨(some 37), .pl (.conv .u64 (.t 36)), none⟩,
      ⟨(some 38), .pl (.bin .shr .no (.t 37) (.c (.int .u64 1))), none⟩,
      ⟨(some 39), .pl (.conv .i64 (.t 38)), none⟩,
      ⟨(some 12), .pl (.mv (.t 39)), none⟩] [0, 1, 4, 10, 11, 12])
   (.seq (.regD [⟨(some 40), .pl (.mv (.t 4)), none⟩,
      ⟨(some 41), .pl (.mv (.t 0)), none⟩,
      ⟨(some 42), .pl (.mv (.t 12)), none⟩,
      ⟨(some 43), .pl (.ia 5 (.t 41) (.t 42)), none⟩,
      ⟨(some 44), .pl (.load (some 5) (.t 43)), none⟩,
      ⟨(some 45), .pl (.mv (.t 0)), none⟩,
      ⟨(some 46), .pl (.mv (.t 1)), none⟩,
      ⟨(some 47), .pl (.ia 5 (.t 45) (.t 46)), none⟩,
      ⟨(some 48), .pl (.load (some 5) (.t 47)), none⟩,
      ⟨(some 49), .call (.t 40) [(.t 44), (.t 48)], none⟩,
      ⟨(some 50), .pl (.bin .lss .no (.t 49) (.c (.int .i64 0))), none⟩] [] [0, 1, 4, 10, 11, 12, 50])
   (.cond (.t 50)
    (.reg [⟨(some 51), .pl (.mv (.t 12)), none⟩,
       ⟨(some 52), .pl (.bin .add .no (.t 51) (.c (.int .i64 1))), none⟩,
       ⟨(some 10), .pl (.mv (.t 52)), none⟩] [0, 1, 4, 10, 11])
    (.reg [⟨(some 53), .pl (.mv (.t 12)), none⟩,
       ⟨(some 11), .pl (.mv (.t 53)), none⟩] [0, 1, 4, 10, 11])))))
def A127_l1 : AC := .seq (.seq (.reg [⟨(some 55), .pl (.mv (.t 13)), none⟩,
      ⟨(some 56), .pl (.mv (.t 10)), none⟩,
      ⟨(some 57), .pl (.bin .sub .no (.t 56) (.c (.int .i64 1))), none⟩,
      ⟨(some 58), .pl (.bin .lss .no (.t 55) (.t 57)), none⟩] [0, 10, 13, 58])
   (.cond (.t 58)
    (.skip)
    (.exit 2)))
  (.seq (.block 3 (.regD [⟨(some 61), .pl (.mv (.t 0)), none⟩,
      ⟨(some 62), .pl (.mv (.t 13)), none⟩,
      ⟨(some 63), .pl (.mv (.t 0)), none⟩,
      ⟨(some 64), .pl (.mv (.t 13)), none⟩,
      ⟨(some 65), .pl (.bin .add .no (.t 64) (.c (.int .i64 1))), none⟩,
      ⟨(some 66), .pl (.mv (.t 0)), none⟩,
      ⟨(some 67), .pl (.mv (.t 13)), none⟩,
      ⟨(some 68), .pl (.bin .add .no (.t 67) (.c (.int .i64 1))), none⟩,
      ⟨(some 69), .pl (.ia 5 (.t 66) (.t 68)), none⟩,
      ⟨(some 70), .pl (.load (some 5) (.t 69)), none⟩,
      ⟨(some 71), .pl (.mv (.t 0)), none⟩,
      ⟨(some 72), .pl (.mv (.t 13)), none⟩,
      ⟨(some 73), .pl (.ia 5 (.t 71) (.t 72)), none⟩,
      ⟨(some 74), .pl (.load (some 5) (.t 73)), none⟩,
      ⟨(some 75), .pl (.ia 5 (.t 61) (.t 62)), none⟩,
      ⟨none, .pl (.store 5 (.t 75) (.t 70)), none⟩,
      ⟨(some 76), .pl (.ia 5 (.t 63) (.t 65)), none⟩,
      ⟨none, .pl (.store 5 (.t 76) (.t 74)), none⟩] [] [0, 10, 13]))
  (.reg [⟨(some 59), .pl (.mv (.t 13)), none⟩,
    ⟨(some 60), .pl (.bin .add .no (.t 59) (.c (.int .i64 1))), none⟩,
    ⟨(some 13), .pl (.mv (.t 60)), none⟩] [0, 10, 13]))
def A127_r0 : AC := .seq (.seq (.reg [⟨(some 54), .pl (.mv (.t 1)), none⟩,
      ⟨(some 13), .pl (.mv (.t 54)), none⟩] [0, 10, 13])
   (.block 2 (.loop [0, 10, 13] A127_l1)))
  (.ret)
def A127_l2 : AC := .seq (.seq (.reg [⟨(some 83), .pl (.mv (.t 14)), none⟩,
      ⟨(some 84), .pl (.mv (.t 15)), none⟩,
      ⟨(some 85), .pl (.bin .lss .no (.t 83) (.t 84)), none⟩] [0, 2, 4, 14, 15, 85])
   (.cond (.t 85)
    (.skip)
    (.exit 4)))
  (.block 5 (.seq (.reg [⟨(some 86), .pl (.mv (.t 14)), none⟩,
      ⟨(some 87), .pl (.mv (.t 15)), none⟩,
      ⟨(some 88), .pl (.bin .add .no (.t 86) (.t 87)), none⟩,
      ⟨(some 89), .pl (.conv .u64 (.t 88)), none⟩,
      ⟨(some 90), .pl (.bin .shr .no (.t 89) (.c (.int .u64 1))), none⟩,
      ⟨(some 91), .pl (.conv .i64 (.t 90)), none⟩,
      ⟨(some 16), .pl (.mv (.t 91)), none⟩] [0, 2, 4, 14, 15, 16])
   (.seq (.regD [⟨(some 92), .pl (.mv (.t 4)), none⟩,
      ⟨(some 93), .pl (.mv (.t 0)), none⟩,
      ⟨(some 94), .pl (.mv (.t 2)), none⟩,
      ⟨(some 95), .pl (.ia 5 (.t 93) (.t 94)), none⟩,
      ⟨(some 96), .pl (.load (some 5) (.t 95)), none⟩,
      ⟨(some 97), .pl (.mv (.t 0)), none⟩,
      ⟨(some 98), .pl (.mv (.t 16)), none⟩,
      ⟨(some 99), .pl (.ia 5 (.t 97) (.t 98)), none⟩,
      ⟨(some 100), .pl (.load (some 5) (.t 99)), none⟩,
      ⟨(some 101), .call (.t 92) [(.t 96), (.t 100)], none⟩,
      ⟨(some 102), .pl (.bin .lss .no (.t 101) (.c (.int .i64 0))), none⟩,
      ⟨(some 103), .pl (.un .not (.t 102)), none⟩] [] [0, 2, 4, 14, 15, 16, 103])
   (.cond (.t 103)
    (.reg [⟨(some 104), .pl (.mv (.t 16)), none⟩,
       ⟨(some 105), .pl (.bin .add .no (.t 104) (.c (.int .i64 1))), none⟩,
       ⟨(some 14), .pl (.mv (.t 105)), none⟩] [0, 2, 4, 14, 15])
    (.reg [⟨(some 106), .pl (.mv (.t 16)), none⟩,
       ⟨(some 15), .pl (.mv (.t 106)), none⟩] [0, 2, 4, 14, 15])))))
def A127_l3 : AC := .seq (.seq (.reg [⟨(some 108), .pl (.mv (.t 17)), none⟩,
      ⟨(some 109), .pl (.mv (.t 14)), none⟩,
      ⟨(some 110), .pl (.bin .gtr .no (.t 108) (.t 109)), none⟩] [0, 14, 17, 110])
   (.cond (.t 110)
    (.skip)
    (.exit 6)))
  (.seq (.block 7 (.regD [⟨(some 113), .pl (.mv (.t 0)), none⟩,
      ⟨(some 114), .pl (.mv (.t 17)), none⟩,
      ⟨(some 115), .pl (.mv (.t 0)), none⟩,
      ⟨(some 116), .pl (.mv (.t 17)), none⟩,
      ⟨(some 117), .pl (.bin .sub .no (.t 116) (.c (.int .i64 1))), none⟩,
      ⟨(some 118), .pl (.mv (.t 0)), none⟩,
      ⟨(some 119), .pl (.mv (.t 17)), none⟩,
      ⟨(some 120), .pl (.bin .sub .no (.t 119) (.c (.int .i64 1))), none⟩,
      ⟨(some 121), .pl (.ia 5 (.t 118) (.t 120)), none⟩,
      ⟨(some 122), .pl (.load (some 5) (.t 121)), none⟩,
      ⟨(some 123), .pl (.mv (.t 0)), none⟩,
      ⟨(some 124), .pl (.mv (.t 17)), none⟩,
      ⟨(some 125), .pl (.ia 5 (.t 123) (.t 124)), none⟩,
      ⟨(some 126), .pl (.load (some 5) (.t 125)), none⟩,
      ⟨(some 127), .pl (.ia 5 (.t 113) (.t 114)), none⟩,
      ⟨none, .pl (.store 5 (.t 127) (.t 122)), none⟩,
      ⟨(some 128), .pl (.ia 5 (.t 115) (.t 117)), none⟩,
      ⟨none, .pl (.store 5 (.t 128) (.t 126)), none⟩] [] [0, 14, 17]))
  (.reg [⟨(some 111), .pl (.mv (.t 17)), none⟩,
    ⟨(some 112), .pl (.bin .sub .no (.t 111) (.c (.int .i64 1))), none⟩,
    ⟨(some 17), .pl (.mv (.t 112)), none⟩] [0, 14, 17]))
def A127_r1 : AC := .seq (.seq (.reg [⟨(some 107), .pl (.mv (.t 2)), none⟩,
      ⟨(some 17), .pl (.mv (.t 107)), none⟩] [0, 14, 17])
   (.block 6 (.loop [0, 14, 17] A127_l3)))
  (.ret)
def A127_l4 : AC := .seq (.seq (.reg [⟨(some 149), .pl (.mv (.t 20)), none⟩,
      ⟨(some 150), .pl (.mv (.t 21)), none⟩,
      ⟨(some 151), .pl (.bin .lss .no (.t 149) (.t 150)), none⟩] [0, 1, 2, 3, 4, 18, 19, 20, 21, 22, 151])
   (.cond (.t 151)
    (.skip)
    (.exit 8)))
  (.block 9 (.seq (.reg [⟨(some 152), .pl (.mv (.t 20)), none⟩,
      ⟨(some 153), .pl (.mv (.t 21)), none⟩,
      ⟨(some 154), .pl (.bin .add .no (.t 152) (.t 153)), none⟩,
      ⟨(some 155), .pl (.conv .u64 (.t 154)), none⟩,
      ⟨(some 156), .pl (.bin .shr .no (.t 155) (.c (.int .u64 1))), none⟩,
      ⟨(some 157), .pl (.conv .i64 (.t 156)), none⟩,
      ⟨(some 23), .pl (.mv (.t 157)), none⟩] [0, 1, 2, 3, 4, 18, 19, 20, 21, 22, 23])
   (.seq (.regD [⟨(some 158), .pl (.mv (.t 4)), none⟩,
      ⟨(some 159), .pl (.mv (.t 0)), none⟩,
      ⟨(some 160), .pl (.mv (.t 22)), none⟩,
      ⟨(some 161), .pl (.mv (.t 23)), none⟩,
      ⟨(some 162), .pl (.bin .sub .no (.t 160) (.t 161)), none⟩,
      ⟨(some 163), .pl (.ia 5 (.t 159) (.t 162)), none⟩,
      ⟨(some 164), .pl (.load (some 5) (.t 163)), none⟩,
      ⟨(some 165), .pl (.mv (.t 0)), none⟩,
      ⟨(some 166), .pl (.mv (.t 23)), none⟩,
      ⟨(some 167), .pl (.ia 5 (.t 165) (.t 166)), none⟩,
      ⟨(some 168), .pl (.load (some 5) (.t 167)), none⟩,
      ⟨(some 169), .call (.t 158) [(.t 164), (.t 168)], none⟩,
      ⟨(some 170), .pl (.bin .lss .no (.t 169) (.c (.int .i64 0))), none⟩,
      ⟨(some 171), .pl (.un .not (.t 170)), none⟩] [] [0, 1, 2, 3, 4, 18, 19, 20, 21, 22, 23, 171])
   (.cond (.t 171)
    (.reg [⟨(some 172), .pl (.mv (.t 23)), none⟩,
       ⟨(some 173), .pl (.bin .add .no (.t 172) (.c (.int .i64 1))), none⟩,
       ⟨(some 20), .pl (.mv (.t 173)), none⟩] [0, 1, 2, 3, 4, 18, 19, 20, 21, 22])
    (.reg [⟨(some 174), .pl (.mv (.t 23)), none⟩,
       ⟨(some 21), .pl (.mv (.t 174)), none⟩] [0, 1, 2, 3, 4, 18, 19, 20, 21, 22])))))
def A127_r2 : AC := .seq (.reg [⟨(some 175), .pl (.mv (.t 19)), none⟩,
     ⟨(some 176), .pl (.mv (.t 20)), none⟩,
     ⟨(some 177), .pl (.bin .sub .no (.t 175) (.t 176)), none⟩,
     ⟨(some 24), .pl (.mv (.t 177)), none⟩] [0, 1, 2, 3, 4, 18, 20, 24])
  (.seq (.seq (.reg [⟨(some 178), .pl (.mv (.t 20)), none⟩,
      ⟨(some 179), .pl (.mv (.t 2)), none⟩,
      ⟨(some 180), .pl (.bin .lss .no (.t 178) (.t 179)), none⟩,
      ⟨(some 181), .pl (.mv (.t 180)), none⟩,
      ⟨(some 182), .pl (.mv (.t 2)), (some (181, true))⟩,
      ⟨(some 183), .pl (.mv (.t 24)), (some (181, true))⟩,
      ⟨(some 184), .pl (.bin .lss .no (.t 182) (.t 183)), (some (181, true))⟩,
      ⟨(some 185), .pl (.pick (.t 181) (.t 184) (.c (.bool false))), none⟩] [0, 1, 2, 3, 4, 18, 20, 24, 185])
   (.cond (.t 185)
    (.reg [⟨(some 186), .pl (.mv (.t 0)), none⟩,
       ⟨(some 187), .pl (.mv (.t 20)), none⟩,
       ⟨(some 188), .pl (.mv (.t 2)), none⟩,
       ⟨(some 189), .pl (.mv (.t 24)), none⟩,
       ⟨(some 190), .pl (.mv (.t 4)), none⟩,
       ⟨(some 191), .call (.c (.fn 132 [] [])) [(.t 186), (.t 187), (.t 188), (.t 189), (.t 190)], none⟩] [0, 1, 3, 4, 18, 20, 24])
    (.skip)))
  (.seq (.seq (.reg [⟨(some 192), .pl (.mv (.t 1)), none⟩,
      ⟨(some 193), .pl (.mv (.t 20)), none⟩,
      ⟨(some 194), .pl (.bin .lss .no (.t 192) (.t 193)), none⟩,
      ⟨(some 195), .pl (.mv (.t 194)), none⟩,
      ⟨(some 196), .pl (.mv (.t 20)), (some (195, true))⟩,
      ⟨(some 197), .pl (.mv (.t 18)), (some (195, true))⟩,
      ⟨(some 198), .pl (.bin .lss .no (.t 196) (.t 197)), (some (195, true))⟩,
      ⟨(some 199), .pl (.pick (.t 195) (.t 198) (.c (.bool false))), none⟩] [0, 1, 3, 4, 18, 20, 24, 199])
   (.cond (.t 199)
    (.reg [⟨(some 200), .pl (.mv (.t 0)), none⟩,
       ⟨(some 201), .pl (.mv (.t 1)), none⟩,
       ⟨(some 202), .pl (.mv (.t 20)), none⟩,
       ⟨(some 203), .pl (.mv (.t 18)), none⟩,
       ⟨(some 204), .pl (.mv (.t 4)), none⟩,
       ⟨(some 205), .call (.c (.fn 127 [] [])) [(.t 200), (.t 201), (.t 202), (.t 203), (.t 204)], none⟩] [0, 3, 4, 18, 24])
    (.skip)))
  (.seq (.reg [⟨(some 206), .pl (.mv (.t 18)), none⟩,
     ⟨(some 207), .pl (.mv (.t 24)), none⟩,
     ⟨(some 208), .pl (.bin .lss .no (.t 206) (.t 207)), none⟩,
     ⟨(some 209), .pl (.mv (.t 208)), none⟩,
     ⟨(some 210), .pl (.mv (.t 24)), (some (209, true))⟩,
     ⟨(some 211), .pl (.mv (.t 3)), (some (209, true))⟩,
     ⟨(some 212), .pl (.bin .lss .no (.t 210) (.t 211)), (some (209, true))⟩,
     ⟨(some 213), .pl (.pick (.t 209) (.t 212) (.c (.bool false))), none⟩] [0, 3, 4, 18, 24, 213])
  (.cond (.t 213)
   (.reg [⟨(some 214), .pl (.mv (.t 0)), none⟩,
      ⟨(some 215), .pl (.mv (.t 18)), none⟩,
      ⟨(some 216), .pl (.mv (.t 24)), none⟩,
      ⟨(some 217), .pl (.mv (.t 3)), none⟩,
      ⟨(some 218), .pl (.mv (.t 4)), none⟩,
      ⟨(some 219), .call (.c (.fn 127 [] [])) [(.t 214), (.t 215), (.t 216), (.t 217), (.t 218)], none⟩] [])
   (.skip)))))
def A127_r3 : AC := .seq (.reg [⟨(some 129), .pl (.mv (.t 1)), none⟩,
     ⟨(some 130), .pl (.mv (.t 3)), none⟩,
     ⟨(some 131), .pl (.bin .add .no (.t 129) (.t 130)), none⟩,
     ⟨(some 132), .pl (.conv .u64 (.t 131)), none⟩,
     ⟨(some 133), .pl (.bin .shr .no (.t 132) (.c (.int .u64 1))), none⟩,
     ⟨(some 134), .pl (.conv .i64 (.t 133)), none⟩,
     ⟨(some 18), .pl (.mv (.t 134)), none⟩] [0, 1, 2, 3, 4, 18])
  (.seq (.reg [⟨(some 135), .pl (.mv (.t 18)), none⟩,
     ⟨(some 136), .pl (.mv (.t 2)), none⟩,
     ⟨(some 137), .pl (.bin .add .no (.t 135) (.t 136)), none⟩,
     ⟨(some 19), .pl (.mv (.t 137)), none⟩] [0, 1, 2, 3, 4, 18, 19])
  (.seq (.reg [⟨(some 20), .pl (.mv (.c (.int .i64 0))), none⟩,
     ⟨(some 21), .pl (.mv (.c (.int .i64 0))), none⟩] [0, 1, 2, 3, 4, 18, 19])
  (.seq (.seq (.reg [⟨(some 138), .pl (.mv (.t 2)), none⟩,
      ⟨(some 139), .pl (.mv (.t 18)), none⟩,
      ⟨(some 140), .pl (.bin .gtr .no (.t 138) (.t 139)), none⟩] [0, 1, 2, 3, 4, 18, 19, 140])
   (.cond (.t 140)
    (.seq (.reg [⟨(some 141), .pl (.mv (.t 19)), none⟩,
        ⟨(some 142), .pl (.mv (.t 3)), none⟩,
        ⟨(some 143), .pl (.bin .sub .no (.t 141) (.t 142)), none⟩,
        ⟨(some 20), .pl (.mv (.t 143)), none⟩] [0, 1, 2, 3, 4, 18, 19, 20])
     (.reg [⟨(some 144), .pl (.mv (.t 18)), none⟩,
       ⟨(some 21), .pl (.mv (.t 144)), none⟩] [0, 1, 2, 3, 4, 18, 19, 20, 21]))
    (.seq (.reg [⟨(some 145), .pl (.mv (.t 1)), none⟩,
        ⟨(some 20), .pl (.mv (.t 145)), none⟩] [0, 1, 2, 3, 4, 18, 19, 20])
     (.reg [⟨(some 146), .pl (.mv (.t 2)), none⟩,
       ⟨(some 21), .pl (.mv (.t 146)), none⟩] [0, 1, 2, 3, 4, 18, 19, 20, 21]))))
  (.seq (.reg [⟨(some 147), .pl (.mv (.t 19)), none⟩,
     ⟨(some 148), .pl (.bin .sub .no (.t 147) (.c (.int .i64 1))), none⟩,
     ⟨(some 22), .pl (.mv (.t 148)), none⟩] [0, 1, 2, 3, 4, 18, 19, 20, 21, 22])
  (.seq (.block 8 (.loop [0, 1, 2, 3, 4, 18, 19, 20, 21, 22] A127_l4))
  (A127_r2))))))
def A127_r4 : AC := .seq (.seq (.reg [⟨(some 77), .pl (.mv (.t 3)), none⟩,
      ⟨(some 78), .pl (.mv (.t 2)), none⟩,
      ⟨(some 79), .pl (.bin .sub .no (.t 77) (.t 78)), none⟩,
      ⟨(some 80), .pl (.bin .eql .no (.t 79) (.c (.int .i64 1))), none⟩] [0, 1, 2, 3, 4, 80])
   (.cond (.t 80)
    (.seq (.reg [⟨(some 81), .pl (.mv (.t 1)), none⟩,
        ⟨(some 14), .pl (.mv (.t 81)), none⟩] [0, 2, 4, 14])
     (.seq (.reg [⟨(some 82), .pl (.mv (.t 2)), none⟩,
        ⟨(some 15), .pl (.mv (.t 82)), none⟩] [0, 2, 4, 14, 15])
     (.seq (.block 4 (.loop [0, 2, 4, 14, 15] A127_l2))
     (A127_r1))))
    (.skip)))
  (A127_r3)
def A127 : AFun := ⟨220, [],
  .seq (.seq (.reg [⟨(some 25), .pl (.mv (.t 2)), none⟩,
      ⟨(some 26), .pl (.mv (.t 1)), none⟩,
      ⟨(some 27), .pl (.bin .sub .no (.t 25) (.t 26)), none⟩,
      ⟨(some 28), .pl (.bin .eql .no (.t 27) (.c (.int .i64 1))), none⟩] [0, 1, 2, 3, 4, 28])
   (.cond (.t 28)
    (.seq (.reg [⟨(some 29), .pl (.mv (.t 2)), none⟩,
        ⟨(some 10), .pl (.mv (.t 29)), none⟩] [0, 1, 3, 4, 10])
     (.seq (.reg [⟨(some 30), .pl (.mv (.t 3)), none⟩,
        ⟨(some 11), .pl (.mv (.t 30)), none⟩] [0, 1, 4, 10, 11])
     (.seq (.block 0 (.loop [0, 1, 4, 10, 11] A127_l0))
     (A127_r0))))
    (.skip)))
  (A127_r4)⟩
theorem c127 : compF Try.prog 127 = some A127 := by kernel_rfl

/-- slices.rotateCmpFunc[concourse/api.Field] -/
def A132_l0 : AC := .seq (.seq (.reg [⟨(some 18), .pl (.mv (.t 10)), none⟩,
      ⟨(some 19), .pl (.mv (.t 11)), none⟩,
      ⟨(some 20), .pl (.bin .neq .no (.t 18) (.t 19)), none⟩] [0, 2, 4, 10, 11, 20])
   (.cond (.t 20)
    (.skip)
    (.exit 0)))
  (.block 1 (.seq (.reg [⟨(some 21), .pl (.mv (.t 10)), none⟩,
      ⟨(some 22), .pl (.mv (.t 11)), none⟩,
      ⟨(some 23), .pl (.bin .gtr .no (.t 21) (.t 22)), none⟩] [0, 2, 4, 10, 11, 23])
   (.cond (.t 23)
    (.seq (.reg [⟨(some 24), .pl (.mv (.t 0)), none⟩,
        ⟨(some 25), .pl (.mv (.t 2)), none⟩,
        ⟨(some 26), .pl (.mv (.t 10)), none⟩,
        ⟨(some 27), .pl (.bin .sub .no (.t 25) (.t 26)), none⟩,
        ⟨(some 28), .pl (.mv (.t 2)), none⟩,
        ⟨(some 29), .pl (.mv (.t 11)), none⟩,
        ⟨(some 30), .pl (.mv (.t 4)), none⟩,
        ⟨(some 31), .call (.c (.fn 141 [] [])) [(.t 24), (.t 27), (.t 28), (.t 29), (.t 30)], none⟩] [0, 2, 4, 10, 11])
     (.reg [⟨(some 32), .pl (.mv (.t 10)), none⟩,
       ⟨(some 33), .pl (.mv (.t 11)), none⟩,
       ⟨(some 34), .pl (.bin .sub .no (.t 32) (.t 33)), none⟩,
       ⟨(some 10), .pl (.mv (.t 34)), none⟩] [0, 2, 4, 10, 11]))
    (.seq (.reg [⟨(some 35), .pl (.mv (.t 0)), none⟩,
        ⟨(some 36), .pl (.mv (.t 2)), none⟩,
        ⟨(some 37), .pl (.mv (.t 10)), none⟩,
        ⟨(some 38), .pl (.bin .sub .no (.t 36) (.t 37)), none⟩,
        ⟨(some 39), .pl (.mv (.t 2)), none⟩,
        ⟨(some 40), .pl (.mv (.t 11)), none⟩,
        ⟨(some 41), .pl (.bin .add .no (.t 39) (.t 40)), none⟩,
        ⟨(some 42), .pl (.mv (.t 10)), none⟩,
        ⟨(some 43), .pl (.bin .sub .no (.t 41) (.t 42)), none⟩,
        ⟨(some 44), .pl (.mv (.t 10)), none⟩,
        ⟨(some 45), .pl (.mv (.t 4)), none⟩,
        ⟨(some 46), .call (.c (.fn 141 [] [])) [(.t 35), (.t 38), (.t 43), (.t 44), (.t 45)], none⟩] [0, 2, 4, 10, 11])
     (.reg [⟨(some 47), .pl (.mv (.t 11)), none⟩,
       ⟨(some 48), .pl (.mv (.t 10)), none⟩,
       ⟨(some 49), .pl (.bin .sub .no (.t 47) (.t 48)), none⟩,
       ⟨(some 11), .pl (.mv (.t 49)), none⟩] [0, 2, 4, 10, 11])))))
def A132_r0 : AC := .reg [⟨(some 50), .pl (.mv (.t 0)), none⟩,
    ⟨(some 51), .pl (.mv (.t 2)), none⟩,
    ⟨(some 52), .pl (.mv (.t 10)), none⟩,
    ⟨(some 53), .pl (.bin .sub .no (.t 51) (.t 52)), none⟩,
    ⟨(some 54), .pl (.mv (.t 2)), none⟩,
    ⟨(some 55), .pl (.mv (.t 10)), none⟩,
    ⟨(some 56), .pl (.mv (.t 4)), none⟩,
    ⟨(some 57), .call (.c (.fn 141 [] [])) [(.t 50), (.t 53), (.t 54), (.t 55), (.t 56)], none⟩] []
def A132 : AFun := ⟨58, [],
  .seq (.reg [⟨(some 12), .pl (.mv (.t 2)), none⟩,
     ⟨(some 13), .pl (.mv (.t 1)), none⟩,
     ⟨(some 14), .pl (.bin .sub .no (.t 12) (.t 13)), none⟩,
     ⟨(some 10), .pl (.mv (.t 14)), none⟩] [0, 2, 3, 4, 10])
  (.seq (.reg [⟨(some 15), .pl (.mv (.t 3)), none⟩,
     ⟨(some 16), .pl (.mv (.t 2)), none⟩,
     ⟨(some 17), .pl (.bin .sub .no (.t 15) (.t 16)), none⟩,
     ⟨(some 11), .pl (.mv (.t 17)), none⟩] [0, 2, 4, 10, 11])
  (.seq (.block 0 (.loop [0, 2, 4, 10, 11] A132_l0))
  (A132_r0)))⟩
theorem c132 : compF Try.prog 132 = some A132 := by kernel_rfl

/-- slices.swapRangeCmpFunc[concourse/api.Field] -/
def A141_l0 : AC := .seq (.seq (.reg [⟨(some 11), .pl (.mv (.t 10)), none⟩,
      ⟨(some 12), .pl (.mv (.t 3)), none⟩,
      ⟨(some 13), .pl (.bin .lss .no (.t 11) (.t 12)), none⟩] [0, 1, 2, 3, 10, 13])
   (.cond (.t 13)
    (.skip)
    (.exit 0)))
  (.seq (.block 1 (.regD [⟨(some 16), .pl (.mv (.t 0)), none⟩,
      ⟨(some 17), .pl (.mv (.t 1)), none⟩,
      ⟨(some 18), .pl (.mv (.t 10)), none⟩,
      ⟨(some 19), .pl (.bin .add .no (.t 17) (.t 18)), none⟩,
      ⟨(some 20), .pl (.mv (.t 0)), none⟩,
      ⟨(some 21), .pl (.mv (.t 2)), none⟩,
      ⟨(some 22), .pl (.mv (.t 10)), none⟩,
      ⟨(some 23), .pl (.bin .add .no (.t 21) (.t 22)), none⟩,
      ⟨(some 24), .pl (.mv (.t 0)), none⟩,
      ⟨(some 25), .pl (.mv (.t 2)), none⟩,
      ⟨(some 26), .pl (.mv (.t 10)), none⟩,
      ⟨(some 27), .pl (.bin .add .no (.t 25) (.t 26)), none⟩,
      ⟨(some 28), .pl (.ia 5 (.t 24) (.t 27)), none⟩,
      ⟨(some 29), .pl (.load (some 5) (.t 28)), none⟩,
      ⟨(some 30), .pl (.mv (.t 0)), none⟩,
      ⟨(some 31), .pl (.mv (.t 1)), none⟩,
      ⟨(some 32), .pl (.mv (.t 10)), none⟩,
      ⟨(some 33), .pl (.bin .add .no (.t 31) (.t 32)), none⟩,
      ⟨(some 34), .pl (.ia 5 (.t 30) (.t 33)), none⟩,
      ⟨(some 35), .pl (.load (some 5) (.t 34)), none⟩,
      ⟨(some 36), .pl (.ia 5 (.t 16) (.t 19)), none⟩,
      ⟨none, .pl (.store 5 (.t 36) (.t 29)), none⟩,
      ⟨(some 37), .pl (.ia 5 (.t 20) (.t 23)), none⟩,
      ⟨none, .pl (.store 5 (.t 37) (.t 35)), none⟩] [] [0, 1, 2, 3, 10]))
  (.reg [⟨(some 14), .pl (.mv (.t 10)), none⟩,
    ⟨(some 15), .pl (.bin .add .no (.t 14) (.c (.int .i64 1))), none⟩,
    ⟨(some 10), .pl (.mv (.t 15)), none⟩] [0, 1, 2, 3, 10]))
def A141 : AFun := ⟨38, [],
  .seq (.reg [⟨(some 10), .pl (.mv (.c (.int .i64 0))), none⟩] [0, 1, 2, 3, 10])
  (.block 0 (.loop [0, 1, 2, 3, 10] A141_l0))⟩
theorem c141 : compF Try.prog 141 = some A141 := by kernel_rfl

/-- (*concourse/desc.Desc).Kind -/
def A58 : AFun := ⟨15, [.t 4],
  .seq (.reg [⟨(some 4), .pl (.mv (.c (.int .i64 0))), none⟩] [0, 1])
  (.seq (.seq (.reg [⟨(some 5), .pl (.mv (.t 0)), none⟩,
      ⟨(some 6), .pl (.bin .eql .ptr (.t 5) (.c (.nilp))), none⟩] [0, 1, 6])
   (.cond (.t 6)
    (.seq (.reg [⟨(some 4), .pl (.mv (.c (.int .i64 0))), none⟩] [4])
     (.ret))
    (.skip)))
  (.seq (.reg [⟨(some 7), .pl (.mv (.t 0)), none⟩,
     ⟨(some 8), .call (.c (.fn 81 [] [])) [(.t 7)], none⟩] [0, 1])
  (.seq (.reg [⟨(some 9), .pl (.mv (.t 0)), none⟩,
     ⟨(some 10), .pl (.nilck (.t 9)), none⟩,
     ⟨(some 11), .pl (.fa 4 (.t 10)), none⟩,
     ⟨(some 12), .pl (.load none (.t 11)), none⟩,
     ⟨(some 13), .pl (.mv (.t 1)), none⟩,
     ⟨(some 14), .call (.c (.fn 14 [] [])) [(.t 12), (.t 13)], none⟩,
     ⟨(some 4), .pl (.mv (.t 14)), none⟩] [4])
  (.ret))))⟩
theorem c58 : compF Try.prog 58 = some A58 := by kernel_rfl

/-- (*concourse/desc.Desc).Rows -/
def A82 : AFun := ⟨16, [.t 4],
  .seq (.reg [⟨(some 4), .pl (.mv (.c (.esl))), none⟩] [0, 1])
  (.seq (.seq (.reg [⟨(some 5), .pl (.mv (.t 0)), none⟩,
      ⟨(some 6), .pl (.bin .eql .ptr (.t 5) (.c (.nilp))), none⟩] [0, 1, 6])
   (.cond (.t 6)
    (.seq (.reg [⟨(some 4), .pl (.mv (.c (.esl))), none⟩] [4])
     (.ret))
    (.skip)))
  (.seq (.reg [⟨(some 7), .pl (.mv (.t 0)), none⟩,
     ⟨(some 8), .call (.c (.fn 81 [] [])) [(.t 7)], none⟩] [0, 1])
  (.seq (.reg [⟨(some 9), .pl (.mv (.t 0)), none⟩,
     ⟨(some 10), .pl (.nilck (.t 9)), none⟩,
     ⟨(some 11), .pl (.fa 5 (.t 10)), none⟩,
     ⟨(some 12), .pl (.load none (.t 11)), none⟩,
     ⟨(some 13), .pl (.mv (.t 1)), none⟩,
     ⟨(some 14), .pl (.lookup true (.esl) false (.t 12) (.t 13)), none⟩,
     ⟨(some 15), .call (.c (.fn 95 [] [])) [(.t 14)], none⟩,
     ⟨(some 4), .pl (.mv (.t 15)), none⟩] [4])
  (.ret))))⟩
theorem c82 : compF Try.prog 82 = some A82 := by kernel_rfl

/-- concourse/concourselaw16.Made -/
def A34 : AFun := ⟨16, [.t 2, .t 3],
  .seq (.reg [⟨(some 2), .pl (.mv (.c (.nilp))), none⟩,
     ⟨(some 3), .pl (.mv (.c (.esl))), none⟩] [0])
  (.seq (.reg [⟨(some 7), .pl (.mv (.t 0)), none⟩,
     ⟨(some 8), .call (.c (.fn 53 [] [])) [(.t 7)], none⟩,
     ⟨(some 6), .pl (.mv (.t 8)), none⟩,
     ⟨(some 9), .pl (.ext 0 (.t 6)), none⟩,
     ⟨(some 10), .pl (.ext 1 (.t 6)), none⟩,
     ⟨(some 5), .pl (.alloc [.int .i64 0, .int .i64 0]), none⟩,
     ⟨(some 4), .pl (.mv (.t 9)), none⟩,
     ⟨none, .pl (.store 2 (.t 5) (.t 10)), none⟩] [0, 4, 5])
  (.seq (.seq (.reg [⟨(some 11), .pl (.fa 0 (.t 5)), none⟩,
      ⟨(some 12), .pl (.load none (.t 11)), none⟩,
      ⟨(some 13), .pl (.bin .neq .no (.t 12) (.c (.int .i64 0))), none⟩] [0, 4, 13])
   (.cond (.t 13)
    (.seq (.reg [⟨(some 2), .pl (.mv (.c (.nilp))), none⟩,
        ⟨(some 3), .pl (.mv (.c (.esl))), none⟩] [2, 3])
     (.ret))
    (.skip)))
  (.seq (.reg [⟨(some 14), .pl (.mv (.t 4)), none⟩,
     ⟨(some 15), .pl (.mv (.t 0)), none⟩,
     ⟨(some 2), .pl (.mv (.t 14)), none⟩,
     ⟨(some 3), .pl (.mv (.t 15)), none⟩] [2, 3])
  (.ret))))⟩
theorem c34 : compF Try.prog 34 = some A34 := by kernel_rfl

/-- concourse/ops.Types -/
def A35 : AFun := ⟨17, [.t 2, .t 3],
  .seq (.reg [⟨(some 2), .pl (.mv (.c (.esl))), none⟩,
     ⟨(some 3), .pl (.mv (.c (.esl))), none⟩] [0])
  (.seq (.reg [⟨(some 8), .pl (.mv (.t 0)), none⟩,
     ⟨(some 9), .call (.c (.fn 54 [] [])) [(.t 8)], none⟩,
     ⟨(some 7), .pl (.mv (.t 9)), none⟩,
     ⟨(some 10), .pl (.ext 0 (.t 7)), none⟩,
     ⟨(some 11), .pl (.ext 1 (.t 7)), none⟩,
     ⟨(some 12), .pl (.ext 2 (.t 7)), none⟩,
     ⟨(some 4), .pl (.mv (.t 10)), none⟩,
     ⟨(some 5), .pl (.mv (.t 11)), none⟩,
     ⟨(some 6), .pl (.mv (.t 12)), none⟩] [4, 5])
  (.seq (.reg [⟨(some 13), .pl (.mv (.t 4)), none⟩,
     ⟨(some 14), .call (.c (.fn 55 [] [])) [(.t 13)], none⟩,
     ⟨(some 15), .pl (.mv (.t 5)), none⟩,
     ⟨(some 16), .call (.c (.fn 55 [] [])) [(.t 15)], none⟩,
     ⟨(some 2), .pl (.mv (.t 14)), none⟩,
     ⟨(some 3), .pl (.mv (.t 16)), none⟩] [2, 3])
  (.ret)))⟩
theorem c35 : compF Try.prog 35 = some A35 := by kernel_rfl

/-- concourse/ops.Fits -/
def A40 : AFun := ⟨54, [.t 6],
  .seq (.reg [⟨(some 4), .pl (.box (.t 1)), none⟩,
     ⟨(some 6), .pl (.mv (.c (.int .i64 0))), none⟩] [0, 2, 4])
  (.seq (.reg [⟨(some 13), .pl (.mv (.t 2)), none⟩,
     ⟨(some 14), .call (.c (.fn 54 [] [])) [(.t 13)], none⟩,
     ⟨(some 12), .pl (.mv (.t 14)), none⟩,
     ⟨(some 15), .pl (.ext 0 (.t 12)), none⟩,
     ⟨(some 16), .pl (.ext 1 (.t 12)), none⟩,
     ⟨(some 17), .pl (.ext 2 (.t 12)), none⟩,
     ⟨(some 7), .pl (.mv (.t 15)), none⟩,
     ⟨(some 8), .pl (.mv (.t 16)), none⟩,
     ⟨(some 9), .pl (.mv (.t 17)), none⟩] [0, 2, 4, 9])
  (.seq (.reg [⟨(some 19), .pl (.mv (.t 2)), none⟩,
     ⟨(some 20), .call (.c (.fn 35 [] [])) [(.t 19)], none⟩,
     ⟨(some 18), .pl (.mv (.t 20)), none⟩,
     ⟨(some 21), .pl (.ext 0 (.t 18)), none⟩,
     ⟨(some 22), .pl (.ext 1 (.t 18)), none⟩,
     ⟨(some 10), .pl (.mv (.t 21)), none⟩,
     ⟨(some 11), .pl (.mv (.t 22)), none⟩] [0, 4, 9, 10, 11])
  (.seq (.block 0 (.seq (.reg [⟨(some 24), .pl (.mv (.t 9)), none⟩,
       ⟨(some 25), .pl (.un .not (.t 24)), none⟩,
       ⟨(some 23), .pl (.mv (.t 25)), none⟩] [0, 4, 10, 11, 23])
    (.cond (.t 23)
     (.seq (.reg [⟨(some 6), .pl (.mv (.c (.int .i64 4))), none⟩] [6])
      (.ret))
     (.seq (.reg [⟨(some 27), .pl (.mv (.t 0)), none⟩,
         ⟨(some 28), .pl (.fa 2 (.t 4)), none⟩,
         ⟨(some 29), .pl (.load none (.t 28)), none⟩,
         ⟨(some 30), .call (.c (.fn 58 [] [])) [(.t 27), (.t 29)], none⟩,
         ⟨(some 31), .pl (.bin .neq .no (.t 30) (.c (.int .i64 1))), none⟩,
         ⟨(some 32), .pl (.mv (.t 31)), none⟩,
         ⟨(some 33), .pl (.mv (.t 0)), (some (32, false))⟩,
         ⟨(some 34), .pl (.fa 3 (.t 4)), (some (32, false))⟩,
         ⟨(some 35), .pl (.load none (.t 34)), (some (32, false))⟩,
         ⟨(some 36), .call (.c (.fn 58 [] [])) [(.t 33), (.t 35)], (some (32, false))⟩,
         ⟨(some 37), .pl (.bin .neq .no (.t 36) (.c (.int .i64 1))), (some (32, false))⟩,
         ⟨(some 38), .pl (.pick (.t 32) (.c (.bool true)) (.t 37)), none⟩,
         ⟨(some 26), .pl (.mv (.t 38)), none⟩] [0, 4, 10, 11, 26])
      (.cond (.t 26)
       (.seq (.reg [⟨(some 6), .pl (.mv (.c (.int .i64 6))), none⟩] [6])
        (.ret))
       (.seq (.reg [⟨(some 40), .pl (.mv (.t 0)), none⟩,
           ⟨(some 41), .pl (.fa 2 (.t 4)), none⟩,
           ⟨(some 42), .pl (.load none (.t 41)), none⟩,
           ⟨(some 43), .pl (.mv (.t 10)), none⟩,
           ⟨(some 44), .call (.c (.fn 59 [] [])) [(.t 40), (.t 42), (.t 43)], none⟩,
           ⟨(some 45), .pl (.un .not (.t 44)), none⟩,
           ⟨(some 46), .pl (.mv (.t 45)), none⟩,
           ⟨(some 47), .pl (.mv (.t 0)), (some (46, false))⟩,
           ⟨(some 48), .pl (.fa 3 (.t 4)), (some (46, false))⟩,
           ⟨(some 49), .pl (.load none (.t 48)), (some (46, false))⟩,
           ⟨(some 50), .pl (.mv (.t 11)), (some (46, false))⟩,
           ⟨(some 51), .call (.c (.fn 59 [] [])) [(.t 47), (.t 49), (.t 50)], (some (46, false))⟩,
           ⟨(some 52), .pl (.un .not (.t 51)), (some (46, false))⟩,
           ⟨(some 53), .pl (.pick (.t 46) (.c (.bool true)) (.t 52)), none⟩,
           ⟨(some 39), .pl (.mv (.t 53)), none⟩] [39])
        (.cond (.t 39)
         (.seq (.reg [⟨(some 6), .pl (.mv (.c (.int .i64 8))), none⟩] [6])
          (.ret))
         (.skip))))))))
  (.seq (.reg [⟨(some 6), .pl (.mv (.c (.int .i64 0))), none⟩] [6])
  (.ret)))))⟩
theorem c40 : compF Try.prog 40 = some A40 := by kernel_rfl

/-- concourse/ops.row -/
def A54 : AFun := ⟨20, [.t 2, .t 3, .t 4],
  .seq (.reg [⟨(some 2), .pl (.mv (.c (.str ⟨#[]⟩))), none⟩,
     ⟨(some 3), .pl (.mv (.c (.str ⟨#[]⟩))), none⟩,
     ⟨(some 4), .pl (.mv (.c (.bool false))), none⟩] [0])
  (.seq (.seq (.reg [⟨(some 5), .pl (.mv (.t 0)), none⟩] [5])
   (.block 0 (.seq (.seq (.reg [⟨(some 7), .pl (.bin .eql .no (.t 5) (.c (.int .i64 1))), none⟩,
        ⟨(some 6), .pl (.mv (.t 7)), none⟩] [5, 6])
     (.cond (.t 6)
      (.skip)
      (.reg [⟨(some 8), .pl (.bin .eql .no (.t 5) (.c (.int .i64 6))), none⟩,
         ⟨(some 6), .pl (.mv (.t 8)), none⟩] [5, 6])))
    (.cond (.t 6)
     (.seq (.reg [⟨(some 2), .pl (.mv (.c (.str ⟨#[116]⟩))), none⟩,
         ⟨(some 3), .pl (.mv (.c (.str ⟨#[111]⟩))), none⟩,
         ⟨(some 4), .pl (.mv (.c (.bool true))), none⟩] [2, 3, 4])
      (.ret))
     (.seq (.seq (.reg [⟨(some 10), .pl (.bin .eql .no (.t 5) (.c (.int .i64 2))), none⟩,
          ⟨(some 9), .pl (.mv (.t 10)), none⟩] [5, 9])
       (.cond (.t 9)
        (.skip)
        (.reg [⟨(some 11), .pl (.bin .eql .no (.t 5) (.c (.int .i64 5))), none⟩,
           ⟨(some 9), .pl (.mv (.t 11)), none⟩] [5, 9])))
      (.cond (.t 9)
       (.seq (.reg [⟨(some 2), .pl (.mv (.c (.str ⟨#[116, 116]⟩))), none⟩,
           ⟨(some 3), .pl (.mv (.c (.str ⟨#[]⟩))), none⟩,
           ⟨(some 4), .pl (.mv (.c (.bool true))), none⟩] [2, 3, 4])
        (.ret))
       (.seq (.reg [⟨(some 13), .pl (.bin .eql .no (.t 5) (.c (.int .i64 3))), none⟩,
           ⟨(some 12), .pl (.mv (.t 13)), none⟩] [5, 12])
        (.cond (.t 12)
         (.seq (.reg [⟨(some 2), .pl (.mv (.c (.str ⟨#[116]⟩))), none⟩,
             ⟨(some 3), .pl (.mv (.c (.str ⟨#[98]⟩))), none⟩,
             ⟨(some 4), .pl (.mv (.c (.bool true))), none⟩] [2, 3, 4])
          (.ret))
         (.seq (.reg [⟨(some 15), .pl (.bin .eql .no (.t 5) (.c (.int .i64 4))), none⟩,
             ⟨(some 14), .pl (.mv (.t 15)), none⟩] [5, 14])
          (.cond (.t 14)
           (.seq (.reg [⟨(some 2), .pl (.mv (.c (.str ⟨#[116, 105]⟩))), none⟩,
               ⟨(some 3), .pl (.mv (.c (.str ⟨#[105]⟩))), none⟩,
               ⟨(some 4), .pl (.mv (.c (.bool true))), none⟩] [2, 3, 4])
            (.ret))
           (.seq (.reg [⟨(some 17), .pl (.bin .eql .no (.t 5) (.c (.int .i64 7))), none⟩,
               ⟨(some 16), .pl (.mv (.t 17)), none⟩] [5, 16])
            (.cond (.t 16)
             (.seq (.reg [⟨(some 2), .pl (.mv (.c (.str ⟨#[116, 116, 117]⟩))), none⟩,
                 ⟨(some 3), .pl (.mv (.c (.str ⟨#[98]⟩))), none⟩,
                 ⟨(some 4), .pl (.mv (.c (.bool true))), none⟩] [2, 3, 4])
              (.ret))
             (.seq (.reg [⟨(some 19), .pl (.bin .eql .no (.t 5) (.c (.int .i64 8))), none⟩,
                 ⟨(some 18), .pl (.mv (.t 19)), none⟩] [18])
              (.cond (.t 18)
               (.seq (.reg [⟨(some 2), .pl (.mv (.c (.str ⟨#[116, 116]⟩))), none⟩,
                   ⟨(some 3), .pl (.mv (.c (.str ⟨#[98]⟩))), none⟩,
                   ⟨(some 4), .pl (.mv (.c (.bool true))), none⟩] [2, 3, 4])
                (.ret))
               (.skip)))))))))))))))
  (.seq (.reg [⟨(some 2), .pl (.mv (.c (.str ⟨#[]⟩))), none⟩,
     ⟨(some 3), .pl (.mv (.c (.str ⟨#[]⟩))), none⟩,
     ⟨(some 4), .pl (.mv (.c (.bool false))), none⟩] [2, 3, 4])
  (.ret)))⟩
theorem c54 : compF Try.prog 54 = some A54 := by kernel_rfl

/-- concourse/ops.letters -/
def A55_l0 : AC := .seq (.reg [⟨(some 8), .pl (.nxt (.t 7)), none⟩,
     ⟨(some 9), .pl (.ext 0 (.t 8)), none⟩] [3, 7, 8, 9])
  (.seq (.cond (.t 9)
    (.skip)
    (.exit 0))
  (.block 1 (.seq (.reg [⟨(some 10), .pl (.ext 2 (.t 8)), none⟩,
      ⟨(some 5), .pl (.mv (.t 10)), none⟩] [3, 5, 7])
   (.reg [⟨(some 11), .pl (.mv (.t 3)), none⟩,
     ⟨(some 12), .pl (.mv (.t 5)), none⟩,
     ⟨(some 13), .call (.c (.fn 80 [] [])) [(.t 12)], none⟩,
     ⟨(some 14), .pl (.lit 3 [(.t 13)]), none⟩,
     ⟨(some 15), .pl (.append 74 3 48 (.t 11) (.t 14)), none⟩,
     ⟨(some 3), .pl (.mv (.t 15)), none⟩] [3, 7]))))
def A55_r0 : AC := .seq (.reg [⟨(some 16), .pl (.mv (.t 3)), none⟩,
     ⟨(some 2), .pl (.mv (.t 16)), none⟩] [2])
  (.ret)
def A55 : AFun := ⟨17, [.t 2],
  .seq (.reg [⟨(some 2), .pl (.mv (.c (.esl))), none⟩] [0])
  (.seq (.reg [⟨(some 3), .pl (.mv (.c (.esl))), none⟩] [0, 3])
  (.seq (.seq (.reg [⟨(some 6), .pl (.mv (.t 0)), none⟩,
      ⟨(some 7), .pl (.rng (.t 6)), none⟩] [3, 7])
   (.block 0 (.loop [3, 7] A55_l0)))
  (A55_r0)))⟩
theorem c55 : compF Try.prog 55 = some A55 := by kernel_rfl

/-- concourse/ops.begins -/
def A59_l0 : AC := .seq (.reg [⟨(some 18), .pl (.bin .lss .no (.t 17) (.t 16)), none⟩] [2, 7, 15, 16, 17, 18])
  (.seq (.cond (.t 18)
    (.skip)
    (.exit 0))
  (.seq (.block 1 (.seq (.reg [⟨(some 19), .pl (.mv (.t 17)), none⟩,
       ⟨(some 20), .pl (.ia 3 (.t 15) (.t 17)), none⟩,
       ⟨(some 21), .pl (.load (some 3) (.t 20)), none⟩,
       ⟨(some 9), .pl (.alloc [.int .i64 0, .str ⟨#[]⟩, .esl]), none⟩,
       ⟨(some 8), .pl (.mv (.t 19)), none⟩,
       ⟨none, .pl (.store 3 (.t 9) (.t 21)), none⟩] [2, 7, 8, 9, 15, 16, 17])
    (.seq (.regD [⟨(some 22), .pl (.mv (.t 8)), none⟩,
       ⟨(some 23), .pl (.mv (.t 7)), none⟩,
       ⟨(some 24), .pl (.lenL (.t 23)), none⟩,
       ⟨(some 25), .pl (.bin .geq .no (.t 22) (.t 24)), none⟩,
       ⟨(some 26), .pl (.mv (.t 25)), none⟩,
       ⟨(some 27), .pl (.mv (.t 7)), (some (26, false))⟩,
       ⟨(some 28), .pl (.mv (.t 8)), (some (26, false))⟩,
       ⟨(some 29), .pl (.ia 5 (.t 27) (.t 28)), (some (26, false))⟩,
       ⟨(some 30), .pl (.fa 0 (.t 29)), (some (26, false))⟩,
       ⟨(some 31), .pl (.load none (.t 30)), (some (26, false))⟩,
       ⟨(some 32), .pl (.mv (.t 8)), (some (26, false))⟩,
       ⟨(some 33), .pl (.bin .add .no (.t 32) (.c (.int .i64 1))), (some (26, false))⟩,
       ⟨(some 34), .pl (.bin .neq .no (.t 31) (.t 33)), (some (26, false))⟩,
       ⟨(some 35), .pl (.pick (.t 26) (.c (.bool true)) (.t 34)), none⟩,
       ⟨(some 36), .pl (.mv (.t 35)), none⟩,
       ⟨(some 37), .pl (.mv (.t 7)), (some (36, false))⟩,
       ⟨(some 38), .pl (.mv (.t 8)), (some (36, false))⟩,
       ⟨(some 39), .pl (.ia 5 (.t 37) (.t 38)), (some (36, false))⟩,
       ⟨(some 40), .pl (.fa 2 (.t 39)), (some (36, false))⟩,
       ⟨(some 41), .pl (.load (some 3) (.t 40)), (some (36, false))⟩,
       ⟨(some 42), .pl (.load (some 3) (.t 9)), (some (36, false))⟩,
       ⟨(some 43), .call (.c (.fn 83 [] [])) [(.t 41), (.t 42)], (some (36, false))⟩,
       ⟨(some 44), .pl (.un .not (.t 43)), (some (36, false))⟩,
       ⟨(some 45), .pl (.pick (.t 36) (.c (.bool true)) (.t 44)), none⟩] [] [2, 7, 15, 16, 17, 45])
    (.cond (.t 45)
     (.seq (.reg [⟨(some 6), .pl (.mv (.c (.bool false))), none⟩] [6])
      (.ret))
     (.skip)))))
  (.reg [⟨(some 46), .pl (.bin .add .no (.t 17) (.c (.int .i64 1))), none⟩,
    ⟨(some 17), .pl (.mv (.t 46)), none⟩] [2, 7, 15, 16, 17])))
def A59_l1 : AC := .seq (.reg [⟨(some 53), .pl (.bin .lss .no (.t 52) (.t 51)), none⟩] [50, 51, 52, 53])
  (.seq (.cond (.t 53)
    (.skip)
    (.exit 2))
  (.seq (.block 3 (.seq (.reg [⟨(some 54), .pl (.ia 5 (.t 50) (.t 52)), none⟩,
       ⟨(some 55), .pl (.load (some 5) (.t 54)), none⟩,
       ⟨(some 11), .pl (.alloc [.int .i64 0, .str ⟨#[]⟩, .int .i64 0, .str ⟨#[]⟩, .esl]), none⟩,
       ⟨none, .pl (.store 5 (.t 11) (.t 55)), none⟩] [11, 50, 51, 52])
    (.seq (.reg [⟨(some 56), .pl (.fa 2 (.t 11)), none⟩,
       ⟨(some 57), .pl (.fa 0 (.t 56)), none⟩,
       ⟨(some 58), .pl (.load none (.t 57)), none⟩,
       ⟨(some 59), .pl (.bin .neq .no (.t 58) (.c (.int .i64 9))), none⟩] [50, 51, 52, 59])
    (.cond (.t 59)
     (.seq (.reg [⟨(some 6), .pl (.mv (.c (.bool false))), none⟩] [6])
      (.ret))
     (.skip)))))
  (.reg [⟨(some 60), .pl (.bin .add .no (.t 52) (.c (.int .i64 1))), none⟩,
    ⟨(some 52), .pl (.mv (.t 60)), none⟩] [50, 51, 52])))
def A59_r0 : AC := .seq (.reg [⟨(some 6), .pl (.mv (.c (.bool true))), none⟩] [6])
  (.ret)
def A59_r1 : AC := .seq (.seq (.reg [⟨(some 47), .pl (.mv (.t 7)), none⟩,
      ⟨(some 48), .pl (.mv (.t 2)), none⟩,
      ⟨(some 49), .pl (.lenL (.t 48)), none⟩,
      ⟨(some 50), .pl (.slcL 5 (.t 47) (some (.t 49)) none), none⟩,
      ⟨(some 51), .pl (.lenL (.t 50)), none⟩,
      ⟨(some 52), .pl (.mv (.c (.int .i64 0))), none⟩] [50, 51, 52])
   (.block 2 (.loop [50, 51, 52] A59_l1)))
  (A59_r0)
def A59 : AFun := ⟨61, [.t 6],
  .seq (.reg [⟨(some 6), .pl (.mv (.c (.bool false))), none⟩] [0, 1, 2])
  (.seq (.reg [⟨(some 12), .pl (.mv (.t 0)), none⟩,
     ⟨(some 13), .pl (.mv (.t 1)), none⟩,
     ⟨(some 14), .call (.c (.fn 82 [] [])) [(.t 12), (.t 13)], none⟩,
     ⟨(some 7), .pl (.mv (.t 14)), none⟩] [2, 7])
  (.seq (.seq (.reg [⟨(some 15), .pl (.mv (.t 2)), none⟩,
      ⟨(some 16), .pl (.lenL (.t 15)), none⟩,
      ⟨(some 17), .pl (.mv (.c (.int .i64 0))), none⟩] [2, 7, 15, 16, 17])
   (.block 0 (.loop [2, 7, 15, 16, 17] A59_l0)))
  (A59_r1)))⟩
theorem c59 : compF Try.prog 59 = some A59 := by kernel_rfl

/-- concourse/ops.letter -/
def A80 : AFun := ⟨19, [.cell 2 (some 3)],
  .seq (.reg [⟨(some 2), .pl (.alloc [.int .i64 0, .str ⟨#[]⟩, .esl]), none⟩] [0, 2])
  (.seq (.seq (.reg [⟨(some 3), .pl (.mv (.t 0)), none⟩] [2, 3])
   (.block 0 (.seq (.reg [⟨(some 5), .pl (.bin .eql .no (.t 3) (.c (.int .i32 116))), none⟩,
       ⟨(some 4), .pl (.mv (.t 5)), none⟩] [2, 3, 4])
    (.cond (.t 4)
     (.seq (.reg [⟨(some 6), .pl (.build [.int .i64 0, .str ⟨#[]⟩, .esl] [(0, 1, (.c (.int .i64 4)))]), none⟩,
         ⟨none, .pl (.store 3 (.t 2) (.t 6)), none⟩] [2])
      (.ret))
     (.seq (.reg [⟨(some 8), .pl (.bin .eql .no (.t 3) (.c (.int .i32 105))), none⟩,
         ⟨(some 7), .pl (.mv (.t 8)), none⟩] [2, 3, 7])
      (.cond (.t 7)
       (.seq (.reg [⟨(some 9), .pl (.build [.int .i64 0, .str ⟨#[]⟩, .esl] [(0, 1, (.c (.int .i64 2)))]), none⟩,
           ⟨none, .pl (.store 3 (.t 2) (.t 9)), none⟩] [2])
        (.ret))
       (.seq (.reg [⟨(some 11), .pl (.bin .eql .no (.t 3) (.c (.int .i32 117))), none⟩,
           ⟨(some 10), .pl (.mv (.t 11)), none⟩] [2, 3, 10])
        (.cond (.t 10)
         (.seq (.reg [⟨(some 12), .pl (.build [.int .i64 0, .str ⟨#[]⟩, .esl] [(0, 1, (.c (.int .i64 3)))]), none⟩,
             ⟨none, .pl (.store 3 (.t 2) (.t 12)), none⟩] [2])
          (.ret))
         (.seq (.reg [⟨(some 14), .pl (.bin .eql .no (.t 3) (.c (.int .i32 98))), none⟩,
             ⟨(some 13), .pl (.mv (.t 14)), none⟩] [2, 13])
          (.cond (.t 13)
           (.seq (.reg [⟨(some 15), .pl (.build [.int .i64 0, .str ⟨#[]⟩, .esl] [(0, 1, (.c (.int .i64 1)))]), none⟩,
               ⟨none, .pl (.store 3 (.t 2) (.t 15)), none⟩] [2])
            (.ret))
           (.skip)))))))))))
  (.seq (.reg [⟨(some 16), .pl (.build [.int .i64 0, .str ⟨#[]⟩, .esl] [(0, 1, (.c (.int .i64 4)))]), none⟩,
     ⟨(some 17), .pl (.lit 3 [(.t 16)]), none⟩,
     ⟨(some 18), .pl (.build [.int .i64 0, .str ⟨#[]⟩, .esl] [(0, 1, (.c (.int .i64 9))), (2, 1, (.t 17))]), none⟩,
     ⟨none, .pl (.store 3 (.t 2) (.t 18)), none⟩] [2])
  (.ret)))⟩
theorem c80 : compF Try.prog 80 = some A80 := by kernel_rfl

/-- concourse/ops.same -/
def A83 : AFun := ⟨35, [.t 4],
  .seq (.reg [⟨(some 2), .pl (.box (.t 0)), none⟩,
     ⟨(some 3), .pl (.box (.t 1)), none⟩,
     ⟨(some 4), .pl (.mv (.c (.bool false))), none⟩] [2, 3])
  (.seq (.seq (.reg [⟨(some 5), .pl (.fa 0 (.t 2)), none⟩,
      ⟨(some 6), .pl (.load none (.t 5)), none⟩,
      ⟨(some 7), .pl (.fa 0 (.t 3)), none⟩,
      ⟨(some 8), .pl (.load none (.t 7)), none⟩,
      ⟨(some 9), .pl (.bin .neq .no (.t 6) (.t 8)), none⟩,
      ⟨(some 10), .pl (.mv (.t 9)), none⟩,
      ⟨(some 11), .pl (.fa 2 (.t 2)), (some (10, false))⟩,
      ⟨(some 12), .pl (.load none (.t 11)), (some (10, false))⟩,
      ⟨(some 13), .pl (.lenL (.t 12)), (some (10, false))⟩,
      ⟨(some 14), .pl (.fa 2 (.t 3)), (some (10, false))⟩,
      ⟨(some 15), .pl (.load none (.t 14)), (some (10, false))⟩,
      ⟨(some 16), .pl (.lenL (.t 15)), (some (10, false))⟩,
      ⟨(some 17), .pl (.bin .neq .no (.t 13) (.t 16)), (some (10, false))⟩,
      ⟨(some 18), .pl (.pick (.t 10) (.c (.bool true)) (.t 17)), none⟩] [2, 3, 18])
   (.cond (.t 18)
    (.seq (.reg [⟨(some 4), .pl (.mv (.c (.bool false))), none⟩] [4])
     (.ret))
    (.skip)))
  (.seq (.regD [⟨(some 19), .pl (.fa 0 (.t 2)), none⟩,
     ⟨(some 20), .pl (.load none (.t 19)), none⟩,
     ⟨(some 21), .pl (.bin .neq .no (.t 20) (.c (.int .i64 9))), none⟩,
     ⟨(some 22), .pl (.mv (.t 21)), none⟩,
     ⟨(some 23), .pl (.fa 2 (.t 2)), (some (22, false))⟩,
     ⟨(some 24), .pl (.load none (.t 23)), (some (22, false))⟩,
     ⟨(some 25), .pl (.ia 3 (.t 24) (.c (.int .i64 0))), (some (22, false))⟩,
     ⟨(some 26), .pl (.fa 0 (.t 25)), (some (22, false))⟩,
     ⟨(some 27), .pl (.load none (.t 26)), (some (22, false))⟩,
     ⟨(some 28), .pl (.fa 2 (.t 3)), (some (22, false))⟩,
     ⟨(some 29), .pl (.load none (.t 28)), (some (22, false))⟩,
     ⟨(some 30), .pl (.ia 3 (.t 29) (.c (.int .i64 0))), (some (22, false))⟩,
     ⟨(some 31), .pl (.fa 0 (.t 30)), (some (22, false))⟩,
     ⟨(some 32), .pl (.load none (.t 31)), (some (22, false))⟩,
     ⟨(some 33), .pl (.bin .eql .no (.t 27) (.t 32)), (some (22, false))⟩,
     ⟨(some 34), .pl (.pick (.t 22) (.c (.bool true)) (.t 33)), none⟩,
     ⟨(some 4), .pl (.mv (.t 34)), none⟩] [] [4])
  (.ret)))⟩
theorem c83 : compF Try.prog 83 = some A83 := by kernel_rfl

end Go.Proofs.Ytjljhmeadfejhaa
