/- The compiled form of the functions of this claim: each equation is checked by the kernel. -/
import Derived.Test.YtjljhmeadfejhaaChecked
import Derived.Test.YtjljhmeadfejhaaE21
set_option maxRecDepth 100000
namespace Go.Proofs.Ytjljhmeadfejhaa
open Go.Eng
/-- concourse/concourselaw09.ParseWords -/
def A8 : AFun := ⟨11, [.t 2],
  .seq (.reg [⟨(some 2), .pl (.mv (.c (.bool false))), none⟩] [0])
  (.seq (.reg [⟨(some 3), .pl (.mv (.t 0)), none⟩,
     ⟨(some 4), .call (.c (.fn 28 [] [])) [(.t 3)], none⟩,
     ⟨(some 5), .pl (.mv (.t 0)), none⟩,
     ⟨(some 6), .call (.c (.fn 29 [] [])) [(.t 5)], none⟩,
     ⟨(some 7), .pl (.bin .eql .bool (.t 4) (.t 6)), none⟩,
     ⟨(some 8), .pl (.mv (.t 7)), none⟩,
     ⟨(some 9), .call (.c (.fn 30 [] [])) [], (some (8, true))⟩,
     ⟨(some 10), .pl (.pick (.t 8) (.t 9) (.c (.bool false))), none⟩,
     ⟨(some 2), .pl (.mv (.t 10)), none⟩] [2])
  (.ret))⟩
theorem c8 : compF Try.prog 8 = some A8 := by kernel_rfl

/-- concourse/parse.Word -/
def A28 : AFun := ⟨16, [.t 2],
  .seq (.reg [⟨(some 2), .pl (.mv (.c (.bool false))), none⟩] [0])
  (.seq (.reg [⟨(some 3), .pl (.mv (.t 0)), none⟩,
     ⟨(some 4), .pl (.bin .neq .no (.t 3) (.c (.str ⟨#[]⟩))), none⟩,
     ⟨(some 5), .pl (.mv (.t 4)), none⟩,
     ⟨(some 6), .pl (.mv (.t 0)), (some (5, true))⟩,
     ⟨(some 7), .call (.c (.fn 46 [] [])) [(.t 6), (.c (.str ⟨#[32]⟩))], (some (5, true))⟩,
     ⟨(some 8), .pl (.un .not (.t 7)), (some (5, true))⟩,
     ⟨(some 9), .pl (.pick (.t 5) (.t 8) (.c (.bool false))), none⟩,
     ⟨(some 10), .pl (.mv (.t 9)), none⟩,
     ⟨(some 11), .pl (.mv (.t 0)), (some (10, true))⟩,
     ⟨(some 12), .pl (.bin .add .no (.c (.str ⟨#[32]⟩)) (.t 11)), (some (10, true))⟩,
     ⟨(some 13), .pl (.bin .add .no (.t 12) (.c (.str ⟨#[32]⟩))), (some (10, true))⟩,
     ⟨(some 14), .call (.c (.fn 46 [] [])) [(.c (.str ⟨#[32, 115, 116, 114, 117, 99, 116, 32, 117, 110, 105, 111, 110, 32, 101, 110, 117, 109, 32, 115, 101, 114, 118, 105, 99, 101, 32, 98, 111, 111, 108, 32, 105, 110, 116, 32, 117, 105, 110, 116, 32, 116, 101, 120, 116, 32, 98, 121, 116, 101, 115, 32, 108, 105, 115, 116, 32, 109, 97, 112, 32, 111, 110, 101, 119, 97, 121, 32]⟩)), (.t 13)], (some (10, true))⟩,
     ⟨(some 15), .pl (.pick (.t 10) (.t 14) (.c (.bool false))), none⟩,
     ⟨(some 2), .pl (.mv (.t 15)), none⟩] [2])
  (.ret))⟩
theorem c28 : compF Try.prog 28 = some A28 := by kernel_rfl

/-- concourse/concourseref09.Word -/
def A29_l0 : AC := .seq (.seq (.reg [⟨(some 6), .pl (.mv (.t 4)), none⟩,
      ⟨(some 7), .pl (.mv (.t 3)), none⟩,
      ⟨(some 8), .pl (.lenL (.t 7)), none⟩,
      ⟨(some 9), .pl (.bin .lss .no (.t 6) (.t 8)), none⟩] [0, 3, 4, 9])
   (.cond (.t 9)
    (.skip)
    (.exit 0)))
  (.seq (.block 1 (.seq (.reg [⟨(some 12), .pl (.mv (.t 3)), none⟩,
       ⟨(some 13), .pl (.mv (.t 4)), none⟩,
       ⟨(some 14), .pl (.ia 1 (.t 12) (.t 13)), none⟩,
       ⟨(some 15), .pl (.load none (.t 14)), none⟩,
       ⟨(some 16), .pl (.mv (.t 0)), none⟩,
       ⟨(some 17), .pl (.bin .eql .no (.t 15) (.t 16)), none⟩] [0, 3, 4, 17])
    (.cond (.t 17)
     (.seq (.reg [⟨(some 2), .pl (.mv (.c (.bool true))), none⟩] [2])
      (.ret))
     (.skip))))
  (.reg [⟨(some 10), .pl (.mv (.t 4)), none⟩,
    ⟨(some 11), .pl (.bin .add .no (.t 10) (.c (.int .i64 1))), none⟩,
    ⟨(some 4), .pl (.mv (.t 11)), none⟩] [0, 3, 4]))
def A29_r0 : AC := .seq (.reg [⟨(some 2), .pl (.mv (.c (.bool false))), none⟩] [2])
  (.ret)
def A29 : AFun := ⟨18, [.t 2],
  .seq (.reg [⟨(some 2), .pl (.mv (.c (.bool false))), none⟩] [0])
  (.seq (.reg [⟨(some 5), .pl (.lit 1 [(.c (.str ⟨#[115, 116, 114, 117, 99, 116]⟩)), (.c (.str ⟨#[117, 110, 105, 111, 110]⟩)), (.c (.str ⟨#[101, 110, 117, 109]⟩)), (.c (.str ⟨#[115, 101, 114, 118, 105, 99, 101]⟩)), (.c (.str ⟨#[98, 111, 111, 108]⟩)), (.c (.str ⟨#[105, 110, 116]⟩)), (.c (.str ⟨#[117, 105, 110, 116]⟩)), (.c (.str ⟨#[116, 101, 120, 116]⟩)), (.c (.str ⟨#[98, 121, 116, 101, 115]⟩)), (.c (.str ⟨#[108, 105, 115, 116]⟩)), (.c (.str ⟨#[109, 97, 112]⟩)), (.c (.str ⟨#[111, 110, 101, 119, 97, 121]⟩))]), none⟩,
     ⟨(some 3), .pl (.mv (.t 5)), none⟩] [0, 3])
  (.seq (.seq (.reg [⟨(some 4), .pl (.mv (.c (.int .i64 0))), none⟩] [0, 3, 4])
   (.block 0 (.loop [0, 3, 4] A29_l0)))
  (A29_r0)))⟩
theorem c29 : compF Try.prog 29 = some A29 := by kernel_rfl

/-- concourse/concourselaw09.awake -/
def A30 : AFun := ⟨40, [.t 0],
  .seq (.reg [⟨(some 0), .pl (.mv (.c (.bool false))), none⟩] [])
  (.seq (.reg [⟨(some 4), .call (.c (.fn 31 [] [])) [(.c (.str ⟨#[101, 110, 117, 109, 32, 69, 32, 123, 32, 48, 32, 65, 59, 32, 125]⟩))], none⟩,
     ⟨(some 3), .pl (.mv (.t 4)), none⟩,
     ⟨(some 5), .pl (.ext 0 (.t 3)), none⟩,
     ⟨(some 6), .pl (.ext 1 (.t 3)), none⟩,
     ⟨(some 2), .pl (.alloc [.int .i64 0, .int .i64 0]), none⟩,
     ⟨(some 1), .pl (.mv (.t 5)), none⟩,
     ⟨none, .pl (.store 2 (.t 2) (.t 6)), none⟩] [1, 2])
  (.seq (.reg [⟨(some 7), .pl (.load (some 2) (.t 2)), none⟩,
     ⟨(some 8), .pl (.build [.int .i64 0, .int .i64 0] []), none⟩,
     ⟨(some 9), .pl (.bin .eql (.strct [(0, 0), (1, 0)]) (.t 7) (.t 8)), none⟩,
     ⟨(some 10), .pl (.mv (.t 9)), none⟩,
     ⟨(some 11), .pl (.mv (.t 1)), (some (10, true))⟩,
     ⟨(some 12), .pl (.lenL (.t 11)), (some (10, true))⟩,
     ⟨(some 13), .pl (.bin .eql .no (.t 12) (.c (.int .i64 1))), (some (10, true))⟩,
     ⟨(some 14), .pl (.pick (.t 10) (.t 13) (.c (.bool false))), none⟩,
     ⟨(some 15), .pl (.mv (.t 14)), none⟩,
     ⟨(some 16), .pl (.mv (.t 1)), (some (15, true))⟩,
     ⟨(some 17), .pl (.ia 5 (.t 16) (.c (.int .i64 0))), (some (15, true))⟩,
     ⟨(some 18), .pl (.fa 0 (.t 17)), (some (15, true))⟩,
     ⟨(some 19), .pl (.load none (.t 18)), (some (15, true))⟩,
     ⟨(some 20), .pl (.bin .eql .no (.t 19) (.c (.int .i64 3))), (some (15, true))⟩,
     ⟨(some 21), .pl (.pick (.t 15) (.t 20) (.c (.bool false))), none⟩,
     ⟨(some 22), .pl (.mv (.t 21)), none⟩,
     ⟨(some 23), .pl (.mv (.t 1)), (some (22, true))⟩,
     ⟨(some 24), .pl (.ia 5 (.t 23) (.c (.int .i64 0))), (some (22, true))⟩,
     ⟨(some 25), .pl (.fa 2 (.t 24)), (some (22, true))⟩,
     ⟨(some 26), .pl (.load none (.t 25)), (some (22, true))⟩,
     ⟨(some 27), .pl (.lenL (.t 26)), (some (22, true))⟩,
     ⟨(some 28), .pl (.bin .eql .no (.t 27) (.c (.int .i64 1))), (some (22, true))⟩,
     ⟨(some 29), .pl (.pick (.t 22) (.t 28) (.c (.bool false))), none⟩,
     ⟨(some 30), .pl (.mv (.t 29)), none⟩,
     ⟨(some 31), .pl (.mv (.t 1)), (some (30, true))⟩,
     ⟨(some 32), .pl (.ia 5 (.t 31) (.c (.int .i64 0))), (some (30, true))⟩,
     ⟨(some 33), .pl (.fa 2 (.t 32)), (some (30, true))⟩,
     ⟨(some 34), .pl (.load none (.t 33)), (some (30, true))⟩,
     ⟨(some 35), .pl (.ia 5 (.t 34) (.c (.int .i64 0))), (some (30, true))⟩,
     ⟨(some 36), .pl (.fa 1 (.t 35)), (some (30, true))⟩,
     ⟨(some 37), .pl (.load none (.t 36)), (some (30, true))⟩,
     ⟨(some 38), .pl (.bin .eql .no (.t 37) (.c (.str ⟨#[65]⟩))), (some (30, true))⟩,
     ⟨(some 39), .pl (.pick (.t 30) (.t 38) (.c (.bool false))), none⟩,
     ⟨(some 0), .pl (.mv (.t 39)), none⟩] [0])
  (.ret)))⟩
theorem c30 : compF Try.prog 30 = some A30 := by kernel_rfl

/-- concourse/parse.Parse -/
def A31_l0 : AC := .seq (.seq (.reg [⟨(some 23), .pl (.mv (.t 6)), none⟩,
      ⟨(some 24), .call (.c (.fn 49 [] [])) [(.t 23)], none⟩,
      ⟨(some 25), .pl (.mv (.t 24)), none⟩,
      ⟨(some 26), .pl (.mv (.t 6)), (some (25, true))⟩,
      ⟨(some 27), .call (.c (.fn 50 [] [])) [(.t 26)], (some (25, true))⟩,
      ⟨(some 28), .pl (.fld 0 none (.t 27)), (some (25, true))⟩,
      ⟨(some 29), .pl (.bin .neq .no (.t 28) (.c (.int .i64 4))), (some (25, true))⟩,
      ⟨(some 30), .pl (.pick (.t 25) (.t 29) (.c (.bool false))), none⟩] [3, 6, 7, 8, 30])
   (.cond (.t 30)
    (.skip)
    (.exit 0)))
  (.block 1 (.seq (.seq (.reg [⟨(some 31), .pl (.mv (.t 8)), none⟩,
       ⟨(some 32), .pl (.lenL (.t 31)), none⟩,
       ⟨(some 33), .pl (.bin .eql .no (.t 32) (.c (.int .i64 16))), none⟩] [3, 6, 7, 8, 33])
    (.cond (.t 33)
     (.seq (.reg [⟨(some 34), .pl (.mv (.t 6)), none⟩,
         ⟨(some 35), .call (.c (.fn 51 [] [])) [(.t 34), (.c (.int .i64 3))], none⟩] [3, 6, 8])
      (.exit 0))
     (.skip)))
   (.reg [⟨(some 36), .pl (.mv (.t 8)), none⟩,
     ⟨(some 37), .pl (.mv (.t 7)), none⟩,
     ⟨(some 38), .call (.t 37) [], none⟩,
     ⟨(some 39), .pl (.lit 5 [(.t 38)]), none⟩,
     ⟨(some 40), .pl (.append 34 5 80 (.t 36) (.t 39)), none⟩,
     ⟨(some 8), .pl (.mv (.t 40)), none⟩] [3, 6, 7, 8])))
def A31_r0 : AC := .seq (.seq (.reg [⟨(some 41), .pl (.mv (.t 6)), none⟩,
      ⟨(some 42), .call (.c (.fn 49 [] [])) [(.t 41)], none⟩,
      ⟨(some 43), .pl (.un .not (.t 42)), none⟩] [3, 6, 8, 43])
   (.cond (.t 43)
    (.seq (.regD [⟨(some 44), .pl (.mv (.t 6)), none⟩,
        ⟨(some 45), .pl (.nilck (.t 44)), none⟩,
        ⟨(some 46), .pl (.fa 2 (.t 45)), none⟩,
        ⟨(some 47), .pl (.load (some 2) (.t 46)), none⟩,
        ⟨(some 2), .pl (.mv (.c (.esl))), none⟩,
        ⟨none, .pl (.store 2 (.t 3) (.t 47)), none⟩] [] [2, 3])
     (.ret))
    (.skip)))
  (.seq (.reg [⟨(some 48), .pl (.mv (.t 8)), none⟩,
     ⟨(some 49), .pl (.build [.int .i64 0, .int .i64 0] []), none⟩,
     ⟨(some 2), .pl (.mv (.t 48)), none⟩,
     ⟨none, .pl (.store 2 (.t 3) (.t 49)), none⟩] [2, 3])
  (.ret))
def A31 : AFun := ⟨50, [.t 2, .cell 3 (some 2)],
  .seq (.reg [⟨(some 2), .pl (.mv (.c (.esl))), none⟩,
     ⟨(some 3), .pl (.alloc [.int .i64 0, .int .i64 0]), none⟩] [0, 3])
  (.seq (.reg [⟨(some 10), .pl (.mv (.t 0)), none⟩,
     ⟨(some 11), .call (.c (.fn 47 [] [])) [(.t 10)], none⟩,
     ⟨(some 9), .pl (.mv (.t 11)), none⟩,
     ⟨(some 12), .pl (.ext 0 (.t 9)), none⟩,
     ⟨(some 13), .pl (.ext 1 (.t 9)), none⟩,
     ⟨(some 5), .pl (.alloc [.int .i64 0, .int .i64 0]), none⟩,
     ⟨(some 4), .pl (.mv (.t 12)), none⟩,
     ⟨none, .pl (.store 2 (.t 5) (.t 13)), none⟩] [3, 4, 5])
  (.seq (.seq (.reg [⟨(some 14), .pl (.fa 0 (.t 5)), none⟩,
      ⟨(some 15), .pl (.load none (.t 14)), none⟩,
      ⟨(some 16), .pl (.bin .neq .no (.t 15) (.c (.int .i64 0))), none⟩] [3, 4, 5, 16])
   (.cond (.t 16)
    (.seq (.regD [⟨(some 17), .pl (.load (some 2) (.t 5)), none⟩,
        ⟨(some 2), .pl (.mv (.c (.esl))), none⟩,
        ⟨none, .pl (.store 2 (.t 3) (.t 17)), none⟩] [] [2, 3])
     (.ret))
    (.skip)))
  (.seq (.reg [⟨(some 18), .pl (.mv (.t 4)), none⟩,
     ⟨(some 19), .pl (.build [.esl, .int .i64 0, .int .i64 0, .int .i64 0] [(0, 1, (.t 18))]), none⟩,
     ⟨(some 20), .pl (.box (.t 19)), none⟩,
     ⟨(some 6), .pl (.mv (.t 20)), none⟩] [3, 6])
  (.seq (.reg [⟨(some 21), .pl (.mv (.t 6)), none⟩,
     ⟨(some 22), .pl (.mkfn 48 [(.t 21)] []), none⟩,
     ⟨(some 7), .pl (.mv (.t 22)), none⟩] [3, 6, 7])
  (.seq (.reg [⟨(some 8), .pl (.mv (.c (.esl))), none⟩] [3, 6, 7, 8])
  (.seq (.block 0 (.loop [3, 6, 7, 8] A31_l0))
  (A31_r0)))))))⟩
theorem c31 : compF Try.prog 31 = some A31 := by kernel_rfl

/-- concourse/lex.Tokens -/
def A47_l0 : AC := .seq (.seq (.reg [⟨(some 14), .pl (.mv (.t 4)), none⟩,
      ⟨(some 15), .pl (.nilck (.t 14)), none⟩,
      ⟨(some 16), .pl (.fa 1 (.t 15)), none⟩,
      ⟨(some 17), .pl (.load none (.t 16)), none⟩,
      ⟨(some 18), .pl (.mv (.t 0)), none⟩,
      ⟨(some 19), .pl (.lenS (.t 18)), none⟩,
      ⟨(some 20), .pl (.bin .lss .no (.t 17) (.t 19)), none⟩] [0, 3, 4, 20])
   (.cond (.t 20)
    (.skip)
    (.exit 0)))
  (.block 1 (.seq (.reg [⟨(some 21), .pl (.mv (.t 4)), none⟩,
      ⟨(some 22), .pl (.nilck (.t 21)), none⟩,
      ⟨(some 23), .pl (.fa 1 (.t 22)), none⟩,
      ⟨(some 24), .pl (.load none (.t 23)), none⟩,
      ⟨(some 5), .pl (.mv (.t 24)), none⟩] [0, 3, 4, 5])
   (.seq (.reg [⟨(some 25), .pl (.mv (.t 4)), none⟩,
      ⟨(some 26), .call (.c (.fn 67 [] [])) [(.t 25)], none⟩,
      ⟨(some 6), .pl (.mv (.t 26)), none⟩] [0, 3, 4, 5, 6])
   (.seq (.reg [⟨(some 27), .pl (.mv (.t 6)), none⟩,
      ⟨(some 28), .pl (.bin .neq .no (.t 27) (.c (.int .i64 0))), none⟩] [0, 3, 4, 5, 6, 28])
   (.cond (.t 28)
    (.seq (.reg [⟨(some 29), .pl (.mv (.t 6)), none⟩,
        ⟨(some 30), .pl (.mv (.t 5)), none⟩,
        ⟨(some 31), .pl (.build [.int .i64 0, .int .i64 0] [(0, 1, (.t 29)), (1, 1, (.t 30))]), none⟩,
        ⟨(some 2), .pl (.mv (.c (.esl))), none⟩,
        ⟨none, .pl (.store 2 (.t 3) (.t 31)), none⟩] [2, 3])
     (.ret))
    (.skip))))))
def A47_r0 : AC := .seq (.reg [⟨(some 32), .pl (.mv (.t 4)), none⟩,
     ⟨(some 33), .pl (.mv (.t 0)), none⟩,
     ⟨(some 34), .pl (.lenS (.t 33)), none⟩,
     ⟨(some 35), .call (.c (.fn 68 [] [])) [(.t 32), (.c (.int .i64 4)), (.c (.str ⟨#[]⟩)), (.c (.int .i64 0)), (.t 34)], none⟩] [3, 4])
  (.seq (.reg [⟨(some 36), .pl (.mv (.t 4)), none⟩,
     ⟨(some 37), .pl (.nilck (.t 36)), none⟩,
     ⟨(some 38), .pl (.fa 2 (.t 37)), none⟩,
     ⟨(some 39), .pl (.load none (.t 38)), none⟩,
     ⟨(some 40), .pl (.build [.int .i64 0, .int .i64 0] []), none⟩,
     ⟨(some 2), .pl (.mv (.t 39)), none⟩,
     ⟨none, .pl (.store 2 (.t 3) (.t 40)), none⟩] [2, 3])
  (.ret))
def A47 : AFun := ⟨41, [.t 2, .cell 3 (some 2)],
  .seq (.reg [⟨(some 2), .pl (.mv (.c (.esl))), none⟩,
     ⟨(some 3), .pl (.alloc [.int .i64 0, .int .i64 0]), none⟩] [0, 3])
  (.seq (.seq (.reg [⟨(some 7), .pl (.mv (.t 0)), none⟩,
      ⟨(some 8), .pl (.lenS (.t 7)), none⟩,
      ⟨(some 9), .pl (.bin .gtr .no (.t 8) (.c (.int .i64 1024))), none⟩] [0, 3, 9])
   (.cond (.t 9)
    (.seq (.reg [⟨(some 10), .pl (.build [.int .i64 0, .int .i64 0] [(0, 1, (.c (.int .i64 3)))]), none⟩,
        ⟨(some 2), .pl (.mv (.c (.esl))), none⟩,
        ⟨none, .pl (.store 2 (.t 3) (.t 10)), none⟩] [2, 3])
     (.ret))
    (.skip)))
  (.seq (.reg [⟨(some 11), .pl (.mv (.t 0)), none⟩,
     ⟨(some 12), .pl (.build [.str ⟨#[]⟩, .int .i64 0, .esl] [(0, 1, (.t 11))]), none⟩,
     ⟨(some 13), .pl (.box (.t 12)), none⟩,
     ⟨(some 4), .pl (.mv (.t 13)), none⟩] [0, 3, 4])
  (.seq (.block 0 (.loop [0, 3, 4] A47_l0))
  (A47_r0))))⟩
theorem c47 : compF Try.prog 47 = some A47 := by kernel_rfl

/-- (*concourse/parse.parser).decl -/
def A48 : AFun := ⟨39, [.cell 2 (some 5)],
  .seq (.reg [⟨(some 1), .pl (.box (.t 0)), none⟩,
     ⟨(some 2), .pl (.alloc [.int .i64 0, .str ⟨#[]⟩, .esl, .esl, .int .i64 0]), none⟩] [1, 2])
  (.seq (.reg [⟨(some 6), .pl (.load none (.t 1)), none⟩,
     ⟨(some 7), .call (.c (.fn 50 [] [])) [(.t 6)], none⟩,
     ⟨(some 8), .pl (.fld 3 none (.t 7)), none⟩,
     ⟨(some 9), .pl (.build [.int .i64 0, .str ⟨#[]⟩, .esl, .esl, .int .i64 0] [(4, 1, (.t 8))]), none⟩,
     ⟨(some 3), .pl (.alloc [.int .i64 0, .str ⟨#[]⟩, .esl, .esl, .int .i64 0]), none⟩,
     ⟨none, .pl (.store 5 (.t 3) (.t 9)), none⟩] [1, 2, 3])
  (.seq (.reg [⟨(some 10), .pl (.mkfn 69 [] [(.t 1), (.t 3)]), none⟩,
     ⟨(some 4), .pl (.mv (.t 10)), none⟩] [1, 2, 3, 4])
  (.seq (.reg [⟨(some 11), .pl (.mv (.t 4)), none⟩,
     ⟨(some 5), .pl (.mv (.t 11)), none⟩] [1, 2, 3, 5])
  (.seq (.block 0 (.seq (.reg [⟨(some 15), .pl (.load none (.t 1)), none⟩,
       ⟨(some 16), .call (.c (.fn 74 [] [])) [(.t 15), (.c (.str ⟨#[115, 116, 114, 117, 99, 116]⟩))], none⟩,
       ⟨(some 14), .pl (.mv (.t 16)), none⟩] [1, 2, 3, 5, 14])
    (.cond (.t 14)
     (.reg [⟨(some 17), .pl (.fa 0 (.t 3)), none⟩,
        ⟨none, .pl (.store 1 (.t 17) (.c (.int .i64 1))), none⟩] [1, 2, 3, 5])
     (.seq (.reg [⟨(some 19), .pl (.load none (.t 1)), none⟩,
         ⟨(some 20), .call (.c (.fn 74 [] [])) [(.t 19), (.c (.str ⟨#[117, 110, 105, 111, 110]⟩))], none⟩,
         ⟨(some 18), .pl (.mv (.t 20)), none⟩] [1, 2, 3, 5, 18])
      (.cond (.t 18)
       (.reg [⟨(some 21), .pl (.fa 0 (.t 3)), none⟩,
          ⟨none, .pl (.store 1 (.t 21) (.c (.int .i64 2))), none⟩] [1, 2, 3, 5])
       (.seq (.reg [⟨(some 23), .pl (.load none (.t 1)), none⟩,
           ⟨(some 24), .call (.c (.fn 74 [] [])) [(.t 23), (.c (.str ⟨#[101, 110, 117, 109]⟩))], none⟩,
           ⟨(some 22), .pl (.mv (.t 24)), none⟩] [1, 2, 3, 5, 22])
        (.cond (.t 22)
         (.seq (.reg [⟨(some 25), .pl (.fa 0 (.t 3)), none⟩,
             ⟨none, .pl (.store 1 (.t 25) (.c (.int .i64 3))), none⟩] [1, 2, 3])
          (.reg [⟨(some 26), .pl (.mkfn 75 [] [(.t 3), (.t 1)]), none⟩,
            ⟨(some 5), .pl (.mv (.t 26)), none⟩] [1, 2, 3, 5]))
         (.seq (.reg [⟨(some 28), .pl (.load none (.t 1)), none⟩,
             ⟨(some 29), .call (.c (.fn 74 [] [])) [(.t 28), (.c (.str ⟨#[115, 101, 114, 118, 105, 99, 101]⟩))], none⟩,
             ⟨(some 27), .pl (.mv (.t 29)), none⟩] [1, 2, 3, 5, 27])
          (.cond (.t 27)
           (.seq (.reg [⟨(some 30), .pl (.fa 0 (.t 3)), none⟩,
               ⟨none, .pl (.store 1 (.t 30) (.c (.int .i64 4))), none⟩] [1, 2, 3])
            (.reg [⟨(some 31), .pl (.mkfn 76 [] [(.t 3), (.t 1)]), none⟩,
              ⟨(some 5), .pl (.mv (.t 31)), none⟩] [1, 2, 3, 5]))
           (.reg [⟨(some 12), .pl (.load none (.t 1)), none⟩,
              ⟨(some 13), .call (.c (.fn 51 [] [])) [(.t 12), (.c (.int .i64 5))], none⟩] [1, 2, 3, 5]))))))))))
  (.seq (.reg [⟨(some 32), .pl (.load none (.t 1)), none⟩,
     ⟨(some 33), .call (.c (.fn 71 [] [])) [(.t 32)], none⟩,
     ⟨(some 34), .pl (.fa 1 (.t 3)), none⟩,
     ⟨none, .pl (.store 1 (.t 34) (.t 33)), none⟩] [1, 2, 3, 5])
  (.seq (.reg [⟨(some 35), .pl (.load none (.t 1)), none⟩,
     ⟨(some 36), .pl (.mv (.t 5)), none⟩,
     ⟨(some 37), .call (.c (.fn 78 [] [])) [(.t 35), (.t 36)], none⟩] [2, 3])
  (.seq (.reg [⟨(some 38), .pl (.load (some 5) (.t 3)), none⟩,
     ⟨none, .pl (.store 5 (.t 2) (.t 38)), none⟩] [2])
  (.ret))))))))⟩
theorem c48 : compF Try.prog 48 = some A48 := by kernel_rfl

/-- (*concourse/parse.parser).well -/
def A49 : AFun := ⟨9, [.t 2],
  .seq (.reg [⟨(some 2), .pl (.mv (.c (.bool false))), none⟩] [0])
  (.seq (.reg [⟨(some 3), .pl (.mv (.t 0)), none⟩,
     ⟨(some 4), .pl (.nilck (.t 3)), none⟩,
     ⟨(some 5), .pl (.fa 2 (.t 4)), none⟩,
     ⟨(some 6), .pl (.fa 0 (.t 5)), none⟩,
     ⟨(some 7), .pl (.load none (.t 6)), none⟩,
     ⟨(some 8), .pl (.bin .eql .no (.t 7) (.c (.int .i64 0))), none⟩,
     ⟨(some 2), .pl (.mv (.t 8)), none⟩] [2])
  (.ret))⟩
theorem c49 : compF Try.prog 49 = some A49 := by kernel_rfl

/-- (*concourse/parse.parser).now -/
def A50 : AFun := ⟨13, [.cell 2 (some 4)],
  .seq (.reg [⟨(some 2), .pl (.alloc [.int .i64 0, .str ⟨#[]⟩, .int .i64 0, .int .i64 0]), none⟩] [0, 2])
  (.seq (.regD [⟨(some 3), .pl (.mv (.t 0)), none⟩,
     ⟨(some 4), .pl (.nilck (.t 3)), none⟩,
     ⟨(some 5), .pl (.fa 0 (.t 4)), none⟩,
     ⟨(some 6), .pl (.load none (.t 5)), none⟩,
     ⟨(some 7), .pl (.mv (.t 0)), none⟩,
     ⟨(some 8), .pl (.nilck (.t 7)), none⟩,
     ⟨(some 9), .pl (.fa 1 (.t 8)), none⟩,
     ⟨(some 10), .pl (.load none (.t 9)), none⟩,
     ⟨(some 11), .pl (.ia 4 (.t 6) (.t 10)), none⟩,
     ⟨(some 12), .pl (.load (some 4) (.t 11)), none⟩,
     ⟨none, .pl (.store 4 (.t 2) (.t 12)), none⟩] [] [2])
  (.ret))⟩
theorem c50 : compF Try.prog 50 = some A50 := by kernel_rfl

/-- (*concourse/parse.parser).fail -/
def A51 : AFun := ⟨14, [],
  .seq (.reg [⟨(some 4), .pl (.mv (.t 0)), none⟩,
     ⟨(some 5), .call (.c (.fn 49 [] [])) [(.t 4)], none⟩] [0, 1, 5])
  (.cond (.t 5)
   (.reg [⟨(some 6), .pl (.mv (.t 0)), none⟩,
      ⟨(some 7), .pl (.mv (.t 1)), none⟩,
      ⟨(some 8), .pl (.mv (.t 0)), none⟩,
      ⟨(some 9), .call (.c (.fn 50 [] [])) [(.t 8)], none⟩,
      ⟨(some 10), .pl (.fld 3 none (.t 9)), none⟩,
      ⟨(some 11), .pl (.build [.int .i64 0, .int .i64 0] [(0, 1, (.t 7)), (1, 1, (.t 10))]), none⟩,
      ⟨(some 12), .pl (.nilck (.t 6)), none⟩,
      ⟨(some 13), .pl (.fa 2 (.t 12)), none⟩,
      ⟨none, .pl (.store 2 (.t 13) (.t 11)), none⟩] [])
   (.skip))⟩
theorem c51 : compF Try.prog 51 = some A51 := by kernel_rfl

/-- (*concourse/lex.lexer).one -/
def A67 : AFun := ⟨73, [.t 2],
  .seq (.reg [⟨(some 2), .pl (.mv (.c (.int .i64 0))), none⟩] [0])
  (.seq (.regD [⟨(some 4), .pl (.mv (.t 0)), none⟩,
     ⟨(some 5), .pl (.nilck (.t 4)), none⟩,
     ⟨(some 6), .pl (.fa 0 (.t 5)), none⟩,
     ⟨(some 7), .pl (.load none (.t 6)), none⟩,
     ⟨(some 8), .pl (.mv (.t 0)), none⟩,
     ⟨(some 9), .pl (.nilck (.t 8)), none⟩,
     ⟨(some 10), .pl (.fa 1 (.t 9)), none⟩,
     ⟨(some 11), .pl (.load none (.t 10)), none⟩,
     ⟨(some 12), .pl (.ixS (.t 7) (.t 11)), none⟩,
     ⟨(some 3), .pl (.mv (.t 12)), none⟩] [] [0, 3])
  (.seq (.block 0 (.seq (.reg [⟨(some 14), .pl (.mv (.t 3)), none⟩,
       ⟨(some 15), .call (.c (.fn 88 [] [])) [(.t 14)], none⟩,
       ⟨(some 13), .pl (.mv (.t 15)), none⟩] [0, 3, 13])
    (.cond (.t 13)
     (.seq (.reg [⟨(some 16), .pl (.mv (.t 0)), none⟩,
         ⟨(some 17), .call (.c (.fn 89 [] [])) [(.t 16)], none⟩,
         ⟨(some 2), .pl (.mv (.t 17)), none⟩] [2])
      (.ret))
     (.seq (.reg [⟨(some 19), .pl (.mv (.t 3)), none⟩,
         ⟨(some 20), .call (.c (.fn 90 [] [])) [(.t 19)], none⟩,
         ⟨(some 18), .pl (.mv (.t 20)), none⟩] [0, 3, 18])
      (.cond (.t 18)
       (.seq (.reg [⟨(some 21), .pl (.mv (.t 0)), none⟩,
           ⟨(some 22), .call (.c (.fn 91 [] [])) [(.t 21)], none⟩,
           ⟨(some 2), .pl (.mv (.t 22)), none⟩] [2])
        (.ret))
       (.skip))))))
  (.seq (.seq (.reg [⟨(some 23), .pl (.mv (.t 3)), none⟩] [0, 3, 23])
   (.block 1 (.seq (.block 5 (.seq (.block 4 (.block 3 (.seq (.block 2 (.seq (.seq (.seq (.reg [⟨(some 25), .pl (.bin .eql .no (.t 23) (.c (.int .u8 47))), none⟩,
                ⟨(some 24), .pl (.mv (.t 25)), none⟩] [0, 3, 23, 24])
             (.cond (.t 24)
              (.exit 2)
              (.skip)))
            (.seq (.seq (.reg [⟨(some 27), .pl (.bin .eql .no (.t 23) (.c (.int .u8 32))), none⟩,
                ⟨(some 26), .pl (.mv (.t 27)), none⟩] [0, 3, 23, 26])
             (.cond (.t 26)
              (.exit 3)
              (.skip)))
            (.seq (.seq (.reg [⟨(some 29), .pl (.bin .eql .no (.t 23) (.c (.int .u8 9))), none⟩,
                ⟨(some 28), .pl (.mv (.t 29)), none⟩] [0, 3, 23, 28])
             (.cond (.t 28)
              (.skip)
              (.seq (.reg [⟨(some 30), .pl (.bin .eql .no (.t 23) (.c (.int .u8 10))), none⟩,
                  ⟨(some 28), .pl (.mv (.t 30)), none⟩] [0, 3, 23, 28])
               (.cond (.t 28)
                (.skip)
                (.reg [⟨(some 31), .pl (.bin .eql .no (.t 23) (.c (.int .u8 13))), none⟩,
                   ⟨(some 28), .pl (.mv (.t 31)), none⟩] [0, 3, 28])))))
            (.cond (.t 28)
             (.exit 4)
             (.skip)))))
           (.exit 5)))
         (.seq (.seq (.reg [⟨(some 32), .pl (.mv (.t 0)), none⟩,
             ⟨(some 33), .call (.c (.fn 92 [] [])) [(.t 32)], none⟩,
             ⟨(some 34), .pl (.un .not (.t 33)), none⟩] [34])
          (.cond (.t 34)
           (.seq (.reg [⟨(some 2), .pl (.mv (.c (.int .i64 5))), none⟩] [2])
            (.ret))
           (.skip)))
         (.exit 1)))))
      (.seq (.reg [⟨(some 35), .pl (.mv (.t 0)), none⟩,
         ⟨(some 36), .pl (.nilck (.t 35)), none⟩,
         ⟨(some 37), .pl (.fa 1 (.t 36)), none⟩,
         ⟨(some 38), .pl (.load none (.t 37)), none⟩,
         ⟨(some 39), .pl (.bin .add .no (.t 38) (.c (.int .i64 1))), none⟩,
         ⟨(some 40), .pl (.nilck (.t 35)), none⟩,
         ⟨(some 41), .pl (.fa 1 (.t 40)), none⟩,
         ⟨none, .pl (.store 1 (.t 41) (.t 39)), none⟩] [])
      (.exit 1))))
    (.seq (.seq (.seq (.reg [⟨(some 42), .pl (.mv (.t 3)), none⟩,
         ⟨(some 43), .call (.c (.fn 93 [] [])) [(.c (.str ⟨#[123, 125, 40, 41, 60, 62, 58, 59, 44, 63]⟩)), (.t 42)], none⟩,
         ⟨(some 44), .pl (.bin .lss .no (.t 43) (.c (.int .i64 0))), none⟩] [0, 44])
      (.cond (.t 44)
       (.seq (.reg [⟨(some 2), .pl (.mv (.c (.int .i64 5))), none⟩] [2])
        (.ret))
       (.skip)))
     (.seq (.reg [⟨(some 45), .pl (.mv (.t 0)), none⟩,
        ⟨(some 46), .pl (.nilck (.t 45)), none⟩,
        ⟨(some 47), .pl (.fa 1 (.t 46)), none⟩,
        ⟨(some 48), .pl (.load none (.t 47)), none⟩,
        ⟨(some 49), .pl (.bin .add .no (.t 48) (.c (.int .i64 1))), none⟩,
        ⟨(some 50), .pl (.nilck (.t 45)), none⟩,
        ⟨(some 51), .pl (.fa 1 (.t 50)), none⟩,
        ⟨none, .pl (.store 1 (.t 51) (.t 49)), none⟩] [0])
     (.regD [⟨(some 52), .pl (.mv (.t 0)), none⟩,
       ⟨(some 53), .pl (.mv (.t 0)), none⟩,
       ⟨(some 54), .pl (.nilck (.t 53)), none⟩,
       ⟨(some 55), .pl (.fa 0 (.t 54)), none⟩,
       ⟨(some 56), .pl (.load none (.t 55)), none⟩,
       ⟨(some 57), .pl (.mv (.t 0)), none⟩,
       ⟨(some 58), .pl (.nilck (.t 57)), none⟩,
       ⟨(some 59), .pl (.fa 1 (.t 58)), none⟩,
       ⟨(some 60), .pl (.load none (.t 59)), none⟩,
       ⟨(some 61), .pl (.bin .sub .no (.t 60) (.c (.int .i64 1))), none⟩,
       ⟨(some 62), .pl (.mv (.t 0)), none⟩,
       ⟨(some 63), .pl (.nilck (.t 62)), none⟩,
       ⟨(some 64), .pl (.fa 1 (.t 63)), none⟩,
       ⟨(some 65), .pl (.load none (.t 64)), none⟩,
       ⟨(some 66), .pl (.slcS (.t 56) (some (.t 61)) (some (.t 65))), none⟩,
       ⟨(some 67), .pl (.mv (.t 0)), none⟩,
       ⟨(some 68), .pl (.nilck (.t 67)), none⟩,
       ⟨(some 69), .pl (.fa 1 (.t 68)), none⟩,
       ⟨(some 70), .pl (.load none (.t 69)), none⟩,
       ⟨(some 71), .pl (.bin .sub .no (.t 70) (.c (.int .i64 1))), none⟩,
       ⟨(some 72), .call (.c (.fn 68 [] [])) [(.t 52), (.c (.int .i64 3)), (.t 66), (.c (.int .i64 0)), (.t 71)], none⟩] [] [])))
    (.exit 1)))))
  (.seq (.reg [⟨(some 2), .pl (.mv (.c (.int .i64 0))), none⟩] [2])
  (.ret)))))⟩
theorem c67 : compF Try.prog 67 = some A67 := by kernel_rfl

/-- (*concourse/lex.lexer).put -/
def A68 : AFun := ⟨24, [],
  .reg [⟨(some 10), .pl (.mv (.t 0)), none⟩,
    ⟨(some 11), .pl (.mv (.t 0)), none⟩,
    ⟨(some 12), .pl (.nilck (.t 11)), none⟩,
    ⟨(some 13), .pl (.fa 2 (.t 12)), none⟩,
    ⟨(some 14), .pl (.load none (.t 13)), none⟩,
    ⟨(some 15), .pl (.mv (.t 1)), none⟩,
    ⟨(some 16), .pl (.mv (.t 2)), none⟩,
    ⟨(some 17), .pl (.mv (.t 3)), none⟩,
    ⟨(some 18), .pl (.mv (.t 4)), none⟩,
    ⟨(some 19), .pl (.build [.int .i64 0, .str ⟨#[]⟩, .int .i64 0, .int .i64 0] [(0, 1, (.t 15)), (1, 1, (.t 16)), (2, 1, (.t 17)), (3, 1, (.t 18))]), none⟩,
    ⟨(some 20), .pl (.lit 4 [(.t 19)]), none⟩,
    ⟨(some 21), .pl (.append 93 4 40 (.t 14) (.t 20)), none⟩,
    ⟨(some 22), .pl (.nilck (.t 10)), none⟩,
    ⟨(some 23), .pl (.fa 2 (.t 22)), none⟩,
    ⟨none, .pl (.store 1 (.t 23) (.t 21)), none⟩] []⟩
theorem c68 : compF Try.prog 68 = some A68 := by kernel_rfl

/-- (*concourse/parse.parser).number -/
def A70 : AFun := ⟨23, [.t 2],
  .seq (.reg [⟨(some 2), .pl (.mv (.c (.int .i64 0))), none⟩] [0])
  (.seq (.reg [⟨(some 4), .pl (.mv (.t 0)), none⟩,
     ⟨(some 5), .call (.c (.fn 50 [] [])) [(.t 4)], none⟩,
     ⟨(some 3), .pl (.alloc [.int .i64 0, .str ⟨#[]⟩, .int .i64 0, .int .i64 0]), none⟩,
     ⟨none, .pl (.store 4 (.t 3) (.t 5)), none⟩] [0, 3])
  (.seq (.seq (.reg [⟨(some 6), .pl (.fa 0 (.t 3)), none⟩,
      ⟨(some 7), .pl (.load none (.t 6)), none⟩,
      ⟨(some 8), .pl (.bin .neq .no (.t 7) (.c (.int .i64 2))), none⟩] [0, 3, 8])
   (.cond (.t 8)
    (.reg [⟨(some 9), .pl (.mv (.t 0)), none⟩,
       ⟨(some 10), .call (.c (.fn 51 [] [])) [(.t 9), (.c (.int .i64 5))], none⟩] [0, 3])
    (.skip)))
  (.seq (.seq (.reg [⟨(some 11), .pl (.mv (.t 0)), none⟩,
      ⟨(some 12), .call (.c (.fn 49 [] [])) [(.t 11)], none⟩,
      ⟨(some 13), .pl (.un .not (.t 12)), none⟩] [0, 3, 13])
   (.cond (.t 13)
    (.seq (.reg [⟨(some 2), .pl (.mv (.c (.int .i64 0))), none⟩] [2])
     (.ret))
    (.skip)))
  (.seq (.reg [⟨(some 14), .pl (.mv (.t 0)), none⟩,
     ⟨(some 15), .pl (.nilck (.t 14)), none⟩,
     ⟨(some 16), .pl (.fa 1 (.t 15)), none⟩,
     ⟨(some 17), .pl (.load none (.t 16)), none⟩,
     ⟨(some 18), .pl (.bin .add .no (.t 17) (.c (.int .i64 1))), none⟩,
     ⟨(some 19), .pl (.nilck (.t 14)), none⟩,
     ⟨(some 20), .pl (.fa 1 (.t 19)), none⟩,
     ⟨none, .pl (.store 1 (.t 20) (.t 18)), none⟩] [3])
  (.seq (.reg [⟨(some 21), .pl (.fa 2 (.t 3)), none⟩,
     ⟨(some 22), .pl (.load none (.t 21)), none⟩,
     ⟨(some 2), .pl (.mv (.t 22)), none⟩] [2])
  (.ret))))))⟩
theorem c70 : compF Try.prog 70 = some A70 := by kernel_rfl

/-- (*concourse/parse.parser).name -/
def A71 : AFun := ⟨28, [.t 2],
  .seq (.reg [⟨(some 2), .pl (.mv (.c (.str ⟨#[]⟩))), none⟩] [0])
  (.seq (.reg [⟨(some 4), .pl (.mv (.t 0)), none⟩,
     ⟨(some 5), .call (.c (.fn 50 [] [])) [(.t 4)], none⟩,
     ⟨(some 3), .pl (.alloc [.int .i64 0, .str ⟨#[]⟩, .int .i64 0, .int .i64 0]), none⟩,
     ⟨none, .pl (.store 4 (.t 3) (.t 5)), none⟩] [0, 3])
  (.seq (.seq (.reg [⟨(some 6), .pl (.fa 0 (.t 3)), none⟩,
      ⟨(some 7), .pl (.load none (.t 6)), none⟩,
      ⟨(some 8), .pl (.bin .neq .no (.t 7) (.c (.int .i64 1))), none⟩,
      ⟨(some 9), .pl (.mv (.t 8)), none⟩,
      ⟨(some 10), .pl (.fa 1 (.t 3)), (some (9, false))⟩,
      ⟨(some 11), .pl (.load none (.t 10)), (some (9, false))⟩,
      ⟨(some 12), .call (.c (.fn 28 [] [])) [(.t 11)], (some (9, false))⟩,
      ⟨(some 13), .pl (.pick (.t 9) (.c (.bool true)) (.t 12)), none⟩] [0, 3, 13])
   (.cond (.t 13)
    (.reg [⟨(some 14), .pl (.mv (.t 0)), none⟩,
       ⟨(some 15), .call (.c (.fn 51 [] [])) [(.t 14), (.c (.int .i64 5))], none⟩] [0, 3])
    (.skip)))
  (.seq (.seq (.reg [⟨(some 16), .pl (.mv (.t 0)), none⟩,
      ⟨(some 17), .call (.c (.fn 49 [] [])) [(.t 16)], none⟩,
      ⟨(some 18), .pl (.un .not (.t 17)), none⟩] [0, 3, 18])
   (.cond (.t 18)
    (.seq (.reg [⟨(some 2), .pl (.mv (.c (.str ⟨#[]⟩))), none⟩] [2])
     (.ret))
    (.skip)))
  (.seq (.reg [⟨(some 19), .pl (.mv (.t 0)), none⟩,
     ⟨(some 20), .pl (.nilck (.t 19)), none⟩,
     ⟨(some 21), .pl (.fa 1 (.t 20)), none⟩,
     ⟨(some 22), .pl (.load none (.t 21)), none⟩,
     ⟨(some 23), .pl (.bin .add .no (.t 22) (.c (.int .i64 1))), none⟩,
     ⟨(some 24), .pl (.nilck (.t 19)), none⟩,
     ⟨(some 25), .pl (.fa 1 (.t 24)), none⟩,
     ⟨none, .pl (.store 1 (.t 25) (.t 23)), none⟩] [3])
  (.seq (.reg [⟨(some 26), .pl (.fa 1 (.t 3)), none⟩,
     ⟨(some 27), .pl (.load none (.t 26)), none⟩,
     ⟨(some 2), .pl (.mv (.t 27)), none⟩] [2])
  (.ret))))))⟩
theorem c71 : compF Try.prog 71 = some A71 := by kernel_rfl

/-- (*concourse/parse.parser).need -/
def A72 : AFun := ⟨10, [],
  .seq (.reg [⟨(some 4), .pl (.mv (.t 0)), none⟩,
     ⟨(some 5), .pl (.mv (.t 1)), none⟩,
     ⟨(some 6), .call (.c (.fn 74 [] [])) [(.t 4), (.t 5)], none⟩,
     ⟨(some 7), .pl (.un .not (.t 6)), none⟩] [0, 7])
  (.cond (.t 7)
   (.reg [⟨(some 8), .pl (.mv (.t 0)), none⟩,
      ⟨(some 9), .call (.c (.fn 51 [] [])) [(.t 8), (.c (.int .i64 5))], none⟩] [])
   (.skip))⟩
theorem c72 : compF Try.prog 72 = some A72 := by kernel_rfl

/-- (*concourse/parse.parser).typ -/
def A73 : AFun := ⟨23, [.cell 4 (some 3)],
  .seq (.reg [⟨(some 4), .pl (.alloc [.int .i64 0, .str ⟨#[]⟩, .esl]), none⟩] [0, 1, 4])
  (.seq (.seq (.reg [⟨(some 6), .pl (.mv (.t 1)), none⟩,
      ⟨(some 7), .pl (.bin .gtr .no (.t 6) (.c (.int .i64 8))), none⟩] [0, 1, 4, 7])
   (.cond (.t 7)
    (.reg [⟨(some 8), .pl (.mv (.t 0)), none⟩,
       ⟨(some 9), .call (.c (.fn 51 [] [])) [(.t 8), (.c (.int .i64 10))], none⟩] [0, 1, 4])
    (.skip)))
  (.seq (.seq (.reg [⟨(some 10), .pl (.mv (.t 0)), none⟩,
      ⟨(some 11), .call (.c (.fn 49 [] [])) [(.t 10)], none⟩,
      ⟨(some 12), .pl (.un .not (.t 11)), none⟩] [0, 1, 4, 12])
   (.cond (.t 12)
    (.seq (.reg [⟨(some 13), .pl (.build [.int .i64 0, .str ⟨#[]⟩, .esl] []), none⟩,
        ⟨none, .pl (.store 3 (.t 4) (.t 13)), none⟩] [4])
     (.ret))
    (.skip)))
  (.seq (.reg [⟨(some 14), .pl (.mv (.t 0)), none⟩,
     ⟨(some 15), .pl (.mv (.t 1)), none⟩,
     ⟨(some 16), .call (.c (.fn 94 [] [])) [(.t 14), (.t 15)], none⟩,
     ⟨(some 5), .pl (.alloc [.int .i64 0, .str ⟨#[]⟩, .esl]), none⟩,
     ⟨none, .pl (.store 3 (.t 5) (.t 16)), none⟩] [0, 4, 5])
  (.seq (.seq (.reg [⟨(some 17), .pl (.mv (.t 0)), none⟩,
      ⟨(some 18), .call (.c (.fn 74 [] [])) [(.t 17), (.c (.str ⟨#[63]⟩))], none⟩] [4, 5, 18])
   (.cond (.t 18)
    (.seq (.reg [⟨(some 19), .pl (.load (some 3) (.t 5)), none⟩,
        ⟨(some 20), .pl (.lit 3 [(.t 19)]), none⟩,
        ⟨(some 21), .pl (.build [.int .i64 0, .str ⟨#[]⟩, .esl] [(0, 1, (.c (.int .i64 9))), (2, 1, (.t 20))]), none⟩,
        ⟨none, .pl (.store 3 (.t 4) (.t 21)), none⟩] [4])
     (.ret))
    (.skip)))
  (.seq (.reg [⟨(some 22), .pl (.load (some 3) (.t 5)), none⟩,
     ⟨none, .pl (.store 3 (.t 4) (.t 22)), none⟩] [4])
  (.ret))))))⟩
theorem c73 : compF Try.prog 73 = some A73 := by kernel_rfl

/-- (*concourse/parse.parser).may -/
def A74 : AFun := ⟨26, [.t 4],
  .seq (.reg [⟨(some 4), .pl (.mv (.c (.bool false))), none⟩] [0, 1])
  (.seq (.seq (.reg [⟨(some 5), .pl (.mv (.t 0)), none⟩,
      ⟨(some 6), .call (.c (.fn 49 [] [])) [(.t 5)], none⟩,
      ⟨(some 7), .pl (.un .not (.t 6)), none⟩,
      ⟨(some 8), .pl (.mv (.t 7)), none⟩,
      ⟨(some 9), .pl (.mv (.t 0)), (some (8, false))⟩,
      ⟨(some 10), .call (.c (.fn 50 [] [])) [(.t 9)], (some (8, false))⟩,
      ⟨(some 11), .pl (.fld 1 none (.t 10)), (some (8, false))⟩,
      ⟨(some 12), .pl (.mv (.t 1)), (some (8, false))⟩,
      ⟨(some 13), .pl (.bin .neq .no (.t 11) (.t 12)), (some (8, false))⟩,
      ⟨(some 14), .pl (.pick (.t 8) (.c (.bool true)) (.t 13)), none⟩,
      ⟨(some 15), .pl (.mv (.t 14)), none⟩,
      ⟨(some 16), .pl (.mv (.t 1)), (some (15, false))⟩,
      ⟨(some 17), .pl (.bin .eql .no (.t 16) (.c (.str ⟨#[]⟩))), (some (15, false))⟩,
      ⟨(some 18), .pl (.pick (.t 15) (.c (.bool true)) (.t 17)), none⟩] [0, 18])
   (.cond (.t 18)
    (.seq (.reg [⟨(some 4), .pl (.mv (.c (.bool false))), none⟩] [4])
     (.ret))
    (.skip)))
  (.seq (.reg [⟨(some 19), .pl (.mv (.t 0)), none⟩,
     ⟨(some 20), .pl (.nilck (.t 19)), none⟩,
     ⟨(some 21), .pl (.fa 1 (.t 20)), none⟩,
     ⟨(some 22), .pl (.load none (.t 21)), none⟩,
     ⟨(some 23), .pl (.bin .add .no (.t 22) (.c (.int .i64 1))), none⟩,
     ⟨(some 24), .pl (.nilck (.t 19)), none⟩,
     ⟨(some 25), .pl (.fa 1 (.t 24)), none⟩,
     ⟨none, .pl (.store 1 (.t 25) (.t 23)), none⟩] [])
  (.seq (.reg [⟨(some 4), .pl (.mv (.c (.bool true))), none⟩] [4])
  (.ret))))⟩
theorem c74 : compF Try.prog 74 = some A74 := by kernel_rfl

/-- (*concourse/parse.parser).decl$2 -/
def A75 : AFun := ⟨12, [],
  .regD [⟨(some 2), .pl (.fa 2 (.t 0)), none⟩,
    ⟨(some 3), .pl (.load none (.t 2)), none⟩,
    ⟨(some 4), .pl (.load none (.t 1)), none⟩,
    ⟨(some 5), .call (.c (.fn 70 [] [])) [(.t 4)], none⟩,
    ⟨(some 6), .pl (.load none (.t 1)), none⟩,
    ⟨(some 7), .call (.c (.fn 71 [] [])) [(.t 6)], none⟩,
    ⟨(some 8), .pl (.build [.int .i64 0, .str ⟨#[]⟩, .int .i64 0, .str ⟨#[]⟩, .esl] [(0, 1, (.t 5)), (1, 1, (.t 7))]), none⟩,
    ⟨(some 9), .pl (.lit 5 [(.t 8)]), none⟩,
    ⟨(some 10), .pl (.append 76 5 72 (.t 3) (.t 9)), none⟩,
    ⟨(some 11), .pl (.fa 2 (.t 0)), none⟩,
    ⟨none, .pl (.store 1 (.t 11) (.t 10)), none⟩] [(1, 3), (1, 5), (4, 3)] []⟩
theorem c75 : compF Try.prog 75 = some A75 := by kernel_rfl

/-- (*concourse/parse.parser).decl$3 -/
def A76 : AFun := ⟨9, [],
  .regD [⟨(some 2), .pl (.fa 3 (.t 0)), none⟩,
    ⟨(some 3), .pl (.load none (.t 2)), none⟩,
    ⟨(some 4), .pl (.load none (.t 1)), none⟩,
    ⟨(some 5), .call (.c (.fn 77 [] [])) [(.t 4)], none⟩,
    ⟨(some 6), .pl (.lit 5 [(.t 5)]), none⟩,
    ⟨(some 7), .pl (.append 42 5 64 (.t 3) (.t 6)), none⟩,
    ⟨(some 8), .pl (.fa 3 (.t 0)), none⟩,
    ⟨none, .pl (.store 1 (.t 8) (.t 7)), none⟩] [(1, 3)] []⟩
theorem c76 : compF Try.prog 76 = some A76 := by kernel_rfl

/-- (*concourse/parse.parser).method -/
def A77 : AFun := ⟨26, [.cell 2 (some 5)],
  .seq (.reg [⟨(some 2), .pl (.alloc [.int .i64 0, .str ⟨#[]⟩, .str ⟨#[]⟩, .str ⟨#[]⟩, .bool false]), none⟩] [0, 2])
  (.seq (.reg [⟨(some 4), .pl (.mv (.t 0)), none⟩,
     ⟨(some 5), .call (.c (.fn 74 [] [])) [(.t 4), (.c (.str ⟨#[111, 110, 101, 119, 97, 121]⟩))], none⟩,
     ⟨(some 6), .pl (.build [.int .i64 0, .str ⟨#[]⟩, .str ⟨#[]⟩, .str ⟨#[]⟩, .bool false] [(4, 1, (.t 5))]), none⟩,
     ⟨(some 3), .pl (.alloc [.int .i64 0, .str ⟨#[]⟩, .str ⟨#[]⟩, .str ⟨#[]⟩, .bool false]), none⟩,
     ⟨none, .pl (.store 5 (.t 3) (.t 6)), none⟩] [0, 2, 3])
  (.seq (.reg [⟨(some 7), .pl (.mv (.t 0)), none⟩,
     ⟨(some 8), .call (.c (.fn 70 [] [])) [(.t 7)], none⟩,
     ⟨(some 9), .pl (.fa 0 (.t 3)), none⟩,
     ⟨none, .pl (.store 1 (.t 9) (.t 8)), none⟩] [0, 2, 3])
  (.seq (.reg [⟨(some 10), .pl (.mv (.t 0)), none⟩,
     ⟨(some 11), .call (.c (.fn 71 [] [])) [(.t 10)], none⟩,
     ⟨(some 12), .pl (.fa 1 (.t 3)), none⟩,
     ⟨none, .pl (.store 1 (.t 12) (.t 11)), none⟩] [0, 2, 3])
  (.seq (.reg [⟨(some 13), .pl (.mv (.t 0)), none⟩,
     ⟨(some 14), .call (.c (.fn 72 [] [])) [(.t 13), (.c (.str ⟨#[40]⟩))], none⟩] [0, 2, 3])
  (.seq (.reg [⟨(some 15), .pl (.mv (.t 0)), none⟩,
     ⟨(some 16), .call (.c (.fn 71 [] [])) [(.t 15)], none⟩,
     ⟨(some 17), .pl (.fa 2 (.t 3)), none⟩,
     ⟨none, .pl (.store 1 (.t 17) (.t 16)), none⟩] [0, 2, 3])
  (.seq (.reg [⟨(some 18), .pl (.mv (.t 0)), none⟩,
     ⟨(some 19), .call (.c (.fn 72 [] [])) [(.t 18), (.c (.str ⟨#[41]⟩))], none⟩] [0, 2, 3])
  (.seq (.reg [⟨(some 20), .pl (.mv (.t 0)), none⟩,
     ⟨(some 21), .call (.c (.fn 72 [] [])) [(.t 20), (.c (.str ⟨#[58]⟩))], none⟩] [0, 2, 3])
  (.seq (.reg [⟨(some 22), .pl (.mv (.t 0)), none⟩,
     ⟨(some 23), .call (.c (.fn 71 [] [])) [(.t 22)], none⟩,
     ⟨(some 24), .pl (.fa 3 (.t 3)), none⟩,
     ⟨none, .pl (.store 1 (.t 24) (.t 23)), none⟩] [2, 3])
  (.seq (.reg [⟨(some 25), .pl (.load (some 5) (.t 3)), none⟩,
     ⟨none, .pl (.store 5 (.t 2) (.t 25)), none⟩] [2])
  (.ret))))))))))⟩
theorem c77 : compF Try.prog 77 = some A77 := by kernel_rfl

/-- (*concourse/parse.parser).rows -/
def A78_l0 : AC := .seq (.seq (.reg [⟨(some 7), .pl (.mv (.t 0)), none⟩,
      ⟨(some 8), .call (.c (.fn 49 [] [])) [(.t 7)], none⟩,
      ⟨(some 9), .pl (.mv (.t 8)), none⟩,
      ⟨(some 10), .pl (.mv (.t 0)), (some (9, true))⟩,
      ⟨(some 11), .call (.c (.fn 74 [] [])) [(.t 10), (.c (.str ⟨#[125]⟩))], (some (9, true))⟩,
      ⟨(some 12), .pl (.un .not (.t 11)), (some (9, true))⟩,
      ⟨(some 13), .pl (.pick (.t 9) (.t 12) (.c (.bool false))), none⟩] [0, 1, 4, 13])
   (.cond (.t 13)
    (.skip)
    (.exit 0)))
  (.seq (.block 1 (.seq (.seq (.reg [⟨(some 16), .pl (.mv (.t 4)), none⟩,
        ⟨(some 17), .pl (.bin .eql .no (.t 16) (.c (.int .i64 16))), none⟩,
        ⟨(some 18), .pl (.mv (.t 17)), none⟩,
        ⟨(some 19), .pl (.mv (.t 0)), (some (18, true))⟩,
        ⟨(some 20), .call (.c (.fn 50 [] [])) [(.t 19)], (some (18, true))⟩,
        ⟨(some 21), .pl (.fld 0 none (.t 20)), (some (18, true))⟩,
        ⟨(some 22), .pl (.bin .neq .no (.t 21) (.c (.int .i64 4))), (some (18, true))⟩,
        ⟨(some 23), .pl (.pick (.t 18) (.t 22) (.c (.bool false))), none⟩] [0, 1, 4, 23])
     (.cond (.t 23)
      (.reg [⟨(some 24), .pl (.mv (.t 0)), none⟩,
         ⟨(some 25), .call (.c (.fn 51 [] [])) [(.t 24), (.c (.int .i64 3))], none⟩] [0, 1, 4])
      (.skip)))
    (.seq (.reg [⟨(some 26), .pl (.mv (.t 0)), none⟩,
       ⟨(some 27), .call (.c (.fn 49 [] [])) [(.t 26)], none⟩] [0, 1, 4, 27])
    (.cond (.t 27)
     (.seq (.reg [⟨(some 28), .pl (.mv (.t 1)), none⟩,
         ⟨(some 29), .call (.t 28) [], none⟩] [0, 1, 4])
      (.reg [⟨(some 30), .pl (.mv (.t 0)), none⟩,
        ⟨(some 31), .call (.c (.fn 72 [] [])) [(.t 30), (.c (.str ⟨#[59]⟩))], none⟩] [0, 1, 4]))
     (.skip)))))
  (.reg [⟨(some 14), .pl (.mv (.t 4)), none⟩,
    ⟨(some 15), .pl (.bin .add .no (.t 14) (.c (.int .i64 1))), none⟩,
    ⟨(some 4), .pl (.mv (.t 15)), none⟩] [0, 1, 4]))
def A78 : AFun := ⟨32, [],
  .seq (.reg [⟨(some 5), .pl (.mv (.t 0)), none⟩,
     ⟨(some 6), .call (.c (.fn 72 [] [])) [(.t 5), (.c (.str ⟨#[123]⟩))], none⟩] [0, 1])
  (.seq (.reg [⟨(some 4), .pl (.mv (.c (.int .i64 0))), none⟩] [0, 1, 4])
  (.block 0 (.loop [0, 1, 4] A78_l0)))⟩
theorem c78 : compF Try.prog 78 = some A78 := by kernel_rfl

/-- concourse/lex.letter -/
def A88 : AFun := ⟨17, [.t 2],
  .seq (.reg [⟨(some 2), .pl (.mv (.c (.bool false))), none⟩] [0])
  (.seq (.reg [⟨(some 3), .pl (.mv (.t 0)), none⟩,
     ⟨(some 4), .pl (.bin .geq .no (.t 3) (.c (.int .u8 97))), none⟩,
     ⟨(some 5), .pl (.mv (.t 4)), none⟩,
     ⟨(some 6), .pl (.mv (.t 0)), (some (5, true))⟩,
     ⟨(some 7), .pl (.bin .leq .no (.t 6) (.c (.int .u8 122))), (some (5, true))⟩,
     ⟨(some 8), .pl (.pick (.t 5) (.t 7) (.c (.bool false))), none⟩,
     ⟨(some 9), .pl (.mv (.t 8)), none⟩,
     ⟨(some 10), .pl (.mv (.t 0)), (some (9, false))⟩,
     ⟨(some 11), .pl (.bin .geq .no (.t 10) (.c (.int .u8 65))), (some (9, false))⟩,
     ⟨(some 12), .pl (.mv (.t 11)), (some (9, false))⟩,
     ⟨(some 13), .pl (.mv (.t 0)), (some (12, true))⟩,
     ⟨(some 14), .pl (.bin .leq .no (.t 13) (.c (.int .u8 90))), (some (12, true))⟩,
     ⟨(some 15), .pl (.pick (.t 12) (.t 14) (.c (.bool false))), (some (9, false))⟩,
     ⟨(some 16), .pl (.pick (.t 9) (.c (.bool true)) (.t 15)), none⟩,
     ⟨(some 2), .pl (.mv (.t 16)), none⟩] [2])
  (.ret))⟩
theorem c88 : compF Try.prog 88 = some A88 := by kernel_rfl

/-- (*concourse/lex.lexer).word -/
def A89 : AFun := ⟨18, [.t 2],
  .seq (.reg [⟨(some 2), .pl (.mv (.c (.int .i64 0))), none⟩] [0])
  (.seq (.reg [⟨(some 5), .pl (.mv (.t 0)), none⟩,
     ⟨(some 6), .pl (.nilck (.t 5)), none⟩,
     ⟨(some 7), .pl (.fa 1 (.t 6)), none⟩,
     ⟨(some 8), .pl (.load none (.t 7)), none⟩,
     ⟨(some 3), .pl (.mv (.t 8)), none⟩] [0, 3])
  (.seq (.reg [⟨(some 9), .pl (.mv (.t 0)), none⟩,
     ⟨(some 10), .call (.c (.fn 109 [] [])) [(.t 9), (.c (.fn 110 [] []))], none⟩,
     ⟨(some 4), .pl (.mv (.t 10)), none⟩] [0, 3, 4])
  (.seq (.seq (.reg [⟨(some 11), .pl (.mv (.t 4)), none⟩,
      ⟨(some 12), .pl (.lenS (.t 11)), none⟩,
      ⟨(some 13), .pl (.bin .gtr .no (.t 12) (.c (.int .i64 16))), none⟩] [0, 3, 4, 13])
   (.cond (.t 13)
    (.seq (.reg [⟨(some 2), .pl (.mv (.c (.int .i64 6))), none⟩] [2])
     (.ret))
    (.skip)))
  (.seq (.reg [⟨(some 14), .pl (.mv (.t 0)), none⟩,
     ⟨(some 15), .pl (.mv (.t 4)), none⟩,
     ⟨(some 16), .pl (.mv (.t 3)), none⟩,
     ⟨(some 17), .call (.c (.fn 68 [] [])) [(.t 14), (.c (.int .i64 1)), (.t 15), (.c (.int .i64 0)), (.t 16)], none⟩] [])
  (.seq (.reg [⟨(some 2), .pl (.mv (.c (.int .i64 0))), none⟩] [2])
  (.ret))))))⟩
theorem c89 : compF Try.prog 89 = some A89 := by kernel_rfl

/-- concourse/lex.digit -/
def A90 : AFun := ⟨9, [.t 2],
  .seq (.reg [⟨(some 2), .pl (.mv (.c (.bool false))), none⟩] [0])
  (.seq (.reg [⟨(some 3), .pl (.mv (.t 0)), none⟩,
     ⟨(some 4), .pl (.bin .geq .no (.t 3) (.c (.int .u8 48))), none⟩,
     ⟨(some 5), .pl (.mv (.t 4)), none⟩,
     ⟨(some 6), .pl (.mv (.t 0)), (some (5, true))⟩,
     ⟨(some 7), .pl (.bin .leq .no (.t 6) (.c (.int .u8 57))), (some (5, true))⟩,
     ⟨(some 8), .pl (.pick (.t 5) (.t 7) (.c (.bool false))), none⟩,
     ⟨(some 2), .pl (.mv (.t 8)), none⟩] [2])
  (.ret))⟩
theorem c90 : compF Try.prog 90 = some A90 := by kernel_rfl

/-- (*concourse/lex.lexer).number -/
def A91_l0 : AC := .seq (.reg [⟨(some 29), .pl (.bin .lss .no (.t 28) (.t 27)), none⟩] [0, 3, 4, 5, 27, 28, 29])
  (.seq (.cond (.t 29)
    (.skip)
    (.exit 1))
  (.seq (.block 2 (.seq (.reg [⟨(some 30), .pl (.mv (.t 28)), none⟩,
       ⟨(some 6), .pl (.mv (.t 30)), none⟩] [0, 3, 4, 5, 6, 27, 28])
    (.reg [⟨(some 31), .pl (.mv (.t 5)), none⟩,
      ⟨(some 32), .pl (.bin .mul .no (.c (.int .i64 10)) (.t 31)), none⟩,
      ⟨(some 33), .pl (.mv (.t 4)), none⟩,
      ⟨(some 34), .pl (.mv (.t 6)), none⟩,
      ⟨(some 35), .pl (.ixS (.t 33) (.t 34)), none⟩,
      ⟨(some 36), .pl (.bin .sub .no (.t 35) (.c (.int .u8 48))), none⟩,
      ⟨(some 37), .pl (.conv .i64 (.t 36)), none⟩,
      ⟨(some 38), .pl (.bin .add .no (.t 32) (.t 37)), none⟩,
      ⟨(some 5), .pl (.mv (.t 38)), none⟩] [0, 3, 4, 5, 27, 28])))
  (.reg [⟨(some 39), .pl (.bin .add .no (.t 28) (.c (.int .i64 1))), none⟩,
    ⟨(some 28), .pl (.mv (.t 39)), none⟩] [0, 3, 4, 5, 27, 28])))
def A91_r0 : AC := .seq (.reg [⟨(some 40), .pl (.mv (.t 0)), none⟩,
     ⟨(some 41), .pl (.mv (.t 4)), none⟩,
     ⟨(some 42), .pl (.mv (.t 5)), none⟩,
     ⟨(some 43), .pl (.mv (.t 3)), none⟩,
     ⟨(some 44), .call (.c (.fn 68 [] [])) [(.t 40), (.c (.int .i64 2)), (.t 41), (.t 42), (.t 43)], none⟩] [])
  (.seq (.reg [⟨(some 2), .pl (.mv (.c (.int .i64 0))), none⟩] [2])
  (.ret))
def A91 : AFun := ⟨45, [.t 2],
  .seq (.reg [⟨(some 2), .pl (.mv (.c (.int .i64 0))), none⟩] [0])
  (.seq (.reg [⟨(some 7), .pl (.mv (.t 0)), none⟩,
     ⟨(some 8), .pl (.nilck (.t 7)), none⟩,
     ⟨(some 9), .pl (.fa 1 (.t 8)), none⟩,
     ⟨(some 10), .pl (.load none (.t 9)), none⟩,
     ⟨(some 3), .pl (.mv (.t 10)), none⟩] [0, 3])
  (.seq (.reg [⟨(some 11), .pl (.mv (.t 0)), none⟩,
     ⟨(some 12), .call (.c (.fn 109 [] [])) [(.t 11), (.c (.fn 90 [] []))], none⟩,
     ⟨(some 4), .pl (.mv (.t 12)), none⟩] [0, 3, 4])
  (.seq (.block 0 (.seq (.reg [⟨(some 14), .pl (.mv (.t 4)), none⟩,
       ⟨(some 15), .pl (.lenS (.t 14)), none⟩,
       ⟨(some 16), .pl (.bin .gtr .no (.t 15) (.c (.int .i64 1))), none⟩,
       ⟨(some 17), .pl (.mv (.t 16)), none⟩,
       ⟨(some 18), .pl (.mv (.t 4)), (some (17, true))⟩,
       ⟨(some 19), .pl (.ixS (.t 18) (.c (.int .i64 0))), (some (17, true))⟩,
       ⟨(some 20), .pl (.bin .eql .no (.t 19) (.c (.int .u8 48))), (some (17, true))⟩,
       ⟨(some 21), .pl (.pick (.t 17) (.t 20) (.c (.bool false))), none⟩,
       ⟨(some 13), .pl (.mv (.t 21)), none⟩] [0, 3, 4, 13])
    (.cond (.t 13)
     (.seq (.reg [⟨(some 2), .pl (.mv (.c (.int .i64 1))), none⟩] [2])
      (.ret))
     (.seq (.reg [⟨(some 23), .pl (.mv (.t 4)), none⟩,
         ⟨(some 24), .pl (.lenS (.t 23)), none⟩,
         ⟨(some 25), .pl (.bin .gtr .no (.t 24) (.c (.int .i64 4))), none⟩,
         ⟨(some 22), .pl (.mv (.t 25)), none⟩] [0, 3, 4, 22])
      (.cond (.t 22)
       (.seq (.reg [⟨(some 2), .pl (.mv (.c (.int .i64 3))), none⟩] [2])
        (.ret))
       (.skip))))))
  (.seq (.reg [⟨(some 5), .pl (.mv (.c (.int .i64 0))), none⟩] [0, 3, 4, 5])
  (.seq (.seq (.reg [⟨(some 26), .pl (.mv (.t 4)), none⟩,
      ⟨(some 27), .pl (.lenS (.t 26)), none⟩,
      ⟨(some 28), .pl (.mv (.c (.int .i64 0))), none⟩] [0, 3, 4, 5, 27, 28])
   (.block 1 (.loop [0, 3, 4, 5, 27, 28] A91_l0)))
  (A91_r0))))))⟩
theorem c91 : compF Try.prog 91 = some A91 := by kernel_rfl

/-- (*concourse/lex.lexer).note -/
def A92 : AFun := ⟨16, [.t 2],
  .seq (.reg [⟨(some 2), .pl (.mv (.c (.bool false))), none⟩] [0])
  (.seq (.seq (.regD [⟨(some 3), .pl (.mv (.t 0)), none⟩,
      ⟨(some 4), .pl (.nilck (.t 3)), none⟩,
      ⟨(some 5), .pl (.fa 0 (.t 4)), none⟩,
      ⟨(some 6), .pl (.load none (.t 5)), none⟩,
      ⟨(some 7), .pl (.mv (.t 0)), none⟩,
      ⟨(some 8), .pl (.nilck (.t 7)), none⟩,
      ⟨(some 9), .pl (.fa 1 (.t 8)), none⟩,
      ⟨(some 10), .pl (.load none (.t 9)), none⟩,
      ⟨(some 11), .pl (.slcS (.t 6) (some (.t 10)) none), none⟩,
      ⟨(some 12), .call (.c (.fn 111 [] [])) [(.t 11), (.c (.str ⟨#[47, 47]⟩))], none⟩,
      ⟨(some 13), .pl (.un .not (.t 12)), none⟩] [] [0, 13])
   (.cond (.t 13)
    (.seq (.reg [⟨(some 2), .pl (.mv (.c (.bool false))), none⟩] [2])
     (.ret))
    (.skip)))
  (.seq (.reg [⟨(some 14), .pl (.mv (.t 0)), none⟩,
     ⟨(some 15), .call (.c (.fn 109 [] [])) [(.t 14), (.c (.fn 112 [] []))], none⟩] [])
  (.seq (.reg [⟨(some 2), .pl (.mv (.c (.bool true))), none⟩] [2])
  (.ret))))⟩
theorem c92 : compF Try.prog 92 = some A92 := by kernel_rfl

/-- (*concourse/parse.parser).base -/
def A94 : AFun := ⟨64, [.cell 4 (some 3)],
  .seq (.reg [⟨(some 4), .pl (.alloc [.int .i64 0, .str ⟨#[]⟩, .esl]), none⟩] [0, 1, 4])
  (.seq (.reg [⟨(some 10), .pl (.mv (.t 0)), none⟩,
     ⟨(some 11), .call (.c (.fn 50 [] [])) [(.t 10)], none⟩,
     ⟨(some 5), .pl (.alloc [.int .i64 0, .str ⟨#[]⟩, .int .i64 0, .int .i64 0]), none⟩,
     ⟨none, .pl (.store 4 (.t 5) (.t 11)), none⟩] [0, 1, 4, 5])
  (.seq (.seq (.reg [⟨(some 12), .pl (.fa 1 (.t 5)), none⟩,
      ⟨(some 13), .pl (.load none (.t 12)), none⟩,
      ⟨(some 14), .call (.c (.fn 113 [] [])) [(.t 13)], none⟩,
      ⟨(some 6), .pl (.mv (.t 14)), none⟩] [0, 1, 4, 6])
   (.seq (.reg [⟨(some 15), .pl (.mv (.t 6)), none⟩,
      ⟨(some 16), .pl (.bin .gtr .no (.t 15) (.c (.int .i64 0))), none⟩] [0, 1, 4, 6, 16])
   (.cond (.t 16)
    (.seq (.reg [⟨(some 17), .pl (.mv (.t 0)), none⟩,
        ⟨(some 18), .pl (.nilck (.t 17)), none⟩,
        ⟨(some 19), .pl (.fa 1 (.t 18)), none⟩,
        ⟨(some 20), .pl (.load none (.t 19)), none⟩,
        ⟨(some 21), .pl (.bin .add .no (.t 20) (.c (.int .i64 1))), none⟩,
        ⟨(some 22), .pl (.nilck (.t 17)), none⟩,
        ⟨(some 23), .pl (.fa 1 (.t 22)), none⟩,
        ⟨none, .pl (.store 1 (.t 23) (.t 21)), none⟩] [4, 6])
     (.seq (.reg [⟨(some 24), .pl (.mv (.t 6)), none⟩,
        ⟨(some 25), .pl (.build [.int .i64 0, .str ⟨#[]⟩, .esl] [(0, 1, (.t 24))]), none⟩,
        ⟨none, .pl (.store 3 (.t 4) (.t 25)), none⟩] [4])
     (.ret)))
    (.skip))))
  (.seq (.block 0 (.seq (.reg [⟨(some 27), .pl (.mv (.t 0)), none⟩,
       ⟨(some 28), .call (.c (.fn 74 [] [])) [(.t 27), (.c (.str ⟨#[108, 105, 115, 116]⟩))], none⟩,
       ⟨(some 26), .pl (.mv (.t 28)), none⟩] [0, 1, 4, 26])
    (.cond (.t 26)
     (.seq (.reg [⟨(some 29), .pl (.mv (.t 0)), none⟩,
         ⟨(some 30), .call (.c (.fn 72 [] [])) [(.t 29), (.c (.str ⟨#[60]⟩))], none⟩] [0, 1, 4])
      (.seq (.reg [⟨(some 31), .pl (.mv (.t 0)), none⟩,
         ⟨(some 32), .pl (.mv (.t 1)), none⟩,
         ⟨(some 33), .pl (.bin .add .no (.t 32) (.c (.int .i64 1))), none⟩,
         ⟨(some 34), .call (.c (.fn 73 [] [])) [(.t 31), (.t 33)], none⟩,
         ⟨(some 7), .pl (.alloc [.int .i64 0, .str ⟨#[]⟩, .esl]), none⟩,
         ⟨none, .pl (.store 3 (.t 7) (.t 34)), none⟩] [0, 4, 7])
      (.seq (.reg [⟨(some 35), .pl (.mv (.t 0)), none⟩,
         ⟨(some 36), .call (.c (.fn 72 [] [])) [(.t 35), (.c (.str ⟨#[62]⟩))], none⟩] [4, 7])
      (.seq (.reg [⟨(some 37), .pl (.load (some 3) (.t 7)), none⟩,
         ⟨(some 38), .pl (.lit 3 [(.t 37)]), none⟩,
         ⟨(some 39), .pl (.build [.int .i64 0, .str ⟨#[]⟩, .esl] [(0, 1, (.c (.int .i64 7))), (2, 1, (.t 38))]), none⟩,
         ⟨none, .pl (.store 3 (.t 4) (.t 39)), none⟩] [4])
      (.ret)))))
     (.seq (.reg [⟨(some 41), .pl (.mv (.t 0)), none⟩,
         ⟨(some 42), .call (.c (.fn 74 [] [])) [(.t 41), (.c (.str ⟨#[109, 97, 112]⟩))], none⟩,
         ⟨(some 40), .pl (.mv (.t 42)), none⟩] [0, 1, 4, 40])
      (.cond (.t 40)
       (.seq (.reg [⟨(some 43), .pl (.mv (.t 0)), none⟩,
           ⟨(some 44), .call (.c (.fn 72 [] [])) [(.t 43), (.c (.str ⟨#[60]⟩))], none⟩] [0, 1, 4])
        (.seq (.reg [⟨(some 45), .pl (.mv (.t 0)), none⟩,
           ⟨(some 46), .pl (.mv (.t 1)), none⟩,
           ⟨(some 47), .pl (.bin .add .no (.t 46) (.c (.int .i64 1))), none⟩,
           ⟨(some 48), .call (.c (.fn 73 [] [])) [(.t 45), (.t 47)], none⟩,
           ⟨(some 8), .pl (.alloc [.int .i64 0, .str ⟨#[]⟩, .esl]), none⟩,
           ⟨none, .pl (.store 3 (.t 8) (.t 48)), none⟩] [0, 1, 4, 8])
        (.seq (.reg [⟨(some 49), .pl (.mv (.t 0)), none⟩,
           ⟨(some 50), .call (.c (.fn 72 [] [])) [(.t 49), (.c (.str ⟨#[44]⟩))], none⟩] [0, 1, 4, 8])
        (.seq (.reg [⟨(some 51), .pl (.mv (.t 0)), none⟩,
           ⟨(some 52), .pl (.mv (.t 1)), none⟩,
           ⟨(some 53), .pl (.bin .add .no (.t 52) (.c (.int .i64 1))), none⟩,
           ⟨(some 54), .call (.c (.fn 73 [] [])) [(.t 51), (.t 53)], none⟩,
           ⟨(some 9), .pl (.alloc [.int .i64 0, .str ⟨#[]⟩, .esl]), none⟩,
           ⟨none, .pl (.store 3 (.t 9) (.t 54)), none⟩] [0, 4, 8, 9])
        (.seq (.reg [⟨(some 55), .pl (.mv (.t 0)), none⟩,
           ⟨(some 56), .call (.c (.fn 72 [] [])) [(.t 55), (.c (.str ⟨#[62]⟩))], none⟩] [4, 8, 9])
        (.seq (.reg [⟨(some 57), .pl (.load (some 3) (.t 8)), none⟩,
           ⟨(some 58), .pl (.load (some 3) (.t 9)), none⟩,
           ⟨(some 59), .pl (.lit 3 [(.t 57), (.t 58)]), none⟩,
           ⟨(some 60), .pl (.build [.int .i64 0, .str ⟨#[]⟩, .esl] [(0, 1, (.c (.int .i64 8))), (2, 1, (.t 59))]), none⟩,
           ⟨none, .pl (.store 3 (.t 4) (.t 60)), none⟩] [4])
        (.ret)))))))
       (.skip))))))
  (.seq (.reg [⟨(some 61), .pl (.mv (.t 0)), none⟩,
     ⟨(some 62), .call (.c (.fn 71 [] [])) [(.t 61)], none⟩,
     ⟨(some 63), .pl (.build [.int .i64 0, .str ⟨#[]⟩, .esl] [(0, 1, (.c (.int .i64 6))), (1, 1, (.t 62))]), none⟩,
     ⟨none, .pl (.store 3 (.t 4) (.t 63)), none⟩] [4])
  (.ret)))))⟩
theorem c94 : compF Try.prog 94 = some A94 := by kernel_rfl

/-- (*concourse/lex.lexer).while -/
def A109_l0 : AC := .seq (.seq (.regD [⟨(some 10), .pl (.mv (.t 0)), none⟩,
      ⟨(some 11), .pl (.nilck (.t 10)), none⟩,
      ⟨(some 12), .pl (.fa 1 (.t 11)), none⟩,
      ⟨(some 13), .pl (.load none (.t 12)), none⟩,
      ⟨(some 14), .pl (.mv (.t 0)), none⟩,
      ⟨(some 15), .pl (.nilck (.t 14)), none⟩,
      ⟨(some 16), .pl (.fa 0 (.t 15)), none⟩,
      ⟨(some 17), .pl (.load none (.t 16)), none⟩,
      ⟨(some 18), .pl (.lenS (.t 17)), none⟩,
      ⟨(some 19), .pl (.bin .lss .no (.t 13) (.t 18)), none⟩,
      ⟨(some 20), .pl (.mv (.t 19)), none⟩,
      ⟨(some 21), .pl (.mv (.t 1)), (some (20, true))⟩,
      ⟨(some 22), .pl (.mv (.t 0)), (some (20, true))⟩,
      ⟨(some 23), .pl (.nilck (.t 22)), (some (20, true))⟩,
      ⟨(some 24), .pl (.fa 0 (.t 23)), (some (20, true))⟩,
      ⟨(some 25), .pl (.load none (.t 24)), (some (20, true))⟩,
      ⟨(some 26), .pl (.mv (.t 0)), (some (20, true))⟩,
      ⟨(some 27), .pl (.nilck (.t 26)), (some (20, true))⟩,
      ⟨(some 28), .pl (.fa 1 (.t 27)), (some (20, true))⟩,
      ⟨(some 29), .pl (.load none (.t 28)), (some (20, true))⟩,
      ⟨(some 30), .pl (.ixS (.t 25) (.t 29)), (some (20, true))⟩,
      ⟨(some 31), .call (.t 21) [(.t 30)], (some (20, true))⟩,
      ⟨(some 32), .pl (.pick (.t 20) (.t 31) (.c (.bool false))), none⟩] [] [0, 1, 5, 32])
   (.cond (.t 32)
    (.skip)
    (.exit 0)))
  (.block 1 (.reg [⟨(some 33), .pl (.mv (.t 0)), none⟩,
     ⟨(some 34), .pl (.nilck (.t 33)), none⟩,
     ⟨(some 35), .pl (.fa 1 (.t 34)), none⟩,
     ⟨(some 36), .pl (.load none (.t 35)), none⟩,
     ⟨(some 37), .pl (.bin .add .no (.t 36) (.c (.int .i64 1))), none⟩,
     ⟨(some 38), .pl (.nilck (.t 33)), none⟩,
     ⟨(some 39), .pl (.fa 1 (.t 38)), none⟩,
     ⟨none, .pl (.store 1 (.t 39) (.t 37)), none⟩] [0, 1, 5]))
def A109_r0 : AC := .seq (.regD [⟨(some 40), .pl (.mv (.t 0)), none⟩,
     ⟨(some 41), .pl (.nilck (.t 40)), none⟩,
     ⟨(some 42), .pl (.fa 0 (.t 41)), none⟩,
     ⟨(some 43), .pl (.load none (.t 42)), none⟩,
     ⟨(some 44), .pl (.mv (.t 5)), none⟩,
     ⟨(some 45), .pl (.mv (.t 0)), none⟩,
     ⟨(some 46), .pl (.nilck (.t 45)), none⟩,
     ⟨(some 47), .pl (.fa 1 (.t 46)), none⟩,
     ⟨(some 48), .pl (.load none (.t 47)), none⟩,
     ⟨(some 49), .pl (.slcS (.t 43) (some (.t 44)) (some (.t 48))), none⟩,
     ⟨(some 4), .pl (.mv (.t 49)), none⟩] [] [4])
  (.ret)
def A109 : AFun := ⟨50, [.t 4],
  .seq (.reg [⟨(some 4), .pl (.mv (.c (.str ⟨#[]⟩))), none⟩] [0, 1])
  (.seq (.reg [⟨(some 6), .pl (.mv (.t 0)), none⟩,
     ⟨(some 7), .pl (.nilck (.t 6)), none⟩,
     ⟨(some 8), .pl (.fa 1 (.t 7)), none⟩,
     ⟨(some 9), .pl (.load none (.t 8)), none⟩,
     ⟨(some 5), .pl (.mv (.t 9)), none⟩] [0, 1, 5])
  (.seq (.block 0 (.loop [0, 1, 5] A109_l0))
  (A109_r0)))⟩
theorem c109 : compF Try.prog 109 = some A109 := by kernel_rfl

/-- concourse/lex.inner -/
def A110 : AFun := ⟨13, [.t 2],
  .seq (.reg [⟨(some 2), .pl (.mv (.c (.bool false))), none⟩] [0])
  (.seq (.reg [⟨(some 3), .pl (.mv (.t 0)), none⟩,
     ⟨(some 4), .call (.c (.fn 88 [] [])) [(.t 3)], none⟩,
     ⟨(some 5), .pl (.mv (.t 4)), none⟩,
     ⟨(some 6), .pl (.mv (.t 0)), (some (5, false))⟩,
     ⟨(some 7), .call (.c (.fn 90 [] [])) [(.t 6)], (some (5, false))⟩,
     ⟨(some 8), .pl (.pick (.t 5) (.c (.bool true)) (.t 7)), none⟩,
     ⟨(some 9), .pl (.mv (.t 8)), none⟩,
     ⟨(some 10), .pl (.mv (.t 0)), (some (9, false))⟩,
     ⟨(some 11), .pl (.bin .eql .no (.t 10) (.c (.int .u8 95))), (some (9, false))⟩,
     ⟨(some 12), .pl (.pick (.t 9) (.c (.bool true)) (.t 11)), none⟩,
     ⟨(some 2), .pl (.mv (.t 12)), none⟩] [2])
  (.ret))⟩
theorem c110 : compF Try.prog 110 = some A110 := by kernel_rfl

/-- strings.HasPrefix -/
def A111 : AFun := ⟨8, [.t 4],
  .seq (.reg [⟨(some 4), .pl (.mv (.c (.bool false))), none⟩] [0, 1])
  (.seq (.reg [⟨(some 5), .pl (.mv (.t 0)), none⟩,
     ⟨(some 6), .pl (.mv (.t 1)), none⟩,
     ⟨(some 7), .call (.c (.fn 121 [] [])) [(.t 5), (.t 6)], none⟩,
     ⟨(some 4), .pl (.mv (.t 7)), none⟩] [4])
  (.ret))⟩
theorem c111 : compF Try.prog 111 = some A111 := by kernel_rfl

/-- (*concourse/lex.lexer).note$1 -/
def A112 : AFun := ⟨5, [.t 2],
  .seq (.reg [⟨(some 2), .pl (.mv (.c (.bool false))), none⟩] [0])
  (.seq (.reg [⟨(some 3), .pl (.mv (.t 0)), none⟩,
     ⟨(some 4), .pl (.bin .neq .no (.t 3) (.c (.int .u8 10))), none⟩,
     ⟨(some 2), .pl (.mv (.t 4)), none⟩] [2])
  (.ret))⟩
theorem c112 : compF Try.prog 112 = some A112 := by kernel_rfl

/-- concourse/parse.plain -/
def A113 : AFun := ⟨14, [.t 2],
  .seq (.reg [⟨(some 2), .pl (.mv (.c (.int .i64 0))), none⟩] [0])
  (.seq (.seq (.reg [⟨(some 3), .pl (.mv (.t 0)), none⟩] [3])
   (.block 0 (.seq (.reg [⟨(some 5), .pl (.bin .eql .no (.t 3) (.c (.str ⟨#[98, 111, 111, 108]⟩))), none⟩,
       ⟨(some 4), .pl (.mv (.t 5)), none⟩] [3, 4])
    (.cond (.t 4)
     (.seq (.reg [⟨(some 2), .pl (.mv (.c (.int .i64 1))), none⟩] [2])
      (.ret))
     (.seq (.reg [⟨(some 7), .pl (.bin .eql .no (.t 3) (.c (.str ⟨#[105, 110, 116]⟩))), none⟩,
         ⟨(some 6), .pl (.mv (.t 7)), none⟩] [3, 6])
      (.cond (.t 6)
       (.seq (.reg [⟨(some 2), .pl (.mv (.c (.int .i64 2))), none⟩] [2])
        (.ret))
       (.seq (.reg [⟨(some 9), .pl (.bin .eql .no (.t 3) (.c (.str ⟨#[117, 105, 110, 116]⟩))), none⟩,
           ⟨(some 8), .pl (.mv (.t 9)), none⟩] [3, 8])
        (.cond (.t 8)
         (.seq (.reg [⟨(some 2), .pl (.mv (.c (.int .i64 3))), none⟩] [2])
          (.ret))
         (.seq (.reg [⟨(some 11), .pl (.bin .eql .no (.t 3) (.c (.str ⟨#[116, 101, 120, 116]⟩))), none⟩,
             ⟨(some 10), .pl (.mv (.t 11)), none⟩] [3, 10])
          (.cond (.t 10)
           (.seq (.reg [⟨(some 2), .pl (.mv (.c (.int .i64 4))), none⟩] [2])
            (.ret))
           (.seq (.reg [⟨(some 13), .pl (.bin .eql .no (.t 3) (.c (.str ⟨#[98, 121, 116, 101, 115]⟩))), none⟩,
               ⟨(some 12), .pl (.mv (.t 13)), none⟩] [12])
            (.cond (.t 12)
             (.seq (.reg [⟨(some 2), .pl (.mv (.c (.int .i64 5))), none⟩] [2])
              (.ret))
             (.skip)))))))))))))
  (.seq (.reg [⟨(some 2), .pl (.mv (.c (.int .i64 0))), none⟩] [2])
  (.ret)))⟩
theorem c113 : compF Try.prog 113 = some A113 := by kernel_rfl

/-- internal/stringslite.HasPrefix -/
def A121 : AFun := ⟨18, [.t 4],
  .seq (.reg [⟨(some 4), .pl (.mv (.c (.bool false))), none⟩] [0, 1])
  (.seq (.reg [⟨(some 5), .pl (.mv (.t 0)), none⟩,
     ⟨(some 6), .pl (.lenS (.t 5)), none⟩,
     ⟨(some 7), .pl (.mv (.t 1)), none⟩,
     ⟨(some 8), .pl (.lenS (.t 7)), none⟩,
     ⟨(some 9), .pl (.bin .geq .no (.t 6) (.t 8)), none⟩,
     ⟨(some 10), .pl (.mv (.t 9)), none⟩,
     ⟨(some 11), .pl (.mv (.t 0)), (some (10, true))⟩,
     ⟨(some 12), .pl (.mv (.t 1)), (some (10, true))⟩,
     ⟨(some 13), .pl (.lenS (.t 12)), (some (10, true))⟩,
     ⟨(some 14), .pl (.slcS (.t 11) none (some (.t 13))), (some (10, true))⟩,
     ⟨(some 15), .pl (.mv (.t 1)), (some (10, true))⟩,
     ⟨(some 16), .pl (.bin .eql .no (.t 14) (.t 15)), (some (10, true))⟩,
     ⟨(some 17), .pl (.pick (.t 10) (.t 16) (.c (.bool false))), none⟩,
     ⟨(some 4), .pl (.mv (.t 17)), none⟩] [4])
  (.ret))⟩
theorem c121 : compF Try.prog 121 = some A121 := by kernel_rfl

end Go.Proofs.Ytjljhmeadfejhaa
