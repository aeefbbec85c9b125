/- The compiled form of the functions of this claim: each equation is checked by the kernel. -/
import Derived.Test.YtjljhmeadfejhaaChecked
import Derived.Test.YtjljhmeadfejhaaME3
set_option maxRecDepth 100000
namespace Go.Proofs.Ytjljhmeadfejhaa
open Go.Eng
/-- concourse/concourselaw30.OpsFits -/
def A10 : AFun := ⟨50, [.t 6],
  .seq (.reg [⟨(some 4), .pl (.box (.t 1)), none⟩,
     ⟨(some 6), .pl (.mv (.c (.bool false))), none⟩] [0, 2, 4])
  (.seq (.seq (.reg [⟨(some 11), .pl (.mv (.t 0)), none⟩,
      ⟨(some 12), .call (.c (.fn 23 [] [])) [(.t 11)], none⟩] [0, 2, 4, 12])
   (.cond (.t 12)
    (.seq (.reg [⟨(some 13), .call (.c (.fn 33 [] [])) [], none⟩,
        ⟨(some 6), .pl (.mv (.t 13)), none⟩] [6])
     (.ret))
    (.skip)))
  (.seq (.reg [⟨(some 15), .pl (.mv (.t 0)), none⟩,
     ⟨(some 16), .call (.c (.fn 34 [] [])) [(.t 15)], none⟩,
     ⟨(some 14), .pl (.mv (.t 16)), none⟩,
     ⟨(some 17), .pl (.ext 0 (.t 14)), none⟩,
     ⟨(some 18), .pl (.ext 1 (.t 14)), none⟩,
     ⟨(some 7), .pl (.mv (.t 17)), none⟩,
     ⟨(some 8), .pl (.mv (.t 18)), none⟩] [2, 4, 7, 8])
  (.seq (.reg [⟨(some 20), .pl (.mv (.t 2)), none⟩,
     ⟨(some 21), .call (.c (.fn 35 [] [])) [(.t 20)], none⟩,
     ⟨(some 19), .pl (.mv (.t 21)), none⟩,
     ⟨(some 22), .pl (.ext 0 (.t 19)), none⟩,
     ⟨(some 23), .pl (.ext 1 (.t 19)), none⟩,
     ⟨(some 9), .pl (.mv (.t 22)), none⟩,
     ⟨(some 10), .pl (.mv (.t 23)), none⟩] [2, 4, 7, 8, 9, 10])
  (.seq (.regD [⟨(some 24), .pl (.mv (.t 9)), none⟩,
     ⟨(some 25), .pl (.mv (.t 2)), none⟩,
     ⟨(some 26), .call (.c (.fn 38 [] [])) [(.t 25)], none⟩,
     ⟨(some 27), .call (.c (.fn 37 [] [])) [(.t 26)], none⟩,
     ⟨(some 28), .call (.c (.fn 36 [] [])) [(.t 24), (.t 27)], none⟩,
     ⟨(some 29), .pl (.mv (.t 28)), none⟩,
     ⟨(some 30), .pl (.mv (.t 10)), (some (29, true))⟩,
     ⟨(some 31), .pl (.mv (.t 2)), (some (29, true))⟩,
     ⟨(some 32), .call (.c (.fn 39 [] [])) [(.t 31)], (some (29, true))⟩,
     ⟨(some 33), .call (.c (.fn 37 [] [])) [(.t 32)], (some (29, true))⟩,
     ⟨(some 34), .call (.c (.fn 36 [] [])) [(.t 30), (.t 33)], (some (29, true))⟩,
     ⟨(some 35), .pl (.pick (.t 29) (.t 34) (.c (.bool false))), none⟩,
     ⟨(some 36), .pl (.mv (.t 35)), none⟩,
     ⟨(some 37), .pl (.mv (.t 7)), (some (36, true))⟩,
     ⟨(some 38), .pl (.load (some 5) (.t 4)), (some (36, true))⟩,
     ⟨(some 39), .pl (.mv (.t 2)), (some (36, true))⟩,
     ⟨(some 40), .call (.c (.fn 40 [] [])) [(.t 37), (.t 38), (.t 39)], (some (36, true))⟩,
     ⟨(some 41), .pl (.mv (.t 8)), (some (36, true))⟩,
     ⟨(some 42), .pl (.load (some 5) (.t 4)), (some (36, true))⟩,
     ⟨(some 43), .pl (.mv (.t 2)), (some (36, true))⟩,
     ⟨(some 44), .call (.c (.fn 41 [] [])) [(.t 41), (.t 42), (.t 43)], (some (36, true))⟩,
     ⟨(some 45), .pl (.bin .eql .no (.t 40) (.t 44)), (some (36, true))⟩,
     ⟨(some 46), .pl (.pick (.t 36) (.t 45) (.c (.bool false))), none⟩,
     ⟨(some 47), .pl (.mv (.t 46)), none⟩,
     ⟨(some 48), .call (.c (.fn 33 [] [])) [], (some (47, true))⟩,
     ⟨(some 49), .pl (.pick (.t 47) (.t 48) (.c (.bool false))), none⟩,
     ⟨(some 6), .pl (.mv (.t 49)), none⟩] [(18, 16)] [6])
  (.ret)))))⟩
theorem c10 : compF Try.prog 10 = some A10 := by kernel_rfl

/-- concourse/concourselaw30.awake -/
def A33 : AFun := ⟨36, [.t 0],
  .seq (.reg [⟨(some 0), .pl (.mv (.c (.bool false))), none⟩] [])
  (.seq (.reg [⟨(some 4), .call (.c (.fn 35 [] [])) [(.c (.int .i64 4))], none⟩,
     ⟨(some 3), .pl (.mv (.t 4)), none⟩,
     ⟨(some 5), .pl (.ext 0 (.t 3)), none⟩,
     ⟨(some 6), .pl (.ext 1 (.t 3)), none⟩,
     ⟨(some 1), .pl (.mv (.t 5)), none⟩,
     ⟨(some 2), .pl (.mv (.t 6)), none⟩] [1, 2])
  (.seq (.reg [⟨(some 7), .pl (.mv (.t 1)), none⟩,
     ⟨(some 8), .pl (.lenL (.t 7)), none⟩,
     ⟨(some 9), .pl (.bin .eql .no (.t 8) (.c (.int .i64 2))), none⟩,
     ⟨(some 10), .pl (.mv (.t 9)), none⟩,
     ⟨(some 11), .pl (.mv (.t 1)), (some (10, true))⟩,
     ⟨(some 12), .pl (.ia 3 (.t 11) (.c (.int .i64 0))), (some (10, true))⟩,
     ⟨(some 13), .pl (.fa 0 (.t 12)), (some (10, true))⟩,
     ⟨(some 14), .pl (.load none (.t 13)), (some (10, true))⟩,
     ⟨(some 15), .pl (.bin .eql .no (.t 14) (.c (.int .i64 4))), (some (10, true))⟩,
     ⟨(some 16), .pl (.pick (.t 10) (.t 15) (.c (.bool false))), none⟩,
     ⟨(some 17), .pl (.mv (.t 16)), none⟩,
     ⟨(some 18), .pl (.mv (.t 1)), (some (17, true))⟩,
     ⟨(some 19), .pl (.ia 3 (.t 18) (.c (.int .i64 1))), (some (17, true))⟩,
     ⟨(some 20), .pl (.fa 0 (.t 19)), (some (17, true))⟩,
     ⟨(some 21), .pl (.load none (.t 20)), (some (17, true))⟩,
     ⟨(some 22), .pl (.bin .eql .no (.t 21) (.c (.int .i64 2))), (some (17, true))⟩,
     ⟨(some 23), .pl (.pick (.t 17) (.t 22) (.c (.bool false))), none⟩,
     ⟨(some 24), .pl (.mv (.t 23)), none⟩,
     ⟨(some 25), .pl (.mv (.t 2)), (some (24, true))⟩,
     ⟨(some 26), .pl (.lenL (.t 25)), (some (24, true))⟩,
     ⟨(some 27), .pl (.bin .eql .no (.t 26) (.c (.int .i64 1))), (some (24, true))⟩,
     ⟨(some 28), .pl (.pick (.t 24) (.t 27) (.c (.bool false))), none⟩,
     ⟨(some 29), .pl (.mv (.t 28)), none⟩,
     ⟨(some 30), .pl (.mv (.t 2)), (some (29, true))⟩,
     ⟨(some 31), .pl (.ia 3 (.t 30) (.c (.int .i64 0))), (some (29, true))⟩,
     ⟨(some 32), .pl (.fa 0 (.t 31)), (some (29, true))⟩,
     ⟨(some 33), .pl (.load none (.t 32)), (some (29, true))⟩,
     ⟨(some 34), .pl (.bin .eql .no (.t 33) (.c (.int .i64 2))), (some (29, true))⟩,
     ⟨(some 35), .pl (.pick (.t 29) (.t 34) (.c (.bool false))), none⟩,
     ⟨(some 0), .pl (.mv (.t 35)), none⟩] [0])
  (.ret)))⟩
theorem c33 : compF Try.prog 33 = some A33 := by kernel_rfl

/-- concourse/concourselaw30.same -/
def A36_l0 : AC := .seq (.seq (.reg [⟨(some 11), .pl (.mv (.t 5)), none⟩,
      ⟨(some 12), .pl (.mv (.t 0)), none⟩,
      ⟨(some 13), .pl (.lenL (.t 12)), none⟩,
      ⟨(some 14), .pl (.bin .lss .no (.t 11) (.t 13)), none⟩] [0, 1, 5, 14])
   (.cond (.t 14)
    (.skip)
    (.exit 0)))
  (.seq (.block 1 (.seq (.regD [⟨(some 17), .pl (.mv (.t 0)), none⟩,
       ⟨(some 18), .pl (.mv (.t 5)), none⟩,
       ⟨(some 19), .pl (.ia 3 (.t 17) (.t 18)), none⟩,
       ⟨(some 20), .pl (.load (some 3) (.t 19)), none⟩,
       ⟨(some 21), .pl (.mv (.t 1)), none⟩,
       ⟨(some 22), .pl (.mv (.t 5)), none⟩,
       ⟨(some 23), .pl (.ia 3 (.t 21) (.t 22)), none⟩,
       ⟨(some 24), .pl (.load (some 3) (.t 23)), none⟩,
       ⟨(some 25), .call (.c (.fn 56 [] [])) [(.t 20), (.t 24)], none⟩,
       ⟨(some 26), .pl (.un .not (.t 25)), none⟩] [] [0, 1, 5, 26])
    (.cond (.t 26)
     (.seq (.reg [⟨(some 4), .pl (.mv (.c (.bool false))), none⟩] [4])
      (.ret))
     (.skip))))
  (.reg [⟨(some 15), .pl (.mv (.t 5)), none⟩,
    ⟨(some 16), .pl (.bin .add .no (.t 15) (.c (.int .i64 1))), none⟩,
    ⟨(some 5), .pl (.mv (.t 16)), none⟩] [0, 1, 5]))
def A36_r0 : AC := .seq (.reg [⟨(some 4), .pl (.mv (.c (.bool true))), none⟩] [4])
  (.ret)
def A36 : AFun := ⟨27, [.t 4],
  .seq (.reg [⟨(some 4), .pl (.mv (.c (.bool false))), none⟩] [0, 1])
  (.seq (.seq (.reg [⟨(some 6), .pl (.mv (.t 0)), none⟩,
      ⟨(some 7), .pl (.lenL (.t 6)), none⟩,
      ⟨(some 8), .pl (.mv (.t 1)), none⟩,
      ⟨(some 9), .pl (.lenL (.t 8)), none⟩,
      ⟨(some 10), .pl (.bin .neq .no (.t 7) (.t 9)), none⟩] [0, 1, 10])
   (.cond (.t 10)
    (.seq (.reg [⟨(some 4), .pl (.mv (.c (.bool false))), none⟩] [4])
     (.ret))
    (.skip)))
  (.seq (.seq (.reg [⟨(some 5), .pl (.mv (.c (.int .i64 0))), none⟩] [0, 1, 5])
   (.block 0 (.loop [0, 1, 5] A36_l0)))
  (A36_r0)))⟩
theorem c36 : compF Try.prog 36 = some A36 := by kernel_rfl

/-- concourse/concourseref30.Types -/
def A37_l0 : AC := .seq (.seq (.reg [⟨(some 5), .pl (.mv (.t 4)), none⟩,
      ⟨(some 6), .pl (.mv (.t 0)), none⟩,
      ⟨(some 7), .pl (.lenL (.t 6)), none⟩,
      ⟨(some 8), .pl (.bin .lss .no (.t 5) (.t 7)), none⟩] [0, 3, 4, 8])
   (.cond (.t 8)
    (.skip)
    (.exit 0)))
  (.seq (.block 1 (.reg [⟨(some 11), .pl (.mv (.t 3)), none⟩,
      ⟨(some 12), .pl (.mv (.t 0)), none⟩,
      ⟨(some 13), .pl (.mv (.t 4)), none⟩,
      ⟨(some 14), .pl (.ia 1 (.t 12) (.t 13)), none⟩,
      ⟨(some 15), .pl (.load none (.t 14)), none⟩,
      ⟨(some 16), .call (.c (.fn 57 [] [])) [(.t 15)], none⟩,
      ⟨(some 17), .pl (.lit 3 [(.t 16)]), none⟩,
      ⟨(some 18), .pl (.append 74 3 48 (.t 11) (.t 17)), none⟩,
      ⟨(some 3), .pl (.mv (.t 18)), none⟩] [0, 3, 4]))
  (.reg [⟨(some 9), .pl (.mv (.t 4)), none⟩,
    ⟨(some 10), .pl (.bin .add .no (.t 9) (.c (.int .i64 1))), none⟩,
    ⟨(some 4), .pl (.mv (.t 10)), none⟩] [0, 3, 4]))
def A37_r0 : AC := .seq (.reg [⟨(some 19), .pl (.mv (.t 3)), none⟩,
     ⟨(some 2), .pl (.mv (.t 19)), none⟩] [2])
  (.ret)
def A37 : AFun := ⟨20, [.t 2],
  .seq (.reg [⟨(some 2), .pl (.mv (.c (.esl))), none⟩] [0])
  (.seq (.reg [⟨(some 3), .pl (.mv (.c (.esl))), none⟩] [0, 3])
  (.seq (.seq (.reg [⟨(some 4), .pl (.mv (.c (.int .i64 0))), none⟩] [0, 3, 4])
   (.block 0 (.loop [0, 3, 4] A37_l0)))
  (A37_r0)))⟩
theorem c37 : compF Try.prog 37 = some A37 := by kernel_rfl

/-- concourse/concourseref30.In -/
def A38 : AFun := ⟨20, [.t 2],
  .seq (.reg [⟨(some 2), .pl (.mv (.c (.esl))), none⟩] [0])
  (.seq (.seq (.reg [⟨(some 3), .pl (.mv (.t 0)), none⟩] [3])
   (.block 0 (.seq (.seq (.reg [⟨(some 5), .pl (.bin .eql .no (.t 3) (.c (.int .i64 1))), none⟩,
        ⟨(some 4), .pl (.mv (.t 5)), none⟩] [3, 4])
     (.cond (.t 4)
      (.skip)
      (.seq (.reg [⟨(some 6), .pl (.bin .eql .no (.t 3) (.c (.int .i64 3))), none⟩,
          ⟨(some 4), .pl (.mv (.t 6)), none⟩] [3, 4])
       (.cond (.t 4)
        (.skip)
        (.reg [⟨(some 7), .pl (.bin .eql .no (.t 3) (.c (.int .i64 6))), none⟩,
           ⟨(some 4), .pl (.mv (.t 7)), none⟩] [3, 4])))))
    (.cond (.t 4)
     (.seq (.reg [⟨(some 8), .pl (.lit 1 [(.c (.int .i64 1))]), none⟩,
         ⟨(some 2), .pl (.mv (.t 8)), none⟩] [2])
      (.ret))
     (.seq (.seq (.reg [⟨(some 10), .pl (.bin .eql .no (.t 3) (.c (.int .i64 2))), none⟩,
          ⟨(some 9), .pl (.mv (.t 10)), none⟩] [3, 9])
       (.cond (.t 9)
        (.skip)
        (.seq (.reg [⟨(some 11), .pl (.bin .eql .no (.t 3) (.c (.int .i64 5))), none⟩,
            ⟨(some 9), .pl (.mv (.t 11)), none⟩] [3, 9])
         (.cond (.t 9)
          (.skip)
          (.reg [⟨(some 12), .pl (.bin .eql .no (.t 3) (.c (.int .i64 8))), none⟩,
             ⟨(some 9), .pl (.mv (.t 12)), none⟩] [3, 9])))))
      (.cond (.t 9)
       (.seq (.reg [⟨(some 13), .pl (.lit 1 [(.c (.int .i64 1)), (.c (.int .i64 1))]), none⟩,
           ⟨(some 2), .pl (.mv (.t 13)), none⟩] [2])
        (.ret))
       (.seq (.reg [⟨(some 15), .pl (.bin .eql .no (.t 3) (.c (.int .i64 4))), none⟩,
           ⟨(some 14), .pl (.mv (.t 15)), none⟩] [3, 14])
        (.cond (.t 14)
         (.seq (.reg [⟨(some 16), .pl (.lit 1 [(.c (.int .i64 1)), (.c (.int .i64 2))]), none⟩,
             ⟨(some 2), .pl (.mv (.t 16)), none⟩] [2])
          (.ret))
         (.seq (.reg [⟨(some 18), .pl (.bin .eql .no (.t 3) (.c (.int .i64 7))), none⟩,
             ⟨(some 17), .pl (.mv (.t 18)), none⟩] [17])
          (.cond (.t 17)
           (.seq (.reg [⟨(some 19), .pl (.lit 1 [(.c (.int .i64 1)), (.c (.int .i64 1)), (.c (.int .i64 3))]), none⟩,
               ⟨(some 2), .pl (.mv (.t 19)), none⟩] [2])
            (.ret))
           (.skip)))))))))))
  (.seq (.reg [⟨(some 2), .pl (.mv (.c (.esl))), none⟩] [2])
  (.ret)))⟩
theorem c38 : compF Try.prog 38 = some A38 := by kernel_rfl

/-- concourse/concourseref30.Out -/
def A39 : AFun := ⟨16, [.t 2],
  .seq (.reg [⟨(some 2), .pl (.mv (.c (.esl))), none⟩] [0])
  (.seq (.seq (.reg [⟨(some 3), .pl (.mv (.t 0)), none⟩] [3])
   (.block 0 (.seq (.seq (.reg [⟨(some 5), .pl (.bin .eql .no (.t 3) (.c (.int .i64 1))), none⟩,
        ⟨(some 4), .pl (.mv (.t 5)), none⟩] [3, 4])
     (.cond (.t 4)
      (.skip)
      (.reg [⟨(some 6), .pl (.bin .eql .no (.t 3) (.c (.int .i64 6))), none⟩,
         ⟨(some 4), .pl (.mv (.t 6)), none⟩] [3, 4])))
    (.cond (.t 4)
     (.seq (.reg [⟨(some 7), .pl (.lit 1 [(.c (.int .i64 5))]), none⟩,
         ⟨(some 2), .pl (.mv (.t 7)), none⟩] [2])
      (.ret))
     (.seq (.seq (.reg [⟨(some 9), .pl (.bin .eql .no (.t 3) (.c (.int .i64 3))), none⟩,
          ⟨(some 8), .pl (.mv (.t 9)), none⟩] [3, 8])
       (.cond (.t 8)
        (.skip)
        (.seq (.reg [⟨(some 10), .pl (.bin .eql .no (.t 3) (.c (.int .i64 7))), none⟩,
            ⟨(some 8), .pl (.mv (.t 10)), none⟩] [3, 8])
         (.cond (.t 8)
          (.skip)
          (.reg [⟨(some 11), .pl (.bin .eql .no (.t 3) (.c (.int .i64 8))), none⟩,
             ⟨(some 8), .pl (.mv (.t 11)), none⟩] [3, 8])))))
      (.cond (.t 8)
       (.seq (.reg [⟨(some 12), .pl (.lit 1 [(.c (.int .i64 4))]), none⟩,
           ⟨(some 2), .pl (.mv (.t 12)), none⟩] [2])
        (.ret))
       (.seq (.reg [⟨(some 14), .pl (.bin .eql .no (.t 3) (.c (.int .i64 4))), none⟩,
           ⟨(some 13), .pl (.mv (.t 14)), none⟩] [13])
        (.cond (.t 13)
         (.seq (.reg [⟨(some 15), .pl (.lit 1 [(.c (.int .i64 2))]), none⟩,
             ⟨(some 2), .pl (.mv (.t 15)), none⟩] [2])
          (.ret))
         (.skip)))))))))
  (.seq (.reg [⟨(some 2), .pl (.mv (.c (.esl))), none⟩] [2])
  (.ret)))⟩
theorem c39 : compF Try.prog 39 = some A39 := by kernel_rfl

/-- concourse/concourseref30.Fits -/
def A41 : AFun := ⟨41, [.t 6],
  .seq (.reg [⟨(some 4), .pl (.box (.t 1)), none⟩,
     ⟨(some 6), .pl (.mv (.c (.int .i64 0))), none⟩] [0, 2, 4])
  (.seq (.seq (.reg [⟨(some 7), .pl (.mv (.t 2)), none⟩,
      ⟨(some 8), .pl (.bin .lss .no (.t 7) (.c (.int .i64 1))), none⟩,
      ⟨(some 9), .pl (.mv (.t 8)), none⟩,
      ⟨(some 10), .pl (.mv (.t 2)), (some (9, false))⟩,
      ⟨(some 11), .pl (.bin .gtr .no (.t 10) (.c (.int .i64 8))), (some (9, false))⟩,
      ⟨(some 12), .pl (.pick (.t 9) (.c (.bool true)) (.t 11)), none⟩] [0, 2, 4, 12])
   (.cond (.t 12)
    (.seq (.reg [⟨(some 6), .pl (.mv (.c (.int .i64 4))), none⟩] [6])
     (.ret))
    (.skip)))
  (.seq (.seq (.reg [⟨(some 13), .pl (.mv (.t 0)), none⟩,
      ⟨(some 14), .pl (.fa 2 (.t 4)), none⟩,
      ⟨(some 15), .pl (.load none (.t 14)), none⟩,
      ⟨(some 16), .call (.c (.fn 15 [] [])) [(.t 13), (.t 15)], none⟩,
      ⟨(some 17), .pl (.bin .neq .no (.t 16) (.c (.int .i64 1))), none⟩,
      ⟨(some 18), .pl (.mv (.t 17)), none⟩,
      ⟨(some 19), .pl (.mv (.t 0)), (some (18, false))⟩,
      ⟨(some 20), .pl (.fa 3 (.t 4)), (some (18, false))⟩,
      ⟨(some 21), .pl (.load none (.t 20)), (some (18, false))⟩,
      ⟨(some 22), .call (.c (.fn 15 [] [])) [(.t 19), (.t 21)], (some (18, false))⟩,
      ⟨(some 23), .pl (.bin .neq .no (.t 22) (.c (.int .i64 1))), (some (18, false))⟩,
      ⟨(some 24), .pl (.pick (.t 18) (.c (.bool true)) (.t 23)), none⟩] [0, 2, 4, 24])
   (.cond (.t 24)
    (.seq (.reg [⟨(some 6), .pl (.mv (.c (.int .i64 6))), none⟩] [6])
     (.ret))
    (.skip)))
  (.seq (.seq (.regD [⟨(some 25), .pl (.mv (.t 0)), none⟩,
      ⟨(some 26), .pl (.fa 2 (.t 4)), none⟩,
      ⟨(some 27), .pl (.load none (.t 26)), none⟩,
      ⟨(some 28), .pl (.mv (.t 2)), none⟩,
      ⟨(some 29), .call (.c (.fn 38 [] [])) [(.t 28)], none⟩,
      ⟨(some 30), .call (.c (.fn 60 [] [])) [(.t 25), (.t 27), (.t 29)], none⟩,
      ⟨(some 31), .pl (.un .not (.t 30)), none⟩,
      ⟨(some 32), .pl (.mv (.t 31)), none⟩,
      ⟨(some 33), .pl (.mv (.t 0)), (some (32, false))⟩,
      ⟨(some 34), .pl (.fa 3 (.t 4)), (some (32, false))⟩,
      ⟨(some 35), .pl (.load none (.t 34)), (some (32, false))⟩,
      ⟨(some 36), .pl (.mv (.t 2)), (some (32, false))⟩,
      ⟨(some 37), .call (.c (.fn 39 [] [])) [(.t 36)], (some (32, false))⟩,
      ⟨(some 38), .call (.c (.fn 60 [] [])) [(.t 33), (.t 35), (.t 37)], (some (32, false))⟩,
      ⟨(some 39), .pl (.un .not (.t 38)), (some (32, false))⟩,
      ⟨(some 40), .pl (.pick (.t 32) (.c (.bool true)) (.t 39)), none⟩] [(2, 4), (10, 12)] [40])
   (.cond (.t 40)
    (.seq (.reg [⟨(some 6), .pl (.mv (.c (.int .i64 8))), none⟩] [6])
     (.ret))
    (.skip)))
  (.seq (.reg [⟨(some 6), .pl (.mv (.c (.int .i64 0))), none⟩] [6])
  (.ret)))))⟩
theorem c41 : compF Try.prog 41 = some A41 := by kernel_rfl

/-- concourse/concourseref09.SameType -/
def A56_l0 : AC := .seq (.seq (.reg [⟨(some 27), .pl (.mv (.t 5)), none⟩,
      ⟨(some 28), .pl (.fa 2 (.t 2)), none⟩,
      ⟨(some 29), .pl (.load none (.t 28)), none⟩,
      ⟨(some 30), .pl (.lenL (.t 29)), none⟩,
      ⟨(some 31), .pl (.bin .lss .no (.t 27) (.t 30)), none⟩] [2, 3, 5, 31])
   (.cond (.t 31)
    (.skip)
    (.exit 0)))
  (.seq (.block 1 (.seq (.regD [⟨(some 34), .pl (.fa 2 (.t 2)), none⟩,
       ⟨(some 35), .pl (.load none (.t 34)), none⟩,
       ⟨(some 36), .pl (.mv (.t 5)), none⟩,
       ⟨(some 37), .pl (.ia 3 (.t 35) (.t 36)), none⟩,
       ⟨(some 38), .pl (.load (some 3) (.t 37)), none⟩,
       ⟨(some 39), .pl (.fa 2 (.t 3)), none⟩,
       ⟨(some 40), .pl (.load none (.t 39)), none⟩,
       ⟨(some 41), .pl (.mv (.t 5)), none⟩,
       ⟨(some 42), .pl (.ia 3 (.t 40) (.t 41)), none⟩,
       ⟨(some 43), .pl (.load (some 3) (.t 42)), none⟩,
       ⟨(some 44), .call (.c (.fn 56 [] [])) [(.t 38), (.t 43)], none⟩,
       ⟨(some 45), .pl (.un .not (.t 44)), none⟩] [] [2, 3, 5, 45])
    (.cond (.t 45)
     (.seq (.reg [⟨(some 4), .pl (.mv (.c (.bool false))), none⟩] [4])
      (.ret))
     (.skip))))
  (.reg [⟨(some 32), .pl (.mv (.t 5)), none⟩,
    ⟨(some 33), .pl (.bin .add .no (.t 32) (.c (.int .i64 1))), none⟩,
    ⟨(some 5), .pl (.mv (.t 33)), none⟩] [2, 3, 5]))
def A56_r0 : AC := .seq (.reg [⟨(some 4), .pl (.mv (.c (.bool true))), none⟩] [4])
  (.ret)
def A56 : AFun := ⟨46, [.t 4],
  .seq (.reg [⟨(some 2), .pl (.box (.t 0)), none⟩,
     ⟨(some 3), .pl (.box (.t 1)), none⟩,
     ⟨(some 4), .pl (.mv (.c (.bool false))), none⟩] [2, 3])
  (.seq (.seq (.reg [⟨(some 6), .pl (.fa 0 (.t 2)), none⟩,
      ⟨(some 7), .pl (.load none (.t 6)), none⟩,
      ⟨(some 8), .pl (.fa 0 (.t 3)), none⟩,
      ⟨(some 9), .pl (.load none (.t 8)), none⟩,
      ⟨(some 10), .pl (.bin .neq .no (.t 7) (.t 9)), none⟩,
      ⟨(some 11), .pl (.mv (.t 10)), none⟩,
      ⟨(some 12), .pl (.fa 1 (.t 2)), (some (11, false))⟩,
      ⟨(some 13), .pl (.load none (.t 12)), (some (11, false))⟩,
      ⟨(some 14), .pl (.fa 1 (.t 3)), (some (11, false))⟩,
      ⟨(some 15), .pl (.load none (.t 14)), (some (11, false))⟩,
      ⟨(some 16), .pl (.bin .neq .no (.t 13) (.t 15)), (some (11, false))⟩,
      ⟨(some 17), .pl (.pick (.t 11) (.c (.bool true)) (.t 16)), none⟩,
      ⟨(some 18), .pl (.mv (.t 17)), none⟩,
      ⟨(some 19), .pl (.fa 2 (.t 2)), (some (18, false))⟩,
      ⟨(some 20), .pl (.load none (.t 19)), (some (18, false))⟩,
      ⟨(some 21), .pl (.lenL (.t 20)), (some (18, false))⟩,
      ⟨(some 22), .pl (.fa 2 (.t 3)), (some (18, false))⟩,
      ⟨(some 23), .pl (.load none (.t 22)), (some (18, false))⟩,
      ⟨(some 24), .pl (.lenL (.t 23)), (some (18, false))⟩,
      ⟨(some 25), .pl (.bin .neq .no (.t 21) (.t 24)), (some (18, false))⟩,
      ⟨(some 26), .pl (.pick (.t 18) (.c (.bool true)) (.t 25)), none⟩] [2, 3, 26])
   (.cond (.t 26)
    (.seq (.reg [⟨(some 4), .pl (.mv (.c (.bool false))), none⟩] [4])
     (.ret))
    (.skip)))
  (.seq (.seq (.reg [⟨(some 5), .pl (.mv (.c (.int .i64 0))), none⟩] [2, 3, 5])
   (.block 0 (.loop [2, 3, 5] A56_l0)))
  (A56_r0)))⟩
theorem c56 : compF Try.prog 56 = some A56 := by kernel_rfl

/-- concourse/concourseref30.Type -/
def A57 : AFun := ⟨17, [.cell 2 (some 3)],
  .seq (.reg [⟨(some 2), .pl (.alloc [.int .i64 0, .str ⟨#[]⟩, .esl]), none⟩] [0, 2])
  (.seq (.reg [⟨(some 5), .pl (.build [.int .i64 0, .str ⟨#[]⟩, .esl] [(0, 1, (.c (.int .i64 4)))]), none⟩,
     ⟨(some 3), .pl (.alloc [.int .i64 0, .str ⟨#[]⟩, .esl]), none⟩,
     ⟨none, .pl (.store 3 (.t 3) (.t 5)), none⟩] [0, 2, 3])
  (.seq (.seq (.reg [⟨(some 6), .pl (.mv (.t 0)), none⟩,
      ⟨(some 7), .pl (.bin .eql .no (.t 6) (.c (.int .i64 5))), none⟩] [0, 2, 3, 7])
   (.cond (.t 7)
    (.seq (.reg [⟨(some 8), .pl (.load (some 3) (.t 3)), none⟩,
        ⟨(some 9), .pl (.lit 3 [(.t 8)]), none⟩,
        ⟨(some 10), .pl (.build [.int .i64 0, .str ⟨#[]⟩, .esl] [(0, 1, (.c (.int .i64 9))), (2, 1, (.t 9))]), none⟩,
        ⟨none, .pl (.store 3 (.t 2) (.t 10)), none⟩] [2])
     (.ret))
    (.skip)))
  (.seq (.reg [⟨(some 11), .pl (.lit 1 [(.c (.int .i64 0)), (.c (.int .i64 4)), (.c (.int .i64 2)), (.c (.int .i64 3)), (.c (.int .i64 1))]), none⟩,
     ⟨(some 4), .pl (.mv (.t 11)), none⟩] [0, 2, 4])
  (.seq (.reg [⟨(some 12), .pl (.mv (.t 4)), none⟩,
     ⟨(some 13), .pl (.mv (.t 0)), none⟩,
     ⟨(some 14), .pl (.ia 1 (.t 12) (.t 13)), none⟩,
     ⟨(some 15), .pl (.load none (.t 14)), none⟩,
     ⟨(some 16), .pl (.build [.int .i64 0, .str ⟨#[]⟩, .esl] [(0, 1, (.t 15))]), none⟩,
     ⟨none, .pl (.store 3 (.t 2) (.t 16)), none⟩] [2])
  (.ret)))))⟩
theorem c57 : compF Try.prog 57 = some A57 := by kernel_rfl

/-- concourse/concourseref30.begins -/
def A60_l0 : AC := .seq (.seq (.reg [⟨(some 12), .pl (.mv (.t 7)), none⟩,
      ⟨(some 13), .pl (.mv (.t 2)), none⟩,
      ⟨(some 14), .pl (.lenL (.t 13)), none⟩,
      ⟨(some 15), .pl (.bin .lss .no (.t 12) (.t 14)), none⟩] [0, 1, 2, 7, 15])
   (.cond (.t 15)
    (.skip)
    (.exit 0)))
  (.seq (.block 1 (.seq (.reg [⟨(some 19), .pl (.mv (.t 0)), none⟩,
       ⟨(some 20), .pl (.mv (.t 1)), none⟩,
       ⟨(some 21), .pl (.mv (.t 7)), none⟩,
       ⟨(some 22), .pl (.bin .add .no (.t 21) (.c (.int .i64 1))), none⟩,
       ⟨(some 23), .call (.c (.fn 84 [] [])) [(.t 19), (.t 20), (.t 22)], none⟩,
       ⟨(some 18), .pl (.mv (.t 23)), none⟩,
       ⟨(some 24), .pl (.ext 0 (.t 18)), none⟩,
       ⟨(some 25), .pl (.ext 1 (.t 18)), none⟩,
       ⟨(some 8), .pl (.alloc [.int .i64 0, .str ⟨#[]⟩, .int .i64 0, .str ⟨#[]⟩, .esl]), none⟩,
       ⟨none, .pl (.store 5 (.t 8) (.t 24)), none⟩,
       ⟨(some 9), .pl (.mv (.t 25)), none⟩] [0, 1, 2, 7, 8, 9])
    (.seq (.regD [⟨(some 26), .pl (.mv (.t 9)), none⟩,
       ⟨(some 27), .pl (.un .not (.t 26)), none⟩,
       ⟨(some 28), .pl (.mv (.t 27)), none⟩,
       ⟨(some 29), .pl (.fa 2 (.t 8)), (some (28, false))⟩,
       ⟨(some 30), .pl (.load (some 3) (.t 29)), (some (28, false))⟩,
       ⟨(some 31), .pl (.mv (.t 2)), (some (28, false))⟩,
       ⟨(some 32), .pl (.mv (.t 7)), (some (28, false))⟩,
       ⟨(some 33), .pl (.ia 1 (.t 31) (.t 32)), (some (28, false))⟩,
       ⟨(some 34), .pl (.load none (.t 33)), (some (28, false))⟩,
       ⟨(some 35), .call (.c (.fn 57 [] [])) [(.t 34)], (some (28, false))⟩,
       ⟨(some 36), .call (.c (.fn 56 [] [])) [(.t 30), (.t 35)], (some (28, false))⟩,
       ⟨(some 37), .pl (.un .not (.t 36)), (some (28, false))⟩,
       ⟨(some 38), .pl (.pick (.t 28) (.c (.bool true)) (.t 37)), none⟩] [(4, 9)] [0, 1, 2, 7, 38])
    (.cond (.t 38)
     (.seq (.reg [⟨(some 6), .pl (.mv (.c (.bool false))), none⟩] [6])
      (.ret))
     (.skip)))))
  (.reg [⟨(some 16), .pl (.mv (.t 7)), none⟩,
    ⟨(some 17), .pl (.bin .add .no (.t 16) (.c (.int .i64 1))), none⟩,
    ⟨(some 7), .pl (.mv (.t 17)), none⟩] [0, 1, 2, 7]))
def A60_l1 : AC := .seq (.seq (.reg [⟨(some 42), .pl (.mv (.t 11)), none⟩,
      ⟨(some 43), .pl (.mv (.t 10)), none⟩,
      ⟨(some 44), .pl (.lenL (.t 43)), none⟩,
      ⟨(some 45), .pl (.bin .lss .no (.t 42) (.t 44)), none⟩] [2, 10, 11, 45])
   (.cond (.t 45)
    (.skip)
    (.exit 2)))
  (.seq (.block 3 (.seq (.reg [⟨(some 48), .pl (.mv (.t 10)), none⟩,
       ⟨(some 49), .pl (.mv (.t 11)), none⟩,
       ⟨(some 50), .pl (.ia 5 (.t 48) (.t 49)), none⟩,
       ⟨(some 51), .pl (.fa 0 (.t 50)), none⟩,
       ⟨(some 52), .pl (.load none (.t 51)), none⟩,
       ⟨(some 53), .pl (.mv (.t 2)), none⟩,
       ⟨(some 54), .pl (.lenL (.t 53)), none⟩,
       ⟨(some 55), .pl (.bin .gtr .no (.t 52) (.t 54)), none⟩,
       ⟨(some 56), .pl (.mv (.t 55)), none⟩,
       ⟨(some 57), .pl (.mv (.t 10)), (some (56, true))⟩,
       ⟨(some 58), .pl (.mv (.t 11)), (some (56, true))⟩,
       ⟨(some 59), .pl (.ia 5 (.t 57) (.t 58)), (some (56, true))⟩,
       ⟨(some 60), .pl (.fa 2 (.t 59)), (some (56, true))⟩,
       ⟨(some 61), .pl (.fa 0 (.t 60)), (some (56, true))⟩,
       ⟨(some 62), .pl (.load none (.t 61)), (some (56, true))⟩,
       ⟨(some 63), .pl (.bin .neq .no (.t 62) (.c (.int .i64 9))), (some (56, true))⟩,
       ⟨(some 64), .pl (.pick (.t 56) (.t 63) (.c (.bool false))), none⟩] [2, 10, 11, 64])
    (.cond (.t 64)
     (.seq (.reg [⟨(some 6), .pl (.mv (.c (.bool false))), none⟩] [6])
      (.ret))
     (.skip))))
  (.reg [⟨(some 46), .pl (.mv (.t 11)), none⟩,
    ⟨(some 47), .pl (.bin .add .no (.t 46) (.c (.int .i64 1))), none⟩,
    ⟨(some 11), .pl (.mv (.t 47)), none⟩] [2, 10, 11]))
def A60_r0 : AC := .seq (.reg [⟨(some 6), .pl (.mv (.c (.bool true))), none⟩] [6])
  (.ret)
def A60_r1 : AC := .seq (.reg [⟨(some 39), .pl (.mv (.t 0)), none⟩,
     ⟨(some 40), .pl (.mv (.t 1)), none⟩,
     ⟨(some 41), .call (.c (.fn 85 [] [])) [(.t 39), (.t 40)], none⟩,
     ⟨(some 10), .pl (.mv (.t 41)), none⟩] [2, 10])
  (.seq (.seq (.reg [⟨(some 11), .pl (.mv (.c (.int .i64 0))), none⟩] [2, 10, 11])
   (.block 2 (.loop [2, 10, 11] A60_l1)))
  (A60_r0))
def A60 : AFun := ⟨65, [.t 6],
  .seq (.reg [⟨(some 6), .pl (.mv (.c (.bool false))), none⟩] [0, 1, 2])
  (.seq (.seq (.reg [⟨(some 7), .pl (.mv (.c (.int .i64 0))), none⟩] [0, 1, 2, 7])
   (.block 0 (.loop [0, 1, 2, 7] A60_l0)))
  (A60_r1))⟩
theorem c60 : compF Try.prog 60 = some A60 := by kernel_rfl

/-- concourse/concourseref13.Row -/
def A84 : AFun := ⟨33, [.cell 6 (some 5), .t 7],
  .seq (.reg [⟨(some 6), .pl (.alloc [.int .i64 0, .str ⟨#[]⟩, .int .i64 0, .str ⟨#[]⟩, .esl]), none⟩,
     ⟨(some 7), .pl (.mv (.c (.bool false))), none⟩] [0, 1, 2, 6])
  (.seq (.reg [⟨(some 10), .pl (.mv (.t 0)), none⟩,
     ⟨(some 11), .pl (.mv (.t 1)), none⟩,
     ⟨(some 12), .call (.c (.fn 13 [] [])) [(.t 10), (.t 11)], none⟩,
     ⟨(some 8), .pl (.mv (.t 12)), none⟩] [0, 2, 6, 8])
  (.seq (.seq (.reg [⟨(some 13), .pl (.mv (.t 8)), none⟩,
      ⟨(some 14), .pl (.bin .lss .no (.t 13) (.c (.int .i64 0))), none⟩] [0, 2, 6, 8, 14])
   (.cond (.t 14)
    (.seq (.reg [⟨(some 15), .pl (.build [.int .i64 0, .str ⟨#[]⟩, .int .i64 0, .str ⟨#[]⟩, .esl] []), none⟩,
        ⟨none, .pl (.store 5 (.t 6) (.t 15)), none⟩,
        ⟨(some 7), .pl (.mv (.c (.bool false))), none⟩] [6, 7])
     (.ret))
    (.skip)))
  (.seq (.reg [⟨(some 16), .pl (.mv (.t 0)), none⟩,
     ⟨(some 17), .pl (.mv (.t 8)), none⟩,
     ⟨(some 18), .pl (.ia 5 (.t 16) (.t 17)), none⟩,
     ⟨(some 19), .pl (.load (some 5) (.t 18)), none⟩,
     ⟨(some 20), .pl (.mv (.t 2)), none⟩,
     ⟨(some 21), .call (.c (.fn 19 [] [])) [(.t 19), (.t 20)], none⟩,
     ⟨(some 9), .pl (.mv (.t 21)), none⟩] [0, 6, 8, 9])
  (.seq (.seq (.reg [⟨(some 22), .pl (.mv (.t 9)), none⟩,
      ⟨(some 23), .pl (.bin .lss .no (.t 22) (.c (.int .i64 0))), none⟩] [0, 6, 8, 9, 23])
   (.cond (.t 23)
    (.seq (.reg [⟨(some 24), .pl (.build [.int .i64 0, .str ⟨#[]⟩, .int .i64 0, .str ⟨#[]⟩, .esl] []), none⟩,
        ⟨none, .pl (.store 5 (.t 6) (.t 24)), none⟩,
        ⟨(some 7), .pl (.mv (.c (.bool false))), none⟩] [6, 7])
     (.ret))
    (.skip)))
  (.seq (.reg [⟨(some 25), .pl (.mv (.t 0)), none⟩,
     ⟨(some 26), .pl (.mv (.t 8)), none⟩,
     ⟨(some 27), .pl (.ia 5 (.t 25) (.t 26)), none⟩,
     ⟨(some 28), .pl (.fa 2 (.t 27)), none⟩,
     ⟨(some 29), .pl (.load none (.t 28)), none⟩,
     ⟨(some 30), .pl (.mv (.t 9)), none⟩,
     ⟨(some 31), .pl (.ia 5 (.t 29) (.t 30)), none⟩,
     ⟨(some 32), .pl (.load (some 5) (.t 31)), none⟩,
     ⟨none, .pl (.store 5 (.t 6) (.t 32)), none⟩,
     ⟨(some 7), .pl (.mv (.c (.bool true))), none⟩] [6, 7])
  (.ret))))))⟩
theorem c84 : compF Try.prog 84 = some A84 := by kernel_rfl

/-- concourse/concourseref13.Rows -/
def A85_l0 : AC := .seq (.seq (.reg [⟨(some 26), .pl (.mv (.t 9)), none⟩,
      ⟨(some 27), .pl (.mv (.t 0)), none⟩,
      ⟨(some 28), .pl (.mv (.t 6)), none⟩,
      ⟨(some 29), .pl (.ia 5 (.t 27) (.t 28)), none⟩,
      ⟨(some 30), .pl (.fa 2 (.t 29)), none⟩,
      ⟨(some 31), .pl (.load none (.t 30)), none⟩,
      ⟨(some 32), .pl (.lenL (.t 31)), none⟩,
      ⟨(some 33), .pl (.bin .lss .no (.t 26) (.t 32)), none⟩] [0, 5, 6, 7, 8, 9, 33])
   (.cond (.t 33)
    (.skip)
    (.exit 2)))
  (.seq (.block 3 (.seq (.reg [⟨(some 36), .pl (.mv (.t 0)), none⟩,
       ⟨(some 37), .pl (.mv (.t 6)), none⟩,
       ⟨(some 38), .pl (.ia 5 (.t 36) (.t 37)), none⟩,
       ⟨(some 39), .pl (.fa 2 (.t 38)), none⟩,
       ⟨(some 40), .pl (.load none (.t 39)), none⟩,
       ⟨(some 41), .pl (.mv (.t 9)), none⟩,
       ⟨(some 42), .pl (.ia 5 (.t 40) (.t 41)), none⟩,
       ⟨(some 43), .pl (.fa 0 (.t 42)), none⟩,
       ⟨(some 44), .pl (.load none (.t 43)), none⟩,
       ⟨(some 10), .pl (.mv (.t 44)), none⟩] [0, 5, 6, 7, 8, 9, 10])
    (.seq (.reg [⟨(some 45), .pl (.mv (.t 10)), none⟩,
       ⟨(some 46), .pl (.mv (.t 7)), none⟩,
       ⟨(some 47), .pl (.bin .gtr .no (.t 45) (.t 46)), none⟩,
       ⟨(some 48), .pl (.mv (.t 47)), none⟩,
       ⟨(some 49), .pl (.mv (.t 8)), (some (48, true))⟩,
       ⟨(some 50), .pl (.bin .lss .no (.t 49) (.c (.int .i64 0))), (some (48, true))⟩,
       ⟨(some 51), .pl (.mv (.t 50)), (some (48, true))⟩,
       ⟨(some 52), .pl (.mv (.t 10)), (some (51, false))⟩,
       ⟨(some 53), .pl (.mv (.t 0)), (some (51, false))⟩,
       ⟨(some 54), .pl (.mv (.t 6)), (some (51, false))⟩,
       ⟨(some 55), .pl (.ia 5 (.t 53) (.t 54)), (some (51, false))⟩,
       ⟨(some 56), .pl (.fa 2 (.t 55)), (some (51, false))⟩,
       ⟨(some 57), .pl (.load none (.t 56)), (some (51, false))⟩,
       ⟨(some 58), .pl (.mv (.t 8)), (some (51, false))⟩,
       ⟨(some 59), .pl (.ia 5 (.t 57) (.t 58)), (some (51, false))⟩,
       ⟨(some 60), .pl (.fa 0 (.t 59)), (some (51, false))⟩,
       ⟨(some 61), .pl (.load none (.t 60)), (some (51, false))⟩,
       ⟨(some 62), .pl (.bin .lss .no (.t 52) (.t 61)), (some (51, false))⟩,
       ⟨(some 63), .pl (.pick (.t 51) (.c (.bool true)) (.t 62)), (some (48, true))⟩,
       ⟨(some 64), .pl (.pick (.t 48) (.t 63) (.c (.bool false))), none⟩] [0, 5, 6, 7, 8, 9, 64])
    (.cond (.t 64)
     (.reg [⟨(some 65), .pl (.mv (.t 9)), none⟩,
        ⟨(some 8), .pl (.mv (.t 65)), none⟩] [0, 5, 6, 7, 8, 9])
     (.skip)))))
  (.reg [⟨(some 34), .pl (.mv (.t 9)), none⟩,
    ⟨(some 35), .pl (.bin .add .no (.t 34) (.c (.int .i64 1))), none⟩,
    ⟨(some 9), .pl (.mv (.t 35)), none⟩] [0, 5, 6, 7, 8, 9]))
def A85_r0 : AC := .seq (.seq (.reg [⟨(some 66), .pl (.mv (.t 8)), none⟩,
      ⟨(some 67), .pl (.bin .lss .no (.t 66) (.c (.int .i64 0))), none⟩] [0, 5, 6, 8, 67])
   (.cond (.t 67)
    (.seq (.reg [⟨(some 68), .pl (.mv (.t 5)), none⟩,
        ⟨(some 4), .pl (.mv (.t 68)), none⟩] [4])
     (.ret))
    (.skip)))
  (.seq (.reg [⟨(some 69), .pl (.mv (.t 5)), none⟩,
     ⟨(some 70), .pl (.mv (.t 0)), none⟩,
     ⟨(some 71), .pl (.mv (.t 6)), none⟩,
     ⟨(some 72), .pl (.ia 5 (.t 70) (.t 71)), none⟩,
     ⟨(some 73), .pl (.fa 2 (.t 72)), none⟩,
     ⟨(some 74), .pl (.load none (.t 73)), none⟩,
     ⟨(some 75), .pl (.mv (.t 8)), none⟩,
     ⟨(some 76), .pl (.ia 5 (.t 74) (.t 75)), none⟩,
     ⟨(some 77), .pl (.load (some 5) (.t 76)), none⟩,
     ⟨(some 78), .pl (.lit 5 [(.t 77)]), none⟩,
     ⟨(some 79), .pl (.append 76 5 72 (.t 69) (.t 78)), none⟩,
     ⟨(some 5), .pl (.mv (.t 79)), none⟩] [0, 5, 6, 8])
  (.reg [⟨(some 80), .pl (.mv (.t 0)), none⟩,
    ⟨(some 81), .pl (.mv (.t 6)), none⟩,
    ⟨(some 82), .pl (.ia 5 (.t 80) (.t 81)), none⟩,
    ⟨(some 83), .pl (.fa 2 (.t 82)), none⟩,
    ⟨(some 84), .pl (.load none (.t 83)), none⟩,
    ⟨(some 85), .pl (.mv (.t 8)), none⟩,
    ⟨(some 86), .pl (.ia 5 (.t 84) (.t 85)), none⟩,
    ⟨(some 87), .pl (.fa 0 (.t 86)), none⟩,
    ⟨(some 88), .pl (.load none (.t 87)), none⟩,
    ⟨(some 7), .pl (.mv (.t 88)), none⟩] [0, 5, 6, 7]))
def A85_l1 : AC := .seq (.seq (.reg [⟨(some 17), .pl (.mv (.t 5)), none⟩,
      ⟨(some 18), .pl (.lenL (.t 17)), none⟩,
      ⟨(some 19), .pl (.mv (.t 0)), none⟩,
      ⟨(some 20), .pl (.mv (.t 6)), none⟩,
      ⟨(some 21), .pl (.ia 5 (.t 19) (.t 20)), none⟩,
      ⟨(some 22), .pl (.fa 2 (.t 21)), none⟩,
      ⟨(some 23), .pl (.load none (.t 22)), none⟩,
      ⟨(some 24), .pl (.lenL (.t 23)), none⟩,
      ⟨(some 25), .pl (.bin .lss .no (.t 18) (.t 24)), none⟩] [0, 5, 6, 7, 25])
   (.cond (.t 25)
    (.skip)
    (.exit 0)))
  (.block 1 (.seq (.reg [⟨(some 8), .pl (.mv (.c (.int .i64 (-1)))), none⟩] [0, 5, 6, 7, 8])
   (.seq (.seq (.reg [⟨(some 9), .pl (.mv (.c (.int .i64 0))), none⟩] [0, 5, 6, 7, 8, 9])
    (.block 2 (.loop [0, 5, 6, 7, 8, 9] A85_l0)))
   (A85_r0))))
def A85_r1 : AC := .seq (.reg [⟨(some 89), .pl (.mv (.t 5)), none⟩,
     ⟨(some 4), .pl (.mv (.t 89)), none⟩] [4])
  (.ret)
def A85 : AFun := ⟨90, [.t 4],
  .seq (.reg [⟨(some 4), .pl (.mv (.c (.esl))), none⟩] [0, 1])
  (.seq (.reg [⟨(some 5), .pl (.mv (.c (.esl))), none⟩] [0, 1, 5])
  (.seq (.reg [⟨(some 11), .pl (.mv (.t 0)), none⟩,
     ⟨(some 12), .pl (.mv (.t 1)), none⟩,
     ⟨(some 13), .call (.c (.fn 13 [] [])) [(.t 11), (.t 12)], none⟩,
     ⟨(some 6), .pl (.mv (.t 13)), none⟩] [0, 5, 6])
  (.seq (.seq (.reg [⟨(some 14), .pl (.mv (.t 6)), none⟩,
      ⟨(some 15), .pl (.bin .lss .no (.t 14) (.c (.int .i64 0))), none⟩] [0, 5, 6, 15])
   (.cond (.t 15)
    (.seq (.reg [⟨(some 16), .pl (.mv (.t 5)), none⟩,
        ⟨(some 4), .pl (.mv (.t 16)), none⟩] [4])
     (.ret))
    (.skip)))
  (.seq (.reg [⟨(some 7), .pl (.mv (.c (.int .i64 (-1)))), none⟩] [0, 5, 6, 7])
  (.seq (.block 0 (.loop [0, 5, 6, 7] A85_l1))
  (A85_r1))))))⟩
theorem c85 : compF Try.prog 85 = some A85 := by kernel_rfl

end Go.Proofs.Ytjljhmeadfejhaa
