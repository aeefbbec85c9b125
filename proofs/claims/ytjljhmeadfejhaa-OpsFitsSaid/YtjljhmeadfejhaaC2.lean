/- The compiled form of the functions of this claim: each equation is checked by the kernel. -/
import Derived.Test.YtjljhmeadfejhaaChecked
import Derived.Test.YtjljhmeadfejhaaME3
set_option maxRecDepth 100000
namespace Go.Proofs.Ytjljhmeadfejhaa
open Go.Eng
/-- (*concourse/check.checker).typ -/
def A86_l0 : AC := .seq (.reg [⟨(some 72), .pl (.bin .lss .no (.t 71) (.t 70)), none⟩] [0, 69, 70, 71, 72])
  (.seq (.cond (.t 72)
    (.skip)
    (.exit 2))
  (.seq (.block 3 (.seq (.reg [⟨(some 73), .pl (.ia 3 (.t 69) (.t 71)), none⟩,
       ⟨(some 74), .pl (.load (some 3) (.t 73)), none⟩,
       ⟨(some 10), .pl (.alloc [.int .i64 0, .str ⟨#[]⟩, .esl]), none⟩,
       ⟨none, .pl (.store 3 (.t 10) (.t 74)), none⟩] [0, 10, 69, 70, 71])
    (.seq (.reg [⟨(some 75), .pl (.mv (.t 0)), none⟩,
       ⟨(some 76), .pl (.load (some 3) (.t 10)), none⟩,
       ⟨(some 77), .call (.c (.fn 86 [] [])) [(.t 75), (.t 76), (.c (.bool true))], none⟩,
       ⟨(some 11), .pl (.mv (.t 77)), none⟩] [0, 11, 69, 70, 71])
    (.seq (.reg [⟨(some 78), .pl (.mv (.t 11)), none⟩,
       ⟨(some 79), .pl (.bin .neq .no (.t 78) (.c (.int .i64 0))), none⟩] [0, 11, 69, 70, 71, 79])
    (.cond (.t 79)
     (.seq (.reg [⟨(some 80), .pl (.mv (.t 11)), none⟩,
         ⟨(some 6), .pl (.mv (.t 80)), none⟩] [6])
      (.ret))
     (.skip))))))
  (.reg [⟨(some 81), .pl (.bin .add .no (.t 71) (.c (.int .i64 1))), none⟩,
    ⟨(some 71), .pl (.mv (.t 81)), none⟩] [0, 69, 70, 71])))
def A86_r0 : AC := .seq (.reg [⟨(some 6), .pl (.mv (.c (.int .i64 0))), none⟩] [6])
  (.ret)
def A86 : AFun := ⟨82, [.t 6],
  .seq (.reg [⟨(some 4), .pl (.box (.t 1)), none⟩,
     ⟨(some 6), .pl (.mv (.c (.int .i64 0))), none⟩] [0, 2, 4])
  (.seq (.seq (.regD [⟨(some 12), .pl (.fa 2 (.t 4)), none⟩,
      ⟨(some 13), .pl (.load none (.t 12)), none⟩,
      ⟨(some 14), .pl (.lenL (.t 13)), none⟩,
      ⟨(some 15), .pl (.fa 0 (.t 4)), none⟩,
      ⟨(some 16), .pl (.load none (.t 15)), none⟩,
      ⟨(some 17), .call (.c (.fn 103 [] [])) [(.t 16)], none⟩,
      ⟨(some 18), .pl (.bin .neq .no (.t 14) (.t 17)), none⟩,
      ⟨(some 19), .pl (.mv (.t 18)), none⟩,
      ⟨(some 20), .pl (.fa 0 (.t 4)), (some (19, false))⟩,
      ⟨(some 21), .pl (.load none (.t 20)), (some (19, false))⟩,
      ⟨(some 22), .pl (.bin .neq .no (.t 21) (.c (.int .i64 6))), (some (19, false))⟩,
      ⟨(some 23), .pl (.mv (.t 22)), (some (19, false))⟩,
      ⟨(some 24), .pl (.fa 1 (.t 4)), (some (23, true))⟩,
      ⟨(some 25), .pl (.load none (.t 24)), (some (23, true))⟩,
      ⟨(some 26), .pl (.bin .neq .no (.t 25) (.c (.str ⟨#[]⟩))), (some (23, true))⟩,
      ⟨(some 27), .pl (.pick (.t 23) (.t 26) (.c (.bool false))), (some (19, false))⟩,
      ⟨(some 28), .pl (.pick (.t 19) (.c (.bool true)) (.t 27)), none⟩] [(1, 5)] [0, 2, 4, 28])
   (.cond (.t 28)
    (.seq (.reg [⟨(some 6), .pl (.mv (.c (.int .i64 8))), none⟩] [6])
     (.ret))
    (.skip)))
  (.seq (.seq (.reg [⟨(some 29), .pl (.fa 0 (.t 4)), none⟩,
      ⟨(some 30), .pl (.load none (.t 29)), none⟩] [0, 2, 4, 30])
   (.block 0 (.seq (.reg [⟨(some 32), .pl (.bin .eql .no (.t 30) (.c (.int .i64 6))), none⟩,
       ⟨(some 31), .pl (.mv (.t 32)), none⟩] [0, 2, 4, 30, 31])
    (.cond (.t 31)
     (.seq (.seq (.regD [⟨(some 33), .pl (.mv (.t 0)), none⟩,
          ⟨(some 34), .pl (.nilck (.t 33)), none⟩,
          ⟨(some 35), .pl (.fa 1 (.t 34)), none⟩,
          ⟨(some 36), .pl (.load none (.t 35)), none⟩,
          ⟨(some 37), .pl (.fa 1 (.t 4)), none⟩,
          ⟨(some 38), .pl (.load none (.t 37)), none⟩,
          ⟨(some 39), .call (.c (.fn 14 [] [])) [(.t 36), (.t 38)], none⟩] [] [0, 4, 39])
       (.block 1 (.seq (.seq (.reg [⟨(some 41), .pl (.bin .eql .no (.t 39) (.c (.int .i64 1))), none⟩,
            ⟨(some 40), .pl (.mv (.t 41)), none⟩] [0, 4, 39, 40])
         (.cond (.t 40)
          (.skip)
          (.seq (.reg [⟨(some 42), .pl (.bin .eql .no (.t 39) (.c (.int .i64 2))), none⟩,
              ⟨(some 40), .pl (.mv (.t 42)), none⟩] [0, 4, 39, 40])
           (.cond (.t 40)
            (.skip)
            (.reg [⟨(some 43), .pl (.bin .eql .no (.t 39) (.c (.int .i64 3))), none⟩,
               ⟨(some 40), .pl (.mv (.t 43)), none⟩] [0, 4, 40])))))
        (.cond (.t 40)
         (.seq (.reg [⟨(some 6), .pl (.mv (.c (.int .i64 0))), none⟩] [6])
          (.ret))
         (.skip)))))
      (.seq (.seq (.regD [⟨(some 45), .pl (.mv (.t 0)), none⟩,
          ⟨(some 46), .pl (.nilck (.t 45)), none⟩,
          ⟨(some 47), .pl (.fa 1 (.t 46)), none⟩,
          ⟨(some 48), .pl (.load none (.t 47)), none⟩,
          ⟨(some 49), .pl (.fa 1 (.t 4)), none⟩,
          ⟨(some 50), .pl (.load none (.t 49)), none⟩,
          ⟨(some 51), .call (.c (.fn 12 [] [])) [(.t 48), (.t 50)], none⟩,
          ⟨(some 44), .pl (.mv (.t 51)), none⟩,
          ⟨(some 52), .pl (.ext 0 (.t 44)), none⟩,
          ⟨(some 53), .pl (.ext 1 (.t 44)), none⟩,
          ⟨(some 7), .pl (.mv (.t 52)), none⟩,
          ⟨(some 8), .pl (.mv (.t 53)), none⟩] [] [8])
       (.seq (.reg [⟨(some 54), .pl (.mv (.t 8)), none⟩,
          ⟨(some 55), .pl (.un .not (.t 54)), none⟩] [55])
       (.cond (.t 55)
        (.seq (.reg [⟨(some 6), .pl (.mv (.c (.int .i64 6))), none⟩] [6])
         (.ret))
        (.skip))))
      (.seq (.reg [⟨(some 6), .pl (.mv (.c (.int .i64 8))), none⟩] [6])
      (.ret))))
     (.seq (.reg [⟨(some 57), .pl (.bin .eql .no (.t 30) (.c (.int .i64 9))), none⟩,
         ⟨(some 56), .pl (.mv (.t 57)), none⟩] [0, 2, 4, 30, 56])
      (.cond (.t 56)
       (.seq (.reg [⟨(some 58), .pl (.mv (.t 2)), none⟩] [0, 4, 58])
        (.cond (.t 58)
         (.seq (.reg [⟨(some 6), .pl (.mv (.c (.int .i64 8))), none⟩] [6])
          (.ret))
         (.skip)))
       (.seq (.reg [⟨(some 60), .pl (.bin .eql .no (.t 30) (.c (.int .i64 8))), none⟩,
           ⟨(some 59), .pl (.mv (.t 60)), none⟩] [0, 4, 59])
        (.cond (.t 59)
         (.seq (.reg [⟨(some 61), .pl (.mv (.t 0)), none⟩,
             ⟨(some 62), .pl (.fa 2 (.t 4)), none⟩,
             ⟨(some 63), .pl (.load none (.t 62)), none⟩,
             ⟨(some 64), .pl (.ia 3 (.t 63) (.c (.int .i64 0))), none⟩,
             ⟨(some 65), .pl (.load (some 3) (.t 64)), none⟩,
             ⟨(some 66), .call (.c (.fn 104 [] [])) [(.t 61), (.t 65)], none⟩,
             ⟨(some 67), .pl (.un .not (.t 66)), none⟩] [0, 4, 67])
          (.cond (.t 67)
           (.seq (.reg [⟨(some 6), .pl (.mv (.c (.int .i64 8))), none⟩] [6])
            (.ret))
           (.skip)))
         (.skip)))))))))
  (.seq (.seq (.reg [⟨(some 68), .pl (.fa 2 (.t 4)), none⟩,
      ⟨(some 69), .pl (.load none (.t 68)), none⟩,
      ⟨(some 70), .pl (.lenL (.t 69)), none⟩,
      ⟨(some 71), .pl (.mv (.c (.int .i64 0))), none⟩] [0, 69, 70, 71])
   (.block 2 (.loop [0, 69, 70, 71] A86_l0)))
  (A86_r0))))⟩
theorem c86 : compF Try.prog 86 = some A86 := by kernel_rfl

/-- concourse/check.arity -/
def A103 : AFun := ⟨16, [.t 2],
  .seq (.reg [⟨(some 2), .pl (.mv (.c (.int .i64 0))), none⟩] [0])
  (.seq (.seq (.reg [⟨(some 3), .pl (.mv (.t 0)), none⟩] [3])
   (.block 0 (.seq (.seq (.reg [⟨(some 5), .pl (.bin .eql .no (.t 3) (.c (.int .i64 1))), none⟩,
        ⟨(some 4), .pl (.mv (.t 5)), none⟩] [3, 4])
     (.cond (.t 4)
      (.skip)
      (.seq (.reg [⟨(some 6), .pl (.bin .eql .no (.t 3) (.c (.int .i64 2))), none⟩,
          ⟨(some 4), .pl (.mv (.t 6)), none⟩] [3, 4])
       (.cond (.t 4)
        (.skip)
        (.seq (.reg [⟨(some 7), .pl (.bin .eql .no (.t 3) (.c (.int .i64 3))), none⟩,
            ⟨(some 4), .pl (.mv (.t 7)), none⟩] [3, 4])
         (.cond (.t 4)
          (.skip)
          (.seq (.reg [⟨(some 8), .pl (.bin .eql .no (.t 3) (.c (.int .i64 4))), none⟩,
              ⟨(some 4), .pl (.mv (.t 8)), none⟩] [3, 4])
           (.cond (.t 4)
            (.skip)
            (.seq (.reg [⟨(some 9), .pl (.bin .eql .no (.t 3) (.c (.int .i64 5))), none⟩,
                ⟨(some 4), .pl (.mv (.t 9)), none⟩] [3, 4])
             (.cond (.t 4)
              (.skip)
              (.reg [⟨(some 10), .pl (.bin .eql .no (.t 3) (.c (.int .i64 6))), none⟩,
                 ⟨(some 4), .pl (.mv (.t 10)), none⟩] [3, 4])))))))))))
    (.cond (.t 4)
     (.seq (.reg [⟨(some 2), .pl (.mv (.c (.int .i64 0))), none⟩] [2])
      (.ret))
     (.seq (.seq (.reg [⟨(some 12), .pl (.bin .eql .no (.t 3) (.c (.int .i64 7))), none⟩,
          ⟨(some 11), .pl (.mv (.t 12)), none⟩] [3, 11])
       (.cond (.t 11)
        (.skip)
        (.reg [⟨(some 13), .pl (.bin .eql .no (.t 3) (.c (.int .i64 9))), none⟩,
           ⟨(some 11), .pl (.mv (.t 13)), none⟩] [3, 11])))
      (.cond (.t 11)
       (.seq (.reg [⟨(some 2), .pl (.mv (.c (.int .i64 1))), none⟩] [2])
        (.ret))
       (.seq (.reg [⟨(some 15), .pl (.bin .eql .no (.t 3) (.c (.int .i64 8))), none⟩,
           ⟨(some 14), .pl (.mv (.t 15)), none⟩] [14])
        (.cond (.t 14)
         (.seq (.reg [⟨(some 2), .pl (.mv (.c (.int .i64 2))), none⟩] [2])
          (.ret))
         (.skip)))))))))
  (.seq (.reg [⟨(some 2), .pl (.mv (.c (.int .i64 (-1)))), none⟩] [2])
  (.ret)))⟩
theorem c103 : compF Try.prog 103 = some A103 := by kernel_rfl

/-- (*concourse/check.checker).keyed -/
def A104 : AFun := ⟨22, [.t 4],
  .seq (.reg [⟨(some 3), .pl (.box (.t 1)), none⟩,
     ⟨(some 4), .pl (.mv (.c (.bool false))), none⟩] [0, 3])
  (.seq (.seq (.reg [⟨(some 5), .pl (.fa 0 (.t 3)), none⟩,
      ⟨(some 6), .pl (.load none (.t 5)), none⟩] [0, 3, 6])
   (.block 0 (.seq (.seq (.reg [⟨(some 8), .pl (.bin .eql .no (.t 6) (.c (.int .i64 1))), none⟩,
        ⟨(some 7), .pl (.mv (.t 8)), none⟩] [0, 3, 6, 7])
     (.cond (.t 7)
      (.skip)
      (.seq (.reg [⟨(some 9), .pl (.bin .eql .no (.t 6) (.c (.int .i64 2))), none⟩,
          ⟨(some 7), .pl (.mv (.t 9)), none⟩] [0, 3, 6, 7])
       (.cond (.t 7)
        (.skip)
        (.seq (.reg [⟨(some 10), .pl (.bin .eql .no (.t 6) (.c (.int .i64 3))), none⟩,
            ⟨(some 7), .pl (.mv (.t 10)), none⟩] [0, 3, 6, 7])
         (.cond (.t 7)
          (.skip)
          (.reg [⟨(some 11), .pl (.bin .eql .no (.t 6) (.c (.int .i64 4))), none⟩,
             ⟨(some 7), .pl (.mv (.t 11)), none⟩] [0, 3, 6, 7])))))))
    (.cond (.t 7)
     (.seq (.reg [⟨(some 4), .pl (.mv (.c (.bool true))), none⟩] [4])
      (.ret))
     (.seq (.reg [⟨(some 13), .pl (.bin .eql .no (.t 6) (.c (.int .i64 6))), none⟩,
         ⟨(some 12), .pl (.mv (.t 13)), none⟩] [0, 3, 12])
      (.cond (.t 12)
       (.seq (.regD [⟨(some 14), .pl (.mv (.t 0)), none⟩,
           ⟨(some 15), .pl (.nilck (.t 14)), none⟩,
           ⟨(some 16), .pl (.fa 1 (.t 15)), none⟩,
           ⟨(some 17), .pl (.load none (.t 16)), none⟩,
           ⟨(some 18), .pl (.fa 1 (.t 3)), none⟩,
           ⟨(some 19), .pl (.load none (.t 18)), none⟩,
           ⟨(some 20), .call (.c (.fn 14 [] [])) [(.t 17), (.t 19)], none⟩,
           ⟨(some 21), .pl (.bin .eql .no (.t 20) (.c (.int .i64 3))), none⟩,
           ⟨(some 4), .pl (.mv (.t 21)), none⟩] [] [4])
        (.ret))
       (.skip)))))))
  (.seq (.reg [⟨(some 4), .pl (.mv (.c (.bool false))), none⟩] [4])
  (.ret)))⟩
theorem c104 : compF Try.prog 104 = some A104 := by kernel_rfl

end Go.Proofs.Ytjljhmeadfejhaa
