/- sync.Once.Do, about the engine. -/
import Derived.Test.YtjljhmeadfejhaaGreatO0
set_option maxRecDepth 100000
set_option linter.unusedVariables false
set_option linter.unusedSimpArgs false
namespace Go.Proofs.YtjljhmeadfejhaaGreat
open Go.Eng
def A139 : ATFun := ⟨21, [],
  .seq (.reg [⟨some 4, .pl (.mv (.t 0)), none⟩, ⟨some 5, .pl (.nilck (.t 4)), none⟩, ⟨some 6, .pl (.fa 1 (.t 5)), none⟩, ⟨some 7, .call (.c (.fn 180 [] [])) [.t 6], none⟩] (List.range 21))
  (.defer [⟨some 8, .pl (.mv (.t 0)), none⟩, ⟨some 9, .pl (.nilck (.t 8)), none⟩, ⟨some 10, .pl (.fa 1 (.t 9)), none⟩] (.c (.fn 181 [] [])) [.t 10]
  (.seq (.reg [⟨some 11, .pl (.mv (.t 0)), none⟩, ⟨some 12, .pl (.nilck (.t 11)), none⟩, ⟨some 13, .pl (.fa 0 (.t 12)), none⟩, ⟨some 14, .call (.c (.fn 138 [] [])) [.t 13], none⟩, ⟨some 15, .pl (.un .not (.t 14)), none⟩] (List.range 21))
  (.cond (.t 15)
    (.defer [⟨some 16, .pl (.mv (.t 0)), none⟩, ⟨some 17, .pl (.nilck (.t 16)), none⟩, ⟨some 18, .pl (.fa 0 (.t 17)), none⟩] (.c (.fn 182 [] [])) [.t 18, .c (.bool true)]
      (.fin (.reg [⟨some 19, .pl (.mv (.t 1)), none⟩, ⟨some 20, .call (.t 19) [], none⟩] (List.range 21))))
    (.fin .skip))))⟩
theorem t139 : compTF Tryz.prog 139 = some A139 := by kernel_rfl
section
variable {h : List AO} {K : ARes → List AO → Prop} {i o : Nat} {cs : List AV} {x : Int}
theorem wSlow {g : FuncId} {first caps : List AV} (h1 : h[i]? = some (.box cs)) (h2 : cs[o]? = some (.int .u32 0)) (h3 : cs[o + 1]? = some (.int .i32 0))
    (k : WO g (nrmL first ++ (nrmL [] ++ nrmL caps)) (h.set i (.box (cs.set (o + 1) (.int .i32 1)))) fun r h' => ∃ x cs' v, r = .ok x ∧ h'[i]? = some (.box cs') ∧ cs'[o]? = some (.int .u32 v) ∧ cs'[o + 1]? = some (.int .i32 1) ∧
      K (.ok (.tup [])) (h'.set i (.box ((cs'.set o (.int .u32 1)).set (o + 1) (.int .i32 0))))) : WO 139 [.ptr i o, .fn g first caps] h K := by
  have hi := (List.getElem?_eq_some_iff.1 h1).1
  refine WT_of omixed t139 (by simp [A139]) ?_
  simp only [A139, wpT, wpA, argF]
  refine opsA_pl (.ptr i o) h rfl ?_
  refine opsA_pl (.ptr i o) h rfl ?_
  refine opsA_pl (.ptr i (o + 1)) h rfl ?_
  refine opsA_call rfl ?_
  refine wLock180 h1 h3 ?_
  refine opsA_pl (.ptr i o) _ rfl ?_
  refine opsA_pl (.ptr i o) _ rfl ?_
  refine opsA_pl (.ptr i (o + 1)) _ rfl ?_
  refine ⟨_, _, _, rfl, ?_⟩
  refine opsA_pl (.ptr i o) _ rfl ?_
  refine opsA_pl (.ptr i o) _ rfl ?_
  refine opsA_pl (.ptr i o) _ rfl ?_
  refine opsA_call rfl ?_
  refine wLoad138 (cs := cs.set (o + 1) (.int .i32 1)) (x := 0) (by simp [hi]) (by simp [List.getElem?_set, h2]) ?_
  refine opsA_pl (.bool true) _ rfl ?_
  refine ⟨true, rfl, ?_⟩
  refine opsA_pl (.ptr i o) _ rfl ?_
  refine opsA_pl (.ptr i o) _ rfl ?_
  refine opsA_pl (.ptr i o) _ rfl ?_
  refine ⟨_, _, _, rfl, ?_⟩
  refine opsA_pl (.fn g first caps) _ rfl ?_
  refine opsA_call rfl ?_
  refine WC.mono k ?_
  rintro r h' ⟨y, cs', v, rfl, q1, q2, q3, q4⟩
  have hi' := (List.getElem?_eq_some_iff.1 q1).1
  refine wStore182 q1 q2 ⟨_, rfl, ?_⟩
  refine wUnlock181 (cs := cs'.set o (.int .u32 1)) (by simp [hi']) (by simp [List.getElem?_set, q3]) ⟨_, rfl, ?_⟩
  refine ⟨[], rfl, ?_⟩
  simpa using q4
theorem wDo {g : FuncId} {first caps : List AV} (h1 : h[i]? = some (.box cs)) (h2 : cs[o]? = some (.int .u32 0)) (h3 : cs[o + 1]? = some (.int .i32 0))
    (k : WO g (nrmL first ++ nrmL caps) (h.set i (.box (cs.set (o + 1) (.int .i32 1)))) fun r h' => ∃ x cs' v, r = .ok x ∧ h'[i]? = some (.box cs') ∧ cs'[o]? = some (.int .u32 v) ∧ cs'[o + 1]? = some (.int .i32 1) ∧
      K (.ok (.tup [])) (h'.set i (.box ((cs'.set o (.int .u32 1)).set (o + 1) (.int .i32 0))))) : WO 80 [.ptr i o, .fn g first caps] h K := by
  refine W_of omixed c80 (by simp [A80]) ?_
  simp [A80]
  refine wLoad138 h1 h2 ?_
  simp
  refine wSlow h1 h2 h3 ?_
  have e : nrmL (nrmL first) ++ (nrmL [] ++ nrmL (nrmL caps)) = nrmL first ++ nrmL caps := by simp [nrmL_idem, nrmL]
  rw [e]
  refine WC.mono k ?_
  rintro r h' ⟨y, cs', v, rfl, q1, q2, q3, q4⟩
  refine ⟨y, cs', v, rfl, q1, q2, q3, ?_⟩
  simp
  exact .inl q4
theorem wDone {f : AV} (h1 : h[i]? = some (.box cs)) (h2 : cs[o]? = some (.int .u32 x)) (hx : x ≠ 0) (k : K (.ok (.tup [])) h) : WO 80 [.ptr i o, f] h K := by
  refine W_of omixed c80 (by simp [A80]) ?_
  simp [A80]
  refine wLoad138 h1 h2 ?_
  simp [hx]
  exact .inl k
end
end Go.Proofs.YtjljhmeadfejhaaGreat
