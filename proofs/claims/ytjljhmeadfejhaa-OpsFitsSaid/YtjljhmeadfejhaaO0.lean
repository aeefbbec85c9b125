/- sync.Once: its parts, about the engine. -/
import Derived.Test.YtjljhmeadfejhaaC5
import Derived.Test.YtjljhmeadfejhaaME4
set_option maxRecDepth 100000
set_option linter.unusedVariables false
set_option linter.unusedSimpArgs false
namespace Go.Proofs.Ytjljhmeadfejhaa
open Go.Eng
theorem omixed : Try.prog.follows .mixedOrders = true := by kernel_rfl
abbrev WO := WC (intPg Try.prog 0 .i64)
section
variable {h : List AO} {K : ARes → List AO → Prop} {i o : Nat} {cs : List AV} {x : Int}
theorem wMark133 (k : K (.ok (.tup [])) h) : WO 133 [] h K := WC_mark0 Try.func133 (by kernel_rfl) (by kernel_rfl) (by kernel_rfl) .disable (by kernel_rfl) k
theorem wMark135 (k : K (.ok (.tup [])) h) : WO 135 [] h K := WC_mark0 Try.func135 (by kernel_rfl) (by kernel_rfl) (by kernel_rfl) .enable (by kernel_rfl) k
theorem wMark136 (k : K (.ok (.tup [])) h) : WO 136 [.ptr i o] h K := WC_marked Try.func136 (by kernel_rfl) (by kernel_rfl) (by kernel_rfl) .acquire (by kernel_rfl) k
theorem wMark138 (k : K (.ok (.tup [])) h) : WO 138 [.ptr i o] h K := WC_marked Try.func138 (by kernel_rfl) (by kernel_rfl) (by kernel_rfl) .releaseMerge (by kernel_rfl) k
theorem wLoad115 (h1 : h[i]? = some (.box cs)) (h2 : cs[o]? = some (.int .u32 x)) (k : K (.ok (.bool !decide (x = 0))) h) : WO 115 [.ptr i o] h K := by
  refine W_of omixed c115 (by simp [A115]) ?_
  simp [A115]
  refine WC_load Try.func122 (by kernel_rfl) (by kernel_rfl) (by kernel_rfl) .u32 (by kernel_rfl) h1 h2 ?_
  simp
  exact .inl k
theorem wLock128 (h1 : h[i]? = some (.box cs)) (h2 : cs[o]? = some (.int .i32 0)) (k : K (.ok (.tup [])) (h.set i (.box (cs.set o (.int .i32 1))))) : WO 128 [.ptr i o] h K := by
  have hi := (List.getElem?_eq_some_iff.1 h1).1
  have ho := (List.getElem?_eq_some_iff.1 h2).1
  refine W_of omixed c128 (by simp [A128]) ?_
  simp [A128]
  refine wMark133 ?_
  simp
  refine WC_cas_hit Try.func134 (by kernel_rfl) (by kernel_rfl) (by kernel_rfl) .i32 (by kernel_rfl) h1 h2 ?_
  simp
  refine wMark135 ?_
  simp [hi, ho]
  refine wMark136 ?_
  simp
  exact .inl k
theorem wLock123 (h1 : h[i]? = some (.box cs)) (h2 : cs[o]? = some (.int .i32 0)) (k : K (.ok (.tup [])) (h.set i (.box (cs.set o (.int .i32 1))))) : WO 123 [.ptr i o] h K := by
  refine W_of omixed c123 (by simp [A123]) ?_
  simp [A123]
  refine wLock128 h1 h2 ?_
  simp
  exact .inl k
theorem wUnlock129 (h1 : h[i]? = some (.box cs)) (h2 : cs[o]? = some (.int .i32 1)) (k : K (.ok (.tup [])) (h.set i (.box (cs.set o (.int .i32 0))))) : WO 129 [.ptr i o] h K := by
  have hi := (List.getElem?_eq_some_iff.1 h1).1
  have ho := (List.getElem?_eq_some_iff.1 h2).1
  refine W_of omixed c129 (by simp [A129]) ?_
  simp [A129, h1, h2, ho, Nat.le_of_lt ho]
  refine wMark138 ?_
  simp
  refine wMark133 ?_
  simp
  refine WC_add Try.func139 (by kernel_rfl) (by kernel_rfl) (by kernel_rfl) .i32 (by kernel_rfl) h1 h2 ?_
  simp [IntKind.wrap]
  refine wMark135 ?_
  simp
  exact .inl k
theorem wUnlock124 (h1 : h[i]? = some (.box cs)) (h2 : cs[o]? = some (.int .i32 1)) (k : K (.ok (.tup [])) (h.set i (.box (cs.set o (.int .i32 0))))) : WCD (intPg Try.prog 0 .i64) 124 [.ptr i o] h K := by
  refine WD_of omixed c124 (by simp [A124]) ?_
  simp [A124]
  refine wUnlock129 h1 h2 ?_
  simp
  exact .inl k
theorem wb32 {b : Bool} (k : K (.ok (.int .u32 (if b then 1 else 0))) h) : WO 131 [.bool b] h K := by
  refine W_of omixed c131 (by simp [A131]) ?_
  cases b <;> simp [A131] <;> exact .inl k
theorem wStore125 (h1 : h[i]? = some (.box cs)) (h2 : cs[o]? = some (.int .u32 x)) (k : K (.ok (.tup [])) (h.set i (.box (cs.set o (.int .u32 1))))) : WCD (intPg Try.prog 0 .i64) 125 [.ptr i o, .bool true] h K := by
  refine WD_of omixed c125 (by simp [A125]) ?_
  simp [A125]
  refine ⟨_, _, wb32 ⟨rfl, rfl⟩, ?_⟩
  simp
  refine ⟨_, _, WC_store Try.func130 (by kernel_rfl) (by kernel_rfl) (by kernel_rfl) (by kernel_rfl) h1 h2 ⟨rfl, rfl⟩, ?_⟩
  exact .inl k
end
end Go.Proofs.Ytjljhmeadfejhaa
