/- sync.Once: its parts, about the engine. -/
import Derived.Test.YtjljhmeadfejhaaGreatC0
import Derived.Test.YtjljhmeadfejhaaGreatME4
set_option maxRecDepth 100000
set_option linter.unusedVariables false
set_option linter.unusedSimpArgs false
namespace Go.Proofs.YtjljhmeadfejhaaGreat
open Go.Eng
theorem omixed : Tryz.prog.follows .mixedOrders = true := by kernel_rfl
abbrev WO := WC (intPg Tryz.prog 0 .i64)
section
variable {h : List AO} {K : ARes → List AO → Prop} {i o : Nat} {cs : List AV} {x : Int}
theorem wMark213 (k : K (.ok (.tup [])) h) : WO 213 [] h K := WC_mark0 Tryz.func213 (by kernel_rfl) (by kernel_rfl) (by kernel_rfl) .disable (by kernel_rfl) k
theorem wMark215 (k : K (.ok (.tup [])) h) : WO 215 [] h K := WC_mark0 Tryz.func215 (by kernel_rfl) (by kernel_rfl) (by kernel_rfl) .enable (by kernel_rfl) k
theorem wMark216 (k : K (.ok (.tup [])) h) : WO 216 [.ptr i o] h K := WC_marked Tryz.func216 (by kernel_rfl) (by kernel_rfl) (by kernel_rfl) .acquire (by kernel_rfl) k
theorem wMark218 (k : K (.ok (.tup [])) h) : WO 218 [.ptr i o] h K := WC_marked Tryz.func218 (by kernel_rfl) (by kernel_rfl) (by kernel_rfl) .releaseMerge (by kernel_rfl) k
theorem wLoad138 (h1 : h[i]? = some (.box cs)) (h2 : cs[o]? = some (.int .u32 x)) (k : K (.ok (.bool !decide (x = 0))) h) : WO 138 [.ptr i o] h K := by
  refine W_of omixed c138 (by simp [A138]) ?_
  simp [A138]
  refine WC_load Tryz.func179 (by kernel_rfl) (by kernel_rfl) (by kernel_rfl) .u32 (by kernel_rfl) h1 h2 ?_
  simp
  exact .inl k
theorem wLock205 (h1 : h[i]? = some (.box cs)) (h2 : cs[o]? = some (.int .i32 0)) (k : K (.ok (.tup [])) (h.set i (.box (cs.set o (.int .i32 1))))) : WO 205 [.ptr i o] h K := by
  have hi := (List.getElem?_eq_some_iff.1 h1).1
  have ho := (List.getElem?_eq_some_iff.1 h2).1
  refine W_of omixed c205 (by simp [A205]) ?_
  simp [A205]
  refine wMark213 ?_
  simp
  refine WC_cas_hit Tryz.func214 (by kernel_rfl) (by kernel_rfl) (by kernel_rfl) .i32 (by kernel_rfl) h1 h2 ?_
  simp
  refine wMark215 ?_
  simp [hi, ho]
  refine wMark216 ?_
  simp
  exact .inl k
theorem wLock180 (h1 : h[i]? = some (.box cs)) (h2 : cs[o]? = some (.int .i32 0)) (k : K (.ok (.tup [])) (h.set i (.box (cs.set o (.int .i32 1))))) : WO 180 [.ptr i o] h K := by
  refine W_of omixed c180 (by simp [A180]) ?_
  simp [A180]
  refine wLock205 h1 h2 ?_
  simp
  exact .inl k
theorem wUnlock206 (h1 : h[i]? = some (.box cs)) (h2 : cs[o]? = some (.int .i32 1)) (k : K (.ok (.tup [])) (h.set i (.box (cs.set o (.int .i32 0))))) : WO 206 [.ptr i o] h K := by
  have hi := (List.getElem?_eq_some_iff.1 h1).1
  have ho := (List.getElem?_eq_some_iff.1 h2).1
  refine W_of omixed c206 (by simp [A206]) ?_
  simp [A206, h1, h2, ho, Nat.le_of_lt ho]
  refine wMark218 ?_
  simp
  refine wMark213 ?_
  simp
  refine WC_add Tryz.func219 (by kernel_rfl) (by kernel_rfl) (by kernel_rfl) .i32 (by kernel_rfl) h1 h2 ?_
  simp [IntKind.wrap]
  refine wMark215 ?_
  simp
  exact .inl k
theorem wUnlock181 (h1 : h[i]? = some (.box cs)) (h2 : cs[o]? = some (.int .i32 1)) (k : K (.ok (.tup [])) (h.set i (.box (cs.set o (.int .i32 0))))) : WCD (intPg Tryz.prog 0 .i64) 181 [.ptr i o] h K := by
  refine WD_of omixed c181 (by simp [A181]) ?_
  simp [A181]
  refine wUnlock206 h1 h2 ?_
  simp
  exact .inl k
theorem wb32 {b : Bool} (k : K (.ok (.int .u32 (if b then 1 else 0))) h) : WO 208 [.bool b] h K := by
  refine W_of omixed c208 (by simp [A208]) ?_
  cases b <;> simp [A208] <;> exact .inl k
theorem wStore182 (h1 : h[i]? = some (.box cs)) (h2 : cs[o]? = some (.int .u32 x)) (k : K (.ok (.tup [])) (h.set i (.box (cs.set o (.int .u32 1))))) : WCD (intPg Tryz.prog 0 .i64) 182 [.ptr i o, .bool true] h K := by
  refine WD_of omixed c182 (by simp [A182]) ?_
  simp [A182]
  refine ⟨_, _, wb32 ⟨rfl, rfl⟩, ?_⟩
  simp
  refine ⟨_, _, WC_store Tryz.func207 (by kernel_rfl) (by kernel_rfl) (by kernel_rfl) (by kernel_rfl) h1 h2 ⟨rfl, rfl⟩, ?_⟩
  exact .inl k
end
end Go.Proofs.YtjljhmeadfejhaaGreat
