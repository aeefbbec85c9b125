/- NamesFinds, about the engine. -/
import Derived.Test.YtjljhmeadfejhaaT2
set_option maxRecDepth 100000
set_option linter.unusedVariables false
set_option linter.unusedSimpArgs false
namespace Go.Proofs.Ytjljhmeadfejhaa
open Go.Eng

theorem w3 {h : List AO} {ds : List Decl} {s : ByteArray} {K : ARes → List AO → Prop} (hl : ds.length < 2199023255552) (k : K (.ok (.bool true)) h) : W 3 [.rsl (ds.map Decl.av), .str s] h K := by
  refine W_of mixed c3 (by simp [A3]) ?_
  simp [A3]
  refine w11 hl ?_
  simp
  refine w12_of ?_
  simp [fndR]
  refine w13 (by omega) ?_
  simp
  refine w12_nil ?_
  cases hf : fnd s ds with
  | none =>
    simp [pl]
    refine w14_of ?_
    simp
    refine w15 (by omega) ?_
    simp [kindR, hf]
    refine w14_nil ?_
    simp
    refine w16 ?_
    simp
    refine .inr ⟨h.length, 3, .bool true, ?_, by simp, ?_⟩
    · cases ds <;> exact drop_ok h _ 0 (by simp)
    · cases ds <;> simp [ofH] <;> exact k
  | some n =>
    simp [pl]
    refine w14_of ?_
    simp
    refine w15 (by omega) ?_
    simp [kindR, hf]
    refine w14_nil ?_
    simp
    refine w16 ?_
    simp
    refine .inr ⟨h.length, 3, .bool true, ?_, by simp, ?_⟩
    · cases ds <;> exact drop_ok h _ 0 (by simp)
    · cases ds <;> simp [ofH] <;> exact k
end Go.Proofs.Ytjljhmeadfejhaa
