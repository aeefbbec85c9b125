/- CheckFinite, about the engine. -/
import Derived.Test.YtjljhmeadfejhaaT11
import Derived.Test.YtjljhmeadfejhaaX0
set_option maxRecDepth 100000
set_option linter.unusedVariables false
set_option linter.unusedSimpArgs false
namespace Go.Proofs.Ytjljhmeadfejhaa
open Go.Eng
theorem w6 {h : List AO} {ds : List Decl} {K : ARes → List AO → Prop} (hl : ds.length < 2199023255552) (hok : ∀ d ∈ ds, d.ok) (k : K (.ok (.bool true)) h) : W 6 [.rsl (ds.map Decl.av)] h K := by
  refine W_of mixed c6 (by simp [A6]) ?_
  simp [A6]
  refine w23 hl hok ?_
  cases hg : greatFrom 0 ds with
  | true =>
    simp
    refine w24 ?_
    simp
    exact .inl k
  | false =>
    simp
    refine w25 hl hok ?_
    simp
    refine w26 hl hok ?_
    simp
    have hn := itF_len ds ds.length
    refine lp_for ds.length (fun _ => True) (fun i f => setF f 5 (.int .i64 (i : Int))) (fun _ => h) ?_ trivial (by simp) rfl
    intro i hi _ ih
    have hw := wrap_succ (i := i) (by omega)
    simp [hn] at ih
    by_cases hlt : i < ds.length
    · simp [uf A6_l0.eq_1, hlt, hn, hw]
      exact ih (by omega)
    · simp [uf A6_l0.eq_1, uf A6_r0.eq_1, hlt, hn]
      refine w24 ?_
      simp
      exact .inl k
end Go.Proofs.Ytjljhmeadfejhaa
