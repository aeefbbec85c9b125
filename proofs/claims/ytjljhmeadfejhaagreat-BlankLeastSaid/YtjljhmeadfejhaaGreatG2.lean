/- desc.Of, Made. -/
import Derived.Test.YtjljhmeadfejhaaGreatMQ
import Derived.Test.YtjljhmeadfejhaaGreatMT
set_option maxRecDepth 100000
set_option linter.unusedVariables false
set_option linter.unusedSimpArgs false
namespace Go.Proofs.YtjljhmeadfejhaaGreat
open Go.Eng
/-- A schema, not yet ready. -/
abbrev descB (ds : List Decl) : List AV := [rowV (ds.map Decl.av), .int .u32 0, .int .i32 0, .int .u32 0, .nilp, .nilmap]
theorem wOf {h : List AO} {ds : List Decl} {K : ARes → List AO → Prop} (hl : ds.length < 1099511627776) (hok : ∀ d ∈ ds, d.ok) (hf : ∀ d ∈ ds, d.fit)
    (k0 : (checkM ds).1 ≠ 0 → K (.ok (.tup [.nilp, .agg [.int .i64 (checkM ds).1, .int .i64 (checkM ds).2]])) h)
    (k1 : (checkM ds).1 = 0 → K (.ok (.tup [.ptr (h.length + 2) 0, .agg [.int .i64 0, .int .i64 0]])) (h ++ [.box [.int .i64 0, .int .i64 0], .box [.int .i64 0, .int .i64 (checkM ds).2], .box (descB ds)])) :
    W 14 [.rsl (ds.map Decl.av)] h K := by
  refine W_of mixed c14 (by simp [A14]) ?_
  simp [A14]
  refine w44 (by omega) hok ?_
  by_cases he : (checkM ds).1 = 0
  · simp [he]
    refine wDecls hl hf ?_
    simp [fillA]
    exact .inl (k1 he)
  · simp [he]
    exact ret_pure (by simp) (k0 he)
theorem wMade {h : List AO} {ds : List Decl} {K : ARes → List AO → Prop} (hl : ds.length < 1099511627776) (hok : ∀ d ∈ ds, d.ok) (hf : ∀ d ∈ ds, d.fit)
    (k0 : (checkM ds).1 ≠ 0 → K (.ok (.tup [.nilp, .esl])) h)
    (k1 : (checkM ds).1 = 0 → K (.ok (.tup [.ptr (h.length + 2) 0, .rsl (ds.map Decl.av)])) (h ++ [.box [.int .i64 0, .int .i64 0], .box [.int .i64 0, .int .i64 (checkM ds).2], .box (descB ds), .box [.int .i64 0, .int .i64 0]])) :
    W 20 [.rsl (ds.map Decl.av)] h K := by
  refine W_of mixed c20 (by simp [A20]) ?_
  simp [A20]
  refine wOf hl hok hf (fun he => ?_) (fun he => ?_)
  · simp [he]
    exact ret_pure (by simp [out]) (k0 he)
  · simp
    exact .inl (by simpa using k1 he)
end Go.Proofs.YtjljhmeadfejhaaGreat
