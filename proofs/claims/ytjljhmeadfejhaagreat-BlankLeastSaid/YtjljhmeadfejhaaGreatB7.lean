/- Fits, Struct by the document, about the engine. -/
import Derived.Test.YtjljhmeadfejhaaGreatB6
set_option maxRecDepth 100000
set_option linter.unusedVariables false
set_option linter.unusedSimpArgs false
namespace Go.Proofs.YtjljhmeadfejhaaGreat
open Go.Eng
theorem w60 {ds : List Decl} (R : Rowed ds) {t : Ty} (hto : t.ok) {v : Val} (hok : v.ok) (htx : v.txt) (hd : v.depth ≤ 1000) {h : List AO} {K : ARes → List AO → Prop}
    (k : ∀ e, (e = 0 → v.well ∧ v.depth ≤ 8 ∧ innV ds (SizeOf.sizeOf v) t v = 0) → K (.ok (.int .i64 e)) h) : W 60 [.rsl (ds.map Decl.av), targ t, .agg (vcells v)] h K := by
  refine W_of mixed c60 (by simp [A60]) ?_
  simp [A60]
  refine w32 _ v (Nat.le_refl _) hok htx _ _ (fun b hb => ?_)
  cases b with
  | false =>
    simp
    exact ret_pure (by simp) (k 1 fun e => by cases e)
  | true =>
    have hw := hb rfl
    simp
    refine w27 _ v (Nat.le_refl _) hok hd _ _ ?_
    by_cases h8 : v.depth ≤ 8
    · have h8' : ¬ ((8 : Int) < (v.depth : Int)) := by omega
      simp [h8']
      refine w100 R _ v (Nat.le_refl _) hok hw _ t (Nat.le_refl _) hto _ _ ?_
      simp
      exact ret_pure (by simp) (k _ fun e => ⟨hw, h8, e⟩)
    · have h8' : (8 : Int) < (v.depth : Int) := by omega
      simp [h8']
      exact ret_pure (by simp) (k 10 fun e => by cases e)
theorem w25 {ds : List Decl} (R : Rowed ds) {s : ByteArray} (hs : s.size ≤ reachBytes) {v : Val} (hok : v.ok) (htx : v.txt) (hd : v.depth ≤ 1000) {h : List AO} {K : ARes → List AO → Prop}
    (k : ∀ e, (e = 0 → kindR s ds = 1 ∧ v.well ∧ v.depth ≤ 8 ∧ innV ds (SizeOf.sizeOf v) (.mk 6 s []) v = 0) → K (.ok (.int .i64 e)) h) : W 25 [.rsl (ds.map Decl.av), .str s, .agg (vcells v)] h K := by
  refine W_of mixed c25 (by simp [A25]) ?_
  simp [A25]
  refine w59k R.len ?_
  by_cases hk : kindR s ds = 1
  · simp [hk, fillA, setL]
    refine w60 (t := .mk 6 s []) R ⟨⟨by omega, by omega⟩, hs, by simp [most], trivial⟩ hok htx hd (fun e he => ?_)
    simp
    exact ret_pure (by simp) (k e fun h0 => ⟨hk, he h0⟩)
  · simp [hk]
    exact ret_pure (by simp) (k 8 fun e => by cases e)
end Go.Proofs.YtjljhmeadfejhaaGreat
