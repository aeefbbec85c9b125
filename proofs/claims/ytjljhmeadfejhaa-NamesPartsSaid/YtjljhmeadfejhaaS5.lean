/- The shape of an Ask. -/
import Derived.Test.YtjljhmeadfejhaaS0
import Derived.Test.YtjljhmeadfejhaaT6
set_option maxRecDepth 100000
set_option linter.unusedVariables false
set_option linter.unusedSimpArgs false
namespace Go.Proofs.Ytjljhmeadfejhaa
open Go.Eng
theorem shp_ask {n : Nat} {xs : List AV} (h : Shp Try.prog n 38 xs) : ∃ (tag : Int) (svc m : ByteArray), packT Try.prog 38 xs = .agg [.int .i64 tag, .str svc, .str m] := by
  match n, h with
  | 0, h => exact h.elim
  | 1, h =>
    simp only [Shp, Try.underlying38] at h
    simp only [ShpF, cells3, cells9] at h
    exact h.1.elim
  | n + 2, h =>
    simp only [Shp, Try.underlying38] at h
    simp only [ShpF, cells3, cells9] at h
    obtain ⟨h1, h2, h3, h4⟩ := h
    simp only [Shp, Try.underlying3, Try.underlying9] at h1 h2 h3
    obtain ⟨k, h1, _⟩ := h1
    obtain ⟨s, h2, _⟩ := h2
    obtain ⟨i, h3, _⟩ := h3
    refine ⟨k, s, i, ?_⟩
    simp only [packT, show aggT Try.prog 38 = true by kernel_rfl, if_true]
    congr 1
    match xs, h1, h2, h3, h4 with
    | [a, b, c], h1, h2, h3, h4 => simp at h1 h2 h3; subst h1 h2 h3; rfl
    | a :: b :: c :: d :: r, _, _, _, h4 => simp at h4
end Go.Proofs.Ytjljhmeadfejhaa
