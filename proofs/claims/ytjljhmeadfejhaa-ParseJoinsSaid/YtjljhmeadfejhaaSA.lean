/- A text that came in is within reach. -/
import Derived.Test.YtjljhmeadfejhaaS0
import Derived.HandedShaped
set_option maxRecDepth 100000
set_option linter.unusedVariables false
namespace Go.Proofs.Ytjljhmeadfejhaa
open Go.Eng
theorem shp_strR {n : Nat} {xs : List AV} (h : Shp Try.prog n 9 xs) : ∃ s, packT Try.prog 9 xs = .str s ∧ s.size ≤ reachBytes := by
  cases n with
  | zero => exact h.elim
  | succ n =>
    simp only [Shp, Try.underlying9] at h
    obtain ⟨s, rfl, hs⟩ := h
    exact ⟨s, by simp only [packT, show aggT Try.prog 9 = false by kernel_rfl]; rfl, hs⟩
end Go.Proofs.Ytjljhmeadfejhaa
