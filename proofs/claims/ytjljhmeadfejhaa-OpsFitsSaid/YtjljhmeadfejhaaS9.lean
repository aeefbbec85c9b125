/- Three arguments; a whole number that came in. -/
import Derived.Test.YtjljhmeadfejhaaS0
import Derived.HandedShaped
set_option maxRecDepth 100000
set_option linter.unusedVariables false
set_option linter.unusedSimpArgs false
namespace Go.Proofs.Ytjljhmeadfejhaa
open Go.Eng
theorem shp_int {n : Nat} {xs : List AV} (h : Shp Try.prog n 3 xs) : ∃ k, packT Try.prog 3 xs = .int .i64 k := by
  cases n with
  | zero => exact h.elim
  | succ n =>
    simp only [Shp, Try.underlying3] at h
    obtain ⟨k, rfl, _⟩ := h
    exact ⟨k, by simp only [packT, show aggT Try.prog 3 = false by kernel_rfl]; rfl⟩
theorem rels3 {φ : Nat → Eng.Loc} {w : World} {x y z : AV} {v u t : Value} (r : Rel [] φ w (Old w) false x v) (r' : Rel [] φ w (Old w) false y u) (r'' : Rel [] φ w (Old w) false z t) : Rels [] φ w (Old w) [x, y, z] #[v, u, t] :=
  ⟨rfl, fun j a b ha hb => by
    match j with
    | 0 => simp at ha hb; subst ha hb; exact r.up
    | 1 => simp at ha hb; subst ha hb; exact r'.up
    | 2 => simp at ha hb; subst ha hb; exact r''.up
    | j + 3 => simp at ha⟩
end Go.Proofs.Ytjljhmeadfejhaa
