/- ValueSame, about the engine. -/
import Derived.Test.YtjljhmeadfejhaaDoorT2
set_option maxRecDepth 100000
set_option linter.unusedVariables false
set_option linter.unusedSimpArgs false
namespace Go.Proofs.YtjljhmeadfejhaaDoor
open Go.Eng
def Sgn (n : Int) : Prop := n = -1 ∨ n = 0 ∨ n = 1
theorem ordM_sgn (x y : Int) : Sgn (ordM x y) := by
  unfold ordM Sgn
  split
  · omega
  · split <;> omega
theorem compare_sgn : ∀ x y : List UInt8, Sgn (Lib.compareBytes x y)
  | [], [] => .inr (.inl rfl)
  | [], _ :: _ => .inl rfl
  | _ :: _, [] => .inr (.inr rfl)
  | a :: x, b :: y => by
    unfold Lib.compareBytes
    split
    · exact .inl rfl
    · split
      · exact .inr (.inr rfl)
      · exact compare_sgn x y
theorem cmpM_sgn (a b : Val) : Sgn (cmpM a b) := by
  unfold cmpM
  split
  · exact ordM_sgn _ _
  · split
    · exact .inr (.inl rfl)
    · split
      · exact compare_sgn _ _
      · split
        · exact ordM_sgn _ _
        · exact ordM_sgn _ _
theorem wrap_neg {n : Int} (h : Sgn n) : IntKind.i64.wrap (-n) = -n := by
  rcases h with rfl | rfl | rfl <;> decide
theorem w5 {h : List AO} {a b : Val} {K : ARes → List AO → Prop} (ha : a.ok) (hb : b.ok) (k : K (.ok (.bool true)) h) : W 5 [a.av, b.av] h K := by
  rw [Val.av, Val.av, Val.cells_eq, Val.cells_eq]
  have fin : retK h K (.bool true) (h ++ [.box (vcells a), .box (vcells b)]) := ret_pure (by simp) k
  refine W_of mixed c5 (by simp [A5]) ?_
  simp [A5]
  refine w9 _ a (Nat.le_refl _) ha _ _ _ ?_
  cases greatM a 0 with
  | true =>
    simp
    refine w10 ?_
    simp
    exact fin
  | false =>
    simp
    refine w9 _ b (Nat.le_refl _) hb _ _ _ ?_
    cases greatM b 0 with
    | true =>
      try simp
      refine w10 ?_
      try simp
      exact fin
    | false =>
      try simp
      refine R_regS ?_
      try simp
      refine ⟨_, w19 _ a b (Nat.le_refl _) ha _ _ ⟨rfl, rfl⟩, ?_⟩
      try simp
      refine ⟨_, w20 _ a b (Nat.le_refl _) ha _ _ ⟨rfl, rfl⟩, ?_⟩
      try simp
      refine ⟨_, w19 _ a a (Nat.le_refl _) ha _ _ ⟨rfl, rfl⟩, ?_⟩
      simp [sameM_self]
      refine ⟨_, w21 ⟨rfl, rfl⟩, ?_⟩
      try simp
      refine ⟨_, w22 ha hb ⟨rfl, rfl⟩, ?_⟩
      try simp
      refine ⟨_, w21 ⟨rfl, rfl⟩, ?_⟩
      try simp
      refine ⟨_, w21 ⟨rfl, rfl⟩, ?_⟩
      have e1 := wrap_neg (cmpM_sgn b a)
      have e2 := cmpM_neg a b
      simp [e1, e2]
      refine ⟨_, w10 ⟨rfl, rfl⟩, ?_⟩
      try simp
      exact fin
end Go.Proofs.YtjljhmeadfejhaaDoor
