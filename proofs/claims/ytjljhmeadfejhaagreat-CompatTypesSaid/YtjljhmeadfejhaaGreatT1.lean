/- Types that are the same; CompatTypes, about the engine. -/
import Derived.Test.YtjljhmeadfejhaaGreatX0
set_option maxRecDepth 100000
set_option linter.unusedVariables false
set_option linter.unusedSimpArgs false
namespace Go.Proofs.YtjljhmeadfejhaaGreat
open Go.Eng
mutual
def Ty.same : Ty → Ty → Bool
  | .mk k s l, u => decide (k = u.kind) && decide (s = u.name) && decide (l.length = u.of.length) && Ty.sameL l u.of
def Ty.sameL : List Ty → List Ty → Bool
  | [], _ => true
  | t :: l, us => (match us with
    | [] => true
    | u :: r => t.same u && Ty.sameL l r)
end
theorem Ty.same_eq (t u : Ty) : t.same u = (decide (t.kind = u.kind) && decide (t.name = u.name) && decide (t.of.length = u.of.length) && Ty.sameL t.of u.of) := by cases t; rfl
mutual
theorem Ty.same_refl : ∀ t : Ty, t.same t = true
  | .mk k s l => by simp [Ty.same, Ty.kind, Ty.name, Ty.of, Ty.sameL_refl l]
theorem Ty.sameL_refl : ∀ l : List Ty, Ty.sameL l l = true
  | [] => rfl
  | t :: l => by simp [Ty.sameL, Ty.same_refl t, Ty.sameL_refl l]
end
theorem sameL_step {l r : List Ty} {i : Nat} (hi : i < l.length) (hj : i < r.length) : Ty.sameL (l.drop i) (r.drop i) = (l[i].same r[i] && Ty.sameL (l.drop (i + 1)) (r.drop (i + 1))) := by
  rw [List.drop_eq_getElem_cons hi, List.drop_eq_getElem_cons hj, Ty.sameL]
abbrev Ty.arg (t : Ty) : AV := .agg [.int .i64 t.kind, .str t.name, .rsl (t.of.map Ty.av)]
theorem w34 : ∀ (n : Nat) (t : Ty), SizeOf.sizeOf t ≤ n → ∀ (u : Ty) (h : List AO) (K : ARes → List AO → Prop), t.ok → K (.ok (.bool (t.same u))) h → W 34 [t.arg, u.arg] h K := by
  intro n
  induction n with
  | zero => intro t ht; cases t; simp at ht
  | succ n IH =>
    intro t ht u h K hok k
    have IHm : ∀ v ∈ t.of, SizeOf.sizeOf v ≤ n := fun v hv => by have := Ty.lt_of_mem hv; omega
    have hlen : t.of.length < most := by cases t; exact hok.2.2.1
    have hoks : ∀ v ∈ t.of, v.ok := by cases t; exact (Ty.okL_iff _).1 hok.2.2.2
    simp only [most] at hlen
    refine W_of mixed c34 (by simp [A34]) ?_
    rw [Ty.same_eq] at k
    by_cases h1 : t.kind = u.kind
    · by_cases h2 : t.name = u.name
      · by_cases h3 : t.of.length = u.of.length
        · simp [h1, h2, h3] at k
          simp [A34, h1, h2, h3]
          refine lp_ind (ι := Nat) (fun i => i ≤ t.of.length ∧ Ty.sameL t.of u.of = Ty.sameL (t.of.drop i) (u.of.drop i)) (fun i => t.of.length - i)
            (fun i => [(2, .ptr h.length 0), (3, .ptr (h.length + 1) 0), (29, .int .i64 (u.of.length : Int)), (30, .int .i64 (i : Int))])
            (fun i => h ++ [.box [.int .i64 u.kind, .str u.name, .rsl (t.of.map Ty.av)], .box [.int .i64 u.kind, .str u.name, .rsl (u.of.map Ty.av)]]) ?_ 0 ⟨by omega, by simp⟩
          intro i ⟨hi, hs⟩ ih
          have hw := wrap_succ (i := i) (by omega)
          by_cases hlt : i < t.of.length
          · have hlt' : i < u.of.length := by omega
            rw [sameL_step hlt hlt'] at hs
            simp [uf A34_l0.eq_1, hlt, hlt', Ty.av, Ty.cells_eq]
            refine ⟨_, _, IH t.of[i] (IHm _ (List.getElem_mem hlt)) u.of[i] _ _ (hoks _ (List.getElem_mem hlt)) ⟨rfl, rfl⟩, ?_⟩
            cases hb : t.of[i].same u.of[i] with
            | true =>
              rw [hb] at hs
              simp [hw]
              exact ih (i + 1) ⟨by omega, by simpa using hs⟩ (by omega)
            | false =>
              rw [hb] at hs
              simp at hs
              rw [hs] at k
              simp
              exact ret_pure (by simp) k
          · have e1 : t.of.drop i = [] := List.drop_eq_nil_of_le (by omega)
            rw [e1] at hs
            have hlt' : ¬ i < u.of.length := by omega
            simp [uf A34_l0.eq_1, uf A34_r0.eq_1, hlt, hlt']
            rw [hs] at k
            simp [Ty.sameL] at k
            exact ret_pure (by simp) k
        · have h3' : ¬ ((t.of.length : Int) = (u.of.length : Int)) := by omega
          simp [h1, h2, h3] at k
          simp [A34, h1, h2, h3']
          exact ret_pure (by simp) k
      · simp [h1, h2] at k
        simp [A34, h1, h2]
        exact ret_pure (by simp) k
    · simp [h1] at k
      simp [A34, h1]
      exact ret_pure (by simp) k
end Go.Proofs.YtjljhmeadfejhaaGreat
