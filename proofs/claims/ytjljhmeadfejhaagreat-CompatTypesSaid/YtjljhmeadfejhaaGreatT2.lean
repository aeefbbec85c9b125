/- The reference: types that are the same; CompatTypes, about the engine. -/
import Derived.Test.YtjljhmeadfejhaaGreatT1
set_option maxRecDepth 100000
set_option linter.unusedVariables false
set_option linter.unusedSimpArgs false
namespace Go.Proofs.YtjljhmeadfejhaaGreat
open Go.Eng
theorem w35 : ∀ (n : Nat) (t : Ty), SizeOf.sizeOf t ≤ n → ∀ (u : Ty) (h : List AO) (K : ARes → List AO → Prop), t.ok → K (.ok (.bool (t.same u))) h → W 35 [t.arg, u.arg] h K := by
  intro n
  induction n with
  | zero => intro t ht; cases t; simp at ht
  | succ n IH =>
    intro t ht u h K hok k
    have IHm : ∀ v ∈ t.of, SizeOf.sizeOf v ≤ n := fun v hv => by have := Ty.lt_of_mem hv; omega
    have hlen : t.of.length < most := by cases t; exact hok.2.2.1
    have hoks : ∀ v ∈ t.of, v.ok := by cases t; exact (Ty.okL_iff _).1 hok.2.2.2
    simp only [most] at hlen
    refine W_of mixed c35 (by simp [A35]) ?_
    rw [Ty.same_eq] at k
    by_cases h1 : t.kind = u.kind
    · by_cases h2 : t.name = u.name
      · by_cases h3 : t.of.length = u.of.length
        · simp [h1, h2, h3] at k
          simp [A35, h1, h2, h3]
          refine lp_ind (ι := Nat) (fun i => i ≤ t.of.length ∧ Ty.sameL t.of u.of = Ty.sameL (t.of.drop i) (u.of.drop i)) (fun i => t.of.length - i)
            (fun i => [(2, .ptr h.length 0), (3, .ptr (h.length + 1) 0), (5, .int .i64 (i : Int))])
            (fun i => h ++ [.box [.int .i64 u.kind, .str u.name, .rsl (t.of.map Ty.av)], .box [.int .i64 u.kind, .str u.name, .rsl (u.of.map Ty.av)]]) ?_ 0 ⟨by omega, by simp⟩
          intro i ⟨hi, hs⟩ ih
          have hw := wrap_succ (i := i) (by omega)
          by_cases hlt : i < t.of.length
          · have hlt' : i < u.of.length := by omega
            rw [sameL_step hlt hlt'] at hs
            simp [uf A35_l0.eq_1, hlt, hlt', Ty.av, Ty.cells_eq]
            refine ⟨_, _, IH t.of[i] (IHm _ (List.getElem_mem hlt)) u.of[i] _ _ (hoks _ (List.getElem_mem hlt)) ⟨rfl, rfl⟩, ?_⟩
            cases hb : t.of[i].same u.of[i] with
            | true =>
              rw [hb] at hs
              simp [hw]
              exact ih (i + 1) ⟨by omega, by simpa using hs⟩ (by omega)
            | false =>
              rw [hb] at hs
              simp at hs
              rw [hs] at k
              simp
              exact ret_pure (by simp) k
          · have e1 : t.of.drop i = [] := List.drop_eq_nil_of_le (by omega)
            rw [e1] at hs
            have hlt' : ¬ i < u.of.length := by omega
            simp [uf A35_l0.eq_1, uf A35_r0.eq_1, hlt, hlt']
            rw [hs] at k
            simp [Ty.sameL] at k
            exact ret_pure (by simp) k
        · have h3' : ¬ ((t.of.length : Int) = (u.of.length : Int)) := by omega
          simp [h1, h2, h3] at k
          simp [A35, h1, h2, h3']
          exact ret_pure (by simp) k
      · simp [h1, h2] at k
        simp [A35, h1, h2]
        exact ret_pure (by simp) k
    · simp [h1] at k
      simp [A35, h1]
      exact ret_pure (by simp) k
theorem w7 {h : List AO} {K : ARes → List AO → Prop} {a b : Ty} (ha : a.ok) (hb : b.ok) (k : K (.ok (.bool true)) h) : W 7 [a.arg, b.arg] h K := by
  refine W_of mixed c7 (by simp [A7]) ?_
  simp [A7, fillA, setL]
  refine w17 (ds := [⟨0, .empty, [⟨0, .empty, a⟩, ⟨0, .empty, b⟩], [], 0⟩]) (by simp) (fun d hd => ?_) ?_
  · simp at hd
    subst hd
    refine ⟨by simp [I64], by simp [reachBytes], by simp [most], by simp [most], by simp [I64], fun f hf => ?_, fun m hm => by simp at hm⟩
    simp at hf
    rcases hf with rfl | rfl
    · exact ⟨by simp [I64], by simp [reachBytes], ha⟩
    · exact ⟨by simp [I64], by simp [reachBytes], hb⟩
  generalize greatFrom 0 _ = g
  cases g with
  | true =>
    simp
    refine w33 ?_
    simp
    exact ret_pure (by simp) k
  | false =>
    simp
    refine R_regS ?_
    simp
    refine ⟨_, w34 _ a (Nat.le_refl _) b _ _ ha ⟨rfl, rfl⟩, ?_⟩
    simp
    refine ⟨_, w35 _ a (Nat.le_refl _) b _ _ ha ⟨rfl, rfl⟩, ?_⟩
    simp
    refine ⟨_, w34 _ a (Nat.le_refl _) a _ _ ha ⟨rfl, rfl⟩, ?_⟩
    simp [Ty.same_refl]
    refine ⟨_, w33 ⟨rfl, rfl⟩, ?_⟩
    exact ret_pure (by simp) k
end Go.Proofs.YtjljhmeadfejhaaGreat
