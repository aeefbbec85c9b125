/- Well of values, about the engine: the whole. -/
import Derived.Test.YtjljhmeadfejhaaGreatB2
set_option maxRecDepth 100000
set_option linter.unusedVariables false
set_option linter.unusedSimpArgs false
namespace Go.Proofs.YtjljhmeadfejhaaGreat
open Go.Eng
def OneS (v : Val) : Prop := (v.kind = 9 → v.tags.length = v.items.length) ∧ (v.kind = 10 → v.tags.length = 1 ∧ v.items.length = 1)
theorem w105c {c n : Int} {s : ByteArray} {l : List Int} {vs : List Val} {h : List AO} {K : ARes → List AO → Prop} (k : ∀ b, K (.ok (.bool b)) h) : W 105 [.agg [.int .i64 c, .int .i64 n, .str s, .rsl (l.map intA), .rsl (vs.map Val.av)]] h K :=
  w105 (v := .mk c n s l vs) k
theorem w66 {v : Val} (hok : v.ok) (ht : v.text.size ≤ 2 ^ 60) {h : List AO} {K : ARes → List AO → Prop} (k : ∀ b, (b = true → OneS v) → K (.ok (.bool b)) h) : W 66 [.agg (vcells v)] h K := by
  obtain ⟨_, _, _, htl, _, hil, hitems⟩ := Val.parts hok
  refine W_of mixed c66 (by simp [A66]) ?_
  simp [A66]
  by_cases k1 : v.kind = 1
  · have kk : ∀ b, K (.ok (.bool b)) h := fun b => k b fun _ => by simp [OneS, k1]
    simp [k1]
    refine w105c (fun b => ?_)
    cases b with
    | false => simp; exact ret_pure (by simp) (kk _)
    | true =>
      cases eT : decide (v.text = ⟨#[]⟩) <;> cases e0 : decide (v.num = 0) <;> cases e1 : decide (v.num = 1) <;> simp [eT, e0, e1] <;> exact ret_pure (by simp) (kk _)
  by_cases k2 : v.kind = 2 ∨ v.kind = 3
  · have kk : ∀ b, K (.ok (.bool b)) h := fun b => k b fun _ => by rcases k2 with k2 | k2 <;> simp [OneS, k2]
    rcases k2 with k2 | k2
    all_goals
      simp [k2]
      refine w105c (fun b => ?_)
      cases b with
      | false => simp; exact ret_pure (by simp) (kk _)
      | true => cases eT : decide (v.text = ⟨#[]⟩) <;> simp [eT] <;> exact ret_pure (by simp) (kk _)
  have k2' : ¬ v.kind = 2 := fun e => k2 (.inl e)
  have k3' : ¬ v.kind = 3 := fun e => k2 (.inr e)
  by_cases k4 : v.kind = 4
  · have kk : ∀ b, K (.ok (.bool b)) h := fun b => k b fun _ => by simp [OneS, k4]
    simp [k4]
    refine w105c (fun b => ?_)
    cases b with
    | false => simp; exact ret_pure (by simp) (kk _)
    | true =>
      cases e0 : decide (v.num = 0) with
      | false => simp [e0]; exact ret_pure (by simp) (kk _)
      | true =>
        simp [e0]
        refine w106 ht (fun x => ?_)
        simp
        exact ret_pure (by simp) (kk _)
  by_cases k5 : v.kind = 5
  · have kk : ∀ b, K (.ok (.bool b)) h := fun b => k b fun _ => by simp [OneS, k5]
    simp [k5]
    refine w105c (fun b => ?_)
    cases b with
    | false => simp; exact ret_pure (by simp) (kk _)
    | true => cases e0 : decide (v.num = 0) <;> simp [e0] <;> exact ret_pure (by simp) (kk _)
  by_cases k6 : v.kind = 6
  · have kk : ∀ b, K (.ok (.bool b)) h := fun b => k b fun _ => by simp [OneS, k6]
    simp [k6]
    refine w105c (fun b => ?_)
    cases b with
    | false => simp; exact ret_pure (by simp) (kk _)
    | true =>
      cases eT : decide (v.text = ⟨#[]⟩) <;> cases e0 : decide (0 ≤ v.num) <;> cases e1 : decide (v.num ≤ 9999) <;> simp [eT, e0, e1] <;> exact ret_pure (by simp) (kk _)
  by_cases k7 : v.kind = 7
  · have kk : ∀ b, K (.ok (.bool b)) h := fun b => k b fun _ => by simp [OneS, k7]
    cases eT : decide (v.text = ⟨#[]⟩) <;> cases e0 : decide (v.num = 0) <;> simp [k7, eT, e0] <;> exact ret_pure (by simp) (kk _)
  by_cases k8 : v.kind = 8
  · have kk : ∀ b, K (.ok (.bool b)) h := fun b => k b fun _ => by simp [OneS, k8]
    cases eT : decide (v.text = ⟨#[]⟩) <;> cases e0 : decide (v.num = 0)
    · simp [k8, eT, e0]; exact ret_pure (by simp) (kk _)
    · simp [k8, eT, e0]; exact ret_pure (by simp) (kk _)
    · simp [k8, eT, e0]; exact ret_pure (by simp) (kk _)
    · by_cases e1 : v.tags = []
      · simp [k8, eT, e0, e1]
        refine w107 hil hitems (fun b => ?_)
        simp
        exact ret_pure (by simp) (kk _)
      · simp [k8, eT, e0, e1]; exact ret_pure (by simp) (kk _)
  by_cases k9 : v.kind = 9
  · have kf : K (.ok (.bool false)) h := k false fun e => by cases e
    cases eT : decide (v.text = ⟨#[]⟩) <;> cases e0 : decide (v.num = 0)
    · simp [k9, eT, e0]; exact ret_pure (by simp) kf
    · simp [k9, eT, e0]; exact ret_pure (by simp) kf
    · simp [k9, eT, e0]; exact ret_pure (by simp) kf
    · by_cases e1 : v.tags.length = v.items.length
      · have kk : ∀ b, K (.ok (.bool b)) h := fun b => k b fun _ => ⟨fun _ => e1, fun e => by rw [k9] at e; cases e⟩
        simp [k9, eT, e0, e1]
        refine w108 htl (fun b => ?_)
        simp
        exact ret_pure (by simp) (kk _)
      · have e1' : ¬ ((v.tags.length : Int) = (v.items.length : Int)) := by omega
        simp [k9, eT, e0, e1, e1']; exact ret_pure (by simp) kf
  by_cases k10 : v.kind = 10
  · have kf : K (.ok (.bool false)) h := k false fun e => by cases e
    cases eT : decide (v.text = ⟨#[]⟩) <;> cases e0 : decide (v.num = 0)
    · simp [k10, eT, e0]; exact ret_pure (by simp) kf
    · simp [k10, eT, e0]; exact ret_pure (by simp) kf
    · simp [k10, eT, e0]; exact ret_pure (by simp) kf
    · by_cases e1 : v.tags.length = 1
      · by_cases e2 : v.items.length = 1
        · have kk : ∀ b, K (.ok (.bool b)) h := fun b => k b fun _ => ⟨fun e => absurd (k10.symm.trans e) (by decide), fun _ => ⟨e1, e2⟩⟩
          have c1 : ((v.tags.length : Int) = 1) = True := by simp; omega
          have c2 : ((v.items.length : Int) = 1) = True := by simp; omega
          simp [k10, eT, e0, c1, c2]
          refine w108 htl (fun b => ?_)
          simp
          exact ret_pure (by simp) (kk _)
        · have c1 : ((v.tags.length : Int) = 1) = True := by simp; omega
          have c2 : ((v.items.length : Int) = 1) = False := by simp; omega
          simp [k10, eT, e0, c1, c2]; exact ret_pure (by simp) kf
      · have c1 : ((v.tags.length : Int) = 1) = False := by simp; omega
        simp [k10, eT, e0, c1]; exact ret_pure (by simp) kf
  have kf : K (.ok (.bool false)) h := k false fun e => by cases e
  simp [k1, k2', k3', k4, k5, k6, k7, k8, k9, k10]
  exact ret_pure (by simp) kf
mutual
def Val.well : Val → Prop
  | .mk k n s l vs => OneS (.mk k n s l vs) ∧ Val.wellL vs
def Val.wellL : List Val → Prop
  | [] => True
  | v :: l => v.well ∧ Val.wellL l
end
theorem Val.wellL_iff : ∀ l : List Val, Val.wellL l ↔ ∀ t ∈ l, t.well
  | [] => by simp [Val.wellL]
  | t :: l => by simp [Val.wellL, Val.wellL_iff l]
theorem Val.well_iff (v : Val) : v.well ↔ OneS v ∧ ∀ u ∈ v.items, u.well := by cases v; simp only [Val.well, Val.wellL_iff]; rfl
/-- Texts that are not too long. -/
inductive Val.txt : Val → Prop
  | mk (v : Val) (h : v.text.size ≤ 2 ^ 60) (hi : ∀ u ∈ v.items, u.txt) : v.txt
theorem w32 : ∀ (n : Nat) (v : Val), SizeOf.sizeOf v ≤ n → v.ok → v.txt → ∀ (h : List AO) (K : ARes → List AO → Prop), (∀ b, (b = true → v.well) → K (.ok (.bool b)) h) → W 32 [.agg (vcells v)] h K := by
  intro n
  induction n with
  | zero => intro v hv; cases v; simp at hv
  | succ n IH =>
    intro v hv hok htx h K k
    obtain ⟨_, _, _, _, _, hlen, hitems⟩ := Val.parts hok
    obtain ⟨htx0, htxi⟩ : v.text.size ≤ 2 ^ 60 ∧ ∀ u ∈ v.items, u.txt := by cases htx with | mk _ a b => exact ⟨a, b⟩
    simp only [most] at hlen
    refine W_of mixed c32 (by simp [A32]) ?_
    simp [A32]
    refine w66 hok htx0 (fun b hb => ?_)
    cases b with
    | false =>
      simp
      exact ret_pure (by simp) (k false fun e => by cases e)
    | true =>
      have h1 := hb rfl
      simp
      refine lp_ind (ι := Nat) (fun i => i ≤ v.items.length ∧ ∀ u ∈ v.items.take i, u.well) (fun i => v.items.length - i) (fun i => [(1, .ptr h.length 0), (3, .int .i64 (i : Int))])
        (fun i => h ++ [.box (vcells v)]) ?_ 0 (by simp)
      rintro i ⟨hi, hwl⟩ ih
      have hw := wrap_succ (i := i) (by omega)
      by_cases hlt : i < v.items.length
      · have hmem := List.getElem_mem hlt
        have hsz : SizeOf.sizeOf v.items[i] ≤ n := by have := Val.lt_of_mem hmem; omega
        simp [uf A32_l0.eq_1, hlt, Val.av, Val.cells_eq]
        refine IH _ hsz (hitems _ hmem) (htxi _ hmem) _ _ (fun b hb => ?_)
        cases b with
        | false =>
          simp
          exact ret_pure (by simp) (k false fun e => by cases e)
        | true =>
          simp [hw]
          refine ih (i + 1) ⟨by omega, fun u hu => ?_⟩ (by omega)
          rw [List.take_succ_eq_append_getElem hlt] at hu
          rcases List.mem_append.1 hu with hu | hu
          · exact hwl u hu
          · simp at hu; subst hu; exact hb rfl
      · have : i = v.items.length := by omega
        subst this
        rw [List.take_length] at hwl
        simp [uf A32_l0.eq_1, uf A32_r0.eq_1]
        exact ret_pure (by simp) (k true fun _ => (Val.well_iff v).2 ⟨h1, hwl⟩)
end Go.Proofs.YtjljhmeadfejhaaGreat
