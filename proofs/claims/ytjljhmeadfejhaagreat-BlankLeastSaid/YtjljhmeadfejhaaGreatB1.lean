/- Deep, Well of values, about the engine. -/
import Derived.Test.YtjljhmeadfejhaaGreatMD
set_option maxRecDepth 100000
set_option linter.unusedVariables false
set_option linter.unusedSimpArgs false
namespace Go.Proofs.YtjljhmeadfejhaaGreat
open Go.Eng
mutual
def Val.depth : Val → Nat
  | .mk _ _ _ _ l => 1 + Val.depthL l
def Val.depthL : List Val → Nat
  | [] => 0
  | v :: l => max v.depth (Val.depthL l)
end
theorem Val.depth_eq (v : Val) : v.depth = 1 + Val.depthL v.items := by cases v; rfl
theorem Val.depthL_snoc : ∀ (l : List Val) (v : Val), Val.depthL (l ++ [v]) = max (Val.depthL l) v.depth
  | [], v => by simp [Val.depthL]
  | x :: l, v => by simp only [List.cons_append, Val.depthL, Val.depthL_snoc l v]; omega
theorem Val.depth_le : ∀ {l : List Val} {v : Val}, v ∈ l → v.depth ≤ Val.depthL l
  | [], v, h => by simp at h
  | x :: l, v, h => by
    simp only [Val.depthL]
    rcases List.mem_cons.1 h with rfl | h
    · omega
    · have := Val.depth_le h; omega
theorem w27 : ∀ (n : Nat) (v : Val), SizeOf.sizeOf v ≤ n → v.ok → v.depth ≤ 1000 → ∀ (h : List AO) (K : ARes → List AO → Prop), K (.ok (.int .i64 (v.depth : Int))) h → W 27 [.agg (vcells v)] h K := by
  intro n
  induction n with
  | zero => intro v hv; cases v; simp at hv
  | succ n IH =>
    intro v hv hok hd h K k
    obtain ⟨_, _, _, _, _, hlen, hitems⟩ := Val.parts hok
    simp only [most] at hlen
    refine W_of mixed c27 (by simp [A27]) ?_
    simp [A27]
    refine lp_ind (ι := Nat) (fun i => i ≤ v.items.length) (fun i => v.items.length - i) (fun i => [(1, .ptr h.length 0), (3, .int .i64 ((1 + Val.depthL (v.items.take i) : Nat) : Int)), (4, .int .i64 (i : Int))])
      (fun i => h ++ [.box (vcells v)]) ?_ 0 (by simp)
    intro i hi ih
    have hw := wrap_succ (i := i) (by omega)
    by_cases hlt : i < v.items.length
    · have IHi := ih (i + 1) (by omega) (by omega)
      have hmem := List.getElem_mem hlt
      have hsz : SizeOf.sizeOf v.items[i] ≤ n := by have := Val.lt_of_mem hmem; omega
      have hdi : v.items[i].depth ≤ 1000 := by have := Val.depth_le hmem; rw [Val.depth_eq] at hd; omega
      have hwd : IntKind.i64.wrap (1 + (v.items[i].depth : Int)) = 1 + (v.items[i].depth : Int) := wrap_i64 _ (by omega) (by omega)
      rw [List.take_succ_eq_append_getElem hlt, Val.depthL_snoc] at IHi
      have hmx : (if (1 : Int) + (Val.depthL (v.items.take i) : Int) < 1 + (v.items[i].depth : Int) then 1 + (v.items[i].depth : Int) else 1 + (Val.depthL (v.items.take i) : Int)) = ((1 + max (Val.depthL (v.items.take i)) v.items[i].depth : Nat) : Int) := by
        split <;> omega
      simp [uf A27_l0.eq_1, hlt, Val.av, Val.cells_eq]
      refine IH _ hsz (hitems _ hmem) hdi _ _ ?_
      have hmx2 : (if Val.depthL (v.items.take i) < v.items[i].depth then (1 : Int) + (v.items[i].depth : Int) else 1 + (Val.depthL (v.items.take i) : Int)) = ((1 + max (Val.depthL (v.items.take i)) v.items[i].depth : Nat) : Int) := by
        split <;> omega
      simp [hwd, hw, hmx2]
      simpa using IHi
    · have : i = v.items.length := by omega
      subst this
      rw [Val.depth_eq] at k
      simp [uf A27_l0.eq_1, uf A27_r0.eq_1]
      exact ret_pure (by simp) (by simpa using k)
theorem w105 {v : Val} {h : List AO} {K : ARes → List AO → Prop} (k : ∀ b, K (.ok (.bool b)) h) : W 105 [.agg (vcells v)] h K := by
  refine W_of mixed c105 (by simp [A105]) ?_
  simp [A105]
  by_cases h1 : v.tags = []
  · simp [h1]
    exact ret_pure (by simp) (k _)
  · simp [h1]
    exact ret_pure (by simp) (k _)
theorem w108 {l : List Int} (hl : l.length < most) {h : List AO} {K : ARes → List AO → Prop} (k : ∀ b, K (.ok (.bool b)) h) : W 108 [.rsl (l.map intA)] h K := by
  simp only [most] at hl
  refine W_of mixed c108 (by simp [A108]) ?_
  simp [A108]
  refine lp_ind (ι := Nat) (fun i => i ≤ l.length) (fun i => l.length - i) (fun i => [(0, .rsl (l.map intA)), (3, .int .i64 (i : Int))]) (fun i => h) ?_ 0 (by simp)
  intro i hi ih
  have hw := wrap_succ (i := i) (by omega)
  by_cases hlt : i < l.length
  · have IHi := ih (i + 1) (by omega) (by omega)
    cases e1 : decide (l[i] < 1) with
    | true =>
      simp [uf A108_l0.eq_1, hlt, intA, e1]
      exact .inl (k _)
    | false =>
      cases e2 : decide (255 < l[i]) with
      | true =>
        simp [uf A108_l0.eq_1, hlt, intA, e1, e2]
        exact .inl (k _)
      | false =>
        rcases Nat.eq_zero_or_pos i with rfl | hpos
        · simp at IHi
          simp [uf A108_l0.eq_1, hlt, intA, e1, e2, IntKind.wrap]
          exact IHi
        · have hws : IntKind.i64.wrap ((i : Int) - 1) = ((i - 1 : Nat) : Int) := by rw [wrap_i64 _ (by omega) (by omega)]; omega
          have hlj : i - 1 < l.length := by omega
          cases e3 : decide (l[i] ≤ l[i - 1]) with
          | true =>
            simp [uf A108_l0.eq_1, hlt, intA, e1, e2, hpos, hws, hlj, e3]
            exact .inl (k _)
          | false =>
            simp [uf A108_l0.eq_1, hlt, intA, e1, e2, hpos, hws, hlj, e3, hw]
            exact IHi
  · have : i = l.length := by omega
    subst this
    simp [uf A108_l0.eq_1, uf A108_r0.eq_1]
    exact .inl (k _)
end Go.Proofs.YtjljhmeadfejhaaGreat
