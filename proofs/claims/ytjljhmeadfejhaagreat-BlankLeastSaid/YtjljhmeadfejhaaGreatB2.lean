/- Well of values, about the engine. -/
import Derived.Test.YtjljhmeadfejhaaGreatB1
set_option maxRecDepth 100000
set_option linter.unusedVariables false
set_option linter.unusedSimpArgs false
namespace Go.Proofs.YtjljhmeadfejhaaGreat
open Go.Eng
theorem w107 {l : List Val} (hl : l.length < most) (hok : ∀ v ∈ l, v.ok) {h : List AO} {K : ARes → List AO → Prop} (k : ∀ b, K (.ok (.bool b)) h) : W 107 [.rsl (l.map Val.av)] h K := by
  simp only [most] at hl
  refine W_of mixed c107 (by simp [A107]) ?_
  simp [A107]
  refine lp_ind (ι := Nat) (fun i => i ≤ l.length + 1) (fun i => l.length + 1 - i) (fun i => [(0, .rsl (l.map Val.av)), (3, .int .i64 (i : Int))]) (fun i => h) ?_ 0 (by simp)
  intro i hi ih
  have hw1 : IntKind.i64.wrap ((i : Int) + 1) = (i : Int) + 1 := wrap_i64 _ (by omega) (by omega)
  have hw2 : IntKind.i64.wrap ((i : Int) + 2) = ((i + 2 : Nat) : Int) := by rw [wrap_i64 _ (by omega) (by omega)]; omega
  have hc : ((i : Int) + 1 < (l.length : Int)) = (i + 1 < l.length) := by simp; omega
  by_cases hlt : i + 1 < l.length
  · have hlt0 : i < l.length := by omega
    have IHi := ih (i + 2) (by omega) (by omega)
    simp [uf A107_l0.eq_1, hw1, hc, hlt, hlt0, Val.av, Val.cells_eq]
    refine ⟨_, _, w157 ⟨rfl, rfl⟩, ?_⟩
    generalize decide (l[i].kind = 1 ∨ l[i].kind = 2 ∨ l[i].kind = 3 ∨ l[i].kind = 6 ∨ l[i].kind = 4) = b1
    cases b1 with
    | false =>
      simp
      exact .inl (k _)
    | true =>
      by_cases h1 : 1 < i
      · have hws : IntKind.i64.wrap ((i : Int) - 2) = ((i - 2 : Nat) : Int) := by rw [wrap_i64 _ (by omega) (by omega)]; omega
        have hlj : i - 2 < l.length := by omega
        have h1' : (1 : Int) < (i : Int) := by omega
        cases e2 : decide (l[i - 2].kind = l[i].kind) with
        | false =>
          simp [h1, h1', hws, hlj, hlt0, Val.av, Val.cells_eq, e2]
          exact .inl (k _)
        | true =>
          simp [h1, h1', hws, hlj, hlt0, Val.av, Val.cells_eq, e2]
          refine ⟨_, _, w158 (a := l[i - 2]) (b := l[i]) (hok _ (List.getElem_mem hlj)) (hok _ (List.getElem_mem hlt0)) ⟨rfl, rfl⟩, ?_⟩
          cases e3 : decide (cmpM l[i - 2] l[i] = -1) with
          | true =>
            simp [e3, hw2]
            exact IHi
          | false =>
            simp [e3, hw2]
            exact .inl (k _)
      · have h1' : ¬ (1 : Int) < (i : Int) := by omega
        simp [h1, h1', hw2]
        exact IHi
  · simp [uf A107_l0.eq_1, uf A107_r0.eq_1, hw1, hc, hlt]
    exact .inl (k _)
theorem w190 {s : ByteArray} (hs : s.size ≤ 2 ^ 60) {i : Nat} (hi : i < 2 ^ 61) {h : List AO} {K : ARes → List AO → Prop} (k : ∀ x b, K (.ok (.tup [.int .i64 x, .bool b])) h) : W 190 [.str s, .int .i64 (i : Int)] h K := by
  refine W_of mixed c190 (by simp [A190]) ?_
  by_cases hlt : i < s.size
  · have hge : ¬ ((s.size : Int) ≤ (i : Int)) := by omega
    have hlt' : i < s.data.size := hlt
    cases e1 : decide (((s.data[i]'hlt').toNat : Int) < 128) with
    | true =>
      simp [A190, hge, hlt, e1]
      exact .inl (k _ _)
    | false =>
      cases e2 : decide ((191 : Int) < ((s.data[i]'hlt').toNat : Int)) with
      | true =>
        simp [A190, hge, hlt, e1, e2]
        exact .inl (k _ _)
      | false =>
        simp [A190, hge, hlt, e1, e2]
        exact .inl (k _ _)
  · have hge : (s.size : Int) ≤ (i : Int) := by omega
    simp [A190, hge]
    exact .inl (k _ _)
theorem w156 {s : ByteArray} (hs : s.size ≤ 2 ^ 60) {i : Nat} (hi : i < s.size) {h : List AO} {K : ARes → List AO → Prop} (k : ∀ x : Nat, x ≤ 4 → K (.ok (.int .i64 (x : Int))) h) : W 156 [.str s, .int .i64 (i : Int)] h K := by
  have hi' : i < s.data.size := hi
  have loop : ∀ (n lo : Int) (m : Nat), m ≤ 4 → LP ⟨intPg Tryz.prog 0 .i64, h, [.t 4], K⟩ [0, 1, 6, 7, 8, 9] A156_l0 [KI.blk 0, KI.seq A156_r0] [(0, .str s), (1, .int .i64 (i : Int)), (6, .int .i64 n), (7, .int .i64 (m : Int)), (8, .int .i64 lo), (9, .int .i64 1)] h := by
    intro n lo m hm
    refine lp_indE (ι := Nat × Int) (fun p => 1 ≤ p.1 ∧ p.1 ≤ 5) (fun p => 5 - p.1) (fun p => [(0, .str s), (1, .int .i64 (i : Int)), (6, .int .i64 p.2), (7, .int .i64 (m : Int)), (8, .int .i64 lo), (9, .int .i64 (p.1 : Int))]) (fun _ => h) ?_ (1, n) ⟨by simp, by simp⟩ rfl rfl
    rintro ⟨q, x⟩ ⟨h1, h5⟩ ih
    simp only at h1 h5 ih ⊢
    by_cases hq : q < m
    · have wq : IntKind.i64.wrap ((i : Int) + (q : Int)) = ((i + q : Nat) : Int) := by rw [wrap_i64 _ (by omega) (by omega)]; omega
      have wq1 := wrap_succ (i := q) (by omega)
      have hq' : (q : Int) < (m : Int) := by omega
      simp [uf A156_l0.eq_1, hq, wq]
      refine w190 hs (i := i + q) (by omega) (fun y b => ?_)
      cases b with
      | false =>
        simp
        exact .inl (k 0 (by omega))
      | true =>
        have := ih (q + 1, IntKind.i64.wrap (IntKind.i64.wrap (x * 64) + y)) ⟨by omega, by omega⟩ (by simp; omega)
        simp at this
        simp [wq1]
        exact this
    · have K0 := k 0 (by omega)
      have Km := k m hm
      simp at K0
      cases e1 : decide (x < lo) with
      | true => simp [uf A156_l0.eq_1, uf A156_r0.eq_1, hq, e1]; exact .inl K0
      | false =>
        cases e2 : decide (1114112 ≤ x) with
        | true => simp [uf A156_l0.eq_1, uf A156_r0.eq_1, hq, e1, e2]; exact .inl K0
        | false =>
          cases e3 : decide (55296 ≤ x) with
          | false => simp [uf A156_l0.eq_1, uf A156_r0.eq_1, hq, e1, e2, e3]; exact .inl Km
          | true =>
            cases e4 : decide (x < 57344) with
            | true => simp [uf A156_l0.eq_1, uf A156_r0.eq_1, hq, e1, e2, e3, e4]; exact .inl K0
            | false => simp [uf A156_l0.eq_1, uf A156_r0.eq_1, hq, e1, e2, e3, e4]; exact .inl Km
  refine W_of mixed c156 (by simp [A156]) ?_
  simp [A156, hi]
  generalize IntKind.i64.wrap ((s.data[i]'hi').toNat : Int) = c
  cases e0 : decide (c < 128) with
  | true => simp [e0]; exact .inl (k 1 (by omega))
  | false =>
    cases a1 : decide (192 ≤ c) <;> cases a2 : decide (c < 224) <;> cases a3 : decide (224 ≤ c) <;> cases a4 : decide (c < 240) <;> cases a5 : decide (240 ≤ c) <;> cases a6 : decide (c < 248) <;> simp [e0, a1, a2, a3, a4, a5, a6]
    all_goals first
      | exact loop _ _ 0 (by omega)
      | exact loop _ _ 2 (by omega)
      | exact loop _ _ 3 (by omega)
      | exact loop _ _ 4 (by omega)
theorem w106 {s : ByteArray} (hs : s.size ≤ 2 ^ 60) {h : List AO} {K : ARes → List AO → Prop} (k : ∀ x, K (.ok (.int .i64 x)) h) : W 106 [.str s] h K := by
  refine W_of mixed c106 (by simp [A106]) ?_
  simp [A106]
  refine lp_ind (ι := Nat) (fun i => i ≤ s.size + 4) (fun i => s.size + 4 - i) (fun i => [(0, .str s), (3, .int .i64 (i : Int))]) (fun _ => h) ?_ 0 (by simp)
  intro i hi ih
  by_cases hlt : i < s.size
  · simp [uf A106_l0.eq_1, hlt]
    refine w156 hs hlt (fun x hx => ?_)
    have wx : IntKind.i64.wrap ((i : Int) + (x : Int)) = ((i + x : Nat) : Int) := by rw [wrap_i64 _ (by omega) (by omega)]; omega
    by_cases h0 : x = 0
    · subst h0
      simp
      exact .inl (k _)
    · simp [h0, wx]
      have := ih (i + x) (by omega) (by omega)
      simpa using this
  · simp [uf A106_l0.eq_1, uf A106_r0.eq_1, hlt]
    exact .inl (k _)
end Go.Proofs.YtjljhmeadfejhaaGreat
