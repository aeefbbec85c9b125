/- Same and Cmp of values, about the engine. -/
import Derived.Test.YtjljhmeadfejhaaDoorT0
set_option maxRecDepth 100000
set_option linter.unusedVariables false
set_option linter.unusedSimpArgs false
namespace Go.Proofs.YtjljhmeadfejhaaDoor
open Go.Eng
mutual
def sameM : Val → Val → Bool
  | .mk k n s l vs, .mk k' n' s' l' vs' => decide (k = k') && (decide (n = n') && (decide (s = s') && (decide (l = l') && sameL vs vs')))
def sameL : List Val → List Val → Bool
  | [], [] => true
  | v :: l, v' :: l' => sameM v v' && sameL l l'
  | _, _ => false
end
theorem sameM_eq (v u : Val) : sameM v u = (decide (v.kind = u.kind) && (decide (v.num = u.num) && (decide (v.text = u.text) && (decide (v.tags = u.tags) && sameL v.items u.items)))) := by cases v; cases u; rfl
theorem sameL_len : ∀ {a b : List Val}, a.length ≠ b.length → sameL a b = false
  | [], [], h => absurd rfl h
  | [], y :: b, _ => rfl
  | x :: a, [], _ => rfl
  | x :: a, y :: b, h => by rw [sameL, sameL_len (by simpa using h)]; simp
mutual
theorem sameM_self : ∀ v : Val, sameM v v = true := by
  intro v
  cases v with
  | mk k n s l vs => rw [sameM, sameL_self vs]; simp
theorem sameL_self : ∀ l : List Val, sameL l l = true := by
  intro l
  cases l with
  | nil => rfl
  | cons v l => rw [sameL, sameM_self v, sameL_self l]; rfl
end
theorem sameL_step {a b : List Val} {i : Nat} (ha : i < a.length) (hb : i < b.length) : sameL (a.drop i) (b.drop i) = (sameM a[i] b[i] && sameL (a.drop (i + 1)) (b.drop (i + 1))) := by
  rw [List.drop_eq_getElem_cons ha, List.drop_eq_getElem_cons hb, sameL]
theorem ints_step {a b : List Int} {i : Nat} (ha : i < a.length) (hb : i < b.length) : decide (a.drop i = b.drop i) = (decide (a[i] = b[i]) && decide (a.drop (i + 1) = b.drop (i + 1))) := by
  have e1 := List.drop_eq_getElem_cons ha
  have e2 := List.drop_eq_getElem_cons hb
  rw [Bool.eq_iff_iff, Bool.and_eq_true, decide_eq_true_eq, decide_eq_true_eq, decide_eq_true_eq]
  generalize a.drop i = p at e1 ⊢
  generalize b.drop i = q at e2 ⊢
  subst e1 e2
  rw [List.cons.injEq]

theorem w43 {h : List AO} {a b : List Int} {K : ARes → List AO → Prop} (hl : a.length < most) (k : K (.ok (.bool (decide (a = b)))) h) : W 43 [.rsl (a.map intA), .rsl (b.map intA)] h K := by
  simp only [most] at hl
  refine W_of mixed c43 (by simp [A43]) ?_
  by_cases hn : a.length = b.length
  · have hn' : (a.length : Int) = (b.length : Int) := by omega
    simp [A43, hn']
    refine lp_for a.length (fun i => decide (a = b) = decide (a.drop i = b.drop i)) (fun i _ => [(0, .rsl (a.map intA)), (1, .rsl (b.map intA)), (12, .int .i64 (a.length : Int)), (13, .int .i64 (i : Int))]) (fun _ => h) ?_ (by simp) (by simp [hn']) rfl
    intro i hi hs ih
    have hw := wrap_succ (i := i) (by omega)
    simp at ih
    by_cases hlt : i < a.length
    · have hlt2 : i < b.length := by omega
      rw [ints_step hlt hlt2] at hs
      by_cases he : a[i] = b[i]
      · simp [uf A43_l0.eq_1, hlt, hlt2, intA, he, hw]
        simp only [he, decide_true, Bool.true_and] at hs
        exact ih (by omega) (by simpa using hs)
      · simp [uf A43_l0.eq_1, hlt, hlt2, intA, he, hw]
        simp only [he, decide_false, Bool.false_and] at hs
        rw [hs] at k
        exact .inl k
    · have e1 : a.drop i = [] := List.drop_eq_nil_of_le (by omega)
      have e2 : b.drop i = [] := List.drop_eq_nil_of_le (by omega)
      rw [e1, e2] at hs
      simp [uf A43_l0.eq_1, uf A43_r0.eq_1, hlt]
      rw [hs] at k
      exact .inl k
  · have hn' : ¬ (a.length : Int) = (b.length : Int) := by omega
    have hne : ¬ a = b := fun e => hn (by rw [e])
    simp [hne] at k
    simp [A43, hn']
    exact .inl k
theorem w45 {h : List AO} {a b : List Int} {K : ARes → List AO → Prop} (hl : a.length < most) (k : K (.ok (.bool (decide (a = b)))) h) : W 45 [.rsl (a.map intA), .rsl (b.map intA)] h K := by
  simp only [most] at hl
  refine W_of mixed c45 (by simp [A45]) ?_
  by_cases hn : a.length = b.length
  · have hn' : (a.length : Int) = (b.length : Int) := by omega
    simp [A45, hn']
    refine lp_for a.length (fun i => decide (a = b) = decide (a.drop i = b.drop i)) (fun i _ => [(0, .rsl (a.map intA)), (1, .rsl (b.map intA)), (5, .int .i64 (i : Int))]) (fun _ => h) ?_ (by simp) (by simp) rfl
    intro i hi hs ih
    have hw := wrap_succ (i := i) (by omega)
    simp at ih
    by_cases hlt : i < a.length
    · have hlt2 : i < b.length := by omega
      rw [ints_step hlt hlt2] at hs
      by_cases he : a[i] = b[i]
      · simp [uf A45_l0.eq_1, hlt, hlt2, intA, he, hw]
        simp only [he, decide_true, Bool.true_and] at hs
        exact ih (by omega) (by simpa using hs)
      · simp [uf A45_l0.eq_1, hlt, hlt2, intA, he, hw]
        simp only [he, decide_false, Bool.false_and] at hs
        rw [hs] at k
        exact .inl k
    · have e1 : a.drop i = [] := List.drop_eq_nil_of_le (by omega)
      have e2 : b.drop i = [] := List.drop_eq_nil_of_le (by omega)
      rw [e1, e2] at hs
      simp [uf A45_l0.eq_1, uf A45_r0.eq_1, hlt]
      rw [hs] at k
      exact .inl k
  · have hn' : ¬ (a.length : Int) = (b.length : Int) := by omega
    have hne : ¬ a = b := fun e => hn (by rw [e])
    simp [hne] at k
    simp [A45, hn']
    exact .inl k

theorem w44 {a b : List Val} (hl : a.length < most) (each : ∀ (i : Nat) (ha : i < a.length) (hb : i < b.length) (h : List AO) (K : ARes → List AO → Prop), K (.ok (.bool (sameM a[i] b[i]))) h → W 19 [.agg (vcells a[i]), .agg (vcells b[i])] h K)
    {h : List AO} {K : ARes → List AO → Prop} (k : K (.ok (.bool (sameL a b))) h) : W 44 [.rsl (a.map Val.av), .rsl (b.map Val.av), .fn 19 [] []] h K := by
  simp only [most] at hl
  refine W_of mixed c44 (by simp [A44]) ?_
  by_cases hn : a.length = b.length
  · have hn' : (a.length : Int) = (b.length : Int) := by omega
    simp [A44, hn']
    refine lp_for a.length (fun i => sameL a b = sameL (a.drop i) (b.drop i)) (fun i _ => [(1, .rsl (b.map Val.av)), (2, .fn 19 [] []), (15, .rsl (a.map Val.av)), (16, .int .i64 (a.length : Int)), (17, .int .i64 (i : Int))]) (fun _ => h) ?_ (by simp) (by simp [hn']) rfl
    intro i hi hs ih
    have hw := wrap_succ (i := i) (by omega)
    simp at ih
    by_cases hlt : i < a.length
    · have hlt2 : i < b.length := by omega
      rw [sameL_step hlt hlt2] at hs
      simp [uf A44_l0.eq_1, hlt, hlt2, Val.av, Val.cells_eq]
      refine each i hlt hlt2 _ _ ?_
      cases hb : sameM a[i] b[i] with
      | true =>
        rw [hb, Bool.true_and] at hs
        simp [hw]
        refine lp_cut 0 (by simp) (by simp; rfl) ?_
        simpa using ih (by omega) hs
      | false =>
        rw [hb, Bool.false_and] at hs
        simp
        rw [hs] at k
        exact ret_pure (by simp) k
    · have e1 : a.drop i = [] := List.drop_eq_nil_of_le (by omega)
      have e2 : b.drop i = [] := List.drop_eq_nil_of_le (by omega)
      rw [e1, e2] at hs
      simp [uf A44_l0.eq_1, uf A44_r0.eq_1, hlt]
      rw [hs] at k
      exact .inl k
  · have hn' : ¬ (a.length : Int) = (b.length : Int) := by omega
    rw [sameL_len hn] at k
    simp [A44, hn']
    exact .inl k

theorem w19 : ∀ (n : Nat) (v u : Val), SizeOf.sizeOf v ≤ n → v.ok → ∀ (h : List AO) (K : ARes → List AO → Prop), K (.ok (.bool (sameM v u))) h → W 19 [.agg (vcells v), .agg (vcells u)] h K := by
  intro n
  induction n with
  | zero => intro v u hv; cases v; simp at hv
  | succ n IH =>
    intro v u hv hok h K k
    obtain ⟨_, _, _, ht, _, hl, hvs⟩ := Val.parts hok
    have IHm : ∀ u ∈ v.items, SizeOf.sizeOf u ≤ n := fun u hu => by have := Val.lt_of_mem hu; omega
    rw [sameM_eq] at k
    refine W_of mixed c19 (by simp [A19]) ?_
    by_cases c1 : v.kind = u.kind
    · by_cases c2 : v.num = u.num
      · by_cases c3 : v.text = u.text
        · simp [A19, c1, c2, c3]
          refine w43 ht ?_
          by_cases c4 : v.tags = u.tags
          · simp [c1, c2, c3, c4] at k
            simp [c4]
            refine w44 hl (fun i ha hb h K k => IH _ _ (IHm _ (List.getElem_mem ha)) (hvs _ (List.getElem_mem ha)) _ _ k) ?_
            simp
            exact ret_pure (by simp) k
          · simp [c1, c2, c3, c4] at k
            simp [c4]
            exact ret_pure (by simp) k
        · simp [c1, c2, c3] at k
          simp [A19, c1, c2, c3]
          exact ret_pure (by simp) k
      · simp [c1, c2] at k
        simp [A19, c1, c2]
        exact ret_pure (by simp) k
    · simp [c1] at k
      simp [A19, c1]
      exact ret_pure (by simp) k

theorem w20 : ∀ (n : Nat) (v u : Val), SizeOf.sizeOf v ≤ n → v.ok → ∀ (h : List AO) (K : ARes → List AO → Prop), K (.ok (.bool (sameM v u))) h → W 20 [.agg (vcells v), .agg (vcells u)] h K := by
  intro n
  induction n with
  | zero => intro v u hv; cases v; simp at hv
  | succ n IH =>
    intro v u hv hok h K k
    obtain ⟨_, _, _, ht, _, hl, hvs⟩ := Val.parts hok
    have hl' := hl
    simp only [most] at hl'
    have IHm : ∀ u ∈ v.items, SizeOf.sizeOf u ≤ n := fun u hu => by have := Val.lt_of_mem hu; omega
    rw [sameM_eq] at k
    refine W_of mixed c20 (by simp [A20]) ?_
    by_cases c1 : v.kind = u.kind
    · by_cases c2 : v.num = u.num
      · by_cases c3 : v.text = u.text
        · simp [A20, c1, c2, c3]
          refine w45 ht ?_
          by_cases c4 : v.tags = u.tags
          · simp [c1, c2, c3, c4] at k
            by_cases hn : v.items.length = u.items.length
            · have hn' : (v.items.length : Int) = (u.items.length : Int) := by omega
              simp [c4, hn']
              refine lp_for v.items.length (fun i => sameL v.items u.items = sameL (v.items.drop i) (u.items.drop i)) (fun i f => setF f 5 (.int .i64 (i : Int))) (fun _ => h ++ [.box (vcells v), .box (vcells u)]) ?_ (by simp) (by simp) (by simp [c1, c2, c3, c4])
              intro i hi hs ih
              have hw := wrap_succ (i := i) (by omega)
              simp at ih
              by_cases hlt : i < v.items.length
              · have hlt2 : i < u.items.length := by omega
                rw [sameL_step hlt hlt2] at hs
                simp [uf A20_l0.eq_1, hlt, hlt2, Val.av, Val.cells_eq]
                refine ⟨_, _, IH _ _ (IHm _ (List.getElem_mem hlt)) (hvs _ (List.getElem_mem hlt)) _ _ ⟨rfl, rfl⟩, ?_⟩
                cases hb : sameM v.items[i] u.items[i] with
                | true =>
                  rw [hb, Bool.true_and] at hs
                  simp [hw]
                  exact ih (by omega) hs
                | false =>
                  rw [hb, Bool.false_and] at hs
                  simp
                  rw [hs] at k
                  exact ret_pure (by simp) k
              · have e1 : v.items.drop i = [] := List.drop_eq_nil_of_le (by omega)
                have e2 : u.items.drop i = [] := List.drop_eq_nil_of_le (by omega)
                rw [e1, e2] at hs
                simp [uf A20_l0.eq_1, uf A20_r0.eq_1, hlt]
                rw [hs] at k
                exact ret_pure (by simp) k
            · have hn' : ¬ (v.items.length : Int) = (u.items.length : Int) := by omega
              rw [sameL_len hn] at k
              simp [c4, hn']
              exact ret_pure (by simp) k
          · simp [c1, c2, c3, c4] at k
            simp [c4]
            exact ret_pure (by simp) k
        · simp [c1, c2, c3] at k
          simp [A20, c1, c2, c3]
          exact ret_pure (by simp) k
      · simp [c1, c2] at k
        simp [A20, c1, c2]
        exact ret_pure (by simp) k
    · simp [c1] at k
      simp [A20, c1]
      exact ret_pure (by simp) k
end Go.Proofs.YtjljhmeadfejhaaDoor
