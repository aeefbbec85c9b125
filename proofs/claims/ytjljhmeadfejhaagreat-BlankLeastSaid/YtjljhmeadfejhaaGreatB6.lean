/- Whether a value is of a type, by the document, about the engine: the whole. -/
import Derived.Test.YtjljhmeadfejhaaGreatB5
set_option maxRecDepth 100000
set_option linter.unusedVariables false
set_option linter.unusedSimpArgs false
namespace Go.Proofs.YtjljhmeadfejhaaGreat
open Go.Eng
theorem Ty.lt_of {t u : Ty} (h : u ∈ t.of) : SizeOf.sizeOf u < SizeOf.sizeOf t := Ty.lt_of_mem h
theorem w100 {ds : List Decl} (R : Rowed ds) : ∀ (n : Nat) (v : Val), SizeOf.sizeOf v ≤ n → v.ok → v.well → ∀ (m : Nat) (t : Ty), SizeOf.sizeOf t ≤ m → t.ok → ∀ (h : List AO) (K : ARes → List AO → Prop), K (.ok (.int .i64 (innV ds n t v))) h →
    W 100 [.rsl (ds.map Decl.av), targ t, .agg (vcells v)] h K := by
  intro n
  induction n with
  | zero => intro v hv; cases v; simp at hv
  | succ n IH =>
    intro v hv hok hwl m
    obtain ⟨_, _, _, htl, _, hil, hitems⟩ := Val.parts hok
    have hwi := ((Val.well_iff v).1 hwl).2
    simp only [most] at hil
    induction m with
    | zero => intro t ht; cases t; simp at ht
    | succ m IHm =>
      intro t ht hto h K k
      have hoks : ∀ u ∈ t.of, u.ok := by cases t; exact (Ty.okL_iff _).1 hto.2.2.2
      have htlen : t.of.length < most := by cases t; exact hto.2.2.1
      simp only [most] at htlen
      have each : ∀ u ∈ v.items, ∀ (t : Ty), t.ok → ∀ (h : List AO) (K : ARes → List AO → Prop), K (.ok (.int .i64 (innV ds n t u))) h → W 100 [.rsl (ds.map Decl.av), targ t, .agg (vcells u)] h K :=
        fun u hu t ht h K k => IH u (by have := Val.lt_of_mem hu; omega) (hitems u hu) (hwi u hu) _ t (Nat.le_refl _) ht h K k
      show W 100 [.rsl (ds.map Decl.av), targ t, .agg (vcells v)] h K
      have k : K (.ok (.int .i64 (innT (innV ds n) ds t v))) h := k
      rw [innT_eq] at k
      refine W_of mixed c100 (by simp [A100]) ?_
      by_cases hb : t.kind = 1 ∨ t.kind = 2 ∨ t.kind = 3 ∨ t.kind = 4 ∨ t.kind = 5
      · rw [if_neg (by omega), if_pos hb] at k
        rcases hb with hk | hk | hk | hk | hk
        all_goals
          rw [hk] at k
          simp [A100, hk]
          refine R_regE (by decide) ?_
          simp
          by_cases e : v.kind = t.kind
          · rw [hk] at e
            rw [if_pos e] at k
            simp [e]
            exact ret_pure (by simp) k
          · rw [hk] at e
            rw [if_neg e] at k
            simp [e]
            exact ret_pure (by simp) k
      · obtain ⟨b1, b2, b3, b4, b5⟩ : ¬ t.kind = 1 ∧ ¬ t.kind = 2 ∧ ¬ t.kind = 3 ∧ ¬ t.kind = 4 ∧ ¬ t.kind = 5 := by omega
        by_cases h6 : t.kind = 6
        · rw [if_neg (by omega), if_neg hb, if_pos h6] at k
          simp [A100, h6]
          refine R_regE (by decide) ?_
          simp
          have := w151 (t := t) R hok hwl each (h := h ++ [.box [.int .i64 6, .str t.name, .rsl (t.of.map Ty.av)], .box (vcells v)]) (K := fun r h2 => r = .ok (.int .i64 (namedR (innV ds n) ds t.name v)) ∧ h2 = h ++ [.box [.int .i64 6, .str t.name, .rsl (t.of.map Ty.av)], .box (vcells v)]) ⟨rfl, rfl⟩
          rw [targ, h6] at this
          refine WC.mono this ?_
          rintro r h2 ⟨rfl, rfl⟩
          simp
          exact ret_pure (by simp) k
        · by_cases h7 : 7 ≤ t.kind
          · by_cases hof : ofK t.kind = (t.of.length : Int)
            · rw [if_neg (by simp [hof]), if_neg hb, if_neg h6] at k
              have h9 : t.kind ≤ 9 := by
                by_cases h : t.kind ≤ 9
                · exact h
                · unfold ofK at hof
                  rw [if_neg (by omega), if_neg (by omega), if_pos (by omega)] at hof
                  omega
              by_cases k9 : t.kind = 9
              · rw [if_neg (by omega), if_pos k9] at k
                have hl1 : t.of.length = 1 := by rw [k9] at hof; simp [ofK] at hof; omega
                obtain ⟨u, hu⟩ : ∃ u, t.of = [u] := by
                  match ht : t.of, hl1 with
                  | [u], _ => exact ⟨u, rfl⟩
                have hum : u ∈ t.of := by rw [hu]; simp
                rw [hu] at k
                rw [innTL] at k
                simp [A100, k9, hu]
                refine R_regE (by decide) ?_
                simp
                refine ⟨_, w150 ⟨rfl, rfl⟩, ?_⟩
                simp [ofK, Ty.av, Ty.cells_eq]
                refine ⟨_, _, IHm u (by have := Ty.lt_of hum; omega) (hoks u hum) _ _ ⟨rfl, rfl⟩, ?_⟩
                try simp
                exact ret_pure (by simp) k
              · have k78 : t.kind = 7 ∨ t.kind = 8 := by omega
                rw [if_pos k78] at k
                have hpos : 0 < t.of.length := by
                  rcases k78 with e | e <;> rw [e] at hof <;> simp [ofK] at hof <;> omega
                have loop : v.kind = t.kind → LP ⟨intPg Tryz.prog 0 .i64, h, [.t 6], K⟩ [0, 4, 5, 7] A100_l0 [KI.blk 1, KI.seq A100_r0, KI.blk 0, KI.seq A100_r1] [(0, .rsl (ds.map Decl.av)), (4, .ptr h.length 0), (5, .ptr (h.length + 1) 0), (7, .int .i64 0)]
                    (h ++ [.box [.int .i64 t.kind, .str t.name, .rsl (t.of.map Ty.av)], .box (vcells v)]) := by
                  intro e
                  rw [if_pos e] at k
                  refine lp_indE (ι := Nat) (fun i => i ≤ v.items.length ∧ itemsE (innV ds n) t.of 0 v.items = itemsE (innV ds n) t.of i (v.items.drop i)) (fun i => v.items.length - i)
                    (fun i => [(0, .rsl (ds.map Decl.av)), (4, .ptr h.length 0), (5, .ptr (h.length + 1) 0), (7, .int .i64 (i : Int))]) (fun _ => h ++ [.box [.int .i64 t.kind, .str t.name, .rsl (t.of.map Ty.av)], .box (vcells v)]) ?_ 0 ⟨by simp, by simp⟩ rfl rfl
                  rintro i ⟨hi, hr⟩ ih
                  have hwi2 := wrap_succ (i := i) (by omega)
                  by_cases hlt : i < v.items.length
                  · have hmod : i % t.of.length < t.of.length := Nat.mod_lt _ hpos
                    rw [List.drop_eq_getElem_cons hlt, itemsE, List.getElem?_eq_getElem hmod] at hr
                    simp only at hr
                    have hmem := List.getElem_mem hlt
                    have hne : t.of ≠ [] := fun e => by rw [e] at hpos; simp at hpos
                    obtain ⟨j, hj⟩ : ∃ j, j = i % t.of.length := ⟨_, rfl⟩
                    have htm : ((i : Int)).tmod (t.of.length : Int) = (j : Int) := by rw [hj]; rfl
                    have hmod : j < t.of.length := by rw [hj]; exact hmod
                    simp only [← hj] at hr
                    simp [uf A100_l0.eq_1, hlt, hne, htm, hmod, Ty.av, Ty.cells_eq, Val.av, Val.cells_eq]
                    refine ⟨_, _, each _ hmem t.of[j] (hoks _ (List.getElem_mem hmod)) _ _ ⟨rfl, rfl⟩, ?_⟩
                    by_cases he : innV ds n t.of[j] v.items[i] = 0
                    · rw [if_pos he] at hr
                      simp [he, hwi2]
                      exact ih (i + 1) ⟨by omega, hr⟩ (by omega)
                    · rw [if_neg he] at hr
                      rw [hr] at k
                      simp [he]
                      exact ret_pure (by simp) k
                  · have : i = v.items.length := by omega
                    subst this
                    rw [List.drop_eq_nil_of_le (Nat.le_refl _), itemsE] at hr
                    rw [hr] at k
                    simp [uf A100_l0.eq_1, uf A100_r0.eq_1]
                    exact ret_pure (by simp) k
                by_cases e : v.kind = t.kind
                · have lp := loop e
                  rcases k78 with hk | hk
                  all_goals
                    rw [hk] at lp e hof
                    simp [A100, hk]
                    refine R_regE (by decide) ?_
                    simp
                    refine ⟨_, w150 ⟨rfl, rfl⟩, ?_⟩
                    simp [hof, e]
                    exact lp
                · rw [if_neg e] at k
                  rcases k78 with hk | hk
                  all_goals
                    rw [hk] at e hof
                    simp [A100, hk]
                    refine R_regE (by decide) ?_
                    simp
                    refine ⟨_, w150 ⟨rfl, rfl⟩, ?_⟩
                    simp [hof, e]
                    exact ret_pure (by simp) k
            · rw [if_pos ⟨h7, hof⟩] at k
              simp [A100]
              refine R_regE (by decide) ?_
              simp [h7]
              refine ⟨_, w150 ⟨rfl, rfl⟩, ?_⟩
              simp [hof]
              exact ret_pure (by simp) k
          · rw [if_neg (by omega), if_neg hb, if_neg h6, if_neg (by omega), if_neg (by omega)] at k
            simp [A100]
            refine R_regE (by decide) ?_
            have n7 : ¬ t.kind = 7 := by omega
            have n8 : ¬ t.kind = 8 := by omega
            have n9 : ¬ t.kind = 9 := by omega
            simp [h7, b1, b2, b3, b4, b5, h6, n7, n8, n9, uf A100_r1.eq_1]
            exact ret_pure (by simp) k
end Go.Proofs.YtjljhmeadfejhaaGreat
