/- Types of the checker, about the engine. -/
import Derived.Test.YtjljhmeadfejhaaT13
import Derived.Test.YtjljhmeadfejhaaC2
set_option maxRecDepth 100000
set_option linter.unusedVariables false
set_option linter.unusedSimpArgs false
namespace Go.Proofs.Ytjljhmeadfejhaa
open Go.Eng
theorem w103 {h : List AO} {x : Int} {K : ARes → List AO → Prop} (k : K (.ok (.int .i64 (arM x))) h) : W 103 [.int .i64 x] h K := by
  refine W_of mixed c103 (by simp [A103]) ?_
  unfold arM at k
  by_cases c1 : x = 1
  · simp [A103, c1] at k ⊢; exact .inl k
  by_cases c2 : x = 2
  · simp [A103, c2] at k ⊢; exact .inl k
  by_cases c3 : x = 3
  · simp [A103, c3] at k ⊢; exact .inl k
  by_cases c4 : x = 4
  · simp [A103, c4] at k ⊢; exact .inl k
  by_cases c5 : x = 5
  · simp [A103, c5] at k ⊢; exact .inl k
  by_cases c6 : x = 6
  · simp [A103, c6] at k ⊢; exact .inl k
  by_cases c7 : x = 7
  · simp [A103, c7] at k ⊢; exact .inl k
  by_cases c9 : x = 9
  · simp [A103, c9] at k ⊢; exact .inl k
  by_cases c8 : x = 8
  · simp [A103, c8] at k ⊢; exact .inl k
  simp [A103, c1, c2, c3, c4, c5, c6, c7, c8, c9] at k ⊢; exact .inl k

theorem w104 {h : List AO} {c tb : Nat} {L : AV} {ds : List Decl} {t : Ty} {K : ARes → List AO → Prop} (hc : h[c]? = some (.box [L, .ptr tb 0])) (T : IsTab h tb ds) (k : K (.ok (.bool (keyM ds t))) h) :
    W 104 [.ptr c 0, .agg [.int .i64 t.kind, .str t.name, .rsl (t.of.map Ty.av)]] h K := by
  have hc' := get_app_old hc
  refine W_of mixed c104 (by simp [A104]) ?_
  unfold keyM at k
  by_cases c1 : t.kind = 1
  · simp [A104, c1] at k ⊢; exact ret_pure (by simp) k
  by_cases c2 : t.kind = 2
  · simp [A104, c2] at k ⊢; exact ret_pure (by simp) k
  by_cases c3 : t.kind = 3
  · simp [A104, c3] at k ⊢; exact ret_pure (by simp) k
  by_cases c4 : t.kind = 4
  · simp [A104, c4] at k ⊢; exact ret_pure (by simp) k
  by_cases c6 : t.kind = 6
  · simp [A104, c6, hc'] at k ⊢
    refine ⟨_, _, w14t (T.app _) ⟨rfl, rfl⟩, ?_⟩
    simp
    exact ret_pure (by simp) k
  simp [A104, c1, c2, c3, c4, c6] at k ⊢; exact ret_pure (by simp) k

theorem typML_step {ds : List Decl} {l : List Ty} {i : Nat} (hi : i < l.length) : typML ds (l.drop i) = if typM ds l[i] true = 0 then typML ds (l.drop (i + 1)) else typM ds l[i] true := by
  rw [List.drop_eq_getElem_cons hi]; rw [typML]

theorem w86 {ds : List Decl} {c tb : Nat} {L : AV} : ∀ (n : Nat) (t : Ty), SizeOf.sizeOf t ≤ n → ∀ (h : List AO) (inner : Bool) (K : ARes → List AO → Prop), h[c]? = some (.box [L, .ptr tb 0]) → IsTab h tb ds → t.ok →
    K (.ok (.int .i64 (typM ds t inner))) h → W 86 [.ptr c 0, .agg [.int .i64 t.kind, .str t.name, .rsl (t.of.map Ty.av)], .bool inner] h K := by
  intro n
  induction n with
  | zero => intro t ht; cases t; simp at ht
  | succ n IH =>
    intro t ht h inner K hc T hok k
    have hc' := get_app_old hc
    have IHm : ∀ u ∈ t.of, SizeOf.sizeOf u ≤ n := fun u hu => by have := Ty.lt_of_mem hu; omega
    cases t with
    | mk x s l =>
      obtain ⟨_, _, hlen, hokl⟩ := hok
      rw [Ty.okL_iff] at hokl
      simp only [most] at hlen
      unfold typM at k
      simp only [Ty.kind, Ty.name, Ty.of] at IHm ⊢
      refine W_of mixed c86 (by simp [A86]) ?_
      simp [A86]
      refine R_regS ?_
      simp
      refine ⟨_, w103 ⟨rfl, rfl⟩, ?_⟩
      by_cases h1 : (l.length : Int) = arM x
      · by_cases c6 : x = 6
        · rw [if_neg (by simp [h1, c6]), if_pos c6] at k
          subst c6
          simp [h1, hc']
          refine ⟨_, _, w14t (T.app _) ⟨rfl, rfl⟩, ?_⟩
          by_cases k1 : kindR s ds = 1
          · simp [k1] at k ⊢; exact ret_pure (by simp) k
          by_cases k2 : kindR s ds = 2
          · simp [k2] at k ⊢; exact ret_pure (by simp) k
          by_cases k3 : kindR s ds = 3
          · simp [k3] at k ⊢; exact ret_pure (by simp) k
          simp [k1, k2, k3, hc']
          refine ⟨_, _, w12t (T.app _) ⟨rfl, rfl⟩, ?_⟩
          cases hf : fnd s ds with
          | none => simp [fndR, hf, k1, k2, k3] at k ⊢; exact ret_pure (by simp) k
          | some i => simp [fndR, hf, k1, k2, k3] at k ⊢; exact ret_pure (by simp) k
        · by_cases hs : s = ⟨#[]⟩
          · rw [if_neg (by simp [h1, c6, hs]), if_neg c6] at k
            have loop : ∀ (h : List AO) (K : ARes → List AO → Prop), h[c]? = some (.box [L, .ptr tb 0]) → IsTab h tb ds → K (.ok (.int .i64 (typML ds l))) h →
                LP ⟨intPg Try.prog 0 .i64, h, [.t 6], K⟩ [0, 69, 70, 71] A86_l0 [.blk 2, .seq A86_r0] [(0, .ptr c 0), (69, .rsl (l.map Ty.av)), (70, .int .i64 (l.length : Int)), (71, .int .i64 0)]
                  (h ++ [.box [.int .i64 x, .str s, .rsl (l.map Ty.av)]]) := by
              intro h K hc T k
              refine lp_for l.length (fun i => typML ds l = typML ds (l.drop i)) (fun i f => setF f 71 (.int .i64 (i : Int))) (fun _ => h ++ [.box [.int .i64 x, .str s, .rsl (l.map Ty.av)]]) ?_ (by simp) (by simp) rfl
              intro i hi hs ih
              have hw := wrap_succ (i := i) (by omega)
              have hcl : c < h.length + 1 := by have := (List.getElem?_eq_some_iff.1 hc).1; omega
              simp at ih
              by_cases hlt : i < l.length
              · rw [typML_step hlt] at hs
                simp [uf A86_l0.eq_1, hlt, Ty.av, Ty.cells_eq]
                refine IH l[i] (IHm _ (List.getElem_mem hlt)) _ true _ (get_app_old hc _) (T.app _) (hokl _ (List.getElem_mem hlt)) ?_
                by_cases he : typM ds l[i] true = 0
                · simp [he, hw]
                  rw [if_pos he] at hs
                  exact lp_cutA (A := [AO.box _]) (B := [AO.box _]) rfl (by simp [AO.bel, belL, AV.bel]) (by simp [hcl]) (ih (by omega) hs)
                · simp [he]
                  refine ret_pure (by simp) ?_
                  rw [hs, if_neg he] at k; exact k
              · have : l.drop i = [] := List.drop_eq_nil_of_le (by omega)
                rw [this, typML] at hs
                simp [uf A86_l0.eq_1, uf A86_r0.eq_1, hlt]
                refine ret_pure (by simp) ?_
                rw [hs] at k; exact k
            by_cases c9 : x = 9
            · subst c9
              cases inner with
              | true =>
                simp at k
                simp [h1, hs]
                exact ret_pure (by simp) k
              | false =>
                simp at k
                simp [h1, hs]
                have := loop h K hc T k
                simpa [hs, h1] using this
            · by_cases c8 : x = 8
              · subst c8
                have hl2 : l.length = 2 := by simp [arM] at h1; omega
                have h0 : 0 < l.length := by omega
                simp at k
                simp [h1, hs, h0, hc', Ty.av, Ty.cells_eq]
                refine w104 (hc' _) (T.app _) ?_
                cases hk : keyM ds l[0] with
                | true =>
                  simp [List.getElem?_eq_getElem h0, hk] at k ⊢
                  have := loop h K hc T k
                  simpa [hs, h1, Ty.av, Ty.cells_eq] using this
                | false =>
                  simp [List.getElem?_eq_getElem h0, hk] at k ⊢
                  exact ret_pure (by simp) k
              · simp [c8, c9] at k
                simp [h1, c6, c8, c9, hs]
                have := loop h K hc T k
                simpa [hs, h1] using this
          · rw [if_pos (by simp [c6, hs])] at k
            simp [h1, c6, hs]
            exact ret_pure (by simp) k
      · rw [if_pos (.inl h1)] at k
        simp [h1]
        exact ret_pure (by simp) k
end Go.Proofs.Ytjljhmeadfejhaa
