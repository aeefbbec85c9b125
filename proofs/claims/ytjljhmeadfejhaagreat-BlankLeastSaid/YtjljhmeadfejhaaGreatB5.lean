/- Whether a value is of a declaration, by the document, about the engine. -/
import Derived.Test.YtjljhmeadfejhaaGreatB4
set_option maxRecDepth 100000
set_option linter.unusedVariables false
set_option linter.unusedSimpArgs false
namespace Go.Proofs.YtjljhmeadfejhaaGreat
open Go.Eng
/-- What the rows of a schema are, that may be told of. -/
structure Rowed (ds : List Decl) : Prop where
  len : ds.length < 1099511627776
  ok : ∀ d ∈ ds, d.ok
  dist : ∀ s, (fldsOf ds s).Pairwise fun a b => a.tag ≠ b.tag
  low : ∀ s, ∀ f ∈ fldsOf ds s, 0 ≤ f.tag
  few : ∀ s, (fldsOf ds s).length ≤ 30
theorem fldsOf_ok {ds : List Decl} (hok : ∀ d ∈ ds, d.ok) {s : ByteArray} {f : Fld} (hf : f ∈ fldsOf ds s) : f.ok := by
  unfold fldsOf at hf
  split at hf
  · simp at hf
  · rename_i n h
    have hlt := fnd_lt h
    simp [hlt] at hf
    exact (hok _ (List.getElem_mem hlt)).2.2.2.2.2.1 f hf
theorem w59k {h : List AO} {ds : List Decl} {s : ByteArray} {K : ARes → List AO → Prop} (hl : ds.length < 1099511627776) (k : K (.ok (.int .i64 (kindR s ds))) h) : W 59 [.rsl (ds.map Decl.av), .str s] h K :=
  w59 (by omega) k
theorem w151 {ds : List Decl} (R : Rowed ds) {rec : Ty → Val → Int} {t : Ty} {v : Val} (hok : v.ok) (hw : v.well) (each : ∀ u ∈ v.items, ∀ (t : Ty), t.ok → ∀ (h : List AO) (K : ARes → List AO → Prop), K (.ok (.int .i64 (rec t u))) h → W 100 [.rsl (ds.map Decl.av), targ t, .agg (vcells u)] h K)
    {h : List AO} {K : ARes → List AO → Prop} (k : K (.ok (.int .i64 (namedR rec ds t.name v))) h) : W 151 [.rsl (ds.map Decl.av), targ t, .agg (vcells v)] h K := by
  obtain ⟨_, _, _, htl, _, hil, hitems⟩ := Val.parts hok
  obtain ⟨⟨w9, w10⟩, _⟩ := (Val.well_iff v).1 hw
  simp only [most] at htl hil
  refine W_of mixed c151 (by simp [A151]) ?_
  simp [A151]
  refine w59k R.len ?_
  unfold namedR at k
  obtain ⟨fs, hfs⟩ : ∃ fs, fs = fldsOf ds t.name := ⟨_, rfl⟩
  rw [← hfs] at k
  -- the loop on tags
  have loop : ∀ (kk : Int), kk = 1 ∨ kk = 2 → v.tags.length = v.items.length → (if tagsE rec fs v.tags v.items = 0 then (if kk = 1 ∧ missE fs v.tags = true then K (.ok (.int .i64 12)) h else K (.ok (.int .i64 0)) h) else K (.ok (.int .i64 (tagsE rec fs v.tags v.items))) h) →
      LP ⟨intPg Tryz.prog 0 .i64, h, [.t 6], K⟩ [0, 4, 5, 7, 11] A151_l0 [KI.blk 0, KI.seq A151_r1] [(0, .rsl (ds.map Decl.av)), (4, .ptr h.length 0), (5, .ptr (h.length + 1) 0), (7, .int .i64 kk), (11, .int .i64 0)]
        (h ++ [.box [.int .i64 t.kind, .str t.name, .rsl (t.of.map Ty.av)], .box (vcells v)]) := by
    intro kk hkk hlen kc
    refine lp_indE (ι := Nat) (fun i => i ≤ v.tags.length ∧ tagsE rec fs v.tags v.items = tagsE rec fs (v.tags.drop i) (v.items.drop i)) (fun i => v.tags.length - i)
      (fun i => [(0, .rsl (ds.map Decl.av)), (4, .ptr h.length 0), (5, .ptr (h.length + 1) 0), (7, .int .i64 kk), (11, .int .i64 (i : Int))]) (fun _ => h ++ [.box [.int .i64 t.kind, .str t.name, .rsl (t.of.map Ty.av)], .box (vcells v)]) ?_ 0 ⟨by simp, by simp⟩ rfl rfl
    rintro i ⟨hi, hr⟩ ih
    have hwi := wrap_succ (i := i) (by omega)
    by_cases hlt : i < v.tags.length
    · have hlt2 : i < v.items.length := by omega
      rw [List.drop_eq_getElem_cons hlt, List.drop_eq_getElem_cons hlt2, tagsE] at hr
      simp [uf A151_l0.eq_1, hlt]
      refine R_regX ?_
      simp [hlt, intA]
      refine ⟨_, _, w119 R.len R.ok ⟨rfl, rfl⟩, ?_⟩
      rw [← hfs]
      unfold rowR
      cases hf : fs.find? fun f => decide (f.tag = v.tags[i]) with
      | none =>
        rw [hf] at hr
        simp at hr
        rw [hr] at kc
        simp at kc
        simp
        refine ⟨?_, ?_⟩
        · intro p hp o' Fi Fk Fk' a1 a2 a3 a4
          simp at hp
          rcases hp with rfl | rfl | rfl
          all_goals
            simp at a1 a2 a3 a4
            subst a1 a2 a3 a4
            simp [Go.Eng.valOf]
        · exact ret_pure (by simp) kc
      | some f =>
        rw [hf] at hr
        simp at hr
        have hfm := List.mem_of_find?_eq_some hf
        have hfk : f.ty.ok := (fldsOf_ok R.ok (by rw [← hfs]; exact hfm)).2.2
        have hmem := List.getElem_mem hlt2
        simp [Fld.av]
        refine ⟨?_, ?_⟩
        · intro p hp o' Fi Fk Fk' a1 a2 a3 a4
          simp at hp
          rcases hp with rfl | rfl | rfl
          all_goals
            simp at a1 a2 a3 a4
            subst a1 a2 a3 a4
            simp [Go.Eng.valOf]
        · simp [hlt2, Val.av, Val.cells_eq]
          refine ⟨_, _, each _ hmem f.ty hfk _ _ ⟨rfl, rfl⟩, ?_⟩
          cases he : decide (rec f.ty v.items[i] = 0) with
          | true =>
            have he' : rec f.ty v.items[i] = 0 := by simpa using he
            rw [if_pos he'] at hr
            simp [he', hwi]
            refine lp_cut 2 ?_ (by simp; rfl) ?_
            · simp [AO.bel, belL, AV.bel]
            · simpa using ih (i + 1) ⟨by omega, hr⟩ (by omega)
          | false =>
            have he' : ¬ rec f.ty v.items[i] = 0 := by simpa using he
            rw [if_neg he'] at hr
            rw [hr, if_neg he'] at kc
            simp [he']
            exact ret_pure (by simp) kc
    · have : i = v.tags.length := by omega
      subst this
      rw [List.drop_eq_nil_of_le (Nat.le_refl _)] at hr
      have hr0 : tagsE rec fs v.tags v.items = 0 := by rw [hr]; simp [tagsE]
      rw [if_pos hr0] at kc
      simp [uf A151_l0.eq_1, uf A151_r1.eq_1]
      refine w159 R.len R.ok (R.dist _) (R.low _) (R.few _) (fun l hll hm => ?_)
      rw [← hfs] at hm hll
      simp
      have h0 : missE fs v.tags = l.any fun f => !decide (f.ty.kind = 9) && !decide (f.tag ∈ v.tags) := by
        unfold missE
        apply Bool.eq_iff_iff.2
        simp only [List.any_eq_true]
        exact exists_congr fun f => by rw [hm]
      by_cases hl0 : l = []
      · subst hl0
        have hmiss : missE fs v.tags = false := by rw [h0]; rfl
        rw [if_neg (by simp [hmiss])] at kc
        refine lp_step ?_
        simp [uf A151_l1.eq_1, uf A151_r0.eq_1, rowV]
        exact ret_pure (by simp) kc
      · have hne : l.map Fld.av ≠ [] := by simpa using hl0
        have hll' : l.length < 1000 := by have := R.few t.name; rw [← hfs] at this; omega
        rw [rowV_ne hne]
        refine lp_indE (ι := Nat) (fun i => i ≤ l.length ∧ (kk = 1 → missE fs v.tags = (l.drop i).any fun f => !decide (f.ty.kind = 9) && !decide (f.tag ∈ v.tags))) (fun i => l.length - i)
          (fun i => [(5, .ptr (h.length + 1) 0), (7, .int .i64 kk), (15, .rsl (l.map Fld.av)), (16, .int .i64 (i : Int))]) (fun _ => h ++ [.box [.int .i64 t.kind, .str t.name, .rsl (t.of.map Ty.av)], .box (vcells v)]) ?_ 0 ⟨by simp, fun _ => by simpa using h0⟩ rfl rfl
        rintro i ⟨hi, hr⟩ ih
        have hwi := wrap_succ (i := i) (by omega)
        by_cases hlt : i < l.length
        · rcases hkk with rfl | rfl
          · have hr := hr rfl
            rw [List.drop_eq_getElem_cons hlt, List.any_cons] at hr
            by_cases h9 : l[i].ty.kind = 9
            · simp [h9] at hr
              simp [uf A151_l1.eq_1, hlt, Fld.av, h9, hwi]
              exact ih (i + 1) ⟨by omega, fun _ => by simpa using hr⟩ (by omega)
            · simp [uf A151_l1.eq_1, hlt, Fld.av, h9]
              refine ⟨_, _, w189 (v := v) hok ⟨rfl, rfl⟩, ?_⟩
              by_cases hin : l[i].tag ∈ v.tags
              · simp [h9, hin] at hr
                simp [hin, hwi]
                exact ih (i + 1) ⟨by omega, fun _ => by simpa using hr⟩ (by omega)
              · simp [h9, hin] at hr
                rw [if_pos ⟨rfl, hr⟩] at kc
                simp [hin]
                exact ret_pure (by simp) kc
          · rw [if_neg (by simp)] at kc
            simp [uf A151_l1.eq_1, uf A151_r0.eq_1, hlt]
            exact ret_pure (by simp) kc
        · have hnot : ¬ (kk = 1 ∧ missE fs v.tags = true) := by
            rintro ⟨e1, e2⟩
            rw [hr e1, List.drop_eq_nil_of_le (by omega)] at e2
            cases e2
          rw [if_neg hnot] at kc
          simp [uf A151_l1.eq_1, uf A151_r0.eq_1, hlt]
          exact ret_pure (by simp) kc
  by_cases k3 : kindR t.name ds = 3
  · rw [if_pos k3] at k
    by_cases e6 : v.kind = 6
    · rw [if_pos e6] at k
      simp [k3, e6]
      refine w119 R.len R.ok ?_
      rw [← hfs]
      unfold rowR
      cases hf : fs.find? fun f => decide (f.tag = v.num) with
      | none =>
        rw [hf] at k
        simp
        exact ret_pure (by simp) k
      | some f =>
        rw [hf] at k
        simp [Fld.av]
        exact ret_pure (by simp) k
    · rw [if_neg e6] at k
      simp [k3, e6]
      exact ret_pure (by simp) k
  rw [if_neg k3] at k
  by_cases k1 : kindR t.name ds = 1
  · rw [if_pos k1] at k
    by_cases e9 : v.kind = 9
    · rw [if_pos e9] at k
      simp [k1, e9]
      refine loop 1 (.inl rfl) (w9 e9) ?_
      by_cases a : tagsE rec fs v.tags v.items = 0
      · rw [if_pos a] at k ⊢
        by_cases b : missE fs v.tags = true
        · rw [if_pos b] at k
          rw [if_pos ⟨rfl, b⟩]; exact k
        · rw [if_neg b] at k
          rw [if_neg fun e => b e.2]; exact k
      · rw [if_neg a] at k ⊢; exact k
    · rw [if_neg e9] at k
      simp [k1, e9]
      exact ret_pure (by simp) k
  rw [if_neg k1] at k
  by_cases k2 : kindR t.name ds = 2
  · rw [if_pos k2] at k
    by_cases e10 : v.kind = 10
    · rw [if_pos e10] at k
      simp [k2, e10]
      refine loop 2 (.inr rfl) (by have := w10 e10; omega) ?_
      by_cases a : tagsE rec fs v.tags v.items = 0
      · rw [if_pos a, if_neg fun e => absurd e.1 (by decide)]
        rw [a] at k; exact k
      · rw [if_neg a]; exact k
    · rw [if_neg e10] at k
      simp [k2, e10]
      exact ret_pure (by simp) k
  rw [if_neg k2] at k
  by_cases c1 : kindR t.name ds < 1
  · simp [c1]
    exact ret_pure (by simp) k
  · have c2 : 3 < kindR t.name ds := by omega
    simp [c1, c2]
    exact ret_pure (by simp) k
end Go.Proofs.YtjljhmeadfejhaaGreat
