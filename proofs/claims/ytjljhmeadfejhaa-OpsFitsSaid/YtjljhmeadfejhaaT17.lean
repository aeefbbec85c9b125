/- Check and CheckLess, about the engine. -/
import Derived.Test.YtjljhmeadfejhaaT16
import Derived.Test.YtjljhmeadfejhaaX0
import Derived.Test.YtjljhmeadfejhaaC3
set_option maxRecDepth 100000
set_option linter.unusedVariables false
set_option linter.unusedSimpArgs false
namespace Go.Proofs.Ytjljhmeadfejhaa
open Go.Eng
theorem declsM_step {ds : List Decl} {i : Nat} (hi : i < ds.length) : declsM ds i (ds.drop i) = if ¬ declM ds i ds[i] = 0 then (declM ds i ds[i], ds[i].e) else declsM ds (i + 1) (ds.drop (i + 1)) := by
  rw [List.drop_eq_getElem_cons hi, declsM]
theorem deepM_step {ds : List Decl} {bs : List Bool} {i : Nat} (hi : i < ds.length) (hb : i < bs.length) : deepM (bs.drop i) (ds.drop i) = if bs[i] then deepM (bs.drop (i + 1)) (ds.drop (i + 1)) else (10, ds[i].e) := by
  rw [List.drop_eq_getElem_cons hi, List.drop_eq_getElem_cons hb, deepM]
theorem deepM_nil (ds : List Decl) : deepM [] ds = (0, 0) := by cases ds <;> rfl

theorem w27 {h : List AO} {ds : List Decl} {K : ARes → List AO → Prop} (hl : ds.length < 2199023255552) (hok : ∀ d ∈ ds, d.ok) (k : K (.ok (.agg [.int .i64 (checkM ds).1, .int .i64 (checkM ds).2])) h) : W 27 [.rsl (ds.map Decl.av)] h K := by
  refine W_of mixed c27 (by simp [A27]) ?_
  simp [A27, fillA]
  refine w11t hl ?_
  obtain ⟨T0, hT0⟩ : ∃ T0, T0 = ofT (h.length + 1) ds ds.length := ⟨_, rfl⟩
  obtain ⟨b0, hb0⟩ : ∃ b0 : AO, b0 = .box [.int .i64 0, .int .i64 0] := ⟨_, rfl⟩
  have hT : ∀ l, IsTab (h ++ (b0 :: (T0 ++ l))) (h.length + 1 + 1) ds := fun l => by
    have := isTab_app (h ++ [b0]) l ds
    simpa [hT0] using this
  obtain ⟨hbel, hlen2⟩ := ofT_bel (h.length + 1) ds ds.length
  rw [← hT0] at hbel hlen2
  simp [fillA, ← hT0]
  rw [← hb0]
  have hA : (b0 :: (T0 ++ [AO.box [.rsl (ds.map Decl.av), .ptr (h.length + 1 + 1) 0]])).all (AO.bel (h.length + (b0 :: (T0 ++ [AO.box [AV.rsl (ds.map Decl.av), AV.ptr (h.length + 1 + 1) 0]])).length)) = true := by
    rw [List.all_cons, List.all_append, Bool.and_eq_true, Bool.and_eq_true]
    refine ⟨by rw [hb0]; rfl, all_bel_mono (by simp; omega) hbel, ?_⟩
    simp [AO.bel, belL, AV.bel]
    omega
  refine lp_for ds.length (fun i => declsM ds 0 ds = declsM ds i (ds.drop i)) (fun i f => setF f 16 (.int .i64 (i : Int))) (fun _ => h ++ (b0 :: (T0 ++ [.box [.rsl (ds.map Decl.av), .ptr (h.length + 1 + 1) 0]]))) ?_ (by simp) (by simp) (by simp)
  intro i hi hs ih
  have hw := wrap_succ (i := i) (by omega)
  simp at ih
  by_cases hlt : i < ds.length
  · rw [declsM_step hlt] at hs
    simp [uf A27_l0.eq_1, hlt, Decl.av]
    refine w45 (ds := ds) (tb := h.length + 1 + 1) (by simp) (hT _) hlt (hok _ (List.getElem_mem hlt)) ?_
    by_cases he : declM ds i ds[i] = 0
    · rw [if_neg (by simp [he])] at hs
      simp [he, hw]
      refine lp_cutA (A := b0 :: (T0 ++ [AO.box _])) (B := [AO.box _]) (by rw [List.cons_append, List.append_assoc]; rfl) hA (by simp) (ih (by omega) hs)
    · rw [if_pos he] at hs
      simp [he, hb0, fillA]
      refine ret_pure (by simp) ?_
      unfold checkM at k
      rw [if_pos (by rw [hs]; exact he), hs] at k
      exact k
  · have : ds.drop i = [] := List.drop_eq_nil_of_le (by omega)
    rw [this, declsM] at hs
    unfold checkM at k
    rw [if_neg (by rw [hs]; simp)] at k
    simp [uf A27_l0.eq_1, uf A27_r1.eq_1, hlt]
    refine w25 hl hok ?_
    obtain ⟨bs, hbs⟩ : ∃ bs, bs = itF ds ds.length := ⟨_, rfl⟩
    have hbl : bs.length = ds.length := by rw [hbs]; exact itF_len ds _
    rw [← hbs] at k ⊢
    simp [hbl]
    refine lp_for ds.length (fun i => deepM bs ds = deepM (bs.drop i) (ds.drop i)) (fun i f => setF f 34 (.int .i64 (i : Int))) (fun _ => h ++ (b0 :: (T0 ++ [.box [.rsl (ds.map Decl.av), .ptr (h.length + 1 + 1) 0]]))) ?_ (by simp) (by simp) (by simp)
    intro i hi hs ih
    have hw := wrap_succ (i := i) (by omega)
    simp at ih
    by_cases hlt : i < ds.length
    · have hlb : i < bs.length := by omega
      rw [deepM_step hlt hlb] at hs
      cases hb : bs[i] with
      | true =>
        rw [hb, if_pos rfl] at hs
        simp [uf A27_l1.eq_1, hlt, hlb, hb, hw]
        exact ih (by omega) hs
      | false =>
        rw [hb, if_neg (by simp)] at hs
        simp [uf A27_l1.eq_1, hlt, hlb, hb, hw, Decl.av, hb0, fillA]
        refine ret_pure (by simp) ?_
        rw [hs] at k
        exact k
    · have : bs.drop i = [] := List.drop_eq_nil_of_le (by omega)
      rw [this, deepM_nil] at hs
      simp [uf A27_l1.eq_1, uf A27_r0.eq_1, hlt, hb0, fillA]
      refine ret_pure (by simp) ?_
      rw [hs] at k
      exact k

theorem w7 {h : List AO} {ds : List Decl} {K : ARes → List AO → Prop} (hl : ds.length < 2199023255552) (hok : ∀ d ∈ ds, d.ok) (k : K (.ok (.bool true)) h) : W 7 [.rsl (ds.map Decl.av)] h K := by
  refine W_of mixed c7 (by simp [A7]) ?_
  simp [A7]
  refine w23 hl hok ?_
  cases hg : greatFrom 0 ds with
  | true =>
    simp
    refine w24 ?_
    simp
    exact .inl k
  | false =>
    rcases List.eq_nil_or_concat ds with rfl | ⟨l, d, e⟩
    · simp
      refine w24 ?_
      simp
      exact .inl k
    · rw [List.concat_eq_append] at e
      subst e
      have hl' : l.length < 2199023255552 := by simp at hl; omega
      have hokl : ∀ x ∈ l, x.ok := fun x hx => hok x (by simp [hx])
      have hw : IntKind.i64.wrap (l.length : Int) = (l.length : Int) := wrap_i64 _ (by omega) (by omega)
      have e0 : ¬ (l.length : Int) + 1 = 0 := by omega
      have em : List.map Decl.av l ++ [d.av] = (l ++ [d]).map Decl.av := by simp
      simp [e0]
      rw [em]
      refine w27 hl hok ?_
      by_cases he : (checkM (l ++ [d])).1 = 0
      · have less := check_less he
        rw [← em]
        have c5 : ∀ x : Decl, x.av.cells.length = 5 := fun _ => rfl
        have hle : (l.length : Int) ≤ (l.length : Int) + 1 := by omega
        simp [he, hw, c5, hle]
        refine w27 hl' hokl ?_
        by_cases h0 : (checkM l).1 = 0
        · simp [h0]
          refine w24 ?_
          simp
          exact .inl k
        by_cases h6 : (checkM l).1 = 6
        · simp [h6]
          refine w24 ?_
          simp
          exact .inl k
        · obtain ⟨h8, h3⟩ : (checkM l).1 = 8 ∧ d.kind = 3 := by
            rcases less with h | h | h
            · exact absurd h h0
            · exact absurd h h6
            · exact h
          have h1 : ¬ (l.length : Int) < 0 := by omega
          simp [h8, hw, Decl.av, h3]
          refine w24 ?_
          simp
          exact .inl k
      · rw [← em]
        simp [he]
        refine w24 ?_
        simp
        exact .inl k
end Go.Proofs.Ytjljhmeadfejhaa
