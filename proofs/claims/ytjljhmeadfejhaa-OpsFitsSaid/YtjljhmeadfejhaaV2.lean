/- Operations: the program's begins, Fits, walked. -/
import Derived.Test.YtjljhmeadfejhaaV1
set_option maxRecDepth 100000
set_option linter.unusedVariables false
set_option linter.unusedSimpArgs false
namespace Go.Proofs.Ytjljhmeadfejhaa
open Go.Eng
theorem begP_step {l : List Fld} {ts : List Ty} {i : Nat} (hi : i < l.length) (hj : i < ts.length) : begP i (l.drop i) (ts.drop i) = (decide (l[i].tag = (i : Int) + 1) && sameP l[i].ty ts[i] && begP (i + 1) (l.drop (i + 1)) (ts.drop (i + 1))) := by
  rw [List.drop_eq_getElem_cons hi, List.drop_eq_getElem_cons hj, begP]
theorem begP_none {l : List Fld} {ts : List Ty} {i : Nat} (hi : l.length ≤ i) (hj : i < ts.length) : begP i (l.drop i) (ts.drop i) = false := by
  rw [List.drop_eq_nil_of_le hi, List.drop_eq_getElem_cons hj, begP]
theorem rowsOf_len {ds : List Decl} (t : Told ds) {s : ByteArray} {l : List Fld} (h : RowsOf ds s l) : l.length ≤ 30 := by
  unfold RowsOf at h
  split at h
  · rw [h]; simp
  · obtain ⟨d, h1, _, h3⟩ := h
    rw [h3.length_eq]
    exact (t.fit d (List.mem_of_getElem? h1)).1
theorem plain_nine {t : Ty} (h : Plain t) : t.kind = 9 → 0 < t.of.length := by
  rcases h with rfl | rfl | rfl | rfl | rfl <;> decide
theorem w59 {h : List AO} {di : Nat} {ds : List Decl} {s : ByteArray} {ts : List Ty} (t : Told ds) (D : Dsc h di ds) (hp : ∀ u ∈ ts, Plain u) (hl : ts.length < 1000) {K : ARes → List AO → Prop}
    (k : ∀ l H', RowsOf ds s l → ReadyD H' di ds → h.length ≤ H'.length → (∀ j, j < h.length → j ≠ di → H'[j]? = h[j]?) → K (.ok (.bool (begP 0 l ts))) H') : W 59 [.ptr di 0, .str s, .rsl (ts.map Ty.av)] h K := by
  refine W_of mixed c59 (by simp [A59]) ?_
  simp [A59]
  refine wDRows t D (fun l H' hR R hlen old => ?_)
  have hln := rowsOf_len t hR
  have k' : ∀ X, K (.ok (.bool (begP 0 l ts))) (H' ++ X) := fun X => k l (H' ++ X) hR (R.app X) (by simp; omega) (fun j hj hj' => by rw [List.getElem?_append_left (by omega)]; exact old j hj hj')
  simp
  obtain ⟨R0, hR0, hRl, hRi⟩ : ∃ R0 : AV, R0 = rowV (l.map Fld.av) ∧ lenA R0 = some l.length ∧ ∀ q, iaA_ 5 R0 q = iaA_ 5 (.rsl (l.map Fld.av)) q := by
    refine ⟨_, rfl, ?_, fun q => ?_⟩
    · cases l <;> simp [rowV]
    · cases l <;> simp [rowV]
  rw [← hR0]
  refine lp_indE (ι := Nat × List AO) (fun p => p.1 ≤ ts.length ∧ p.1 ≤ l.length ∧ begP 0 l ts = begP p.1 (l.drop p.1) (ts.drop p.1)) (fun p => ts.length - p.1)
    (fun p => [(2, .rsl (ts.map Ty.av)), (7, R0), (15, .rsl (ts.map Ty.av)), (16, .int .i64 (ts.length : Int)), (17, .int .i64 (p.1 : Int))]) (fun p => H' ++ p.2) ?_ (0, []) ⟨by simp, by simp, by simp⟩ rfl (by simp)
  rintro ⟨i, X⟩ ⟨hi, hil, hs⟩ ih
  simp only at hi hil hs ih ⊢
  have hw := wrap_succ (i := i) (by omega)
  by_cases hlt : i < ts.length
  · by_cases hlr : i < l.length
    · rw [begP_step hlr hlt] at hs
      have hne : l.map Fld.av ≠ [] := fun e => by simp at e; rw [e] at hlr; simp at hlr
      rw [rowV_ne hne] at hR0
      subst hR0
      have hge : ¬ ((l.length : Int) ≤ (i : Int)) := by omega
      have hx : ∀ b : AO, (H' ++ (X ++ [b]))[H'.length + X.length]? = some b := fun b => by simp [List.getElem?_append_right]
      by_cases htg : l[i].tag = (i : Int) + 1
      · simp [uf A59_l0.eq_1, hlt, hlr, Ty.av, Ty.cells_eq, hge, hw, Fld.av, htg, hx]
        refine ⟨_, _, w83 (a := l[i].ty) (b := ts[i]) (plain_nine (hp _ (List.getElem_mem hlt))) ⟨rfl, rfl⟩, ?_⟩
        cases hb : sameP l[i].ty ts[i] with
        | true =>
          simp [htg, hb] at hs
          simp [hw]
          have := ih (i + 1, X ++ [.box [.int .i64 ts[i].kind, .str ts[i].name, .rsl (List.map Ty.av ts[i].of)]]) ⟨by omega, by omega, hs⟩ (by simp; omega)
          simpa using this
        | false =>
          simp [htg, hb] at hs
          rw [hs] at k'
          simp
          first | exact .inl (k' _) | exact ret_pure (by simp) (k' _)
      · simp [htg] at hs
        rw [hs] at k'
        simp [uf A59_l0.eq_1, hlt, hlr, Ty.av, Ty.cells_eq, hge, hw, Fld.av, htg]
        first | exact .inl (k' _) | exact ret_pure (by simp) (k' _)
    · rw [begP_none (by omega) hlt] at hs
      rw [hs] at k'
      have hge : (l.length : Int) ≤ (i : Int) := by omega
      simp [uf A59_l0.eq_1, hlt, Ty.av, Ty.cells_eq, -lenA, hRl, hge]
      first | exact .inl (k' _) | exact ret_pure (by simp) (k' _)
  · have : i = ts.length := by omega
    subst this
    have hs' : begP 0 l ts = (l.drop ts.length).all fun r => decide (r.ty.kind = 9) := by
      rw [hs, List.drop_eq_nil_of_le (Nat.le_refl _)]
      cases l.drop ts.length <;> rfl
    obtain ⟨m, hm⟩ : ∃ m, m = l.drop ts.length := ⟨_, rfl⟩
    rw [← hm] at hs'
    have hml : m.length ≤ 30 := by rw [hm]; simp; omega
    have loop2 : LP ⟨intPg Try.prog 0 .i64, h, [.t 6], K⟩ [50, 51, 52] A59_l1 [KI.blk 2, KI.seq A59_r0] [(50, .rsl (m.map Fld.av)), (51, .int .i64 (m.length : Int)), (52, .int .i64 0)] (H' ++ X) := by
      refine lp_indE (ι := Nat × List AO) (fun p => p.1 ≤ m.length ∧ begP 0 l ts = (m.drop p.1).all fun r => decide (r.ty.kind = 9)) (fun p => m.length - p.1)
        (fun p => [(50, .rsl (m.map Fld.av)), (51, .int .i64 (m.length : Int)), (52, .int .i64 (p.1 : Int))]) (fun p => H' ++ p.2) ?_ (0, X) ⟨by simp, by simpa using hs'⟩ rfl rfl
      rintro ⟨i, X⟩ ⟨hi, hs⟩ ih
      simp only at hi hs ih ⊢
      have hw := wrap_succ (i := i) (by omega)
      by_cases hlt : i < m.length
      · rw [List.drop_eq_getElem_cons hlt, List.all_cons] at hs
        have hx : ∀ b : AO, (H' ++ (X ++ [b]))[H'.length + X.length]? = some b := fun b => by simp [List.getElem?_append_right]
        by_cases h9 : m[i].ty.kind = 9
        · simp [h9] at hs
          simp [uf A59_l1.eq_1, hlt, Fld.av, hx, h9, hw]
          have := ih (i + 1, X ++ [.box [.int .i64 m[i].tag, .str m[i].name, .int .i64 9, .str m[i].ty.name, .rsl (List.map Ty.av m[i].ty.of)]]) ⟨by omega, by simpa using hs⟩ (by simp; omega)
          simpa using this
        · simp [h9] at hs
          rw [hs] at k'
          simp [uf A59_l1.eq_1, hlt, Fld.av, hx, h9, hw]
          first | exact .inl (k' _) | exact ret_pure (by simp) (k' _)
      · have e1 : m.drop i = [] := List.drop_eq_nil_of_le (by omega)
        rw [e1] at hs
        simp at hs
        rw [hs] at k'
        have hlt' : ¬ ((i : Int) < (m.length : Int)) := by omega
        simp [uf A59_l1.eq_1, uf A59_r0.eq_1, hlt]
        first | exact .inl (k' _) | exact ret_pure (by simp) (k' _)
    by_cases hne : l = []
    · subst hne
      simp at hil
      have hn : ts = [] := hil
      subst hn
      simp at hm
      subst hm
      simp [rowV] at hR0
      subst hR0
      simp [uf A59_l0.eq_1, uf A59_r1.eq_1]
      simpa using loop2
    · have hne' : l.map Fld.av ≠ [] := by simpa using hne
      rw [rowV_ne hne'] at hR0
      subst hR0
      have c5 : ∀ x : Fld, x.av.cells.length = 5 := fun x => rfl
      have e0 : List.take l.length (l.map Fld.av) = l.map Fld.av := List.take_of_length_le (by simp)
      simp [uf A59_l0.eq_1, uf A59_r1.eq_1, hil, c5, e0]
      rw [hm] at loop2
      simpa using loop2
end Go.Proofs.Ytjljhmeadfejhaa
