/- The document's begins, Fits, walked. -/
import Derived.Test.YtjljhmeadfejhaaV5
set_option maxRecDepth 100000
set_option linter.unusedVariables false
set_option linter.unusedSimpArgs false
namespace Go.Proofs.Ytjljhmeadfejhaa
open Go.Eng
theorem w60 {h : List AO} {ds : List Decl} {s : ByteArray} {ns : List Int} (hl : ds.length < 1099511627776) (hok : ∀ d ∈ ds, d.ok) (h57 : ∀ n ∈ ns, 1 ≤ n ∧ n ≤ 5) (hln : ns.length < 1000)
    (hn : (fldsOf ds s).Pairwise fun a b => a.tag ≠ b.tag) (h0 : ∀ f ∈ fldsOf ds s, 0 ≤ f.tag) (h30 : (fldsOf ds s).length ≤ 30) (hfo : ∀ f ∈ fldsOf ds s, f.ok) {K : ARes → List AO → Prop}
    (k : K (.ok (.bool (begR (fldsOf ds s) (ns.map tyN)))) h) : W 60 [.rsl (ds.map Decl.av), .str s, .rsl (ns.map iv)] h K := by
  refine W_of mixed c60 (by simp [A60]) ?_
  simp [A60]
  obtain ⟨fs, hfs⟩ : ∃ fs, fs = fldsOf ds s := ⟨_, rfl⟩
  rw [← hfs] at hn h0 h30 hfo k
  obtain ⟨t, ht⟩ : ∃ t, t = ns.map tyN := ⟨_, rfl⟩
  have htl : t.length = ns.length := by rw [ht]; simp
  rw [← ht] at k
  unfold begR at k
  refine lp_indE (ι := Nat) (fun i => i ≤ ns.length ∧ refL fs 0 t = refL fs i (t.drop i)) (fun i => ns.length - i)
    (fun i => [(0, .rsl (ds.map Decl.av)), (1, .str s), (2, .rsl (ns.map iv)), (7, .int .i64 (i : Int))]) (fun _ => h) ?_ 0 ⟨by simp, by simp⟩ rfl rfl
  rintro i ⟨hi, hr⟩ ih
  have hw := wrap_succ (i := i) (by omega)
  by_cases hlt : i < ns.length
  · have hlt' : i < t.length := by omega
    have ti : t[i] = tyN ns[i] := by simp [ht]
    rw [List.drop_eq_getElem_cons hlt', refL, ti] at hr
    simp [uf A60_l0.eq_1, hlt, hw]
    refine w84 hl hok ?_
    rw [← hfs]
    unfold rowR
    cases hf : fs.find? fun f => decide (f.tag = (i : Int) + 1) with
    | none =>
      rw [hf] at hr
      simp at hr
      rw [hr] at k
      simp at k
      have e : ((i + 1 : Nat) : Int) = (i : Int) + 1 := by omega
      simp [hf]
      refine R_regE (by decide) ?_
      simp
      exact ret_pure (by simp) k
    | some f =>
      rw [hf] at hr
      simp at hr
      have hfm := List.mem_of_find?_eq_some hf
      simp [hf, Fld.av]
      refine R_regE (by decide) ?_
      simp [hlt]
      refine ⟨_, w57 (h57 _ (List.getElem_mem hlt)) ⟨rfl, rfl⟩, ?_⟩
      simp
      refine ⟨_, w56 _ f.ty (Nat.le_refl _) (tyN ns[i]) _ _ (hfo f hfm).2.2 ⟨rfl, rfl⟩, ?_⟩
      cases hb : f.ty.same (tyN ns[i]) with
      | true =>
        simp [hb] at hr
        simp [hw]
        refine lp_cut 0 ?_ (by simp; rfl) ?_
        · simp
        · simpa using ih (i + 1) ⟨by omega, hr⟩ (by omega)
      | false =>
        simp [hb] at hr
        rw [hr] at k
        simp at k
        simp
        exact ret_pure (by simp) k
  · have : i = ns.length := by omega
    subst this
    rw [List.drop_eq_nil_of_le (by omega)] at hr
    simp [refL] at hr
    rw [hr, Bool.true_and, htl] at k
    simp [uf A60_l0.eq_1, uf A60_r1.eq_1]
    refine w85 hl hok (by rw [← hfs]; exact hn) (by rw [← hfs]; exact h0) (by rw [← hfs]; exact h30) (fun l hll hm => ?_)
    rw [← hfs] at hm hll
    have ha : (fs.all fun f => decide (f.tag ≤ (ns.length : Int)) || decide (f.ty.kind = 9)) = l.all fun f => decide (f.tag ≤ (ns.length : Int)) || decide (f.ty.kind = 9) := by
      apply Bool.eq_iff_iff.2
      simp only [List.all_eq_true]
      exact forall_congr' fun f => by rw [hm]
    rw [ha] at k
    simp
    obtain ⟨R0, hR0, hRl, hRi⟩ : ∃ R0 : AV, R0 = rowV (l.map Fld.av) ∧ lenA R0 = some l.length ∧ ∀ q, iaA_ 5 R0 q = iaA_ 5 (.rsl (l.map Fld.av)) q := by
      refine ⟨_, rfl, ?_, fun q => ?_⟩
      · cases l <;> simp [rowV]
      · cases l <;> simp [rowV]
    rw [← hR0]
    have lN : lenA (.rsl (ns.map iv)) = some ns.length := by simp
    refine lp_indE (ι := Nat) (fun i => i ≤ l.length ∧ (l.all fun f => decide (f.tag ≤ (ns.length : Int)) || decide (f.ty.kind = 9)) = ((l.drop i).all fun f => decide (f.tag ≤ (ns.length : Int)) || decide (f.ty.kind = 9))) (fun i => l.length - i)
      (fun i => [(2, .rsl (ns.map iv)), (10, R0), (11, .int .i64 (i : Int))]) (fun _ => h) ?_ 0 ⟨by simp, by simp⟩ rfl rfl
    rintro i ⟨hi, hr⟩ ih
    have hw := wrap_succ (i := i) (by omega)
    by_cases hlt : i < l.length
    · have hiR : iaA_ 5 R0 (i : Int) = some (.rptr l[i].av.cells) := by rw [hRi]; simp [hlt]; rfl
      rw [List.drop_eq_getElem_cons hlt, List.all_cons] at hr
      have hge : ((ns.length : Int) < l[i].tag) = ¬ (l[i].tag ≤ (ns.length : Int)) := by simp
      by_cases h1 : l[i].tag ≤ (ns.length : Int)
      · have h1' : ¬ ((ns.length : Int) < l[i].tag) := by omega
        simp [h1] at hr
        simp [uf A60_l1.eq_1, -lenA, hRl, lN, hlt, -iaA_, hiR, Fld.av, h1', hw]
        exact ih (i + 1) ⟨by omega, by simpa using hr⟩ (by omega)
      · have h1' : (ns.length : Int) < l[i].tag := by omega
        by_cases h9 : l[i].ty.kind = 9
        · simp [h1, h9] at hr
          simp [uf A60_l1.eq_1, -lenA, hRl, lN, hlt, -iaA_, hiR, Fld.av, h1', h9, hw]
          exact ih (i + 1) ⟨by omega, by simpa using hr⟩ (by omega)
        · simp [h1, h9] at hr
          have hr' : (l.all fun f => decide (f.tag ≤ (ns.length : Int)) || decide (f.ty.kind = 9)) = false := by simpa using hr
          rw [hr'] at k
          simp [uf A60_l1.eq_1, -lenA, hRl, lN, hlt, -iaA_, hiR, Fld.av, h1', h9, hw]
          first | exact .inl k | exact ret_pure (by simp) k
    · rw [List.drop_eq_nil_of_le (by omega)] at hr
      rw [hr] at k
      simp [uf A60_l1.eq_1, -lenA, hRl, hlt, uf A60_r0.eq_1]
      first | exact .inl k | exact ret_pure (by simp) k
theorem numIn_ty (op : Int) : (numIn op).map tyN = opIn op := by
  unfold numIn opIn
  repeat' split
  all_goals simp [tyN]
theorem numOut_ty (op : Int) : (numOut op).map tyN = opOut op := by
  unfold numOut opOut
  repeat' split
  all_goals simp [tyN]
theorem numIn_57 (op : Int) : (∀ n ∈ numIn op, 1 ≤ n ∧ n ≤ 5) ∧ (numIn op).length < 1000 := by
  unfold numIn
  repeat' split
  all_goals simp
theorem numOut_57 (op : Int) : (∀ n ∈ numOut op, 1 ≤ n ∧ n ≤ 5) ∧ (numOut op).length < 1000 := by
  unfold numOut
  repeat' split
  all_goals simp
theorem w15k {h : List AO} {ds : List Decl} {s : ByteArray} {K : ARes → List AO → Prop} (hl : ds.length < 1099511627776) (k : K (.ok (.int .i64 (kindR s ds))) h) : W 15 [.rsl (ds.map Decl.av), .str s] h K :=
  w15 (by omega) k
theorem w41 {h : List AO} {ds : List Decl} {m : Mth} {op : Int} (hl : ds.length < 1099511627776) (hok : ∀ d ∈ ds, d.ok)
    (hs : ∀ s, kindR s ds = 1 → (fldsOf ds s).Pairwise (fun a b => a.tag ≠ b.tag) ∧ (∀ f ∈ fldsOf ds s, 0 ≤ f.tag) ∧ (fldsOf ds s).length ≤ 30 ∧ ∀ f ∈ fldsOf ds s, f.ok) {K : ARes → List AO → Prop}
    (k : K (.ok (.int .i64 (fitsR ds m op))) h) : W 41 [.rsl (ds.map Decl.av), m.av, .int .i64 op] h K := by
  refine W_of mixed c41 (by simp [A41]) ?_
  simp [A41, Mth.av]
  by_cases hop : isOp op = true
  · have o1 : ¬ op < 1 := by unfold isOp at hop; simp at hop; omega
    have o2 : ¬ 8 < op := by unfold isOp at hop; simp at hop; omega
    simp [o1, o2]
    refine w15k hl ?_
    by_cases k1 : kindR m.inn ds = 1
    · simp [k1]
      refine w15k hl ?_
      by_cases k2 : kindR m.out ds = 1
      · obtain ⟨a1, a2, a3, a4⟩ := hs _ k1
        obtain ⟨b1, b2, b3, b4⟩ := hs _ k2
        simp [k2]
        refine R_regE (by decide) ?_
        simp
        refine ⟨_, w38 ⟨rfl, rfl⟩, ?_⟩
        simp
        refine ⟨_, w60 hl hok (numIn_57 op).1 (numIn_57 op).2 a1 a2 a3 a4 ⟨rfl, rfl⟩, ?_⟩
        rw [numIn_ty]
        cases c1 : begR (fldsOf ds m.inn) (opIn op) with
        | false =>
          have e : fitsR ds m op = 8 := by simp [fitsR, hop, k1, k2, c1]
          rw [e] at k
          simp
          exact ret_pure (by simp) k
        | true =>
          simp
          refine ⟨_, w39 ⟨rfl, rfl⟩, ?_⟩
          simp
          refine ⟨_, w60 hl hok (numOut_57 op).1 (numOut_57 op).2 b1 b2 b3 b4 ⟨rfl, rfl⟩, ?_⟩
          rw [numOut_ty]
          cases c2 : begR (fldsOf ds m.out) (opOut op) with
          | false =>
            have e : fitsR ds m op = 8 := by simp [fitsR, hop, k1, k2, c1, c2]
            rw [e] at k
            simp
            exact ret_pure (by simp) k
          | true =>
            have e : fitsR ds m op = 0 := by simp [fitsR, hop, k1, k2, c1, c2]
            rw [e] at k
            simp
            exact ret_pure (by simp) k
      · have e : fitsR ds m op = 6 := by simp [fitsR, hop, k1, k2]
        rw [e] at k
        simp [k2]
        exact ret_pure (by simp) k
    · have e : fitsR ds m op = 6 := by simp [fitsR, hop, k1]
      rw [e] at k
      simp [k1]
      exact ret_pure (by simp) k
  · have e : fitsR ds m op = 4 := by simp [fitsR, hop]
    rw [e] at k
    by_cases o1 : op < 1
    · simp [o1]
      exact ret_pure (by simp) k
    · have o2 : 8 < op := by
        unfold isOp at hop
        simp at hop
        omega
      simp [o1, o2]
      exact ret_pure (by simp) k
end Go.Proofs.Ytjljhmeadfejhaa
