/- desc.fields, desc.decls: rows in memory of their own. -/
import Derived.Test.YtjljhmeadfejhaaGreatG0
set_option maxRecDepth 100000
set_option linter.unusedVariables false
set_option linter.unusedSimpArgs false
namespace Go.Proofs.YtjljhmeadfejhaaGreat
open Go.Eng
abbrev fldR (f : Fld) : List AV := [.int .i64 f.tag, .str f.name, .int .i64 f.ty.kind, .str f.ty.name, ofV f.ty]
def fldsH (h : List AO) (fs : List Fld) : Nat → List AO
  | 0 => h
  | i + 1 => h ++ [.box ((fs.head?.map fldR).getD []), .tok 41 5 (i + 1)]
def fldsV (h : List AO) (fs : List Fld) : Nat → AV
  | 0 => .esl
  | i + 1 => .osl (h.length + 1) ((fs.map Fld.av).take (i + 1))
theorem fldsH_pos {h : List AO} {fs : List Fld} {i : Nat} (hi : 0 < i) : fldsH h fs i = h ++ [.box ((fs.head?.map fldR).getD []), .tok 41 5 i] := by cases i <;> first | omega | rfl
theorem fldsV_pos {h : List AO} {fs : List Fld} {i : Nat} (hi : 0 < i) : fldsV h fs i = .osl (h.length + 1) ((fs.map Fld.av).take i) := by cases i <;> first | omega | rfl
theorem wFields {fs : List Fld} (hl : fs.length < 1099511627776) (hf : ∀ f ∈ fs, f.ty.few) {h : List AO} {K : ARes → List AO → Prop} (k : K (.ok (rowV (fs.map Fld.av))) h) : W 46 [.rsl (fs.map Fld.av)] h K := by
  refine W_of mixed c46 (by simp [A46]) ?_
  simp [A46]
  refine lp_ind (ι := Nat) (fun i => i ≤ fs.length) (fun i => fs.length - i) (fun i => [(3, fldsV h fs i), (6, .rsl (fs.map Fld.av)), (7, .int .i64 (fs.length : Int)), (8, .int .i64 (i : Int))]) (fun i => fldsH h fs i) ?_ 0 (by simp)
  intro i hi ih
  have hw := wrap_succ (i := i) (by omega)
  by_cases hlt : i < fs.length
  · have IHi := ih (i + 1) (by omega) (by omega)
    have hfi := hf _ (List.getElem_mem hlt)
    have h0 : ∃ u0, fs.head? = some u0 := by cases he : fs <;> simp [he] at hlt ⊢
    obtain ⟨u0, h0⟩ := h0
    have e1 : List.take (i + 1) (List.map Fld.av fs) = List.take i (List.map Fld.av fs) ++ [.agg [.int .i64 fs[i].tag, .str fs[i].name, .int .i64 fs[i].ty.kind, .str fs[i].ty.name, .rsl (fs[i].ty.of.map Ty.av)]] := by
      rw [List.take_succ_eq_append_getElem (by simpa using hlt)]
      simp [Fld.av]
    rcases Nat.eq_zero_or_pos i with rfl | hpos
    · have h00 : fs[0] = u0 := by
        have : fs[0]? = some u0 := by rw [← List.head?_eq_getElem?]; exact h0
        rw [List.getElem?_eq_getElem hlt] at this
        injection this
      simp [fldsH, fldsV, h0, ← h00] at IHi
      rw [e1] at IHi
      simp at IHi
      simp [uf A46_l0.eq_1, hlt, fldsH, fldsV, Fld.av]
      refine wOwn _ fs[0].ty (Nat.le_refl _) _ _ hfi ?_
      simp [appA, IntKind.wrap]
      exact IHi
    · have hb : (i + 1) * 72 ≤ 140737488355328 := by omega
      simp [fldsH, fldsV, h0] at IHi
      rw [e1] at IHi
      simp [uf A46_l0.eq_1, hlt, fldsH_pos hpos, fldsV_pos hpos, Fld.av]
      refine wOwn _ fs[i].ty (Nat.le_refl _) _ _ hfi ?_
      simp [appA, hw, Nat.min_eq_left hi, hb, h0]
      refine lp_cut 2 ?_ (by simp; rfl) ?_
      · simp [AO.bel, belL, AV.bel]
      · simpa using IHi
  · have : i = fs.length := by omega
    subst this
    rcases Nat.eq_zero_or_pos fs.length with hz | hpos
    · have hn : fs = [] := List.eq_nil_of_length_eq_zero hz
      subst hn
      simp [uf A46_l0.eq_1, uf A46_r0.eq_1, fldsH, fldsV]
      exact .inl k
    · have hne : fs.map Fld.av ≠ [] := fun e => by simp at e; rw [e] at hpos; simp at hpos
      simp [uf A46_l0.eq_1, uf A46_r0.eq_1, fldsH_pos hpos, fldsV_pos hpos]
      refine .inr ⟨h.length, 3, rowV (fs.map Fld.av), DropOk.app h _, by simp [out, List.take_of_length_le, rowV_ne hne], by simpa using k⟩
theorem wCloneR76 {es : List AV} (hs : ∀ x ∈ es, x.cells.length = 5) (hm : es.length ≤ maxLen) (hbig : es.length * 64 ≤ 140737488355328) {h : List AO} {K : ARes → List AO → Prop} (k : K (.ok (.rsl es)) h) : W 76 [.rsl es] h K := by
  obtain ⟨i, z, h1, h2, h3, h4, h5⟩ := info_of (P := Tryz.prog) (t := 69) (sz := 5) (bytes := 64) (by kernel_rfl)
  exact WC_cloneR (P := intPg Tryz.prog 0 .i64) Tryz.laysClone76 rfl Tryz.func76 rfl (by kernel_rfl) h1 h2 h3 h4 h5 (by decide) Tryz.sizeOf69 hs hm hbig k
/-- A declaration that is not too great. -/
def Decl.fit (d : Decl) : Prop := d.fields.length ≤ 30 ∧ d.methods.length ≤ 30 ∧ ∀ f ∈ d.fields, f.ty.few
theorem flds_few : ∀ {l : List Fld}, fldsSmall l = true → ∀ f ∈ l, f.ty.few
  | [], _, f, hf => by simp at hf
  | g :: l, h, f, hf => by
    simp only [fldsSmall, Bool.and_eq_true] at h
    rcases List.mem_cons.1 hf with rfl | hf
    · exact Ty.few_of _ _ h.1
    · exact flds_few h.2 f hf
theorem fit_of : ∀ {ds : List Decl} {i : Nat}, greatFrom i ds = false → i + ds.length ≤ max i 21 ∧ ∀ d ∈ ds, d.fit
  | [], i, _ => ⟨by simp; omega, fun d hd => by simp at hd⟩
  | d :: ds, i, h => by
    simp only [greatFrom, Bool.or_eq_false_iff] at h
    obtain ⟨h1, h2⟩ := h
    obtain ⟨k1, k2⟩ := fit_of h2
    simp only [Decl.great, Bool.or_eq_false_iff, decide_eq_false_iff_not, Bool.not_eq_false'] at h1
    obtain ⟨⟨⟨a, b⟩, c⟩, e⟩ := h1
    refine ⟨by simp only [List.length_cons]; omega, fun x hx => ?_⟩
    rcases List.mem_cons.1 hx with rfl | hx
    · exact ⟨by omega, by omega, flds_few e⟩
    · exact k2 x hx
abbrev declR (d : Decl) : List AV := [.int .i64 d.kind, .str d.name, rowV (d.fields.map Fld.av), .rsl (d.methods.map Mth.av), .int .i64 d.e]
def declsH (h : List AO) (ds : List Decl) : Nat → List AO
  | 0 => h
  | i + 1 => h ++ [.box ((ds.head?.map declR).getD []), .tok 36 5 (i + 1)]
def declsV (h : List AO) (ds : List Decl) : Nat → AV
  | 0 => .esl
  | i + 1 => .osl (h.length + 1) ((ds.map Decl.av).take (i + 1))
theorem declsH_pos {h : List AO} {ds : List Decl} {i : Nat} (hi : 0 < i) : declsH h ds i = h ++ [.box ((ds.head?.map declR).getD []), .tok 36 5 i] := by cases i <;> first | omega | rfl
theorem declsV_pos {h : List AO} {ds : List Decl} {i : Nat} (hi : 0 < i) : declsV h ds i = .osl (h.length + 1) ((ds.map Decl.av).take i) := by cases i <;> first | omega | rfl
theorem mths5 (l : List Mth) : ∀ x ∈ l.map Mth.av, x.cells.length = 5 := by
  intro x hx
  obtain ⟨m, _, rfl⟩ := List.mem_map.1 hx
  rfl
theorem wDecls {ds : List Decl} (hl : ds.length < 1099511627776) (hf : ∀ d ∈ ds, d.fit) {h : List AO} {K : ARes → List AO → Prop} (k : K (.ok (rowV (ds.map Decl.av))) h) : W 43 [.rsl (ds.map Decl.av)] h K := by
  refine W_of mixed c43 (by simp [A43]) ?_
  simp [A43]
  refine lp_ind (ι := Nat) (fun i => i ≤ ds.length) (fun i => ds.length - i) (fun i => [(3, declsV h ds i), (6, .rsl (ds.map Decl.av)), (7, .int .i64 (ds.length : Int)), (8, .int .i64 (i : Int))]) (fun i => declsH h ds i) ?_ 0 (by simp)
  intro i hi ih
  have hw := wrap_succ (i := i) (by omega)
  by_cases hlt : i < ds.length
  · have IHi := ih (i + 1) (by omega) (by omega)
    obtain ⟨f1, f2, f3⟩ := hf _ (List.getElem_mem hlt)
    have h0 : ∃ u0, ds.head? = some u0 := by cases he : ds <;> simp [he] at hlt ⊢
    obtain ⟨u0, h0⟩ := h0
    have e1 : List.take (i + 1) (List.map Decl.av ds) = List.take i (List.map Decl.av ds) ++ [.agg [.int .i64 ds[i].kind, .str ds[i].name, .rsl (ds[i].fields.map Fld.av), .rsl (ds[i].methods.map Mth.av), .int .i64 ds[i].e]] := by
      rw [List.take_succ_eq_append_getElem (by simpa using hlt)]
      simp [Decl.av]
    have m1 : (ds[i].methods.map Mth.av).length ≤ maxLen := by simp [maxLen]; omega
    have m2 : (ds[i].methods.map Mth.av).length * 64 ≤ 140737488355328 := by simp; omega
    rcases Nat.eq_zero_or_pos i with rfl | hpos
    · have h00 : ds[0] = u0 := by
        have : ds[0]? = some u0 := by rw [← List.head?_eq_getElem?]; exact h0
        rw [List.getElem?_eq_getElem hlt] at this
        injection this
      simp [declsH, declsV, h0, ← h00] at IHi
      rw [e1] at IHi
      simp at IHi
      simp [uf A43_l0.eq_1, hlt, declsH, declsV, Decl.av]
      refine wFields (by omega) f3 ?_
      simp
      refine wCloneR76 (mths5 _) m1 m2 ?_
      simp [appA, IntKind.wrap]
      exact IHi
    · have hb : (i + 1) * 80 ≤ 140737488355328 := by omega
      simp [declsH, declsV, h0] at IHi
      rw [e1] at IHi
      simp [uf A43_l0.eq_1, hlt, declsH_pos hpos, declsV_pos hpos, Decl.av]
      refine wFields (by omega) f3 ?_
      simp
      refine wCloneR76 (mths5 _) m1 m2 ?_
      simp [appA, hw, Nat.min_eq_left hi, hb, h0]
      refine lp_cut 2 ?_ (by simp; rfl) ?_
      · simp [AO.bel, belL, AV.bel]
      · simpa using IHi
  · have : i = ds.length := by omega
    subst this
    rcases Nat.eq_zero_or_pos ds.length with hz | hpos
    · have hn : ds = [] := List.eq_nil_of_length_eq_zero hz
      subst hn
      simp [uf A43_l0.eq_1, uf A43_r0.eq_1, declsH, declsV]
      exact .inl k
    · have hne : ds.map Decl.av ≠ [] := fun e => by simp at e; rw [e] at hpos; simp at hpos
      simp [uf A43_l0.eq_1, uf A43_r0.eq_1, declsH_pos hpos, declsV_pos hpos]
      refine .inr ⟨h.length, 3, rowV (ds.map Decl.av), DropOk.app h _, by simp [out, List.take_of_length_le, rowV_ne hne], by simpa using k⟩
end Go.Proofs.YtjljhmeadfejhaaGreat
