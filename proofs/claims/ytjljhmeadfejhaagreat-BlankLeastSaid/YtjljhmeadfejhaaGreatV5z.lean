/- The document's Rows, walked. -/
import Derived.Test.YtjljhmeadfejhaaGreatV4z
set_option maxRecDepth 100000
set_option linter.unusedVariables false
set_option linter.unusedSimpArgs false
namespace Go.Proofs.YtjljhmeadfejhaaGreat
open Go.Eng
/-! ### plain -/
def cntL (n : Int) (l : List Fld) : Nat := l.countP fun f => decide (f.tag ≤ n)
theorem cnt_step {last : Int} {f0 : Fld} : ∀ {l : List Fld}, (l.Pairwise fun a b => a.tag ≠ b.tag) → f0 ∈ l → last < f0.tag → (∀ f ∈ l, last < f.tag → f0.tag ≤ f.tag) → cntL f0.tag l = cntL last l + 1
  | [], _, h, _, _ => by simp at h
  | x :: l, hn, hm, hlt, hmin => by
    obtain ⟨h1, h2⟩ := List.pairwise_cons.1 hn
    unfold cntL
    by_cases hx : x.tag = f0.tag
    · have e : l.countP (fun f => decide (f.tag ≤ f0.tag)) = l.countP fun f => decide (f.tag ≤ last) := by
        apply List.countP_congr
        intro f hf
        have d := h1 f hf
        have m := hmin f (by simp [hf])
        simp only [decide_eq_true_eq]
        constructor
        · intro hle
          by_cases hlf : last < f.tag
          · have := m hlf; omega
          · omega
        · intro hle; omega
      rw [List.countP_cons, List.countP_cons, e]
      have a1 : x.tag ≤ f0.tag := by omega
      have a2 : ¬ x.tag ≤ last := by omega
      simp [a1, a2]
    · have hm' : f0 ∈ l := by
        rcases List.mem_cons.1 hm with rfl | h
        · exact absurd rfl hx
        · exact h
      have IH := cnt_step h2 hm' hlt (fun f hf => hmin f (by simp [hf]))
      unfold cntL at IH
      rw [List.countP_cons, List.countP_cons, IH]
      have : (x.tag ≤ f0.tag) ↔ (x.tag ≤ last) := by
        have m := hmin x (by simp)
        constructor
        · intro hle
          by_cases hlf : last < x.tag
          · have := m hlf; omega
          · omega
        · intro hle; omega
      simp only [this]
      omega
theorem cntL_all {n : Int} {l : List Fld} (h : l.length ≤ cntL n l) : ∀ f ∈ l, f.tag ≤ n := by
  have : cntL n l = l.length := Nat.le_antisymm List.countP_le_length h
  intro f hf
  have := (List.countP_eq_length.1 this) f hf
  simpa using this
/-- What the next one is, of the first j. -/
def Nxt (fs : List Fld) (last : Int) (j : Nat) : Option Nat → Prop
  | none => ∀ i (hi : i < fs.length), i < j → fs[i].tag ≤ last
  | some q => q < j ∧ ∃ hq : q < fs.length, last < fs[q].tag ∧ ∀ i (hi : i < fs.length), i < j → last < fs[i].tag → fs[q].tag ≤ fs[i].tag
structure Out (fs : List Fld) (out : List Fld) (last : Int) : Prop where
  mem : ∀ f, f ∈ out ↔ f ∈ fs ∧ f.tag ≤ last
  len : out.length = cntL last fs
  low : -1 ≤ last
theorem Out.next {fs out : List Fld} {last : Int} (o : Out fs out last) (hn : fs.Pairwise fun a b => a.tag ≠ b.tag) {q : Nat} (hx : Nxt fs last fs.length (some q)) (hq : q < fs.length) : Out fs (out ++ [fs[q]]) fs[q].tag := by
  obtain ⟨_, _, h1, h2⟩ := hx
  have mn : ∀ f ∈ fs, last < f.tag → fs[q].tag ≤ f.tag := by
    intro f hf hlt
    obtain ⟨i, hi, rfl⟩ := List.mem_iff_getElem.1 hf
    exact h2 i hi hi hlt
  refine ⟨fun f => ?_, ?_, by have := o.low; omega⟩
  · rw [List.mem_append, o.mem]
    constructor
    · rintro (⟨a, b⟩ | a)
      · exact ⟨a, by omega⟩
      · simp at a; subst a; exact ⟨List.getElem_mem hq, Int.le_refl _⟩
    · rintro ⟨a, b⟩
      by_cases hl : f.tag ≤ last
      · exact .inl ⟨a, hl⟩
      · have := mn f a (by omega)
        have he : f.tag = fs[q].tag := by omega
        have := (find_tag hn f.tag f).2 ⟨a, rfl⟩
        have h3 := (find_tag hn f.tag fs[q]).2 ⟨List.getElem_mem hq, he.symm⟩
        rw [this] at h3
        injection h3 with h3
        exact .inr (by simp [h3])
  · rw [List.length_append, o.len, cnt_step hn (List.getElem_mem hq) h1 mn]
    simp
def outH (h : List AO) : Nat → List AO
  | 0 => h
  | i + 1 => h ++ [.tok 41 5 (i + 1)]
def outV (h : List AO) : List Fld → AV
  | [] => .esl
  | f :: l => .osl h.length ((f :: l).map Fld.av)
theorem outH_pos {h : List AO} {i : Nat} (hi : 0 < i) : outH h i = h ++ [.tok 41 5 i] := by cases i <;> first | omega | rfl
theorem outV_pos {h : List AO} {l : List Fld} (hl : l ≠ []) : outV h l = .osl h.length (l.map Fld.av) := by cases l <;> first | exact absurd rfl hl | rfl
theorem ret_out {h : List AO} {o : List Fld} {K : ARes → List AO → Prop} (k : K (.ok (rowV (o.map Fld.av))) h) : retK h K (outV h o) (outH h o.length) := by
  cases o with
  | nil => exact .inl k
  | cons f o => exact .inr ⟨h.length, 3, rowV ((f :: o).map Fld.av), DropOk.app h _, by simp [out, outV, rowV], by simpa [outH] using k⟩
theorem outV_len (h : List AO) (o : List Fld) : lenA (outV h o) = some o.length := by cases o <;> simp [outV]
theorem w159 {h : List AO} {ds : List Decl} {s : ByteArray} (hl : ds.length < 1099511627776) (hok : ∀ d ∈ ds, d.ok) (hn : (fldsOf ds s).Pairwise fun a b => a.tag ≠ b.tag) (h0 : ∀ f ∈ fldsOf ds s, 0 ≤ f.tag) (h30 : (fldsOf ds s).length ≤ 30) {K : ARes → List AO → Prop}
    (k : ∀ l : List Fld, l.length ≤ (fldsOf ds s).length → (∀ f, f ∈ l ↔ f ∈ fldsOf ds s) → K (.ok (rowV (l.map Fld.av))) h) : W 159 [.rsl (ds.map Decl.av), .str s] h K := by
  refine W_of mixed c159 (by simp [A159]) ?_
  simp [A159]
  refine w99 (by omega) ?_
  cases hf : fnd s ds with
  | none =>
    have e0 : fldsOf ds s = [] := by simp [fldsOf, hf]
    have := k [] (by simp) (by simp [e0])
    simp [pl]
    exact .inl this
  | some n =>
    have hlt := fnd_lt hf
    have e0 : fldsOf ds s = ds[n].fields := by simp [fldsOf, hf, hlt]
    rw [e0] at hn h0 h30 k
    obtain ⟨fs, hfs⟩ : ∃ fs, fs = ds[n].fields := ⟨_, rfl⟩
    rw [← hfs] at hn h0 h30 k
    have dv : ds[n].av = .agg [.int .i64 ds[n].kind, .str ds[n].name, .rsl (fs.map Fld.av), .rsl (ds[n].methods.map Mth.av), .int .i64 ds[n].e] := by rw [hfs]; rfl
    simp [pl]
    refine lp_indE (ι := List Fld × Int) (fun p => Out fs p.1 p.2 ∧ p.1.length ≤ fs.length) (fun p => fs.length - p.1.length)
      (fun p => [(0, .rsl (ds.map Decl.av)), (5, outV h p.1), (6, .int .i64 (n : Int)), (7, .int .i64 p.2)]) (fun p => outH h p.1.length) ?_ ([], -1) ⟨⟨fun f => ?_, ?_, by simp⟩, by simp⟩ rfl rfl
    · rintro ⟨o, last⟩ ⟨ho, hol⟩ ih
      simp only at ho hol ih ⊢
      have hcl : o.length ≤ fs.length := hol
      have lV := outV_len h o
      have lF : lenA (.rsl (fs.map Fld.av)) = some fs.length := by simp
      by_cases hlo : o.length < fs.length
      · simp [uf A159_l1.eq_1, -lenA, lV, lF, hlt, dv, hlo]
        refine lp_indE (ι := Nat × Option Nat) (fun p => p.1 ≤ fs.length ∧ Nxt fs last p.1 p.2) (fun p => fs.length - p.1)
          (fun p => [(0, .rsl (ds.map Decl.av)), (5, outV h o), (6, .int .i64 (n : Int)), (7, .int .i64 last), (8, .int .i64 (pl p.2)), (9, .int .i64 (p.1 : Int))]) (fun p => outH h o.length) ?_ (0, none) ⟨by simp, fun i hi hi' => by simp at hi'⟩ rfl rfl
        rintro ⟨j, nx⟩ ⟨hj, hnx⟩ ihj
        simp only at hj hnx ihj ⊢
        have hw := wrap_succ (i := j) (by omega)
        by_cases hjl : j < fs.length
        · have IHj := fun nx' (h' : Nxt fs last (j + 1) nx') => ihj (j + 1, nx') ⟨by omega, h'⟩ (by simp; omega)
          by_cases ht : last < fs[j].tag
          · cases nx with
            | none =>
              have := IHj (some j) ⟨by omega, hjl, ht, fun i hi hij hlt' => by
                by_cases e : i = j
                · subst e; exact Int.le_refl _
                · have := hnx i hi (by omega); omega⟩
              simp [pl] at this
              simp [uf A159_l0.eq_1, hlt, dv, hjl, Fld.av, pl, ht, hw]
              exact this
            | some q =>
              obtain ⟨hqj, hq, hq1, hq2⟩ := hnx
              by_cases hm : fs[j].tag < fs[q].tag
              · have := IHj (some j) ⟨by omega, hjl, ht, fun i hi hij hlt' => by
                  by_cases e : i = j
                  · subst e; exact Int.le_refl _
                  · have := hq2 i hi (by omega) hlt'; omega⟩
                simp [pl] at this
                simp [uf A159_l0.eq_1, hlt, dv, hjl, hq, Fld.av, pl, ht, hm, hw]
                exact this
              · have := IHj (some q) ⟨by omega, hq, hq1, fun i hi hij hlt' => by
                  by_cases e : i = j
                  · subst e; omega
                  · exact hq2 i hi (by omega) hlt'⟩
                simp [pl] at this
                simp [uf A159_l0.eq_1, hlt, dv, hjl, hq, Fld.av, pl, ht, hm, hw]
                exact this
          · have := IHj nx (by
              cases nx with
              | none =>
                intro i hi hij
                by_cases e : i = j
                · subst e; omega
                · exact hnx i hi (by omega)
              | some q =>
                obtain ⟨hqj, hq, hq1, hq2⟩ := hnx
                refine ⟨by omega, hq, hq1, fun i hi hij hlt' => ?_⟩
                by_cases e : i = j
                · subst e; omega
                · exact hq2 i hi (by omega) hlt')
            simp at this
            simp [uf A159_l0.eq_1, hlt, dv, hjl, Fld.av, ht, hw]
            exact this
        · have : j = fs.length := by omega
          subst this
          cases nx with
          | none =>
            simp [uf A159_l0.eq_1, uf A159_r0.eq_1, hlt, dv, pl]
            refine ret_out (k o hol fun f => ?_)
            rw [ho.mem]
            refine ⟨fun a => a.1, fun a => ⟨a, ?_⟩⟩
            obtain ⟨i, hi, rfl⟩ := List.mem_iff_getElem.1 a
            exact hnx i hi hi
          | some q =>
            have hq : q < fs.length := hnx.1
            have nxt := ho.next hn hnx hq
            have IH := ih (o ++ [fs[q]], fs[q].tag) ⟨nxt, by simp; omega⟩ (by simp; omega)
            have av : fs[q].av = .agg [.int .i64 fs[q].tag, .str fs[q].name, .int .i64 fs[q].ty.kind, .str fs[q].ty.name, .rsl (fs[q].ty.of.map Ty.av)] := rfl
            have ap : appA (outH h o.length) 41 5 72 (outV h o) [.agg [.int .i64 fs[q].tag, .str fs[q].name, .int .i64 fs[q].ty.kind, .str fs[q].ty.name, .rsl (fs[q].ty.of.map Ty.av)]] = some (outV h (o ++ [fs[q]]), outH h (o.length + 1)) := by
              rw [← av]
              cases o with
              | nil => simp [appA, outV, outH, av]
              | cons f o =>
                have hb : (o.length + 1 + 1) * 72 ≤ 140737488355328 := by simp at hol; omega
                simp [appA, outV, outH, av, hb]
            simp at IH
            simp [uf A159_l0.eq_1, uf A159_r0.eq_1, hlt, dv, pl, hq, Fld.av, ap]
            exact IH
      · simp [uf A159_l1.eq_1, -lenA, lV, lF, hlt, dv, hlo, uf A159_r1.eq_1]
        refine ret_out (k o hol fun f => ?_)
        rw [ho.mem]
        exact ⟨fun a => a.1, fun a => ⟨a, cntL_all (by rw [← ho.len]; omega) f a⟩⟩
    · simp
      intro hf
      have := h0 f hf
      omega
    · simp only [cntL, List.length_nil]
      refine (List.countP_eq_zero.2 fun f hf => ?_).symm
      have := h0 f hf
      simp
      omega
end Go.Proofs.YtjljhmeadfejhaaGreat
