/- Field, Method, Twice of names and of the reference, about the engine. -/
import Derived.Test.YtjljhmeadfejhaaT4
set_option maxRecDepth 100000
set_option linter.unusedVariables false
set_option linter.unusedSimpArgs false
namespace Go.Proofs.Ytjljhmeadfejhaa
open Go.Eng

/-- At i there is a table of the declarations. -/
def IsTab (H : List AO) (i : Nat) (ds : List Decl) : Prop := ∃ j y, H[i]? = some (.box [.map j, y]) ∧ H[j]? = some (.map (mp ds ds.length)) ∧ ∀ q, iaA_ 1 y q = iaA_ 1 (.rsl (kinds ds)) q
theorem isTab_app (pre post : List AO) (ds : List Decl) : IsTab (pre ++ (ofT pre.length ds ds.length ++ post)) (pre.length + 1) ds := by
  obtain ⟨y, h1, h2, h3⟩ := ofH_box pre ds ds.length
  rw [ofH_eq] at h1 h2
  refine ⟨pre.length, y, ?_, ?_, fun q => by rw [h3, List.take_length]⟩
  · rw [← List.append_assoc, List.getElem?_append_left (List.getElem?_eq_some_iff.1 h1).1]; exact h1
  · rw [← List.append_assoc, List.getElem?_append_left (List.getElem?_eq_some_iff.1 h2).1]; exact h2
theorem w12t {H : List AO} {i : Nat} {s : ByteArray} {ds : List Decl} {K : ARes → List AO → Prop} (T : IsTab H i ds) (k : K (.ok (fndR s ds)) H) : W 12 [.ptr i 0, .str s] H K := by
  obtain ⟨j, y, h1, h2, h3⟩ := T
  refine w12 h1 h2 (find_mp s ds) (fun x hx => ?_) ?_
  · cases hf : fnd s ds <;> rw [hf] at hx <;> simp at hx
    exact ⟨_, hx.symm⟩
  · simpa [fndR] using k
theorem w14t {H : List AO} {i : Nat} {s : ByteArray} {ds : List Decl} {K : ARes → List AO → Prop} (T : IsTab H i ds) (k : K (.ok (.int .i64 (kindR s ds))) H) : W 14 [.ptr i 0, .str s] H K := by
  obtain ⟨j, y, h1, h2, h3⟩ := T
  exact w14 h1 h2 (find_mp s ds) (funext h3) k
theorem w11t {h : List AO} {ds : List Decl} {K : ARes → List AO → Prop} (hl : ds.length < 2199023255552) (k : K (.ok (.ptr (h.length + 1) 0)) (h ++ ofT h.length ds ds.length)) : W 11 [.rsl (ds.map Decl.av)] h K :=
  w11 hl (by rw [ofH_eq]; exact k)

/-- The first place of a tag. -/
def fldAt (tag : Int) : List Fld → Option Nat
  | [] => none
  | f :: l => if f.tag = tag then some 0 else (fldAt tag l).map (· + 1)
theorem fldAt_step {tag : Int} {l : List Fld} {i : Nat} {f : Fld} (hi : l[i]? = some f) (e : fldAt tag l = (fldAt tag (l.drop i)).map (· + i)) :
    (f.tag = tag → fldAt tag l = some i) ∧ (f.tag ≠ tag → fldAt tag l = (fldAt tag (l.drop (i + 1))).map (· + (i + 1))) := by
  have hlt := (List.getElem?_eq_some_iff.1 hi).1
  have hf : l[i] = f := by rw [List.getElem?_eq_getElem hlt] at hi; injection hi
  rw [List.drop_eq_getElem_cons hlt, hf] at e
  simp only [fldAt] at e
  constructor
  · intro h; rw [if_pos h] at e; simpa using e
  · intro h
    rw [if_neg h] at e
    rw [e]
    cases fldAt tag (l.drop (i + 1)) <;> simp
    omega

theorem w18 {h : List AO} {d : Decl} {tag : Int} {K : ARes → List AO → Prop} (hl : d.fields.length < most) (k : K (.ok (.tup [.int .i64 (((fldAt tag d.fields).getD 0 : Nat) : Int), .bool (fldAt tag d.fields).isSome])) h) :
    W 18 [.agg [.int .i64 d.kind, .str d.name, .rsl (d.fields.map Fld.av), .rsl (d.methods.map Mth.av), .int .i64 d.e], .int .i64 tag] h K := by
  simp only [most] at hl
  refine W_of mixed c18 (by simp [A18]) ?_
  simp [A18]
  refine lp_ind (ι := Nat) (fun i => i ≤ d.fields.length ∧ fldAt tag d.fields = (fldAt tag (d.fields.drop i)).map (· + i)) (fun i => d.fields.length - i)
    (fun i => [(1, .int .i64 tag), (2, .ptr h.length 0), (9, .int .i64 (d.fields.length : Int)), (10, .int .i64 (i : Int))])
    (fun i => h ++ [.box [.int .i64 d.kind, .str d.name, .rsl (d.fields.map Fld.av), .rsl (d.methods.map Mth.av), .int .i64 d.e]]) ?_ 0 ⟨by omega, by simp⟩
  intro i ⟨hi, hf⟩ ih
  have hw : IntKind.i64.wrap ((i : Int) + 1) = ((i + 1 : Nat) : Int) := by rw [wrap_i64 _ (by omega) (by omega)]; omega
  by_cases hlt : i < d.fields.length
  · obtain ⟨s1, s2⟩ := fldAt_step (List.getElem?_eq_getElem hlt) hf
    by_cases hn : d.fields[i].tag = tag
    · simp [A18_l0, hlt, Fld.av, hn]
      refine ret_pure (by simp) ?_
      rw [s1 hn] at k
      exact k
    · simp [A18_l0, hlt, Fld.av, hn, hw]
      exact ih (i + 1) ⟨by omega, s2 hn⟩ (by omega)
  · have : d.fields.drop i = [] := List.drop_eq_nil_of_le (by omega)
    rw [this] at hf
    simp [A18_l0, A18_r0, hlt]
    refine ret_pure (by simp) ?_
    simp [fldAt] at hf
    rw [hf] at k
    exact k
theorem w19 {h : List AO} {d : Decl} {tag : Int} {K : ARes → List AO → Prop} (hl : d.fields.length < most) (k : K (.ok (.int .i64 (pl (fldAt tag d.fields)))) h) :
    W 19 [.agg [.int .i64 d.kind, .str d.name, .rsl (d.fields.map Fld.av), .rsl (d.methods.map Mth.av), .int .i64 d.e], .int .i64 tag] h K := by
  simp only [most] at hl
  refine W_of mixed c19 (by simp [A19]) ?_
  simp [A19]
  refine lp_ind (ι := Nat) (fun i => i ≤ d.fields.length ∧ fldAt tag d.fields = (fldAt tag (d.fields.drop i)).map (· + i)) (fun i => d.fields.length - i)
    (fun i => [(1, .int .i64 tag), (2, .ptr h.length 0), (5, .int .i64 (i : Int))])
    (fun i => h ++ [.box [.int .i64 d.kind, .str d.name, .rsl (d.fields.map Fld.av), .rsl (d.methods.map Mth.av), .int .i64 d.e]]) ?_ 0 ⟨by omega, by simp⟩
  intro i ⟨hi, hf⟩ ih
  have hw : IntKind.i64.wrap ((i : Int) + 1) = ((i + 1 : Nat) : Int) := by rw [wrap_i64 _ (by omega) (by omega)]; omega
  by_cases hlt : i < d.fields.length
  · obtain ⟨s1, s2⟩ := fldAt_step (List.getElem?_eq_getElem hlt) hf
    by_cases hn : d.fields[i].tag = tag
    · simp [A19_l0, hlt, Fld.av, hn]
      refine ret_pure (by simp) ?_
      rw [s1 hn] at k
      exact k
    · simp [A19_l0, hlt, Fld.av, hn, hw]
      exact ih (i + 1) ⟨by omega, s2 hn⟩ (by omega)
  · have : d.fields.drop i = [] := List.drop_eq_nil_of_le (by omega)
    rw [this] at hf
    simp [A19_l0, A19_r0, hlt]
    refine ret_pure (by simp) ?_
    simp [fldAt] at hf
    rw [hf] at k
    exact k

theorem w22 {h : List AO} {ds : List Decl} {K : ARes → List AO → Prop} (hl : ds.length < 2199023255552) (k : K (.ok (.int .i64 (twice ds))) h) : W 22 [.rsl (ds.map Decl.av)] h K := by
  refine W_of mixed c22 (by simp [A22]) ?_
  simp [A22]
  refine lp_ind (ι := Nat) (fun i => i ≤ ds.length ∧ ∀ j, j < i → good ds j = true) (fun i => ds.length - i) (fun i => [(0, .rsl (ds.map Decl.av)), (3, .int .i64 (i : Int))]) (fun i => h) ?_ 0 ⟨by omega, fun j hj => by omega⟩
  intro i ⟨hi, hg⟩ ih
  have hw : IntKind.i64.wrap ((i : Int) + 1) = ((i + 1 : Nat) : Int) := by rw [wrap_i64 _ (by omega) (by omega)]; omega
  by_cases hlt : i < ds.length
  · simp [A22_l0, hlt, Decl.av]
    refine w13 (by omega) ?_
    obtain ⟨q, hq, hqi⟩ := fnd_le hlt
    by_cases he : q = i
    · subst he
      simp [hq, pl, hw]
      refine ih (q + 1) ⟨by omega, fun j hj => ?_⟩ (by omega)
      by_cases hjq : j = q
      · subst hjq; simp [good, hlt, hq]
      · exact hg j (by omega)
    · have hne : q < i := by omega
      simp [hq, pl, hne]
      rw [twice_at hlt hg (by simp [good, hlt, hq, he])] at k
      exact .inl k
  · have : i = ds.length := by omega
    subst this
    simp [A22_l0, A22_r0]
    rw [twice_none hg] at k
    exact .inl k

/-- The method of names. -/
def mthAt (svc m : ByteArray) (ds : List Decl) : Option Mth := match fnd svc ds with
  | some i => match ds[i]? with
    | some d => if d.kind = 4 then d.methods.find? (fun x => decide (x.name = m)) else none
    | none => none
  | none => none
def noMth : Mth := ⟨0, ⟨#[]⟩, ⟨#[]⟩, ⟨#[]⟩, false⟩
def mthR (o : Option Mth) : AV := .tup [(o.getD noMth).av, .bool o.isSome]
theorem find_step {m : ByteArray} {l : List Mth} {i : Nat} (hi : i < l.length) (e : l.find? (fun x => decide (x.name = m)) = (l.drop i).find? (fun x => decide (x.name = m))) :
    (l[i].name = m → l.find? (fun x => decide (x.name = m)) = some l[i]) ∧ (l[i].name ≠ m → l.find? (fun x => decide (x.name = m)) = (l.drop (i + 1)).find? (fun x => decide (x.name = m))) := by
  rw [List.drop_eq_getElem_cons hi, List.find?_cons] at e
  constructor
  · intro h; simp [h] at e; exact e
  · intro h; simp [h] at e; exact e

theorem w21 {h : List AO} {ds : List Decl} {svc m : ByteArray} {K : ARes → List AO → Prop} (hl : ds.length < 2199023255552) (hok : ∀ d ∈ ds, d.ok) (k : K (.ok (mthR (mthAt svc m ds))) h) : W 21 [.rsl (ds.map Decl.av), .str svc, .str m] h K := by
  refine W_of mixed c21 (by simp [A21]) ?_
  simp [A21]
  refine w13 (by omega) ?_
  cases hf : fnd svc ds with
  | none =>
    simp [pl, fillA]
    refine ret_pure (by simp) ?_
    simp [mthAt, hf, mthR, noMth, Mth.av] at k
    exact k
  | some q =>
    have hq := fnd_lt hf
    by_cases hk : ds[q].kind = 4
    · simp [pl, hq, Decl.av, hk]
      have hlen : ds[q].methods.length < most := (hok _ (List.getElem_mem hq)).2.2.2.1
      simp only [most] at hlen
      have ka : mthAt svc m ds = ds[q].methods.find? (fun x => decide (x.name = m)) := by simp [mthAt, hf, hq, hk]
      rw [ka] at k
      refine lp_ind (ι := Nat) (fun i => i ≤ ds[q].methods.length ∧ ds[q].methods.find? (fun x => decide (x.name = m)) = (ds[q].methods.drop i).find? (fun x => decide (x.name = m))) (fun i => ds[q].methods.length - i)
        (fun i => [(0, .rsl (ds.map Decl.av)), (2, .str m), (6, .ptr h.length 0), (8, .int .i64 (q : Int)), (9, .int .i64 (i : Int))])
        (fun i => h ++ [.box [.int .i64 0, .str ⟨#[]⟩, .str ⟨#[]⟩, .str ⟨#[]⟩, .bool false]]) ?_ 0 ⟨by omega, by simp⟩
      intro i ⟨hi, hfi⟩ ih
      have hw : IntKind.i64.wrap ((i : Int) + 1) = ((i + 1 : Nat) : Int) := by rw [wrap_i64 _ (by omega) (by omega)]; omega
      by_cases hlt : i < ds[q].methods.length
      · obtain ⟨s1, s2⟩ := find_step hlt hfi
        by_cases hn : ds[q].methods[i].name = m
        · simp [A21_l0, hq, hlt, Decl.av, Mth.av, hn]
          refine ret_pure (by simp) ?_
          rw [s1 hn] at k
          simp [mthR, Mth.av, hn] at k
          exact k
        · simp [A21_l0, hq, hlt, Decl.av, Mth.av, hn, hw]
          exact ih (i + 1) ⟨by omega, s2 hn⟩ (by omega)
      · have : ds[q].methods.drop i = [] := List.drop_eq_nil_of_le (by omega)
        rw [this] at hfi
        simp [A21_l0, A21_r0, hq, hlt, Decl.av, fillA]
        refine ret_pure (by simp) ?_
        simp at hfi
        rw [List.find?_eq_none.2 (by simpa using hfi)] at k
        simp [mthR, noMth, Mth.av] at k
        exact k
    · simp [pl, hq, Decl.av, hk, fillA]
      refine ret_pure (by simp) ?_
      simp [mthAt, hf, hq, hk, mthR, noMth, Mth.av] at k
      exact k
end Go.Proofs.Ytjljhmeadfejhaa
