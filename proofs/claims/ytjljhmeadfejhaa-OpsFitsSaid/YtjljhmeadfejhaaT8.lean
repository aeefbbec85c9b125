/- Which declarations are finite: one round of the reference, about the engine. -/
import Derived.Test.YtjljhmeadfejhaaT7
set_option maxRecDepth 100000
set_option linter.unusedVariables false
set_option linter.unusedSimpArgs false
namespace Go.Proofs.Ytjljhmeadfejhaa
open Go.Eng
def fineM (ds : List Decl) (known : List Bool) (t : Ty) : Bool := !decide (t.kind = 6) || match fnd t.name ds with
  | some i => known[i]?.getD false
  | none => false
def oneM (ds : List Decl) (known : List Bool) (d : Decl) : Bool :=
  decide (d.kind = 3) || decide (d.kind = 4) || (decide (d.kind = 1) && d.fields.all fun f => fineM ds known f.ty) || (decide (d.kind = 2) && d.fields.any fun f => fineM ds known f.ty)

theorem w62 {h : List AO} {ds : List Decl} {bs : List Bool} {i : Nat} {t : Ty} {K : ARes → List AO → Prop} (hl : ds.length < 2199023255552) (hi : h[i]? = some (.box (bs.map .bool))) (hn : bs.length = ds.length)
    (k : K (.ok (.bool (fineM ds bs t))) h) : W 62 [.rsl (ds.map Decl.av), .agg [.int .i64 t.kind, .str t.name, .rsl (t.of.map Ty.av)], .msl i 0 bs.length bs.length] h K := by
  have hi' : ∀ l, (h ++ l)[i]? = some (.box (bs.map .bool)) := fun l => by rw [List.getElem?_append_left (List.getElem?_eq_some_iff.1 hi).1]; exact hi
  refine W_of mixed c62 (by simp [A62]) ?_
  by_cases hk : t.kind = 6
  · simp [A62, hk]
    refine w13 (by omega) ?_
    cases hf : fnd t.name ds with
    | none =>
      simp [pl]
      refine ret_pure (by simp) ?_
      simpa [fineM, hk, hf] using k
    | some q =>
      have hq : q < bs.length := by rw [hn]; exact fnd_lt hf
      have hqe : q ≤ bs.length := by omega
      simp [pl, hq, hqe, hi']
      refine ret_pure (by simp) ?_
      simpa [fineM, hk, hf, hq] using k
  · simp [A62, hk]
    refine ret_pure (by simp) ?_
    simpa [fineM, hk] using k

/-- How many are fine. -/
def cnt (ds : List Decl) (known : List Bool) : List Fld → Nat
  | [] => 0
  | f :: l => (if fineM ds known f.ty then 1 else 0) + cnt ds known l
theorem cnt_snoc (ds : List Decl) (known : List Bool) : ∀ (l : List Fld) (f : Fld), cnt ds known (l ++ [f]) = cnt ds known l + (if fineM ds known f.ty then 1 else 0)
  | [], f => by simp [cnt]
  | g :: l, f => by simp only [List.cons_append, cnt, cnt_snoc ds known l f]; omega
theorem cnt_le (ds : List Decl) (known : List Bool) : ∀ (l : List Fld), cnt ds known l ≤ l.length
  | [] => by simp [cnt]
  | g :: l => by
    have := cnt_le ds known l
    simp only [cnt, List.length_cons]
    split <;> omega
theorem cnt_all (ds : List Decl) (known : List Bool) : ∀ (l : List Fld), (cnt ds known l = l.length) = (l.all fun f => fineM ds known f.ty)
  | [] => by simp [cnt]
  | g :: l => by
    have := cnt_all ds known l
    have h2 := cnt_le ds known l
    simp only [cnt, List.length_cons, List.all_cons]
    cases hb : fineM ds known g.ty
    · simp; omega
    · simp only [if_true, Bool.true_and, ← this]
      apply propext; omega
theorem cnt_any (ds : List Decl) (known : List Bool) : ∀ (l : List Fld), (0 < cnt ds known l) = (l.any fun f => fineM ds known f.ty)
  | [] => by simp [cnt]
  | g :: l => by
    have := cnt_any ds known l
    simp only [cnt, List.any_cons]
    cases hb : fineM ds known g.ty
    · simp only [Bool.false_eq_true, if_false, Bool.false_or, ← this]
      apply propext; omega
    · simp; omega

theorem w44 {h : List AO} {ds : List Decl} {bs : List Bool} {i : Nat} {d : Decl} {K : ARes → List AO → Prop} (hl : ds.length < 2199023255552) (hi : h[i]? = some (.box (bs.map .bool))) (hn : bs.length = ds.length) (hok : d.ok)
    (k : K (.ok (.bool (oneM ds bs d))) h) : W 44 [.rsl (ds.map Decl.av), .agg [.int .i64 d.kind, .str d.name, .rsl (d.fields.map Fld.av), .rsl (d.methods.map Mth.av), .int .i64 d.e], .msl i 0 bs.length bs.length] h K := by
  have hi' : ∀ l, (h ++ l)[i]? = some (.box (bs.map .bool)) := fun l => by rw [List.getElem?_append_left (List.getElem?_eq_some_iff.1 hi).1]; exact hi
  have hf := hok.2.2.1
  simp only [most] at hf
  refine W_of mixed c44 (by simp [A44]) ?_
  simp [A44]
  refine lp_ind (ι := Nat) (fun q => q ≤ d.fields.length) (fun q => d.fields.length - q)
    (fun q => [(0, .rsl (ds.map Decl.av)), (2, .msl i 0 bs.length bs.length), (4, .ptr h.length 0), (7, .int .i64 (cnt ds bs (d.fields.take q) : Int)), (8, .int .i64 (q : Int))])
    (fun q => h ++ [.box [.int .i64 d.kind, .str d.name, .rsl (d.fields.map Fld.av), .rsl (d.methods.map Mth.av), .int .i64 d.e]]) ?_ 0 (by omega)
  intro q hq ih
  have hw : IntKind.i64.wrap ((q : Int) + 1) = ((q + 1 : Nat) : Int) := by rw [wrap_i64 _ (by omega) (by omega)]; omega
  by_cases hlt : q < d.fields.length
  · have IH := ih (q + 1) (by omega) (by omega)
    rw [List.take_succ_eq_append_getElem hlt, cnt_snoc] at IH
    have hc := cnt_le ds bs (d.fields.take q)
    have hc' : cnt ds bs (d.fields.take q) ≤ q := by simp at hc; omega
    have hwc : IntKind.i64.wrap ((cnt ds bs (d.fields.take q) : Int) + 1) = ((cnt ds bs (d.fields.take q) + 1 : Nat) : Int) := by rw [wrap_i64 _ (by omega) (by omega)]; omega
    simp [A44_l0, hlt, Fld.av]
    refine w62 hl (hi' _) hn ?_
    cases hb : fineM ds bs d.fields[q].ty with
    | true =>
      rw [hb] at IH
      simp [hw, hwc]
      simp at IH
      exact IH
    | false =>
      rw [hb] at IH
      simp [hw]
      simp at IH
      exact IH
  · have : q = d.fields.length := by omega
    subst this
    have e1 := cnt_all ds bs d.fields
    have e2 := cnt_any ds bs d.fields
    by_cases c3 : d.kind = 3
    · simp [A44_l0, A44_r0, c3]
      refine ret_pure (by simp) ?_
      simpa [oneM, c3] using k
    · by_cases c4 : d.kind = 4
      · simp [A44_l0, A44_r0, c3, c4]
        refine ret_pure (by simp) ?_
        simpa [oneM, c3, c4] using k
      · by_cases c1 : d.kind = 1
        · by_cases ha : cnt ds bs d.fields = d.fields.length
          · have ha' : (cnt ds bs d.fields : Int) = (d.fields.length : Int) := by omega
            rw [e1] at ha
            simp [A44_l0, A44_r0, c1, ha']
            refine ret_pure (by simp) ?_
            simpa [oneM, c1, ha] using k
          · have ha' : ¬ (cnt ds bs d.fields : Int) = (d.fields.length : Int) := by omega
            rw [e1] at ha
            simp [A44_l0, A44_r0, c1, ha']
            refine ret_pure (by simp) ?_
            simpa [oneM, c1, ha] using k
        · by_cases c2 : d.kind = 2
          · by_cases ha : 0 < cnt ds bs d.fields
            · have ha' : (0 : Int) < (cnt ds bs d.fields : Int) := by omega
              have ha0 := ha
              rw [e2] at ha
              simp [A44_l0, A44_r0, c2, ha']
              refine ret_pure (by simp) ?_
              simpa [oneM, c2, ha, ha0] using k
            · have ha' : ¬ (0 : Int) < (cnt ds bs d.fields : Int) := by omega
              have ha0 := ha
              rw [e2] at ha
              simp [A44_l0, A44_r0, c2, ha']
              refine ret_pure (by simp) ?_
              simpa [oneM, c2, ha, ha0] using k
          · simp [A44_l0, A44_r0, c1, c2, c3, c4]
            refine ret_pure (by simp) ?_
            simpa [oneM, c1, c2, c3, c4] using k
end Go.Proofs.Ytjljhmeadfejhaa
