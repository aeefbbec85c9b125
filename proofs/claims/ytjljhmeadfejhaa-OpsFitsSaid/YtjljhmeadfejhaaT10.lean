/- check.Finite, about the engine. -/
import Derived.Test.YtjljhmeadfejhaaT9
set_option maxRecDepth 100000
set_option linter.unusedVariables false
set_option linter.unusedSimpArgs false
namespace Go.Proofs.Ytjljhmeadfejhaa
open Go.Eng
theorem get_app_old {h : List AO} {i : Nat} {o : AO} (hi : h[i]? = some o) (l : List AO) : (h ++ l)[i]? = some o := by
  rw [List.getElem?_append_left (List.getElem?_eq_some_iff.1 hi).1]; exact hi
theorem IsTab.app {h : List AO} {i : Nat} {ds : List Decl} (T : IsTab h i ds) (l : List AO) : IsTab (h ++ l) i ds := by
  obtain ⟨j, y, h1, h2, h3⟩ := T
  exact ⟨j, y, get_app_old h1 l, get_app_old h2 l, h3⟩

theorem w61 {h : List AO} {a c tb b r m : Nat} {L : AV} {bs : List Bool} {ds : List Decl} {t : Ty} {K : ARes → List AO → Prop} (ha : h[a]? = some (.box [.ptr c 0])) (hc : h[c]? = some (.box [L, .ptr tb 0])) (T : IsTab h tb ds)
    (hb : h[b]? = some (.box [.msl r 0 m m])) (hr : h[r]? = some (.box (bs.map .bool))) (hm : m = bs.length) (hn : bs.length = ds.length) (k : K (.ok (.bool (fineM ds bs t))) h) :
    W 61 [.agg [.int .i64 t.kind, .str t.name, .rsl (t.of.map Ty.av)], .ptr a 0, .ptr b 0] h K := by
  subst hm
  have ha' := get_app_old ha
  have hc' := get_app_old hc
  have hb' := get_app_old hb
  have hr' := get_app_old hr
  refine W_of mixed c61 (by simp [A61]) ?_
  simp [A61, ha', hc']
  refine ⟨_, _, w12t (T.app _) ⟨rfl, rfl⟩, ?_⟩
  simp [fndR]
  by_cases hk : t.kind = 6
  · cases hf : fnd t.name ds with
    | none =>
      simp [hk]
      refine ret_pure (by simp) ?_
      simpa [fineM, hk, hf] using k
    | some q =>
      have hq : q < bs.length := by rw [hn]; exact fnd_lt hf
      have hqe : q ≤ bs.length := by omega
      simp [hk, hb', hr', hq, hqe]
      refine ret_pure (by simp) ?_
      simpa [fineM, hk, hf, hq] using k
  · simp [hk]
    refine ret_pure (by simp) ?_
    simpa [fineM, hk] using k

theorem all_step {ds : List Decl} {bs : List Bool} {l : List Fld} {i : Nat} (hi : i < l.length) : (l.drop i).all (fun f => fineM ds bs f.ty) = (fineM ds bs l[i].ty && (l.drop (i + 1)).all fun f => fineM ds bs f.ty) := by
  rw [List.drop_eq_getElem_cons hi]; rfl
theorem any_step {ds : List Decl} {bs : List Bool} {l : List Fld} {i : Nat} (hi : i < l.length) : (l.drop i).any (fun f => fineM ds bs f.ty) = (fineM ds bs l[i].ty || (l.drop (i + 1)).any fun f => fineM ds bs f.ty) := by
  rw [List.drop_eq_getElem_cons hi]; rfl

theorem w43 {h : List AO} {c tb r m : Nat} {L : AV} {bs : List Bool} {ds : List Decl} {d : Decl} {K : ARes → List AO → Prop} (hc : h[c]? = some (.box [L, .ptr tb 0])) (T : IsTab h tb ds)
    (hr : h[r]? = some (.box (bs.map .bool))) (hm : m = bs.length) (hn : bs.length = ds.length) (hok : d.ok) (k : K (.ok (.bool (oneM ds bs d))) h) :
    W 43 [.ptr c 0, .agg [.int .i64 d.kind, .str d.name, .rsl (d.fields.map Fld.av), .rsl (d.methods.map Mth.av), .int .i64 d.e], .msl r 0 m m] h K := by
  have hf := hok.2.2.1
  simp only [most] at hf
  have hcl := (List.getElem?_eq_some_iff.1 hc).1
  have hrl := (List.getElem?_eq_some_iff.1 hr).1
  refine W_of mixed c43 (by simp [A43]) ?_
  by_cases c3 : d.kind = 3
  · simp [A43, c3]
    refine ret_pure (by simp) ?_
    simpa [oneM, c3] using k
  · by_cases c4 : d.kind = 4
    · simp [A43, c3, c4]
      refine ret_pure (by simp) ?_
      simpa [oneM, c3, c4] using k
    · by_cases c1 : d.kind = 1
      · simp [A43, c1]
        have kk : oneM ds bs d = d.fields.all fun f => fineM ds bs f.ty := by simp [oneM, c1]
        rw [kk] at k
        refine lp_ind' (ι := Nat) (fun i => i ≤ d.fields.length ∧ (d.fields.all fun f => fineM ds bs f.ty) = ((d.fields.drop i).all fun f => fineM ds bs f.ty)) (fun i => d.fields.length - i)
          (fun i => [(4, .ptr (h.length + 1) 0), (7, .fn 61 [] [.ptr h.length 0, .ptr (h.length + 2) 0]), (20, .rsl (d.fields.map Fld.av)), (21, .int .i64 (d.fields.length : Int)), (22, .int .i64 (i : Int))])
          (fun i => h ++ [.box [.ptr c 0], .box [.int .i64 1, .str d.name, .rsl (d.fields.map Fld.av), .rsl (d.methods.map Mth.av), .int .i64 d.e], .box [.msl r 0 m m]]) ?_ 0 ⟨by omega, by simp⟩ (by simp) rfl
        intro i ⟨hi, hs⟩ ih
        have hw : IntKind.i64.wrap ((i : Int) + 1) = ((i + 1 : Nat) : Int) := by rw [wrap_i64 _ (by omega) (by omega)]; omega
        by_cases hlt : i < d.fields.length
        · rw [all_step hlt] at hs
          simp [A43_l0, hlt, Fld.av]
          refine R_regS ?_
          simp
          refine ⟨_, w61 (c := c) (tb := tb) (r := r) (m := m) (L := L) (bs := bs) (ds := ds) (t := d.fields[i].ty) (by simp) (get_app_old hc _) (T.app _) (by simp) (get_app_old hr _) hm hn ⟨rfl, rfl⟩, ?_⟩
          cases hb : fineM ds bs d.fields[i].ty with
          | false =>
            rw [hb] at hs
            simp only [Bool.false_and, Bool.true_or] at hs
            simp
            refine ret_pure (by simp) ?_
            rw [hs] at k
            exact k
          | _ =>
            rw [hb] at hs
            simp only [Bool.true_and, Bool.false_or] at hs
            simp [hw]
            refine lp_cut (f' := [(4, .ptr (h.length + 1) 0), (7, .fn 61 [] [.ptr h.length 0, .ptr (h.length + 2) 0]), (20, .rsl (d.fields.map Fld.av)), (21, .int .i64 (d.fields.length : Int)), (22, .int .i64 ((i + 1 : Nat) : Int))]) 3 ?_ ?_ (ih (i + 1) ⟨by omega, hs⟩ (by omega))
            · simp [AO.bel, belL, AV.bel]
              omega
            · simp
        · have : d.fields.drop i = [] := List.drop_eq_nil_of_le (by omega)
          rw [this] at hs
          simp [A43_l0, A43_r0, hlt]
          refine ret_pure (by simp) ?_
          simp only [List.all_nil] at hs
          rw [hs] at k
          exact k
      · by_cases c2 : d.kind = 2
        · simp [A43, c2]
          have kk : oneM ds bs d = d.fields.any fun f => fineM ds bs f.ty := by simp [oneM, c2]
          rw [kk] at k
          refine lp_ind' (ι := Nat) (fun i => i ≤ d.fields.length ∧ (d.fields.any fun f => fineM ds bs f.ty) = ((d.fields.drop i).any fun f => fineM ds bs f.ty)) (fun i => d.fields.length - i)
            (fun i => [(4, .ptr (h.length + 1) 0), (7, .fn 61 [] [.ptr h.length 0, .ptr (h.length + 2) 0]), (20, .rsl (d.fields.map Fld.av)), (21, .int .i64 (d.fields.length : Int)), (22, .int .i64 (i : Int))])
            (fun i => h ++ [.box [.ptr c 0], .box [.int .i64 2, .str d.name, .rsl (d.fields.map Fld.av), .rsl (d.methods.map Mth.av), .int .i64 d.e], .box [.msl r 0 m m]]) ?_ 0 ⟨by omega, by simp⟩ (by simp) rfl
          intro i ⟨hi, hs⟩ ih
          have hw : IntKind.i64.wrap ((i : Int) + 1) = ((i + 1 : Nat) : Int) := by rw [wrap_i64 _ (by omega) (by omega)]; omega
          by_cases hlt : i < d.fields.length
          · rw [any_step hlt] at hs
            simp [A43_l0, hlt, Fld.av]
            refine R_regS ?_
            simp
            refine ⟨_, w61 (c := c) (tb := tb) (r := r) (m := m) (L := L) (bs := bs) (ds := ds) (t := d.fields[i].ty) (by simp) (get_app_old hc _) (T.app _) (by simp) (get_app_old hr _) hm hn ⟨rfl, rfl⟩, ?_⟩
            cases hb : fineM ds bs d.fields[i].ty with
            | true =>
              rw [hb] at hs
              simp only [Bool.false_and, Bool.true_or] at hs
              simp
              refine ret_pure (by simp) ?_
              rw [hs] at k
              exact k
            | _ =>
              rw [hb] at hs
              simp only [Bool.true_and, Bool.false_or] at hs
              simp [hw]
              refine lp_cut (f' := [(4, .ptr (h.length + 1) 0), (7, .fn 61 [] [.ptr h.length 0, .ptr (h.length + 2) 0]), (20, .rsl (d.fields.map Fld.av)), (21, .int .i64 (d.fields.length : Int)), (22, .int .i64 ((i + 1 : Nat) : Int))]) 3 ?_ ?_ (ih (i + 1) ⟨by omega, hs⟩ (by omega))
              · simp [AO.bel, belL, AV.bel]
                omega
              · simp
          · have : d.fields.drop i = [] := List.drop_eq_nil_of_le (by omega)
            rw [this] at hs
            simp [A43_l0, A43_r0, hlt]
            refine ret_pure (by simp) ?_
            simp only [List.any_nil] at hs
            rw [hs] at k
            exact k
        · simp [A43, A43_r1, c1, c2, c3, c4]
          refine ret_pure (by simp) ?_
          simpa [oneM, c1, c2, c3, c4] using k
end Go.Proofs.Ytjljhmeadfejhaa
