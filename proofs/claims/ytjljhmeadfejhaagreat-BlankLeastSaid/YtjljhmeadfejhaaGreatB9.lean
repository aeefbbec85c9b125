/- blank, about the engine: structs. -/
import Derived.Test.YtjljhmeadfejhaaGreatB8
set_option maxRecDepth 100000
set_option linter.unusedVariables false
set_option linter.unusedSimpArgs false
namespace Go.Proofs.YtjljhmeadfejhaaGreat
open Go.Eng
abbrev zeroB : AO := .box [.int .i64 0, .int .i64 0, .str ⟨#[]⟩, .esl, .esl]
/-- The objects of fields: nothing taken in yet, or some. -/
def fbH (h : List AO) : Option (AO × AO) → List Int → List Val → List AO
  | none, _, _ => h ++ [zeroB, .box [.int .i64 9, .int .i64 0, .str ⟨#[]⟩, .esl, .esl]]
  | some (x, y), ts, vs => h ++ [zeroB, .box [.int .i64 9, .int .i64 0, .str ⟨#[]⟩, .osl (h.length + 4) (ts.map intA), .osl (h.length + 5) (vs.map Val.av)], x, y, .tok 3 1 ts.length, .tok 47 5 vs.length]
theorem w153 {mi d : Nat} {l : List Fld} (hl : l.length ≤ 30) {o : Ty → Option Val} {h : List AO} (each : ∀ f ∈ l, ∀ (X : List AO) (K : ARes → List AO → Prop), K (.ok (outR (o f.ty))) (h ++ X) → W 101 [.ptr mi 0, targ f.ty, .int .i64 (d : Int)] (h ++ X) K)
    (hd : d < 1000) (hmi : mi < h.length) {K : ARes → List AO → Prop} (k : K (.ok (outR (fieldsA o [] [] l))) h) : W 153 [.ptr mi 0, .rsl (l.map Fld.av), .int .i64 ((d : Int) + 1)] h K := by
  have hwd : IntKind.i64.wrap (d : Int) = (d : Int) := wrap_i64 _ (by omega) (by omega)
  have n0 : ∀ {r : Option Val}, r = none → K (.ok (outR r)) h → K (.ok (.tup [.agg [.int .i64 0, .int .i64 0, .str ⟨#[]⟩, .esl, .esl], .bool false])) h := by
    rintro r rfl q; exact q
  refine W_of mixed c153 (by simp [A153]) ?_
  simp [A153, fillA, setL]
  refine lp_indE (ι := Nat × Option (AO × AO) × List Int × List Val) (fun p => p.1 ≤ l.length ∧ fieldsA o [] [] l = fieldsA o p.2.2.1 p.2.2.2 (l.drop p.1) ∧ p.2.2.1.length = p.2.2.2.length ∧ p.2.2.1.length ≤ p.1 ∧ (p.2.1 = none → p.2.2.1 = []) ∧ (∀ x y, p.2.1 = some (x, y) → p.2.2.1 ≠ [] ∧ x.bel (h.length + 6) = true ∧ y.bel (h.length + 6) = true)) (fun p => l.length - p.1)
    (fun p => [(0, .ptr mi 0), (2, .int .i64 ((d : Int) + 1)), (6, .ptr h.length 0), (8, .ptr (h.length + 1) 0), (14, .rsl (l.map Fld.av)), (15, .int .i64 (l.length : Int)), (16, .int .i64 (p.1 : Int))]) (fun p => fbH h p.2.1 p.2.2.1 p.2.2.2) ?_ (0, none, [], []) ⟨by simp, by simp, rfl, by simp, fun _ => rfl, fun x y e => by cases e⟩ rfl (by simp [fbH])
  rintro ⟨i, st, ts, vs⟩ ⟨hi, hr, hlen, hlts, hnone, hsome⟩ ih
  simp only at hi hr hlen hlts hnone hsome ih ⊢
  have hw := wrap_succ (i := i) (by omega)
  by_cases hlt : i < l.length
  · rw [List.drop_eq_getElem_cons hlt, fieldsA] at hr
    have hmem := List.getElem_mem hlt
    by_cases h9 : l[i].ty.kind = 9
    · rw [if_pos h9] at hr
      have IH := ih (i + 1, st, ts, vs) ⟨by omega, hr, hlen, by simp; omega, hnone, hsome⟩ (by simp; omega)
      cases st with
      | none =>
        simp [fbH] at IH
        simp [uf A153_l0.eq_1, hlt, Fld.av, h9, hw, fbH]
        refine lp_cut 2 ?_ (by simp [show mi < h.length + 2 by omega]; rfl) ?_
        · simp [AO.bel, belL, AV.bel]
        · simpa using IH
      | some xy =>
        obtain ⟨x, y⟩ := xy
        obtain ⟨hts, bx, by_⟩ := hsome x y rfl
        simp [fbH] at IH
        simp [uf A153_l0.eq_1, hlt, Fld.av, h9, hw, fbH]
        refine lp_cut 6 ?_ (by simp [show mi < h.length + 6 by omega]; rfl) ?_
        · simp [AO.bel, belL, AV.bel] at bx by_ ⊢
          exact ⟨bx, by_⟩
        · simpa using IH
    · rw [if_neg h9] at hr
      cases ho : o l[i].ty with
      | none =>
        rw [ho] at hr
        cases st with
        | none =>
          simp [uf A153_l0.eq_1, hlt, Fld.av, h9, hwd, fbH]
          refine each _ hmem _ _ ?_
          rw [ho]
          simp [outR, fillA, setL]
          exact .inr ⟨h.length, 3, _, DropOk.app h _, by simp [out, mapO]; rfl, by simpa using n0 hr k⟩
        | some xy =>
          obtain ⟨x, y⟩ := xy
          simp [uf A153_l0.eq_1, hlt, Fld.av, h9, hwd, fbH]
          refine each _ hmem _ _ ?_
          rw [ho]
          simp [outR, fillA, setL]
          exact .inr ⟨h.length, 3, _, DropOk.app h _, by simp [out, mapO]; rfl, by simpa using n0 hr k⟩
      | some z =>
        rw [ho] at hr
        simp only at hr
        cases st with
        | none =>
          have ht0 := hnone rfl
          subst ht0
          have hv0 : vs = [] := List.eq_nil_of_length_eq_zero (by simpa using hlen.symm)
          subst hv0
          simp [uf A153_l0.eq_1, hlt, Fld.av, h9, hwd, fbH]
          refine each _ hmem _ _ ?_
          rw [ho]
          simp [outR]
          refine R_regX ?_
          simp [appA, hw]
          refine ⟨?_, ?_⟩
          · intro p hp o' Fi Fk Fk' a1 a2 a3 a4
            simp at hp
            rcases hp with rfl | rfl
            all_goals
              simp at a1 a2 a3 a4
              subst a1 a2 a3 a4
              simp [Go.Eng.valOf]
          · have inv : ∀ x y : AO, some (AO.box [.int .i64 l[i].tag, .str l[i].name, .int .i64 l[i].ty.kind, .str l[i].ty.name, .rsl (List.map Ty.av l[i].ty.of)], AO.box (resC z)) = some (x, y) → [l[i].tag] ≠ [] ∧ x.bel (h.length + 6) = true ∧ y.bel (h.length + 6) = true := by
              intro x y e
              injection e with e
              injection e with e1 e2
              subst e1 e2
              refine ⟨by simp, by simp [AO.bel, belL, AV.bel], by simp [AO.bel, belL, AV.bel]⟩
            have IH := ih (i + 1, some (.box [.int .i64 l[i].tag, .str l[i].name, .int .i64 l[i].ty.kind, .str l[i].ty.name, .rsl (List.map Ty.av l[i].ty.of)], .box (resC z)), [l[i].tag], [z]) ⟨by omega, by simpa using hr, rfl, by simp, (fun e => by cases e), inv⟩ (by simp; omega)
            simp [fbH, intA, Val.av, Val.cells_eq] at IH
            exact IH
        | some xy =>
          obtain ⟨x, y⟩ := xy
          obtain ⟨hts, bx, by_⟩ := hsome x y rfl
          have hb1 : (ts.length + 1) * 8 ≤ 140737488355328 := by omega
          have hb2 : (vs.length + 1) * 80 ≤ 140737488355328 := by omega
          simp [uf A153_l0.eq_1, hlt, Fld.av, h9, hwd, fbH]
          refine each _ hmem _ _ ?_
          rw [ho]
          simp [outR]
          refine R_regX ?_
          simp [appA, hw, hb1, hb2]
          refine ⟨?_, ?_⟩
          · intro p hp o' Fi Fk Fk' a1 a2 a3 a4
            simp at hp
            rcases hp with rfl | rfl
            all_goals
              simp at a1 a2 a3 a4
              subst a1 a2 a3 a4
              simp [Go.Eng.valOf]
          · have inv : ∀ x' y' : AO, some (x, y) = some (x', y') → ts ++ [l[i].tag] ≠ [] ∧ x'.bel (h.length + 6) = true ∧ y'.bel (h.length + 6) = true := by
              intro x' y' e
              injection e with e
              injection e with e1 e2
              subst e1 e2
              exact ⟨by simp, bx, by_⟩
            have IH := ih (i + 1, some (x, y), ts ++ [l[i].tag], vs ++ [z]) ⟨by omega, hr, by simp [hlen], by simp; omega, (fun e => by cases e), inv⟩ (by simp; omega)
            simp [fbH, intA, Val.av, Val.cells_eq] at IH
            refine lp_cut 6 ?_ (by simp [show mi < h.length + 6 by omega]; rfl) ?_
            · simp [AO.bel, belL, AV.bel] at bx by_ ⊢
              exact ⟨bx, by_⟩
            · simpa [intA, Val.av, Val.cells_eq] using IH
  · rw [List.drop_eq_nil_of_le (by omega), fieldsA] at hr
    rw [hr] at k
    cases st with
    | none =>
      have ht0 := hnone rfl
      subst ht0
      have hv0 : vs = [] := List.eq_nil_of_length_eq_zero (by simpa using hlen.symm)
      subst hv0
      simp [uf A153_l0.eq_1, uf A153_r0.eq_1, hlt, fbH]
      exact .inr ⟨h.length, 3, _, DropOk.app h _, by simp [out, mapO]; rfl, by simpa using (show K (.ok (.tup [.agg [.int .i64 9, .int .i64 0, .str ⟨#[]⟩, .esl, .esl], .bool true])) h from k)⟩
    | some xy =>
      obtain ⟨x, y⟩ := xy
      obtain ⟨hts, bx, by_⟩ := hsome x y rfl
      have hvs : vs ≠ [] := fun e => by rw [e] at hlen; exact hts (List.eq_nil_of_length_eq_zero hlen)
      have e : outR (some (Val.mk 9 0 ⟨#[]⟩ ts vs)) = .tup [.agg [.int .i64 9, .int .i64 0, .str ⟨#[]⟩, .rsl (ts.map intA), .rsl (vs.map Val.av)], .bool true] := by
        show AV.tup [.agg [.int .i64 9, .int .i64 0, .str ⟨#[]⟩, rowV (ts.map intA), rowV (vs.map Val.av)], .bool true] = _
        rw [rowV_ne (by simpa using hts), rowV_ne (by simpa using hvs)]
      rw [e] at k
      simp [uf A153_l0.eq_1, uf A153_r0.eq_1, hlt, fbH]
      exact .inr ⟨h.length, 3, _, DropOk.app h _, by simp [out, mapO, show ¬ (h.length + 4 < h.length) by omega, show ¬ (h.length + 5 < h.length) by omega]; rfl, by simpa using k⟩
end Go.Proofs.YtjljhmeadfejhaaGreat
