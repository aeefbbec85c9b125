/- PROVED: which types are the same (CompatTypesSaid). Conditions: none but those of the statement. -/
import Derived.Test.YtjljhmeadfejhaaGreatT2
import Derived.Test.YtjljhmeadfejhaaGreatS0
set_option maxRecDepth 100000
set_option linter.unusedVariables false
namespace Go.Proofs.YtjljhmeadfejhaaGreat.compatTypes
open Go.Eng Go.ChangeShapes Go.WideShapes Go.ChangeAt Go.RowKit

theorem lifted (os : Os) (started : os.Started) (H : Type) (enc : TypeId × Value → H) :
    ReturnsInHanded {} Tryz.checked os 7 .any (Rows.compatTypesSpec.pre6 enc Tryz.prog Tryz.f7 Rows.compatTypesRow.domain false) (Rows.compatTypesSpec.post enc Tryz.prog Tryz.f7 false true false false) := by
  refine returnsInHanded_of_change_shaped (C := Tryz.checked) own started (by kernel_rfl) Tryz.func7
    (ChangeSpec.witness6 (enc := enc) (C := Tryz.checked) false ⟨#[], #[.agg #[.int .i64 0, .string .empty, .slice none 0 0], .agg #[.int .i64 0, .string .empty, .slice none 0 0]], []⟩ 8 (by kernel_rfl) (by kernel_rfl) (by kernel_rfl) (by kernel_rfl)) ?_
  intro W base args ds gs before hval0 hW hcnd hsz hsh _
  have hval : ∀ (j : Nat) t v, Tryz.f7.params[j]? = some t → args[j]? = some v → Value.okWide Tryz.prog W .any base t v := hval0
  have hW' := hW
  obtain ⟨p, q, hA0, hV, rfl, hfz, hnd⟩ := hW
  have hA : DataW.TrodAll enc Tryz.prog W 0 (fun _ => true) true Tryz.f7.params.toList args.toList ds p := hA0
  have hs : (DataW.weightsEach Tryz.prog (Tryz.f7.params.toList ++ Rows.compatTypesSpec.plain.varTypes Tryz.prog) (ds ++ gs)).all (· ≤ reachBytes) = true := hsz
  rw [Tryz.params7] at hA hval hs
  obtain ⟨v0, vs0, d0, ds0, p0, q0, hargs, rfl, rfl, h0, r0⟩ := trodAll_cons hA
  obtain ⟨v1, vs1, d1, ds1, p1, q1, rfl, rfl, rfl, h1, r1⟩ := trodAll_cons r0
  obtain ⟨rfl, rfl, rfl⟩ := trodAll_nil r1
  obtain rfl : args = #[v0, v1] := by cases args; simp_all
  obtain ⟨rfl, rfl⟩ := trodVars_none hV
  have hs' : ∀ x ∈ DataW.weightsEach Tryz.prog ([39, 39] ++ Rows.compatTypesSpec.plain.varTypes Tryz.prog) ([d0, d1] ++ []), x ≤ reachBytes := fun x hx => of_decide_eq_true ((List.all_eq_true.1 hs) x hx)
  simp only [List.cons_append, List.nil_append, DataW.weightsEach, List.mem_append] at hs'
  obtain ⟨n0, x0, s0, k0⟩ := arg_reads (φ := fun _ => ⟨0, 0⟩) okTys (t := 39) rfl (hval 0 39 v0 rfl rfl) h0 (fun x hx => hs' x (.inl hx))
  obtain ⟨n1, x1, s1, k1⟩ := arg_reads (φ := fun _ => ⟨0, 0⟩) okTys (t := 39) rfl (hval 1 39 v1 rfl rfl) h1 (fun x hx => hs' x (.inr (.inl hx)))
  obtain ⟨a, e0, ha⟩ := shp_tyA s0
  rw [e0] at k0
  obtain ⟨b, e1, hb⟩ := shp_tyA s1
  rw [e1] at k1
  have lt0 : ∀ x ∈ p0, x.block < W.heap.size := by obtain ⟨m, hm⟩ := h0; exact DataW.trod_lt m _ _ _ hm
  have lt1 : ∀ x ∈ p1, x.block < W.heap.size := by obtain ⟨m, hm⟩ := h1; exact DataW.trod_lt m _ _ _ hm
  clear hA0 hval0
  obtain ⟨mv, hmv⟩ := Tryz.laysM144.s1_3 W hsh
  refine (calls_law (P := intPg Tryz.prog 0 .i64) (intEnv_old hmv) (rels2 k0 k1) (fun w => Tryz.call7 _ w) (w7 ha hb rfl)).mono fun e W' ⟨he, bel⟩ => ?_
  subst he
  exact ⟨_, rfl, _, _, _, [], _, [], hW', trodAll_mk1 (shut_bool Tryz.underlying4 _), (trodAll_cons_mk (Below.trod laidOut (by kernel_rfl) (of_decide_eq_true (by kernel_rfl)) h0 bel lt0) (trodAll_cons_mk (Below.trod laidOut (by kernel_rfl) (of_decide_eq_true (by kernel_rfl)) h1 bel lt1) trodAll_mk0)), rfl, bel.frame _, fun h => by cases h⟩

theorem proved : Rows.CompatTypesSaid :=
  OpenClaim.holds_of_wide 7 Tryz.f7 rfl rfl rfl rfl rfl rfl rfl ⟨rfl, rfl, rfl, rfl, rfl⟩ rfl rfl rfl rfl rfl (by kernel_rfl) Tryz.func7 (by kernel_rfl)
    (of_decide_eq_true (by kernel_rfl)) (by unfold Func.isWrapper; first | (rw [if_pos (by decide +kernel)]; kernel_rfl) | (rw [if_neg (by decide +kernel)]; exact ⟨rfl, rfl⟩))
    (fun os started H enc _ => lifted os started H enc)
#print axioms proved
end Go.Proofs.YtjljhmeadfejhaaGreat.compatTypes
