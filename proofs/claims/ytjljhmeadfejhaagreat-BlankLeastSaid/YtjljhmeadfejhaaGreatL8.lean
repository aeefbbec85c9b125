/- PROVED: no value of a struct is less deep than its blank one: for every schema, name and value BlankLeast returns true and what came in reads as it did (BlankLeastSaid). Conditions: none but those of the statement. -/
import Derived.Test.YtjljhmeadfejhaaGreatB14
import Derived.Test.YtjljhmeadfejhaaGreatS1
set_option maxRecDepth 100000
set_option linter.unusedVariables false
namespace Go.Proofs.YtjljhmeadfejhaaGreat.blankLeast
open Go.Eng Go.ChangeShapes Go.WideShapes Go.ChangeAt Go.RowKit

theorem lifted (os : Os) (started : os.Started) (H : Type) (enc : TypeId × Value → H) :
    ReturnsInHanded {} Tryz.checked os 5 .any (Rows.blankLeastSpec.pre6 enc Tryz.prog Tryz.f5 Rows.blankLeastRow.domain false) (Rows.blankLeastSpec.post enc Tryz.prog Tryz.f5 false true false false) := by
  refine returnsInHanded_of_change_shaped (C := Tryz.checked) own started (by kernel_rfl) Tryz.func5
    (ChangeSpec.witness6 (enc := enc) (C := Tryz.checked) false ⟨#[], #[.slice none 0 0, .string ⟨#[]⟩, .agg #[.int .i64 0, .int .i64 0, .string ⟨#[]⟩, .slice none 0 0, .slice none 0 0]], []⟩ 8 (by kernel_rfl) (by kernel_rfl) (by kernel_rfl) (by kernel_rfl)) ?_
  intro W base args ds gs before hval0 hW hcnd hsz hsh _
  have hval : ∀ (j : Nat) t v, Tryz.f5.params[j]? = some t → args[j]? = some v → Value.okWide Tryz.prog W .any base t v := hval0
  have hW' := hW
  obtain ⟨p, q, hA0, hV, rfl, hfz, hnd⟩ := hW
  have hA : DataW.TrodAll enc Tryz.prog W 0 (fun _ => true) true Tryz.f5.params.toList args.toList ds p := hA0
  have hs : (DataW.weightsEach Tryz.prog (Tryz.f5.params.toList ++ Rows.blankLeastSpec.plain.varTypes Tryz.prog) (ds ++ gs)).all (· ≤ reachBytes) = true := hsz
  rw [Tryz.params5] at hA hval hs
  obtain ⟨v0, vs0, d0, ds0, p0, q0, hargs, rfl, rfl, h0, r0⟩ := trodAll_cons hA
  obtain ⟨v1, vs1, d1, ds1, p1, q1, rfl, rfl, rfl, h1, r1⟩ := trodAll_cons r0
  obtain ⟨v2, vs2, d2, ds2, p2, q2, rfl, rfl, rfl, h2, r2⟩ := trodAll_cons r1
  obtain ⟨rfl, rfl, rfl⟩ := trodAll_nil r2
  obtain rfl : args = #[v0, v1, v2] := by cases args; simp_all
  obtain ⟨rfl, rfl⟩ := trodVars_none hV
  have hs' : ∀ x ∈ DataW.weightsEach Tryz.prog ([29, 9, 47] ++ Rows.blankLeastSpec.plain.varTypes Tryz.prog) ([d0, d1, d2] ++ []), x ≤ reachBytes := fun x hx => of_decide_eq_true ((List.all_eq_true.1 hs) x hx)
  simp only [List.cons_append, List.nil_append, DataW.weightsEach, List.mem_append] at hs'
  obtain ⟨n0, x0, s0, k0⟩ := arg_reads (φ := fun _ => ⟨0, 0⟩) okTysV (t := 29) rfl (hval 0 29 v0 rfl rfl) h0 (fun x hx => hs' x (.inl hx))
  obtain ⟨n1, x1, s1, k1⟩ := arg_reads (φ := fun _ => ⟨0, 0⟩) okTysV (t := 9) rfl (hval 1 9 v1 rfl rfl) h1 (fun x hx => hs' x (.inr (.inl hx)))
  obtain ⟨n2, x2, s2, k2⟩ := arg_reads (φ := fun _ => ⟨0, 0⟩) okTysV (t := 47) rfl (hval 2 47 v2 rfl rfl) h2 (fun x hx => hs' x (.inr (.inr (.inl hx))))
  obtain ⟨l,  e0,  hl,  hok⟩ := shp_decls s0
  rw [e0] at k0
  obtain ⟨s,  e1,  hsz⟩ := shp_strR s1
  rw [e1] at k1
  obtain ⟨v,  e2,  hv⟩ := shp_value s2
  rw [e2] at k2
  have lt0 : ∀ x ∈ p0, x.block < W.heap.size := by obtain ⟨m, hm⟩ := h0; exact DataW.trod_lt m _ _ _ hm
  have lt1 : ∀ x ∈ p1, x.block < W.heap.size := by obtain ⟨m, hm⟩ := h1; exact DataW.trod_lt m _ _ _ hm
  have lt2 : ∀ x ∈ p2, x.block < W.heap.size := by obtain ⟨m, hm⟩ := h2; exact DataW.trod_lt m _ _ _ hm
  clear hA0 hval0
  obtain ⟨mv, hmv⟩ := Tryz.laysM144.s1_3 W hsh
  refine (calls_law (P := intPg Tryz.prog 0 .i64) (intEnv_old hmv) (rels3 k0 k1 k2) (fun w => Tryz.call5 _ w) (w5 hl hok hsz hv (fun _ => rfl))).mono fun e W' ⟨he, bel⟩ => ?_
  subst he
  exact ⟨_, rfl, _, _, _, [], _, [], hW', trodAll_mk1 (shut_bool Tryz.underlying4 _), (trodAll_cons_mk (Below.trod laidOut (by kernel_rfl) (of_decide_eq_true (by kernel_rfl)) h0 bel lt0) (trodAll_cons_mk (Below.trod laidOut (by kernel_rfl) (of_decide_eq_true (by kernel_rfl)) h1 bel lt1) (trodAll_cons_mk (Below.trod laidOut (by kernel_rfl) (of_decide_eq_true (by kernel_rfl)) h2 bel lt2) trodAll_mk0))), rfl, bel.frame _, fun h => by cases h⟩

theorem proved : Rows.BlankLeastSaid :=
  OpenClaim.holds_of_wide 5 Tryz.f5 rfl rfl rfl rfl rfl rfl rfl ⟨rfl, rfl, rfl, rfl, rfl⟩ rfl rfl rfl rfl rfl (by kernel_rfl) Tryz.func5 (by kernel_rfl)
    (of_decide_eq_true (by kernel_rfl)) (by unfold Func.isWrapper; first | (rw [if_pos (by decide +kernel)]; kernel_rfl) | (rw [if_neg (by decide +kernel)]; exact ⟨rfl, rfl⟩))
    (fun os started H enc _ => lifted os started H enc)
#print axioms proved
end Go.Proofs.YtjljhmeadfejhaaGreat.blankLeast
