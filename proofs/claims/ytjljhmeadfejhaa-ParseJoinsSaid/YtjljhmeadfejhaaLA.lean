/- PROVED: for every two texts ParseJoins returns true and what came in reads as it did (ParseJoinsSaid). Conditions: none but those of the statement. -/
import Derived.Test.YtjljhmeadfejhaaML
import Derived.Test.YtjljhmeadfejhaaSA
set_option maxRecDepth 100000
set_option linter.unusedVariables false
namespace Go.Proofs.Ytjljhmeadfejhaa.parseJoins
open Go.Eng Go.ChangeShapes Go.WideShapes Go.ChangeAt Go.RowKit

theorem lifted (os : Os) (started : os.Started) (H : Type) (enc : TypeId × Value → H) :
    ReturnsInHanded {} Try.checked os 9 .any (Rows.parseJoinsSpec.pre6 enc Try.prog Try.f9 Rows.parseJoinsRow.domain false) (Rows.parseJoinsSpec.post enc Try.prog Try.f9 false true false false) := by
  refine returnsInHanded_of_change_shaped (C := Try.checked) own started (by kernel_rfl) Try.func9
    (ChangeSpec.witness6 (enc := enc) (C := Try.checked) false ⟨#[], #[.string ⟨#[]⟩, .string ⟨#[]⟩], []⟩ 8 (by kernel_rfl) (by kernel_rfl) (by kernel_rfl) (by kernel_rfl)) ?_
  intro W base args ds gs before hval0 hW hcnd hsz hsh _
  have hval : ∀ (j : Nat) t v, Try.f9.params[j]? = some t → args[j]? = some v → Value.okWide Try.prog W .any base t v := hval0
  have hW' := hW
  obtain ⟨p, q, hA0, hV, rfl, hfz, hnd⟩ := hW
  have hA : DataW.TrodAll enc Try.prog W 0 (fun _ => true) true Try.f9.params.toList args.toList ds p := hA0
  have hs : (DataW.weightsEach Try.prog (Try.f9.params.toList ++ Rows.parseJoinsSpec.plain.varTypes Try.prog) (ds ++ gs)).all (· ≤ reachBytes) = true := hsz
  rw [Try.params9] at hA hval hs
  obtain ⟨v0, vs0, d0, ds0, p0, q0, hargs, rfl, rfl, h0, r0⟩ := trodAll_cons hA
  obtain ⟨v1, vs1, d1, ds1, p1, q1, rfl, rfl, rfl, h1, r1⟩ := trodAll_cons r0
  obtain ⟨rfl, rfl, rfl⟩ := trodAll_nil r1
  obtain rfl : args = #[v0, v1] := by cases args; simp_all
  obtain ⟨rfl, rfl⟩ := trodVars_none hV
  have hs' : ∀ x ∈ DataW.weightsEach Try.prog ([9, 9] ++ Rows.parseJoinsSpec.plain.varTypes Try.prog) ([d0, d1] ++ []), x ≤ reachBytes := fun x hx => of_decide_eq_true ((List.all_eq_true.1 hs) x hx)
  simp only [List.cons_append, List.nil_append, DataW.weightsEach, List.mem_append] at hs'
  obtain ⟨n0, x0, s0, k0⟩ := arg_reads (φ := fun _ => ⟨0, 0⟩) okTys (t := 9) rfl (hval 0 9 v0 rfl rfl) h0 (fun x hx => hs' x (.inl hx))
  obtain ⟨n1, x1, s1, k1⟩ := arg_reads (φ := fun _ => ⟨0, 0⟩) okTys (t := 9) rfl (hval 1 9 v1 rfl rfl) h1 (fun x hx => hs' x (.inr (.inl hx)))
  obtain ⟨s, e0, hs0⟩ := shp_strR s0
  rw [e0] at k0
  obtain ⟨t, e1, hs1⟩ := shp_strR s1
  rw [e1] at k1
  have lt0 : ∀ x ∈ p0, x.block < W.heap.size := by obtain ⟨m, hm⟩ := h0; exact DataW.trod_lt m _ _ _ hm
  have lt1 : ∀ x ∈ p1, x.block < W.heap.size := by obtain ⟨m, hm⟩ := h1; exact DataW.trod_lt m _ _ _ hm
  clear hA0 hval0
  obtain ⟨mv, hmv⟩ := Try.laysM144.s1_3 W hsh
  refine (calls_law (P := intPg Try.prog 0 .i64) (intEnv_old hmv) (rels2 k0 k1) (fun w => Try.call9 _ w) (w9 hs0 hs1 rfl)).mono fun e W' ⟨he, bel⟩ => ?_
  subst he
  exact ⟨_, rfl, _, _, _, [], _, [], hW', trodAll_mk1 (shut_bool Try.underlying4 _), (trodAll_cons_mk (Below.trod laidOut (by kernel_rfl) (of_decide_eq_true (by kernel_rfl)) h0 bel lt0) (trodAll_cons_mk (Below.trod laidOut (by kernel_rfl) (of_decide_eq_true (by kernel_rfl)) h1 bel lt1) trodAll_mk0)), rfl, bel.frame _, fun h => by cases h⟩

theorem proved : Rows.ParseJoinsSaid :=
  OpenClaim.holds_of_wide 9 Try.f9 rfl rfl rfl rfl rfl rfl rfl ⟨rfl, rfl, rfl, rfl, rfl⟩ rfl rfl rfl rfl rfl (by kernel_rfl) Try.func9 (by kernel_rfl)
    (of_decide_eq_true (by kernel_rfl)) (by unfold Func.isWrapper; first | (rw [if_pos (by decide +kernel)]; kernel_rfl) | (rw [if_neg (by decide +kernel)]; exact ⟨rfl, rfl⟩))
    (fun os started H enc _ => lifted os started H enc)
#print axioms proved
end Go.Proofs.Ytjljhmeadfejhaa.parseJoins
