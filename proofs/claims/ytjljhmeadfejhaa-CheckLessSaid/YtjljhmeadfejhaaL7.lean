/- PROVED: for every slice of declarations CheckLess returns true and what came in reads as it did (CheckLessSaid). Conditions: none but those of the statement. -/
import Derived.Test.YtjljhmeadfejhaaT17
import Derived.Test.YtjljhmeadfejhaaS0
set_option maxRecDepth 100000
set_option linter.unusedVariables false
namespace Go.Proofs.Ytjljhmeadfejhaa.checkLess
open Go.Eng Go.ChangeShapes Go.WideShapes Go.ChangeAt Go.RowKit

theorem lifted (os : Os) (started : os.Started) (H : Type) (enc : TypeId × Value → H) :
    ReturnsInHanded {} Try.checked os 7 .any (Rows.checkLessSpec.pre6 enc Try.prog Try.f7 Rows.checkLessRow.domain false) (Rows.checkLessSpec.post enc Try.prog Try.f7 false true false false) := by
  refine returnsInHanded_of_change_sized (C := Try.checked) own started (by kernel_rfl) Try.func7
    (ChangeSpec.witness6 (enc := enc) (C := Try.checked) false ⟨#[], #[.slice none 0 0], []⟩ 8 (by kernel_rfl) (by kernel_rfl) (by kernel_rfl) (by kernel_rfl)) ?_
  intro W base args ds gs before hval0 hW hcnd hsz _
  have hval : ∀ (j : Nat) t v, Try.f7.params[j]? = some t → args[j]? = some v → Value.okWide Try.prog W .any base t v := hval0
  have hW' := hW
  obtain ⟨p, q, hA0, hV, rfl, hfz, hnd⟩ := hW
  have hA : DataW.TrodAll enc Try.prog W 0 (fun _ => true) true Try.f7.params.toList args.toList ds p := hA0
  have hs : (DataW.weightsEach Try.prog (Try.f7.params.toList ++ Rows.checkLessSpec.plain.varTypes Try.prog) (ds ++ gs)).all (· ≤ reachBytes) = true := hsz
  rw [Try.params7] at hA hval hs
  obtain ⟨v0, vs0, d0, ds0, p0, q0, hargs, rfl, rfl, h0, r0⟩ := trodAll_cons hA
  obtain ⟨rfl, rfl, rfl⟩ := trodAll_nil r0
  obtain rfl : args = #[v0] := by cases args; simp_all
  obtain ⟨rfl, rfl⟩ := trodVars_none hV
  have hs' : ∀ x ∈ DataW.weightsEach Try.prog ([22] ++ Rows.checkLessSpec.plain.varTypes Try.prog) ([d0] ++ []), x ≤ reachBytes := fun x hx => of_decide_eq_true ((List.all_eq_true.1 hs) x hx)
  simp only [List.cons_append, List.nil_append, DataW.weightsEach, List.mem_append] at hs'
  obtain ⟨n0, x0, s0, k0⟩ := arg_reads (φ := fun _ => ⟨0, 0⟩) okTys (t := 22) rfl (hval 0 22 v0 rfl rfl) h0 (fun x hx => hs' x (.inl hx))
  obtain ⟨l, e0, hl, hok⟩ := shp_decls s0
  rw [e0] at k0
  have lt0 : ∀ x ∈ p0, x.block < W.heap.size := by obtain ⟨m, hm⟩ := h0; exact DataW.trod_lt m _ _ _ hm
  clear hA0 hval0
  refine (calls_law (rels1 k0) (fun w => Try.call7 _ w) (w7 hl hok rfl)).mono fun e W' ⟨he, bel⟩ => ?_
  subst he
  exact ⟨_, rfl, _, _, _, [], _, [], hW', trodAll_mk1 (shut_bool Try.underlying4 _), (trodAll_cons_mk (Below.trod laidOut (by kernel_rfl) (of_decide_eq_true (by kernel_rfl)) h0 bel lt0) trodAll_mk0), rfl, bel.frame _, fun h => by cases h⟩

theorem proved : Rows.CheckLessSaid :=
  OpenClaim.holds_of_wide 7 Try.f7 rfl rfl rfl rfl rfl rfl rfl ⟨rfl, rfl, rfl, rfl, rfl⟩ rfl rfl rfl rfl rfl (by kernel_rfl) Try.func7 (by kernel_rfl)
    (of_decide_eq_true (by kernel_rfl)) (by unfold Func.isWrapper; first | (rw [if_pos (by decide +kernel)]; kernel_rfl) | (rw [if_neg (by decide +kernel)]; exact ⟨rfl, rfl⟩))
    (fun os started H enc _ => lifted os started H enc)
#print axioms proved
end Go.Proofs.Ytjljhmeadfejhaa.checkLess
