/- The types of operations, walked. -/
import Derived.Test.YtjljhmeadfejhaaG1
import Derived.Test.YtjljhmeadfejhaaC7
set_option maxRecDepth 100000
set_option linter.unusedVariables false
set_option linter.unusedSimpArgs false
namespace Go.Proofs.Ytjljhmeadfejhaa
open Go.Eng
mutual
def Ty.same : Ty → Ty → Bool
  | .mk k s l, u => decide (k = u.kind) && decide (s = u.name) && decide (l.length = u.of.length) && Ty.sameL l u.of
def Ty.sameL : List Ty → List Ty → Bool
  | [], _ => true
  | t :: l, us => (match us with
    | [] => true
    | u :: r => t.same u && Ty.sameL l r)
end
theorem Ty.same_eq (t u : Ty) : t.same u = (decide (t.kind = u.kind) && decide (t.name = u.name) && decide (t.of.length = u.of.length) && Ty.sameL t.of u.of) := by cases t; rfl
mutual
theorem Ty.same_refl : ∀ t : Ty, t.same t = true
  | .mk k s l => by simp [Ty.same, Ty.kind, Ty.name, Ty.of, Ty.sameL_refl l]
theorem Ty.sameL_refl : ∀ l : List Ty, Ty.sameL l l = true
  | [] => rfl
  | t :: l => by simp [Ty.sameL, Ty.same_refl t, Ty.sameL_refl l]
end
theorem sameL_step {l r : List Ty} {i : Nat} (hi : i < l.length) (hj : i < r.length) : Ty.sameL (l.drop i) (r.drop i) = (l[i].same r[i] && Ty.sameL (l.drop (i + 1)) (r.drop (i + 1))) := by
  rw [List.drop_eq_getElem_cons hi, List.drop_eq_getElem_cons hj, Ty.sameL]
/-! ### the types of operations -/
abbrev tyT : Ty := .mk 4 ⟨#[]⟩ []
abbrev tyI : Ty := .mk 2 ⟨#[]⟩ []
abbrev tyU : Ty := .mk 3 ⟨#[]⟩ []
abbrev tyB : Ty := .mk 1 ⟨#[]⟩ []
abbrev tyO : Ty := .mk 9 ⟨#[]⟩ [tyT]
def opIn (op : Int) : List Ty := if op = 1 ∨ op = 3 ∨ op = 6 then [tyT] else if op = 2 ∨ op = 5 ∨ op = 8 then [tyT, tyT] else if op = 4 then [tyT, tyI] else if op = 7 then [tyT, tyT, tyU] else []
def opOut (op : Int) : List Ty := if op = 1 ∨ op = 6 then [tyO] else if op = 3 ∨ op = 7 ∨ op = 8 then [tyB] else if op = 4 then [tyI] else []
/-- The letters of an operation. -/
def sIn (op : Int) : ByteArray := if op = 1 ∨ op = 6 then ⟨#[116]⟩ else if op = 2 ∨ op = 5 then ⟨#[116, 116]⟩ else if op = 3 then ⟨#[116]⟩ else if op = 4 then ⟨#[116, 105]⟩ else if op = 7 then ⟨#[116, 116, 117]⟩ else if op = 8 then ⟨#[116, 116]⟩ else ⟨#[]⟩
def sOut (op : Int) : ByteArray := if op = 1 ∨ op = 6 then ⟨#[111]⟩ else if op = 2 ∨ op = 5 then ⟨#[]⟩ else if op = 3 then ⟨#[98]⟩ else if op = 4 then ⟨#[105]⟩ else if op = 7 then ⟨#[98]⟩ else if op = 8 then ⟨#[98]⟩ else ⟨#[]⟩
def isOp (op : Int) : Bool := decide (1 ≤ op ∧ op ≤ 8)
theorem op_cases (op : Int) : op = 1 ∨ op = 2 ∨ op = 3 ∨ op = 4 ∨ op = 5 ∨ op = 6 ∨ op = 7 ∨ op = 8 ∨ (¬ op = 1 ∧ ¬ op = 2 ∧ ¬ op = 3 ∧ ¬ op = 4 ∧ ¬ op = 5 ∧ ¬ op = 6 ∧ ¬ op = 7 ∧ ¬ op = 8) := by omega
theorem w54 {op : Int} {h : List AO} {K : ARes → List AO → Prop} (k : K (.ok (.tup [.str (sIn op), .str (sOut op), .bool (isOp op)])) h) : W 54 [.int .i64 op] h K := by
  refine W_of mixed c54 (by simp [A54]) ?_
  simp [A54]
  rcases op_cases op with rfl | rfl | rfl | rfl | rfl | rfl | rfl | rfl | ⟨h1, h2, h3, h4, h5, h6, h7, h8⟩
  all_goals first
    | (simp [sIn, sOut, isOp] at k ⊢; first | exact .inl k | exact ret_pure (by simp) k)
    | skip
  have e : isOp op = false := by unfold isOp; simp; omega
  simp [sIn, sOut, e, h1, h2, h3, h4, h5, h6, h7, h8] at k ⊢
  first | exact .inl k | exact ret_pure (by simp) k
def letM (c : Int) : Ty := if c = 116 then tyT else if c = 105 then tyI else if c = 117 then tyU else if c = 98 then tyB else tyO
theorem w80 {c : Int} {h : List AO} {K : ARes → List AO → Prop} (k : K (.ok (ownR (letM c))) h) : W 80 [.int .i32 c] h K := by
  refine W_of mixed c80 (by simp [A80]) ?_
  simp [A80]
  by_cases h1 : c = 116
  · subst h1
    simp [fillA, setL]
    exact .inr ⟨h.length, 3, ownR tyT, DropOk.app h _, by simp [out, Ty.kind, Ty.name, Ty.of, ofV], by simpa [letM] using k⟩
  by_cases h2 : c = 105
  · subst h2
    simp [fillA, setL]
    exact .inr ⟨h.length, 3, ownR tyI, DropOk.app h _, by simp [out, Ty.kind, Ty.name, Ty.of, ofV], by simpa [letM] using k⟩
  by_cases h3 : c = 117
  · subst h3
    simp [fillA, setL]
    exact .inr ⟨h.length, 3, ownR tyU, DropOk.app h _, by simp [out, Ty.kind, Ty.name, Ty.of, ofV], by simpa [letM] using k⟩
  by_cases h4 : c = 98
  · subst h4
    simp [fillA, setL]
    exact .inr ⟨h.length, 3, ownR tyB, DropOk.app h _, by simp [out, Ty.kind, Ty.name, Ty.of, ofV], by simpa [letM] using k⟩
  simp [h1, h2, h3, h4, fillA, setL]
  exact .inr ⟨h.length, 3, ownR tyO, DropOk.app h _, by simp [out, Ty.kind, Ty.name, Ty.of, ofV, rowV, Ty.av, Ty.cells_eq], by simpa [letM, h1, h2, h3, h4] using k⟩
theorem w55_t {h : List AO} {K : ARes → List AO → Prop} (k : K (.ok (rowV ([tyT].map Ty.av))) h) : W 55 [.str ⟨#[116]⟩] h K := by
  have d0 : Utf8.decode ⟨#[116]⟩ 0 = (116, 1) := by kernel_rfl
  have z : (⟨#[116]⟩ : ByteArray).size = 1 := rfl
  refine W_of mixed c55 (by simp [A55]) ?_
  simp [A55]
  refine lp_step ?_
  simp [uf A55_l0.eq_1, d0, z]
  refine w80 ?_
  simp [appA, letM, Ty.kind, Ty.name, Ty.of, ofV, Ty.av, Ty.cells_eq]
  refine lp_step ?_
  simp [uf A55_l0.eq_1, z, uf A55_r0.eq_1]
  exact .inr ⟨h.length, 3, _, DropOk.app h _, by simp [out, mapO, show ¬ (h.length + 1 < h.length) by omega]; rfl, by simpa [rowV, Ty.av, Ty.cells_eq, Ty.kind, Ty.name, Ty.of] using k⟩
theorem w55_tt {h : List AO} {K : ARes → List AO → Prop} (k : K (.ok (rowV ([tyT, tyT].map Ty.av))) h) : W 55 [.str ⟨#[116, 116]⟩] h K := by
  have d0 : Utf8.decode ⟨#[116, 116]⟩ 0 = (116, 1) := by kernel_rfl
  have d1 : Utf8.decode ⟨#[116, 116]⟩ 1 = (116, 1) := by kernel_rfl
  have z : (⟨#[116, 116]⟩ : ByteArray).size = 2 := rfl
  refine W_of mixed c55 (by simp [A55]) ?_
  simp [A55]
  refine lp_step ?_
  simp [uf A55_l0.eq_1, d0, z]
  refine w80 ?_
  simp [appA, letM, Ty.kind, Ty.name, Ty.of, ofV, Ty.av, Ty.cells_eq]
  refine lp_step ?_
  simp [uf A55_l0.eq_1, d1, z]
  refine w80 ?_
  simp [appA, letM, Ty.kind, Ty.name, Ty.of, ofV, Ty.av, Ty.cells_eq]
  refine lp_step ?_
  simp [uf A55_l0.eq_1, z, uf A55_r0.eq_1]
  exact .inr ⟨h.length, 3, _, DropOk.app h _, by simp [out, mapO, show ¬ (h.length + 1 < h.length) by omega]; rfl, by simpa [rowV, Ty.av, Ty.cells_eq, Ty.kind, Ty.name, Ty.of] using k⟩
theorem w55_ti {h : List AO} {K : ARes → List AO → Prop} (k : K (.ok (rowV ([tyT, tyI].map Ty.av))) h) : W 55 [.str ⟨#[116, 105]⟩] h K := by
  have d0 : Utf8.decode ⟨#[116, 105]⟩ 0 = (116, 1) := by kernel_rfl
  have d1 : Utf8.decode ⟨#[116, 105]⟩ 1 = (105, 1) := by kernel_rfl
  have z : (⟨#[116, 105]⟩ : ByteArray).size = 2 := rfl
  refine W_of mixed c55 (by simp [A55]) ?_
  simp [A55]
  refine lp_step ?_
  simp [uf A55_l0.eq_1, d0, z]
  refine w80 ?_
  simp [appA, letM, Ty.kind, Ty.name, Ty.of, ofV, Ty.av, Ty.cells_eq]
  refine lp_step ?_
  simp [uf A55_l0.eq_1, d1, z]
  refine w80 ?_
  simp [appA, letM, Ty.kind, Ty.name, Ty.of, ofV, Ty.av, Ty.cells_eq]
  refine lp_step ?_
  simp [uf A55_l0.eq_1, z, uf A55_r0.eq_1]
  exact .inr ⟨h.length, 3, _, DropOk.app h _, by simp [out, mapO, show ¬ (h.length + 1 < h.length) by omega]; rfl, by simpa [rowV, Ty.av, Ty.cells_eq, Ty.kind, Ty.name, Ty.of] using k⟩
theorem w55_ttu {h : List AO} {K : ARes → List AO → Prop} (k : K (.ok (rowV ([tyT, tyT, tyU].map Ty.av))) h) : W 55 [.str ⟨#[116, 116, 117]⟩] h K := by
  have d0 : Utf8.decode ⟨#[116, 116, 117]⟩ 0 = (116, 1) := by kernel_rfl
  have d1 : Utf8.decode ⟨#[116, 116, 117]⟩ 1 = (116, 1) := by kernel_rfl
  have d2 : Utf8.decode ⟨#[116, 116, 117]⟩ 2 = (117, 1) := by kernel_rfl
  have z : (⟨#[116, 116, 117]⟩ : ByteArray).size = 3 := rfl
  refine W_of mixed c55 (by simp [A55]) ?_
  simp [A55]
  refine lp_step ?_
  simp [uf A55_l0.eq_1, d0, z]
  refine w80 ?_
  simp [appA, letM, Ty.kind, Ty.name, Ty.of, ofV, Ty.av, Ty.cells_eq]
  refine lp_step ?_
  simp [uf A55_l0.eq_1, d1, z]
  refine w80 ?_
  simp [appA, letM, Ty.kind, Ty.name, Ty.of, ofV, Ty.av, Ty.cells_eq]
  refine lp_step ?_
  simp [uf A55_l0.eq_1, d2, z]
  refine w80 ?_
  simp [appA, letM, Ty.kind, Ty.name, Ty.of, ofV, Ty.av, Ty.cells_eq]
  refine lp_step ?_
  simp [uf A55_l0.eq_1, z, uf A55_r0.eq_1]
  exact .inr ⟨h.length, 3, _, DropOk.app h _, by simp [out, mapO, show ¬ (h.length + 1 < h.length) by omega]; rfl, by simpa [rowV, Ty.av, Ty.cells_eq, Ty.kind, Ty.name, Ty.of] using k⟩
theorem w55_o {h : List AO} {K : ARes → List AO → Prop} (k : K (.ok (rowV ([tyO].map Ty.av))) h) : W 55 [.str ⟨#[111]⟩] h K := by
  have d0 : Utf8.decode ⟨#[111]⟩ 0 = (111, 1) := by kernel_rfl
  have z : (⟨#[111]⟩ : ByteArray).size = 1 := rfl
  refine W_of mixed c55 (by simp [A55]) ?_
  simp [A55]
  refine lp_step ?_
  simp [uf A55_l0.eq_1, d0, z]
  refine w80 ?_
  simp [appA, letM, Ty.kind, Ty.name, Ty.of, ofV, Ty.av, Ty.cells_eq]
  refine lp_step ?_
  simp [uf A55_l0.eq_1, z, uf A55_r0.eq_1]
  exact .inr ⟨h.length, 3, _, DropOk.app h _, by simp [out, mapO, show ¬ (h.length + 1 < h.length) by omega]; rfl, by simpa [rowV, Ty.av, Ty.cells_eq, Ty.kind, Ty.name, Ty.of] using k⟩
theorem w55_b {h : List AO} {K : ARes → List AO → Prop} (k : K (.ok (rowV ([tyB].map Ty.av))) h) : W 55 [.str ⟨#[98]⟩] h K := by
  have d0 : Utf8.decode ⟨#[98]⟩ 0 = (98, 1) := by kernel_rfl
  have z : (⟨#[98]⟩ : ByteArray).size = 1 := rfl
  refine W_of mixed c55 (by simp [A55]) ?_
  simp [A55]
  refine lp_step ?_
  simp [uf A55_l0.eq_1, d0, z]
  refine w80 ?_
  simp [appA, letM, Ty.kind, Ty.name, Ty.of, ofV, Ty.av, Ty.cells_eq]
  refine lp_step ?_
  simp [uf A55_l0.eq_1, z, uf A55_r0.eq_1]
  exact .inr ⟨h.length, 3, _, DropOk.app h _, by simp [out, mapO, show ¬ (h.length + 1 < h.length) by omega]; rfl, by simpa [rowV, Ty.av, Ty.cells_eq, Ty.kind, Ty.name, Ty.of] using k⟩
theorem w55_i {h : List AO} {K : ARes → List AO → Prop} (k : K (.ok (rowV ([tyI].map Ty.av))) h) : W 55 [.str ⟨#[105]⟩] h K := by
  have d0 : Utf8.decode ⟨#[105]⟩ 0 = (105, 1) := by kernel_rfl
  have z : (⟨#[105]⟩ : ByteArray).size = 1 := rfl
  refine W_of mixed c55 (by simp [A55]) ?_
  simp [A55]
  refine lp_step ?_
  simp [uf A55_l0.eq_1, d0, z]
  refine w80 ?_
  simp [appA, letM, Ty.kind, Ty.name, Ty.of, ofV, Ty.av, Ty.cells_eq]
  refine lp_step ?_
  simp [uf A55_l0.eq_1, z, uf A55_r0.eq_1]
  exact .inr ⟨h.length, 3, _, DropOk.app h _, by simp [out, mapO, show ¬ (h.length + 1 < h.length) by omega]; rfl, by simpa [rowV, Ty.av, Ty.cells_eq, Ty.kind, Ty.name, Ty.of] using k⟩
theorem w55_nil {h : List AO} {K : ARes → List AO → Prop} (k : K (.ok (rowV [])) h) : W 55 [.str ⟨#[]⟩] h K := by
  have z : (⟨#[]⟩ : ByteArray).size = 0 := rfl
  refine W_of mixed c55 (by simp [A55]) ?_
  simp [A55]
  refine lp_step ?_
  simp [uf A55_l0.eq_1, z, uf A55_r0.eq_1]
  exact .inr ⟨h.length, 3, _, DropOk.app h _, by simp [out]; rfl, by simpa using k⟩
theorem wLetI {op : Int} {h : List AO} {K : ARes → List AO → Prop} (k : K (.ok (rowV ((opIn op).map Ty.av))) h) : W 55 [.str (sIn op)] h K := by
  rcases op_cases op with rfl | rfl | rfl | rfl | rfl | rfl | rfl | rfl | ⟨h1, h2, h3, h4, h5, h6, h7, h8⟩
  · exact w55_t k
  · exact w55_tt k
  · exact w55_t k
  · exact w55_ti k
  · exact w55_tt k
  · exact w55_t k
  · exact w55_ttu k
  · exact w55_tt k
  · have e : sIn op = ⟨#[]⟩ := by simp [sIn, *]
    have e2 : opIn op = [] := by simp [opIn, *]
    rw [e2] at k
    rw [e]
    exact w55_nil k
theorem wLetO {op : Int} {h : List AO} {K : ARes → List AO → Prop} (k : K (.ok (rowV ((opOut op).map Ty.av))) h) : W 55 [.str (sOut op)] h K := by
  rcases op_cases op with rfl | rfl | rfl | rfl | rfl | rfl | rfl | rfl | ⟨h1, h2, h3, h4, h5, h6, h7, h8⟩
  · exact w55_o k
  · exact w55_nil k
  · exact w55_b k
  · exact w55_i k
  · exact w55_nil k
  · exact w55_o k
  · exact w55_b k
  · exact w55_b k
  · have e : sOut op = ⟨#[]⟩ := by simp [sOut, *]
    have e2 : opOut op = [] := by simp [opOut, *]
    rw [e2] at k
    rw [e]
    exact w55_nil k
theorem w35 {op : Int} {h : List AO} {K : ARes → List AO → Prop} (k : K (.ok (.tup [rowV ((opIn op).map Ty.av), rowV ((opOut op).map Ty.av)])) h) : W 35 [.int .i64 op] h K := by
  refine W_of mixed c35 (by simp [A35]) ?_
  simp [A35]
  refine w54 ?_
  simp
  refine wLetI ?_
  simp
  refine wLetO ?_
  simp
  first | exact ret_pure (by simp) k | exact .inl k
theorem w33 {h : List AO} {K : ARes → List AO → Prop} (k : K (.ok (.bool true)) h) : W 33 [] h K := by
  refine W_of mixed c33 (by simp [A33]) ?_
  simp [A33]
  refine w35 ?_
  simp [opIn, opOut, Ty.av, Ty.cells_eq, rowV, Ty.kind]
  first | exact ret_pure (by simp) k | exact .inl k
end Go.Proofs.Ytjljhmeadfejhaa
