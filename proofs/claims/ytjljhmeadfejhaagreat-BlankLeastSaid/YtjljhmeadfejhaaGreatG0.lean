/- desc.own: types in memory of their own. -/
import Derived.Test.YtjljhmeadfejhaaGreatT0
import Derived.Test.YtjljhmeadfejhaaGreatC1
import Derived.Test.YtjljhmeadfejhaaGreatO2
import Derived.Test.YtjljhmeadfejhaaGreatME4
set_option maxRecDepth 100000
set_option linter.unusedVariables false
set_option linter.unusedSimpArgs false
namespace Go.Proofs.YtjljhmeadfejhaaGreat
open Go.Eng
mutual
/-- At most three types in a type. -/
def Ty.few : Ty → Prop
  | .mk _ _ l => l.length ≤ 3 ∧ Ty.fewL l
def Ty.fewL : List Ty → Prop
  | [] => True
  | t :: l => t.few ∧ Ty.fewL l
end
theorem Ty.fewL_iff : ∀ l : List Ty, Ty.fewL l ↔ ∀ t ∈ l, t.few
  | [] => by simp [Ty.fewL]
  | t :: l => by simp [Ty.fewL, Ty.fewL_iff l]
mutual
theorem Ty.few_of : ∀ (t : Ty) (d : Int), t.small d = true → t.few
  | .mk k s l, d, h => by
    simp only [Ty.small, Bool.and_eq_true, Bool.not_eq_true', Bool.or_eq_false_iff, decide_eq_false_iff_not] at h
    exact ⟨by omega, Ty.fewL_of l _ h.2⟩
theorem Ty.fewL_of : ∀ (l : List Ty) (d : Int), Ty.smallL l d = true → Ty.fewL l
  | [], _, _ => trivial
  | t :: l, d, h => by
    simp only [Ty.smallL, Bool.and_eq_true] at h
    exact ⟨Ty.few_of t _ h.1, Ty.fewL_of l _ h.2⟩
end
abbrev targ (t : Ty) : AV := .agg [.int .i64 t.kind, .str t.name, .rsl (t.of.map Ty.av)]
def ownH (h : List AO) (t : Ty) : Nat → List AO
  | 0 => h ++ [.box [.int .i64 t.kind, .str t.name, .rsl (t.of.map Ty.av)], .box [.int .i64 0, .str .empty, .esl], .box [.int .i64 t.kind, .str t.name, .esl]]
  | i + 1 => h ++ [.box [.int .i64 t.kind, .str t.name, .rsl (t.of.map Ty.av)], .box [.int .i64 0, .str .empty, .esl], .box [.int .i64 t.kind, .str t.name, .osl (h.length + 4) ((t.of.take (i + 1)).map Ty.av)], .box ((t.of.head?.map fun u => u.cells).getD []), .tok 39 3 (i + 1)]
theorem ownH_pos {h : List AO} {t : Ty} {i : Nat} (hi : 0 < i) : ownH h t i = h ++ [.box [.int .i64 t.kind, .str t.name, .rsl (t.of.map Ty.av)], .box [.int .i64 0, .str .empty, .esl], .box [.int .i64 t.kind, .str t.name, .osl (h.length + 4) ((t.of.take i).map Ty.av)], .box ((t.of.head?.map fun u => u.cells).getD []), .tok 39 3 i] := by
  cases i with
  | zero => omega
  | succ j => rfl
/-- A row that a function has made. -/
def rowV (l : List AV) : AV := match l with
  | [] => .esl
  | x :: r => .rsl (x :: r)
theorem rowV_ne {l : List AV} (h : l ≠ []) : rowV l = .rsl l := by cases l <;> simp_all [rowV]
@[simp] theorem rowV_nil : rowV [] = .esl := rfl
@[simp] theorem ro_rowV (l : List AV) : ro (rowV l) = some (.rsl l) := by cases l <;> rfl
@[simp] theorem nrm_rowV (l : List AV) : nrm (rowV l) = .rsl l := by cases l <;> rfl
@[simp] theorem cells_rowV (l : List AV) : (rowV l).cells = [rowV l] := by cases l <;> rfl
@[simp] theorem one_rowV (l : List AV) : (rowV l).one = true := by cases l <;> rfl
@[simp] theorem bel_rowV (n : Nat) (l : List AV) : (rowV l).bel n = true := by cases l <;> rfl
@[simp] theorem out_rowV (h : List AO) (m k : Nat) (l : List AV) : out m h (k + 1) (rowV l) = some (rowV l) := by cases l <;> simp [rowV, out]
abbrev ofV (t : Ty) : AV := rowV (t.of.map Ty.av)
abbrev ownR (t : Ty) : AV := .agg [.int .i64 t.kind, .str t.name, ofV t]
theorem wOwn : ∀ (n : Nat) (t : Ty), SizeOf.sizeOf t ≤ n → ∀ (h : List AO) (K : ARes → List AO → Prop), t.few → K (.ok (ownR t)) h → W 86 [targ t] h K := by
  intro n
  induction n with
  | zero => intro t ht; cases t; simp at ht
  | succ n IH =>
    intro t ht h K hf k
    have IHm : ∀ v ∈ t.of, SizeOf.sizeOf v ≤ n := fun v hv => by have := Ty.lt_of_mem hv; omega
    have hlen : t.of.length ≤ 3 := by cases t; exact hf.1
    have hfs : ∀ v ∈ t.of, v.few := by cases t; exact (Ty.fewL_iff _).1 hf.2
    refine W_of mixed c86 (by simp [A86]) ?_
    simp [A86, fillA, setL]
    refine lp_ind (ι := Nat) (fun i => i ≤ t.of.length) (fun i => t.of.length - i) (fun i => [(2, .ptr (h.length + 1) 0), (3, .ptr (h.length + 2) 0), (12, .rsl (t.of.map Ty.av)), (13, .int .i64 (t.of.length : Int)), (14, .int .i64 (i : Int))]) (fun i => ownH h t i) ?_ 0 (by simp)
    intro i hi ih
    have hw := wrap_succ (i := i) (by omega)
    by_cases hlt : i < t.of.length
    · have IHi := ih (i + 1) (by omega) (by omega)
      have h0 : ∃ u0, t.of.head? = some u0 := by cases he : t.of <;> simp [he] at hlt ⊢
      obtain ⟨u0, h0⟩ := h0
      rcases Nat.eq_zero_or_pos i with rfl | hpos
      · have h00 : t.of[0] = u0 := by
          have : t.of[0]? = some u0 := by rw [← List.head?_eq_getElem?]; exact h0
          rw [List.getElem?_eq_getElem hlt] at this
          injection this
        simp [uf A86_l0.eq_1, hlt, ownH, Ty.av, Ty.cells_eq]
        refine R_regE (by decide) ?_
        simp
        refine ⟨_, IH t.of[0] (IHm _ (List.getElem_mem hlt)) _ _ (hfs _ (List.getElem_mem hlt)) ⟨rfl, rfl⟩, ?_⟩
        have e1 : List.take 1 (List.map Ty.av t.of) = [.agg [.int .i64 t.of[0].kind, .str t.of[0].name, .rsl (t.of[0].of.map Ty.av)]] := by
          rw [List.take_succ_eq_append_getElem (by simpa using hlt)]
          simp [Ty.av, Ty.cells_eq]
        simp [ownH, h0, e1, ← h00, Ty.cells_eq] at IHi
        simp [appA, IntKind.wrap]
        exact IHi
      · simp [uf A86_l0.eq_1, hlt, ownH_pos hpos, Ty.av, Ty.cells_eq]
        refine R_regE (by decide) ?_
        simp
        refine ⟨_, IH t.of[i] (IHm _ (List.getElem_mem hlt)) _ _ (hfs _ (List.getElem_mem hlt)) ⟨rfl, rfl⟩, ?_⟩
        have e1 : List.take (i + 1) (List.map Ty.av t.of) = List.take i (List.map Ty.av t.of) ++ [.agg [.int .i64 t.of[i].kind, .str t.of[i].name, .rsl (t.of[i].of.map Ty.av)]] := by
          rw [List.take_succ_eq_append_getElem (by simpa using hlt)]
          simp [Ty.av, Ty.cells_eq]
        have hb : (i + 1) * 48 ≤ 140737488355328 := by omega
        simp [ownH, h0, e1, Ty.cells_eq] at IHi
        simp [appA, hw, Nat.min_eq_left hi, hb, h0]
        refine lp_cut 5 ?_ (by simp; rfl) ?_
        · simp [AO.bel, belL, AV.bel]
        · simpa using IHi
    · have : i = t.of.length := by omega
      subst this
      rcases Nat.eq_zero_or_pos t.of.length with hz | hpos
      · have hn : t.of = [] := List.eq_nil_of_length_eq_zero hz
        simp [uf A86_l0.eq_1, uf A86_r0.eq_1, hn, ownH]
        refine .inr ⟨h.length, 3, ownR t, DropOk.app h _, by simp [out, ofV, hn], by simpa using k⟩
      · simp [uf A86_l0.eq_1, uf A86_r0.eq_1, ownH_pos hpos]
        have hne : t.of ≠ [] := fun e => by rw [e] at hpos; simp at hpos
        refine .inr ⟨h.length, 3, ownR t, DropOk.app h _, by simp [out, mapO, List.take_of_length_le, ofV, rowV_ne, hne, show ¬ (h.length + 4 < h.length) by omega], by simpa using k⟩
end Go.Proofs.YtjljhmeadfejhaaGreat
