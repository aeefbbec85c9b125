/- Operations: the document's functions, walked. -/
import Derived.Test.YtjljhmeadfejhaaU0
import Derived.Test.YtjljhmeadfejhaaME4
set_option maxRecDepth 100000
set_option linter.unusedVariables false
set_option linter.unusedSimpArgs false
namespace Go.Proofs.Ytjljhmeadfejhaa
open Go.Eng
abbrev Ty.arg (t : Ty) : AV := .agg [.int .i64 t.kind, .str t.name, .rsl (t.of.map Ty.av)]
theorem w56 : ∀ (n : Nat) (t : Ty), SizeOf.sizeOf t ≤ n → ∀ (u : Ty) (h : List AO) (K : ARes → List AO → Prop), t.ok → K (.ok (.bool (t.same u))) h → W 56 [t.arg, u.arg] h K := by
  intro n
  induction n with
  | zero => intro t ht; cases t; simp at ht
  | succ n IH =>
    intro t ht u h K hok k
    have IHm : ∀ v ∈ t.of, SizeOf.sizeOf v ≤ n := fun v hv => by have := Ty.lt_of_mem hv; omega
    have hlen : t.of.length < most := by cases t; exact hok.2.2.1
    have hoks : ∀ v ∈ t.of, v.ok := by cases t; exact (Ty.okL_iff _).1 hok.2.2.2
    simp only [most] at hlen
    refine W_of mixed c56 (by simp [A56]) ?_
    rw [Ty.same_eq] at k
    by_cases h1 : t.kind = u.kind
    · by_cases h2 : t.name = u.name
      · by_cases h3 : t.of.length = u.of.length
        · simp [h1, h2, h3] at k
          simp [A56, h1, h2, h3]
          refine lp_ind (ι := Nat) (fun i => i ≤ t.of.length ∧ Ty.sameL t.of u.of = Ty.sameL (t.of.drop i) (u.of.drop i)) (fun i => t.of.length - i)
            (fun i => [(2, .ptr h.length 0), (3, .ptr (h.length + 1) 0), (5, .int .i64 (i : Int))])
            (fun i => h ++ [.box [.int .i64 u.kind, .str u.name, .rsl (t.of.map Ty.av)], .box [.int .i64 u.kind, .str u.name, .rsl (u.of.map Ty.av)]]) ?_ 0 ⟨by omega, by simp⟩
          intro i ⟨hi, hs⟩ ih
          have hw := wrap_succ (i := i) (by omega)
          by_cases hlt : i < t.of.length
          · have hlt' : i < u.of.length := by omega
            rw [sameL_step hlt hlt'] at hs
            simp [uf A56_l0.eq_1, hlt, hlt', Ty.av, Ty.cells_eq]
            refine ⟨_, _, IH t.of[i] (IHm _ (List.getElem_mem hlt)) u.of[i] _ _ (hoks _ (List.getElem_mem hlt)) ⟨rfl, rfl⟩, ?_⟩
            cases hb : t.of[i].same u.of[i] with
            | true =>
              rw [hb] at hs
              simp [hw]
              exact ih (i + 1) ⟨by omega, by simpa using hs⟩ (by omega)
            | false =>
              rw [hb] at hs
              simp at hs
              rw [hs] at k
              simp
              exact ret_pure (by simp) k
          · have e1 : t.of.drop i = [] := List.drop_eq_nil_of_le (by omega)
            rw [e1] at hs
            have hlt' : ¬ i < u.of.length := by omega
            simp [uf A56_l0.eq_1, uf A56_r0.eq_1, hlt, hlt']
            rw [hs] at k
            simp [Ty.sameL] at k
            exact ret_pure (by simp) k
        · have h3' : ¬ ((t.of.length : Int) = (u.of.length : Int)) := by omega
          simp [h1, h2, h3] at k
          simp [A56, h1, h2, h3']
          exact ret_pure (by simp) k
      · simp [h1, h2] at k
        simp [A56, h1, h2]
        exact ret_pure (by simp) k
    · simp [h1] at k
      simp [A56, h1]
      exact ret_pure (by simp) k

theorem w83 {a b : Ty} (hb : b.kind = 9 → 0 < b.of.length) {h : List AO} {K : ARes → List AO → Prop} (k : K (.ok (.bool (sameP a b))) h) : W 83 [a.arg, b.arg] h K := by
  refine W_of mixed c83 (by simp [A83]) ?_
  unfold sameP at k
  simp [A83]
  by_cases h1 : a.kind = b.kind
  · by_cases h2 : a.of.length = b.of.length
    · have h2' : (a.of.length : Int) = (b.of.length : Int) := by omega
      by_cases h3 : b.kind = 9
      · have hlb := hb h3
        have hla : 0 < a.of.length := by omega
        simp [h1, h2, h3, hla, hlb] at k
        simp [h1, h2, h3, hla, hlb, Ty.av, Ty.cells_eq]
        exact ret_pure (by simp) k
      · simp [h1, h2, h3] at k ⊢
        first | exact .inl k | exact ret_pure (by simp) k
    · have h2' : ¬ ((a.of.length : Int) = (b.of.length : Int)) := by omega
      simp [h1, h2'] at k ⊢
      simp [h2] at k
      first | exact .inl k | exact ret_pure (by simp) k
  · simp [h1] at k ⊢
    first | exact .inl k | exact ret_pure (by simp) k
def numIn (op : Int) : List Int := if op = 1 ∨ op = 3 ∨ op = 6 then [1] else if op = 2 ∨ op = 5 ∨ op = 8 then [1, 1] else if op = 4 then [1, 2] else if op = 7 then [1, 1, 3] else []
def numOut (op : Int) : List Int := if op = 1 ∨ op = 6 then [5] else if op = 3 ∨ op = 7 ∨ op = 8 then [4] else if op = 4 then [2] else []
def tyN (n : Int) : Ty := if n = 1 then tyT else if n = 2 then tyI else if n = 3 then tyU else if n = 4 then tyB else tyO
abbrev iv (n : Int) : AV := .int .i64 n
theorem w38 {op : Int} {h : List AO} {K : ARes → List AO → Prop} (k : K (.ok (rowV ((numIn op).map iv))) h) : W 38 [.int .i64 op] h K := by
  refine W_of mixed c38 (by simp [A38]) ?_
  simp [A38]
  rcases op_cases op with rfl | rfl | rfl | rfl | rfl | rfl | rfl | rfl | ⟨h1, h2, h3, h4, h5, h6, h7, h8⟩
  all_goals first
    | (simp [numIn, rowV] at k ⊢; first | exact .inl k | exact ret_pure (by simp) k)
    | skip
  simp [numIn, rowV, h1, h2, h3, h4, h5, h6, h7, h8] at k ⊢
  first | exact .inl k | exact ret_pure (by simp) k
theorem w39 {op : Int} {h : List AO} {K : ARes → List AO → Prop} (k : K (.ok (rowV ((numOut op).map iv))) h) : W 39 [.int .i64 op] h K := by
  refine W_of mixed c39 (by simp [A39]) ?_
  simp [A39]
  rcases op_cases op with rfl | rfl | rfl | rfl | rfl | rfl | rfl | rfl | ⟨h1, h2, h3, h4, h5, h6, h7, h8⟩
  all_goals first
    | (simp [numOut, rowV] at k ⊢; first | exact .inl k | exact ret_pure (by simp) k)
    | skip
  simp [numOut, rowV, h1, h2, h3, h4, h5, h6, h7, h8] at k ⊢
  first | exact .inl k | exact ret_pure (by simp) k
theorem w57 {n : Int} (hn : 1 ≤ n ∧ n ≤ 5) {h : List AO} {K : ARes → List AO → Prop} (k : K (.ok (ownR (tyN n))) h) : W 57 [.int .i64 n] h K := by
  refine W_of mixed c57 (by simp [A57]) ?_
  simp [A57]
  rcases show n = 1 ∨ n = 2 ∨ n = 3 ∨ n = 4 ∨ n = 5 by omega with rfl | rfl | rfl | rfl | rfl
  · simp [fillA, setL]
    exact .inr ⟨h.length, 3, ownR tyT, DropOk.app h _, by simp [out, Ty.kind, Ty.name, Ty.of, ofV], by simpa [tyN] using k⟩
  · simp [fillA, setL]
    exact .inr ⟨h.length, 3, ownR tyI, DropOk.app h _, by simp [out, Ty.kind, Ty.name, Ty.of, ofV], by simpa [tyN] using k⟩
  · simp [fillA, setL]
    exact .inr ⟨h.length, 3, ownR tyU, DropOk.app h _, by simp [out, Ty.kind, Ty.name, Ty.of, ofV], by simpa [tyN] using k⟩
  · simp [fillA, setL]
    exact .inr ⟨h.length, 3, ownR tyB, DropOk.app h _, by simp [out, Ty.kind, Ty.name, Ty.of, ofV], by simpa [tyN] using k⟩
  · simp [fillA, setL]
    exact .inr ⟨h.length, 3, ownR tyO, DropOk.app h _, by simp [out, Ty.kind, Ty.name, Ty.of, ofV, rowV, Ty.av, Ty.cells_eq], by simpa [tyN] using k⟩
def tysH (h : List AO) : Nat → List AO
  | 0 => h
  | i + 1 => h ++ [.tok 74 3 (i + 1)]
def tysV (h : List AO) (l : List AV) : Nat → AV
  | 0 => .esl
  | i + 1 => .osl h.length (l.take (i + 1))
theorem tysH_pos {h : List AO} {i : Nat} (hi : 0 < i) : tysH h i = h ++ [.tok 74 3 i] := by cases i <;> first | omega | rfl
theorem tysV_pos {h : List AO} {l : List AV} {i : Nat} (hi : 0 < i) : tysV h l i = .osl h.length (l.take i) := by cases i <;> first | omega | rfl
theorem w37 {ns : List Int} (hn : ∀ n ∈ ns, 1 ≤ n ∧ n ≤ 5) (hl : ns.length < 1000) {h : List AO} {K : ARes → List AO → Prop} (k : K (.ok (rowV ((ns.map tyN).map Ty.av))) h) : W 37 [.rsl (ns.map iv)] h K := by
  refine W_of mixed c37 (by simp [A37]) ?_
  simp [A37]
  refine lp_ind (ι := Nat) (fun i => i ≤ ns.length) (fun i => ns.length - i) (fun i => [(0, .rsl (ns.map iv)), (3, tysV h ((ns.map tyN).map Ty.av) i), (4, .int .i64 (i : Int))]) (fun i => tysH h i) ?_ 0 (by simp)
  intro i hi ih
  have hw := wrap_succ (i := i) (by omega)
  by_cases hlt : i < ns.length
  · have IHi := ih (i + 1) (by omega) (by omega)
    have hni := hn _ (List.getElem_mem hlt)
    have e1 : List.take (i + 1) ((ns.map tyN).map Ty.av) = List.take i ((ns.map tyN).map Ty.av) ++ [.agg [.int .i64 (tyN ns[i]).kind, .str (tyN ns[i]).name, .rsl ((tyN ns[i]).of.map Ty.av)]] := by
      rw [List.take_succ_eq_append_getElem (by simpa using hlt)]
      simp [Ty.av, Ty.cells_eq]
    have hb : (i + 1) * 48 ≤ 140737488355328 := by omega
    simp only [tysV, tysH] at IHi
    rw [e1] at IHi
    rcases Nat.eq_zero_or_pos i with rfl | hpos
    · simp [uf A37_l0.eq_1, hlt, tysV, tysH]
      refine w57 hni ?_
      simp at IHi
      simp [appA, IntKind.wrap]
      exact IHi
    · simp [uf A37_l0.eq_1, hlt, tysV_pos hpos, tysH_pos hpos]
      refine w57 hni ?_
      simp [appA, hw, Nat.min_eq_left hi, hb]
      simpa using IHi
  · have : i = ns.length := by omega
    subst this
    cases hz : ns.length with
    | zero =>
      have hn : ns = [] := List.eq_nil_of_length_eq_zero hz
      subst hn
      simp [uf A37_l0.eq_1, uf A37_r0.eq_1, tysH, tysV]
      exact .inl k
    | succ m =>
      have hne : ns.map (Ty.av ∘ tyN) ≠ [] := fun e => by simp at e; rw [e] at hz; simp at hz
      simp [uf A37_l0.eq_1, uf A37_r0.eq_1, tysH, tysV, ← hz]
      refine .inr ⟨h.length, 3, rowV ((ns.map tyN).map Ty.av), DropOk.app h _, by simp [out, List.take_of_length_le, rowV_ne hne], by simpa using k⟩
theorem w36 {l r : List Ty} (hl : l.length < 1000) (hok : ∀ t ∈ l, t.ok) (he : l = r) {h : List AO} {K : ARes → List AO → Prop} (k : K (.ok (.bool true)) h) : W 36 [.rsl (l.map Ty.av), .rsl (r.map Ty.av)] h K := by
  subst he
  refine W_of mixed c36 (by simp [A36]) ?_
  simp [A36]
  refine lp_ind (ι := Nat) (fun i => i ≤ l.length) (fun i => l.length - i) (fun i => [(0, .rsl (l.map Ty.av)), (1, .rsl (l.map Ty.av)), (5, .int .i64 (i : Int))]) (fun i => h) ?_ 0 (by simp)
  intro i hi ih
  have hw := wrap_succ (i := i) (by omega)
  by_cases hlt : i < l.length
  · simp [uf A36_l0.eq_1, hlt, Ty.av, Ty.cells_eq]
    refine ⟨_, _, w56 _ l[i] (Nat.le_refl _) l[i] _ _ (hok _ (List.getElem_mem hlt)) ⟨rfl, rfl⟩, ?_⟩
    simp [Ty.same_refl, hw]
    exact ih (i + 1) (by omega) (by omega)
  · have : i = l.length := by omega
    subst this
    simp [uf A36_l0.eq_1, uf A36_r0.eq_1]
    first | exact .inl k | exact ret_pure (by simp) k
end Go.Proofs.Ytjljhmeadfejhaa
