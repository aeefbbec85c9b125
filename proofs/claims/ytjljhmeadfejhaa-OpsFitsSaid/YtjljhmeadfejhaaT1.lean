/- names.Of, about the engine. -/
import Derived.Test.YtjljhmeadfejhaaT0
set_option maxRecDepth 100000
set_option linter.unusedVariables false
set_option linter.unusedSimpArgs false
namespace Go.Proofs.Ytjljhmeadfejhaa
open Go.Eng
/-- The map of names to first places, in the order of their coming. -/
def addAt (m : List (AV × AV)) (s : ByteArray) (i : Nat) : List (AV × AV) :=
  match findA (.str s) m with
  | some (some _) => m
  | _ => (updA (.str s) (.int .i64 i) m).getD m
def atOf : List Decl → List (AV × AV) → Nat → List (AV × AV)
  | [], m, _ => m
  | d :: l, m, i => atOf l (addAt m d.name i) (i + 1)
/-- All keys are texts, all values numbers. -/
def StrMap (m : List (AV × AV)) : Prop := ∀ e ∈ m, ∃ s i, e = (.str s, .int .i64 i)


theorem StrMap.find {m : List (AV × AV)} (H : StrMap m) (s : ByteArray) : findA (.str s) m = some none ∨ ∃ i : Int, findA (.str s) m = some (some (.int .i64 i)) := by
  induction m with
  | nil => exact .inl rfl
  | cons e m ih =>
    obtain ⟨t, i, rfl⟩ := H e (List.mem_cons_self)
    simp only [findA, keyEq]
    by_cases h : s = t
    · simp [h]
    · simp [h]; exact ih fun e he => H e (List.mem_cons_of_mem _ he)
theorem StrMap.upd {m : List (AV × AV)} (H : StrMap m) (s : ByteArray) (i : Nat) : ∃ m', updA (.str s) (.int .i64 i) m = some m' ∧ StrMap m' := by
  induction m with
  | nil => exact ⟨_, rfl, fun e he => by simp at he; exact ⟨s, i, he⟩⟩
  | cons e m ih =>
    obtain ⟨t, j, rfl⟩ := H e (List.mem_cons_self)
    obtain ⟨m', h1, h2⟩ := ih fun e he => H e (List.mem_cons_of_mem _ he)
    simp only [updA, keyEq]
    by_cases h : s = t
    · simp [h]
      intro e he
      rcases List.mem_cons.1 he with rfl | he
      · exact ⟨t, i, rfl⟩
      · exact H e (List.mem_cons_of_mem _ he)
    · simp [h, h1]
      intro e he
      rcases List.mem_cons.1 he with rfl | he
      · exact ⟨t, j, rfl⟩
      · exact h2 e he
theorem StrMap.add {m : List (AV × AV)} (H : StrMap m) (s : ByteArray) (i : Nat) : StrMap (addAt m s i) := by
  unfold addAt
  split
  · exact H
  · obtain ⟨m', h1, h2⟩ := H.upd s i
    rw [h1]; exact h2
theorem atOf_str : ∀ (l : List Decl) (m : List (AV × AV)) (i : Nat), StrMap m → StrMap (atOf l m i)
  | [], m, i, H => H
  | d :: l, m, i, H => atOf_str l _ _ (H.add d.name i)
theorem atOf_snoc : ∀ (l : List Decl) (d : Decl) (m : List (AV × AV)) (i : Nat), atOf (l ++ [d]) m i = addAt (atOf l m i) d.name (i + l.length)
  | [], d, m, i => rfl
  | x :: l, d, m, i => by
    simp only [List.cons_append, atOf]
    rw [atOf_snoc l d]
    congr 1
    simp; omega

def mp (ds : List Decl) (i : Nat) : List (AV × AV) := atOf (ds.take i) [] 0
def kinds (l : List Decl) : List AV := l.map fun d => .int .i64 d.kind
def ofH (h : List AO) (ds : List Decl) : Nat → List AO
  | 0 => h ++ [.map [], .box [.map h.length, .esl]]
  | i + 1 => h ++ [.map (mp ds (i + 1)), .box [.map h.length, .osl (h.length + 3) (kinds (ds.take (i + 1)))], .box ((ds.head?.map fun d => d.av.cells).getD []), .tok 3 1 (i + 1)]
theorem mp_succ {ds : List Decl} {i : Nat} (hi : i < ds.length) : mp ds (i + 1) = addAt (mp ds i) ds[i].name i := by
  unfold mp
  rw [List.take_succ_eq_append_getElem hi, atOf_snoc]
  simp [Nat.min_eq_left (Nat.le_of_lt hi)]
theorem mp_str (ds : List Decl) (i : Nat) : StrMap (mp ds i) := atOf_str _ _ _ (fun e he => by simp at he)
theorem addAt_some {m : List (AV × AV)} {s : ByteArray} {v : AV} (i : Nat) (e : findA (.str s) m = some (some v)) : addAt m s i = m := by simp [addAt, e]
theorem addAt_none {m m' : List (AV × AV)} {s : ByteArray} (i : Nat) (e : findA (.str s) m = some none) (e' : updA (.str s) (.int .i64 i) m = some m') : addAt m s i = m' := by simp [addAt, e, e']
theorem kinds_succ {ds : List Decl} {i : Nat} (hi : i < ds.length) : kinds (ds.take (i + 1)) = kinds (ds.take i) ++ [.int .i64 ds[i].kind] := by
  unfold kinds
  rw [List.take_succ_eq_append_getElem hi, List.map_append]; rfl
theorem kinds_len {ds : List Decl} {i : Nat} (hi : i ≤ ds.length) : (kinds (ds.take i)).length = i := by simp [kinds, Nat.min_eq_left hi]

theorem ofH_pos {h : List AO} {ds : List Decl} {i : Nat} (hi : 0 < i) : ofH h ds i = h ++ [.map (mp ds i), .box [.map h.length, .osl (h.length + 3) (kinds (ds.take i))], .box ((ds.head?.map fun d => d.av.cells).getD []), .tok 3 1 i] := by
  cases i with
  | zero => omega
  | succ j => rfl
theorem w11 {h : List AO} {ds : List Decl} {K : ARes → List AO → Prop} (hl : ds.length < 2199023255552) (k : K (.ok (.ptr (h.length + 1) 0)) (ofH h ds ds.length)) : W 11 [.rsl (ds.map Decl.av)] h K := by
  refine W_of mixed c11 (by simp [A11]) ?_
  simp [A11, fillA]
  refine lp_ind (ι := Nat) (fun i => i ≤ ds.length) (fun i => ds.length - i) (fun i => [(3, .ptr (h.length + 1) 0), (11, .rsl (ds.map Decl.av)), (12, .int .i64 (ds.length : Int)), (13, .int .i64 (i : Int))]) (fun i => ofH h ds i) ?_ 0 (by simp)
  intro i hi ih
  have hw : IntKind.i64.wrap ((i : Int) + 1) = ((i + 1 : Nat) : Int) := by rw [wrap_i64 _ (by omega) (by omega)]; omega
  by_cases hlt : i < ds.length
  · have IH := ih (i + 1) (by omega) (by omega)
    have hm := mp_succ hlt
    have hk := kinds_succ hlt
    have hkl := kinds_len hi
    have h0 : ∃ d0, ds.head? = some d0 := by cases ds <;> simp at hlt ⊢
    obtain ⟨d0, h0⟩ := h0
    have hb : (i + 1) * 8 ≤ 140737488355328 := by omega
    rcases Nat.eq_zero_or_pos i with rfl | hpos
    · have h00 : ds[0] = d0 := by cases ds <;> simp at hlt h0 ⊢; exact h0
      simp [ofH, h0, hm, hk, h00] at IH
      simp [mp, atOf, addAt, kinds, Decl.av] at IH
      simp [A11_l0, hlt, Decl.av, ofH, appA, hw, h00]
      exact IH
    · rw [ofH_pos (by omega), hm, hk] at IH
      rcases (mp_str ds i).find ds[i].name with hf | ⟨v, hf⟩
      · obtain ⟨m', hu, hstr⟩ := (mp_str ds i).upd ds[i].name i
        rw [addAt_none _ hf hu] at IH
        simp [A11_l0, hlt, Decl.av, ofH_pos hpos, hw, hf, hu, appA, hkl, hb, h0]
        refine lp_cut 4 ?_ (by simp; rfl) ?_
        · simp [AO.bel, belL, AV.bel]
          intro a b hab
          obtain ⟨s, n, e⟩ := hstr _ hab
          injection e with _ e; subst e; rfl
        · simp [Decl.av, h0] at IH
          exact IH
      · have hstr := mp_str ds i
        rw [addAt_some _ hf] at IH
        simp [A11_l0, hlt, Decl.av, ofH_pos hpos, hw, hf, appA, hkl, hb, h0]
        refine lp_cut 4 ?_ (by simp; rfl) ?_
        · simp [AO.bel, belL, AV.bel]
          intro a b hab
          obtain ⟨s, n, e⟩ := hstr _ hab
          injection e with _ e; subst e; rfl
        · simp [Decl.av, h0] at IH
          exact IH
  · have : i = ds.length := by omega
    subst this
    simp [A11_l0, A11_r0]
    exact .inl k
end Go.Proofs.Ytjljhmeadfejhaa
