/- blank.Type, blank.Struct, about the engine. -/
import Derived.Test.YtjljhmeadfejhaaGreatB10
set_option maxRecDepth 100000
set_option linter.unusedVariables false
set_option linter.unusedSimpArgs false
namespace Go.Proofs.YtjljhmeadfejhaaGreat
open Go.Eng
/-- The least depth, and the value. -/
def Least (ds : List Decl) (t : Ty) (n : Nat) (v : Val) : Prop :=
  (n = 0 ∧ v = val0 ∧ ∀ i, i ≤ 8 → byM ds i t = none) ∨ (1 ≤ n ∧ n ≤ 8 ∧ byM ds n t = some v ∧ ∀ i, i < n → byM ds i t = none)
theorem w61 {ds : List Decl} (G : Good ds) {di : Nat} {t : Ty} (hto : t.ok) {h : List AO} (R : ReadyD h di ds) {K : ARes → List AO → Prop} (k : ∀ n v, Least ds t n v → K (.ok (.tup [.agg (resC v), .int .i64 (n : Int)])) h) : W 61 [.ptr di 0, targ t] h K := by
  have hdi : di < h.length := by
    obtain ⟨b, u, s, sm, hd, _, ti, j, y, em, mi, es, _, _, _, b1, _⟩ := R
    exact (List.getElem?_eq_some_iff.1 b1).1
  refine W_of mixed c61 (by simp [A61]) ?_
  simp [A61, fillA, setL]
  refine lp_indE (ι := Nat) (fun i => i ≤ 8 ∧ ∀ j, j ≤ i → byM ds j t = none) (fun i => 8 - i)
    (fun i => [(3, .ptr h.length 0), (4, .ptr (h.length + 1) 0), (6, .ptr (h.length + 2) 0), (13, .int .i64 (i : Int))]) (fun _ => h ++ [.box [.int .i64 t.kind, .str t.name, .rsl (t.of.map Ty.av)], zeroB, .box [.ptr di 0]]) ?_ 0 ⟨by omega, fun j hj => by
      have : j = 0 := by omega
      subst this; rfl⟩ rfl rfl
  rintro i ⟨hi, hno⟩ ih
  have hw := wrap_succ (i := i) (by omega)
  by_cases hlt : i < 8
  · have hlt' : (i : Int) < 8 := by omega
    simp [uf A61_l0.eq_1, hlt, hlt', hw]
    have call := fun (K : ARes → List AO → Prop) => w101 G (mi := h.length + 2) (i + 1) (by omega) _ t (Nat.le_refl _) hto (h ++ [.box [.int .i64 t.kind, .str t.name, .rsl (t.of.map Ty.av)], zeroB, .box [.ptr di 0]]) K ⟨di, by simp, R.app _⟩
    have wd : (((i + 1 : Nat) : Int)) = (i : Int) + 1 := by omega
    rw [wd] at call
    refine call _ ?_
    cases ho : byM ds (i + 1) t with
    | none =>
      simp [outR, hw]
      refine lp_cut 3 ?_ (by simp; rfl) ?_
      · simp [AO.bel, belL, AV.bel]
        omega
      · have := ih (i + 1) ⟨by omega, fun j hj => by
          by_cases e : j = i + 1
          · subst e; exact ho
          · exact hno j (by omega)⟩ (by omega)
        simpa using this
    | some v =>
      have kk := k (i + 1) v (.inr ⟨by omega, by omega, ho, fun j hj => hno j (by omega)⟩)
      rw [wd] at kk
      simp [outR, resC, hw]
      exact .inr ⟨h.length, 3, _, DropOk.app h _, by simp [out, mapO]; rfl, by rw [List.take_left]; exact kk⟩
  · have : i = 8 := by omega
    subst this
    have kk := k 0 val0 (.inl ⟨rfl, rfl, fun j hj => hno j hj⟩)
    simp [uf A61_l0.eq_1, uf A61_r0.eq_1, fillA, setL]
    exact .inr ⟨h.length, 3, _, DropOk.app h _, by simp [out, mapO]; rfl, by rw [List.take_left]; exact kk⟩
theorem w26 {ds : List Decl} (G : Good ds) {di : Nat} {s : ByteArray} (hs : s.size ≤ reachBytes) {h : List AO} (D : Dsc h di ds) {K : ARes → List AO → Prop}
    (k : ∀ H' n v, (kindR s ds = 1 → Least ds (.mk 6 s []) n v) → (∀ j, j < h.length → j ≠ di → H'[j]? = h[j]?) → K (.ok (.tup [.agg (resC v), .int .i64 (n : Int)])) H') : W 26 [.ptr di 0, .str s] h K := by
  have hdi := D.lt
  refine W_of mixed c26 (by simp [A26]) ?_
  simp [A26]
  refine wDKind G.told (D.app _) (fun H1 R1 l1 o1 => ?_)
  simp only [List.length_append, List.length_cons, List.length_nil] at l1 o1
  have b1 : H1[h.length]? = some zeroB := by rw [o1 _ (by omega) (by omega)]; simp
  have old : ∀ c : AO, ∀ j, j < h.length → j ≠ di → (H1.set h.length c)[j]? = h[j]? := fun c j hj hj' => by
    rw [List.getElem?_set_ne (by omega), o1 j (by omega) hj', List.getElem?_append_left hj]
  have b2 : ∀ c : AO, (H1.set h.length c)[h.length]? = some c := fun c => by rw [List.getElem?_set_self (by omega)]
  by_cases hk : kindR s ds = 1
  · simp [hk, fillA, setL]
    refine w61 (t := .mk 6 s []) G ⟨⟨by omega, by omega⟩, hs, by simp [most], trivial⟩ R1 (fun n v hL => ?_)
    simp [b1, b2, resC]
    exact .inl (k _ n v (fun _ => hL) (old _))
  · simp [hk, fillA, setL, b1, b2]
    exact .inl (k _ 0 val0 (fun e => absurd e hk) (old _))
end Go.Proofs.YtjljhmeadfejhaaGreat
