/- Find, Kind and awake on a table of names, about the engine. -/
import Derived.Test.YtjljhmeadfejhaaT1
set_option maxRecDepth 100000
set_option linter.unusedVariables false
set_option linter.unusedSimpArgs false
namespace Go.Proofs.Ytjljhmeadfejhaa
open Go.Eng

theorem upd_none {m : List (AV × AV)} {t : ByteArray} {v : AV} (H : StrMap m) (e : findA (.str t) m = some none) : updA (.str t) v m = some (m ++ [(.str t, v)]) := by
  induction m with
  | nil => rfl
  | cons x m ih =>
    obtain ⟨u, i, rfl⟩ := H x (List.mem_cons_self)
    simp only [findA, keyEq] at e
    by_cases hu : t = u
    · simp [hu] at e
    · simp [hu] at e
      simp [updA, keyEq, hu, ih (fun e he => H e (List.mem_cons_of_mem _ he)) e]
theorem find_snoc {m : List (AV × AV)} {s t : ByteArray} {v : AV} (H : StrMap m) : findA (.str s) (m ++ [(.str t, v)]) = match findA (.str s) m with
    | some (some x) => some (some x)
    | _ => if s = t then some (some v) else some none := by
  induction m with
  | nil => by_cases h : s = t <;> simp [findA, keyEq, h]
  | cons x m ih =>
    obtain ⟨u, i, rfl⟩ := H x (List.mem_cons_self)
    simp only [List.cons_append, findA, keyEq]
    by_cases hu : s = u
    · simp [hu]
    · simp [hu, ih (fun e he => H e (List.mem_cons_of_mem _ he))]
theorem find_add {m : List (AV × AV)} {s t : ByteArray} {i : Nat} (H : StrMap m) : findA (.str s) (addAt m t i) = match findA (.str s) m with
    | some (some x) => some (some x)
    | _ => if t = s then some (some (.int .i64 i)) else some none := by
  rcases H.find t with h | ⟨v, h⟩
  · rw [addAt_none i h (upd_none H h), find_snoc H]
    have : (s = t) = (t = s) := propext ⟨Eq.symm, Eq.symm⟩
    simp only [this]
  · rw [addAt_some i h]
    by_cases e : t = s
    · subst e; rw [h]
    · rcases H.find s with h' | ⟨v', h'⟩ <;> simp [h', e]
theorem find_atOf (s : ByteArray) : ∀ (l : List Decl) (m : List (AV × AV)) (i : Nat), StrMap m → findA (.str s) (atOf l m i) = match findA (.str s) m with
    | some (some x) => some (some x)
    | _ => some ((fnd s l).map fun k => .int .i64 ((i + k : Nat) : Int))
  | [], m, i, H => by
    rcases H.find s with h' | ⟨v', h'⟩ <;> simp [atOf, h', fnd]
  | d :: l, m, i, H => by
    simp only [atOf]
    rw [find_atOf s l _ _ (H.add d.name i), find_add H]
    rcases H.find s with h' | ⟨v', h'⟩
    · by_cases e : d.name = s
      · simp [h', e, fnd]
      · simp only [h', e, fnd, if_false]
        cases fnd s l <;> simp
        omega
    · simp [h']
theorem find_mp (s : ByteArray) (ds : List Decl) : findA (.str s) (mp ds ds.length) = some ((fnd s ds).map fun k => .int .i64 (k : Int)) := by
  unfold mp
  rw [List.take_length, find_atOf s ds [] 0 (fun e he => by simp at he)]
  simp [findA]

theorem fnd_lt {s : ByteArray} : ∀ {ds : List Decl} {n : Nat}, fnd s ds = some n → n < ds.length
  | [], n, e => by cases e
  | d :: l, n, e => by
    simp only [fnd] at e
    split at e
    · injection e with e; subst e; simp
    · obtain ⟨k, hk, rfl⟩ := Option.map_eq_some_iff.1 e
      have := fnd_lt hk
      simp; omega
theorem w14_nil {h : List AO} {s : ByteArray} {K : ARes → List AO → Prop} (k : K (.ok (.int .i64 0)) h) : W 14 [.nilp, .str s] h K := by
  refine W_of mixed c14 (by simp [A14]) ?_
  simp [A14]
  refine w12_nil ?_
  simp
  exact .inl k
theorem w14 {h : List AO} {s : ByteArray} {K : ARes → List AO → Prop} {i j : Nat} {y : AV} {es : List (AV × AV)} (h1 : h[i]? = some (.box [.map j, y])) (h2 : h[j]? = some (.map es)) {ds : List Decl} (h3 : findA (.str s) es = some ((fnd s ds).map fun k => .int .i64 (k : Int)))
    (hy : iaA_ 1 y = iaA_ 1 (.rsl (kinds ds))) (k : K (.ok (.int .i64 (match fnd s ds with | some n => (ds[n]?.map Decl.kind).getD 0 | none => 0))) h) : W 14 [.ptr i 0, .str s] h K := by
  refine W_of mixed c14 (by simp [A14]) ?_
  simp [A14]
  refine w12 h1 h2 h3 (fun x hx => ?_) ?_
  · cases hf : fnd s ds <;> rw [hf] at hx <;> simp at hx
    exact ⟨_, hx.symm⟩
  · cases hf : fnd s ds with
    | none =>
      simp
      rw [hf] at k
      exact .inl k
    | some n =>
      have hlt := fnd_lt hf
      simp [-iaA_, h1, hy]
      simp [kinds, hlt]
      rw [hf] at k
      simp [hlt] at k
      exact .inl k
theorem w15 {h : List AO} {ds : List Decl} {s : ByteArray} {K : ARes → List AO → Prop} (hl : ds.length < 4611686018427387904) (k : K (.ok (.int .i64 (match fnd s ds with | some n => (ds[n]?.map Decl.kind).getD 0 | none => 0))) h) : W 15 [.rsl (ds.map Decl.av), .str s] h K := by
  refine W_of mixed c15 (by simp [A15]) ?_
  simp [A15]
  refine w13 hl ?_
  cases hf : fnd s ds with
  | none =>
    simp [pl]
    rw [hf] at k
    exact .inl k
  | some n =>
    have hlt := fnd_lt hf
    rw [hf] at k
    simp [hlt] at k
    simp [pl, hlt, Decl.av]
    exact .inl k
/-- A table as names.Of leaves it. -/
theorem ofH_box (h : List AO) (ds : List Decl) (n : Nat) : ∃ y, (ofH h ds n)[h.length + 1]? = some (.box [.map h.length, y]) ∧ (ofH h ds n)[h.length]? = some (.map (mp ds n)) ∧ ∀ i, iaA_ 1 y i = iaA_ 1 (.rsl (kinds (ds.take n))) i := by
  cases n with
  | zero => exact ⟨.esl, by simp [ofH], by simp [ofH, mp, atOf], fun i => by simp [kinds]⟩
  | succ n => exact ⟨.osl (h.length + 3) (kinds (ds.take (n + 1))), by simp [ofH], by simp [ofH], fun i => by simp⟩
/-- What Find gives. -/
def fndR (s : ByteArray) (ds : List Decl) : AV := .tup [((fnd s ds).map fun (k : Nat) => AV.int .i64 (k : Int)).getD (.int .i64 0), .bool (fnd s ds).isSome]
theorem w12_of {h : List AO} {s : ByteArray} {ds : List Decl} {K : ARes → List AO → Prop} (k : K (.ok (fndR s ds)) (ofH h ds ds.length)) : W 12 [.ptr (h.length + 1) 0, .str s] (ofH h ds ds.length) K := by
  obtain ⟨y, h1, h2, h3⟩ := ofH_box h ds ds.length
  refine w12 h1 h2 (find_mp s ds) (fun x hx => ?_) ?_
  · cases hf : fnd s ds <;> rw [hf] at hx <;> simp at hx
    exact ⟨_, hx.symm⟩
  · simpa [fndR] using k
def kindR (s : ByteArray) (ds : List Decl) : Int := match fnd s ds with | some n => (ds[n]?.map Decl.kind).getD 0 | none => 0
theorem w14_of {h : List AO} {s : ByteArray} {ds : List Decl} {K : ARes → List AO → Prop} (k : K (.ok (.int .i64 (kindR s ds))) (ofH h ds ds.length)) : W 14 [.ptr (h.length + 1) 0, .str s] (ofH h ds ds.length) K := by
  obtain ⟨y, h1, h2, h3⟩ := ofH_box h ds ds.length
  exact w14 h1 h2 (find_mp s ds) (funext fun i => by rw [h3, List.take_length]) k
theorem w16 {h : List AO} {K : ARes → List AO → Prop} (k : K (.ok (.bool true)) h) : W 16 [] h K := by
  refine W_of mixed c16 (by simp [A16]) ?_
  have := @w11 h [⟨1, ⟨#[80]⟩, [], [], 0⟩, ⟨3, ⟨#[69]⟩, [], [], 0⟩]
  simp [Decl.av] at this
  simp [A16, fillA]
  refine this ?_
  simp
  have := @w12_of h ⟨#[69]⟩ [⟨1, ⟨#[80]⟩, [], [], 0⟩, ⟨3, ⟨#[69]⟩, [], [], 0⟩]
  refine this ?_
  have hf : fndR ⟨#[69]⟩ [⟨1, ⟨#[80]⟩, [], [], 0⟩, ⟨3, ⟨#[69]⟩, [], [], 0⟩] = .tup [.int .i64 1, .bool true] := by
    simp [fndR, fnd]
  rw [hf]
  simp
  refine .inr ⟨h.length, 3, .bool true, drop_ok h _ 0 (by simp), by simp, ?_⟩
  simp [ofH]
  exact k
end Go.Proofs.Ytjljhmeadfejhaa
