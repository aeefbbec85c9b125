/- YtjljhmeadfejhaaGreatMT: texts of this claim, merged. -/
import Derived.Test.YtjljhmeadfejhaaGreatC0
import Derived.Test.YtjljhmeadfejhaaGreatC1
import Derived.Test.YtjljhmeadfejhaaGreatD0
import Derived.Test.YtjljhmeadfejhaaGreatT0
import Derived.Test.YtjljhmeadfejhaaGreatME4
/- names.Table.Find and the reference Find, about the engine. -/
set_option maxRecDepth 100000
set_option linter.unusedVariables false
set_option linter.unusedSimpArgs false
namespace Go.Proofs.YtjljhmeadfejhaaGreat
open Go.Eng
theorem w103_nil {h : List AO} {s : ByteArray} {K : ARes → List AO → Prop} (k : K (.ok (.tup [.int .i64 0, .bool false])) h) : W 103 [.nilp, .str s] h K := by
  refine W_of mixed c103 (by simp [A103]) ?_
  simp [A103]
  exact .inl k
theorem w103 {h : List AO} {s : ByteArray} {K : ARes → List AO → Prop} {i j : Nat} {y : AV} {es : List (AV × AV)} (h1 : h[i]? = some (.box [.map j, y])) (h2 : h[j]? = some (.map es)) {r : Option AV} (h3 : findA (.str s) es = some r)
    (hr : ∀ x, r = some x → ∃ n, x = .int .i64 n) (k : K (.ok (.tup [r.getD (.int .i64 0), .bool r.isSome])) h) : W 103 [.ptr i 0, .str s] h K := by
  refine W_of mixed c103 (by simp [A103]) ?_
  cases r with
  | none =>
    simp [A103, h1, h2, h3]
    exact .inl k
  | some x =>
    simp [A103, h1, h2, h3]
    exact .inl k
/-- The first place of a name. -/
def fnd (s : ByteArray) : List Decl → Option Nat
  | [] => none
  | d :: l => if d.name = s then some 0 else (fnd s l).map (· + 1)
def pl : Option Nat → Int
  | none => -1
  | some i => i

theorem w99 {h : List AO} {ds : List Decl} {s : ByteArray} {K : ARes → List AO → Prop} (hl : ds.length < 4611686018427387904) (k : K (.ok (.int .i64 (pl (fnd s ds)))) h) : W 99 [.rsl (ds.map Decl.av), .str s] h K := by
  refine W_of mixed c99 (by simp [A99, A99_l0, A99_r0]) ?_
  simp [A99, A99_l0, A99_r0]
  refine lp_ind (ι := Nat) (fun i => i ≤ ds.length ∧ fnd s ds = (fnd s (ds.drop i)).map (· + i)) (fun i => ds.length - i) (fun i => [(0, .rsl (ds.map Decl.av)), (1, .str s), (5, .int .i64 (i : Int))]) (fun _ => h) ?_ 0 (by simp)
  intro i ⟨hi, hf⟩ ih
  have hw : IntKind.i64.wrap ((i : Int) + 1) = ((i + 1 : Nat) : Int) := by rw [wrap_i64 _ (by omega) (by omega)]; omega
  by_cases hlt : i < ds.length
  · have hd : ds.drop i = ds[i] :: ds.drop (i + 1) := List.drop_eq_getElem_cons hlt
    rw [hd] at hf
    simp [hlt, Decl.av]
    by_cases hn : ds[i].name = s
    · simp [hn, fnd] at hf ⊢
      rw [hf] at k
      exact .inl k
    · simp [hn, fnd, hw] at hf ⊢
      refine ih (i + 1) ⟨by omega, ?_⟩ (by omega)
      rw [hf]
      cases fnd s (ds.drop (i + 1)) <;> simp <;> omega
  · have : ds.drop i = [] := List.drop_eq_nil_of_le (by omega)
    rw [this] at hf
    simp [hlt]
    simp [fnd] at hf
    rw [hf] at k
    exact .inl k
end Go.Proofs.YtjljhmeadfejhaaGreat

/- names.Of, about the engine. -/
set_option maxRecDepth 100000
set_option linter.unusedVariables false
set_option linter.unusedSimpArgs false
namespace Go.Proofs.YtjljhmeadfejhaaGreat
open Go.Eng
/-- The map of names to first places, in the order of their coming. -/
def addAt (m : List (AV × AV)) (s : ByteArray) (i : Nat) : List (AV × AV) :=
  match findA (.str s) m with
  | some (some _) => m
  | _ => (updA (.str s) (.int .i64 i) m).getD m
def atOf : List Decl → List (AV × AV) → Nat → List (AV × AV)
  | [], m, _ => m
  | d :: l, m, i => atOf l (addAt m d.name i) (i + 1)
/-- All keys are texts, all values numbers. -/
def StrMap (m : List (AV × AV)) : Prop := ∀ e ∈ m, ∃ s i, e = (.str s, .int .i64 i)


theorem StrMap.find {m : List (AV × AV)} (H : StrMap m) (s : ByteArray) : findA (.str s) m = some none ∨ ∃ i : Int, findA (.str s) m = some (some (.int .i64 i)) := by
  induction m with
  | nil => exact .inl rfl
  | cons e m ih =>
    obtain ⟨t, i, rfl⟩ := H e (List.mem_cons_self)
    simp only [findA, keyEq]
    by_cases h : s = t
    · simp [h]
    · simp [h]; exact ih fun e he => H e (List.mem_cons_of_mem _ he)
theorem StrMap.upd {m : List (AV × AV)} (H : StrMap m) (s : ByteArray) (i : Nat) : ∃ m', updA (.str s) (.int .i64 i) m = some m' ∧ StrMap m' := by
  induction m with
  | nil => exact ⟨_, rfl, fun e he => by simp at he; exact ⟨s, i, he⟩⟩
  | cons e m ih =>
    obtain ⟨t, j, rfl⟩ := H e (List.mem_cons_self)
    obtain ⟨m', h1, h2⟩ := ih fun e he => H e (List.mem_cons_of_mem _ he)
    simp only [updA, keyEq]
    by_cases h : s = t
    · simp [h]
      intro e he
      rcases List.mem_cons.1 he with rfl | he
      · exact ⟨t, i, rfl⟩
      · exact H e (List.mem_cons_of_mem _ he)
    · simp [h, h1]
      intro e he
      rcases List.mem_cons.1 he with rfl | he
      · exact ⟨t, j, rfl⟩
      · exact h2 e he
theorem StrMap.add {m : List (AV × AV)} (H : StrMap m) (s : ByteArray) (i : Nat) : StrMap (addAt m s i) := by
  unfold addAt
  split
  · exact H
  · obtain ⟨m', h1, h2⟩ := H.upd s i
    rw [h1]; exact h2
theorem atOf_str : ∀ (l : List Decl) (m : List (AV × AV)) (i : Nat), StrMap m → StrMap (atOf l m i)
  | [], m, i, H => H
  | d :: l, m, i, H => atOf_str l _ _ (H.add d.name i)
theorem atOf_snoc : ∀ (l : List Decl) (d : Decl) (m : List (AV × AV)) (i : Nat), atOf (l ++ [d]) m i = addAt (atOf l m i) d.name (i + l.length)
  | [], d, m, i => rfl
  | x :: l, d, m, i => by
    simp only [List.cons_append, atOf]
    rw [atOf_snoc l d]
    congr 1
    simp; omega

def mp (ds : List Decl) (i : Nat) : List (AV × AV) := atOf (ds.take i) [] 0
def kinds (l : List Decl) : List AV := l.map fun d => .int .i64 d.kind
def ofH (h : List AO) (ds : List Decl) : Nat → List AO
  | 0 => h ++ [.map [], .box [.map h.length, .esl]]
  | i + 1 => h ++ [.map (mp ds (i + 1)), .box [.map h.length, .osl (h.length + 3) (kinds (ds.take (i + 1)))], .box ((ds.head?.map fun d => d.av.cells).getD []), .tok 3 1 (i + 1)]
theorem mp_succ {ds : List Decl} {i : Nat} (hi : i < ds.length) : mp ds (i + 1) = addAt (mp ds i) ds[i].name i := by
  unfold mp
  rw [List.take_succ_eq_append_getElem hi, atOf_snoc]
  simp [Nat.min_eq_left (Nat.le_of_lt hi)]
theorem mp_str (ds : List Decl) (i : Nat) : StrMap (mp ds i) := atOf_str _ _ _ (fun e he => by simp at he)
theorem addAt_some {m : List (AV × AV)} {s : ByteArray} {v : AV} (i : Nat) (e : findA (.str s) m = some (some v)) : addAt m s i = m := by simp [addAt, e]
theorem addAt_none {m m' : List (AV × AV)} {s : ByteArray} (i : Nat) (e : findA (.str s) m = some none) (e' : updA (.str s) (.int .i64 i) m = some m') : addAt m s i = m' := by simp [addAt, e, e']
theorem kinds_succ {ds : List Decl} {i : Nat} (hi : i < ds.length) : kinds (ds.take (i + 1)) = kinds (ds.take i) ++ [.int .i64 ds[i].kind] := by
  unfold kinds
  rw [List.take_succ_eq_append_getElem hi, List.map_append]; rfl
theorem kinds_len {ds : List Decl} {i : Nat} (hi : i ≤ ds.length) : (kinds (ds.take i)).length = i := by simp [kinds, Nat.min_eq_left hi]

theorem ofH_pos {h : List AO} {ds : List Decl} {i : Nat} (hi : 0 < i) : ofH h ds i = h ++ [.map (mp ds i), .box [.map h.length, .osl (h.length + 3) (kinds (ds.take i))], .box ((ds.head?.map fun d => d.av.cells).getD []), .tok 3 1 i] := by
  cases i with
  | zero => omega
  | succ j => rfl
theorem w77 {h : List AO} {ds : List Decl} {K : ARes → List AO → Prop} (hl : ds.length < 2199023255552) (k : K (.ok (.ptr (h.length + 1) 0)) (ofH h ds ds.length)) : W 77 [.rsl (ds.map Decl.av)] h K := by
  refine W_of mixed c77 (by simp [A77]) ?_
  simp [A77, fillA]
  refine lp_ind (ι := Nat) (fun i => i ≤ ds.length) (fun i => ds.length - i) (fun i => [(3, .ptr (h.length + 1) 0), (11, .rsl (ds.map Decl.av)), (12, .int .i64 (ds.length : Int)), (13, .int .i64 (i : Int))]) (fun i => ofH h ds i) ?_ 0 (by simp)
  intro i hi ih
  have hw : IntKind.i64.wrap ((i : Int) + 1) = ((i + 1 : Nat) : Int) := by rw [wrap_i64 _ (by omega) (by omega)]; omega
  by_cases hlt : i < ds.length
  · have IH := ih (i + 1) (by omega) (by omega)
    have hm := mp_succ hlt
    have hk := kinds_succ hlt
    have hkl := kinds_len hi
    have h0 : ∃ d0, ds.head? = some d0 := by cases ds <;> simp at hlt ⊢
    obtain ⟨d0, h0⟩ := h0
    have hb : (i + 1) * 8 ≤ 140737488355328 := by omega
    rcases Nat.eq_zero_or_pos i with rfl | hpos
    · have h00 : ds[0] = d0 := by cases ds <;> simp at hlt h0 ⊢; exact h0
      simp [ofH, h0, hm, hk, h00] at IH
      simp [mp, atOf, addAt, kinds, Decl.av] at IH
      simp [A77_l0, hlt, Decl.av, ofH, appA, hw, h00]
      exact IH
    · rw [ofH_pos (by omega), hm, hk] at IH
      rcases (mp_str ds i).find ds[i].name with hf | ⟨v, hf⟩
      · obtain ⟨m', hu, hstr⟩ := (mp_str ds i).upd ds[i].name i
        rw [addAt_none _ hf hu] at IH
        simp [A77_l0, hlt, Decl.av, ofH_pos hpos, hw, hf, hu, appA, hkl, hb, h0]
        refine lp_cut 4 ?_ (by simp; rfl) ?_
        · simp [AO.bel, belL, AV.bel]
          intro a b hab
          obtain ⟨s, n, e⟩ := hstr _ hab
          injection e with _ e; subst e; rfl
        · simp [Decl.av, h0] at IH
          exact IH
      · have hstr := mp_str ds i
        rw [addAt_some _ hf] at IH
        simp [A77_l0, hlt, Decl.av, ofH_pos hpos, hw, hf, appA, hkl, hb, h0]
        refine lp_cut 4 ?_ (by simp; rfl) ?_
        · simp [AO.bel, belL, AV.bel]
          intro a b hab
          obtain ⟨s, n, e⟩ := hstr _ hab
          injection e with _ e; subst e; rfl
        · simp [Decl.av, h0] at IH
          exact IH
  · have : i = ds.length := by omega
    subst this
    simp [A77_l0, A77_r0]
    exact .inl k
end Go.Proofs.YtjljhmeadfejhaaGreat

/- Find, Kind and awake on a table of names, about the engine. -/
set_option maxRecDepth 100000
set_option linter.unusedVariables false
set_option linter.unusedSimpArgs false
namespace Go.Proofs.YtjljhmeadfejhaaGreat
open Go.Eng

theorem upd_none {m : List (AV × AV)} {t : ByteArray} {v : AV} (H : StrMap m) (e : findA (.str t) m = some none) : updA (.str t) v m = some (m ++ [(.str t, v)]) := by
  induction m with
  | nil => rfl
  | cons x m ih =>
    obtain ⟨u, i, rfl⟩ := H x (List.mem_cons_self)
    simp only [findA, keyEq] at e
    by_cases hu : t = u
    · simp [hu] at e
    · simp [hu] at e
      simp [updA, keyEq, hu, ih (fun e he => H e (List.mem_cons_of_mem _ he)) e]
theorem find_snoc {m : List (AV × AV)} {s t : ByteArray} {v : AV} (H : StrMap m) : findA (.str s) (m ++ [(.str t, v)]) = match findA (.str s) m with
    | some (some x) => some (some x)
    | _ => if s = t then some (some v) else some none := by
  induction m with
  | nil => by_cases h : s = t <;> simp [findA, keyEq, h]
  | cons x m ih =>
    obtain ⟨u, i, rfl⟩ := H x (List.mem_cons_self)
    simp only [List.cons_append, findA, keyEq]
    by_cases hu : s = u
    · simp [hu]
    · simp [hu, ih (fun e he => H e (List.mem_cons_of_mem _ he))]
theorem find_add {m : List (AV × AV)} {s t : ByteArray} {i : Nat} (H : StrMap m) : findA (.str s) (addAt m t i) = match findA (.str s) m with
    | some (some x) => some (some x)
    | _ => if t = s then some (some (.int .i64 i)) else some none := by
  rcases H.find t with h | ⟨v, h⟩
  · rw [addAt_none i h (upd_none H h), find_snoc H]
    have : (s = t) = (t = s) := propext ⟨Eq.symm, Eq.symm⟩
    simp only [this]
  · rw [addAt_some i h]
    by_cases e : t = s
    · subst e; rw [h]
    · rcases H.find s with h' | ⟨v', h'⟩ <;> simp [h', e]
theorem find_atOf (s : ByteArray) : ∀ (l : List Decl) (m : List (AV × AV)) (i : Nat), StrMap m → findA (.str s) (atOf l m i) = match findA (.str s) m with
    | some (some x) => some (some x)
    | _ => some ((fnd s l).map fun k => .int .i64 ((i + k : Nat) : Int))
  | [], m, i, H => by
    rcases H.find s with h' | ⟨v', h'⟩ <;> simp [atOf, h', fnd]
  | d :: l, m, i, H => by
    simp only [atOf]
    rw [find_atOf s l _ _ (H.add d.name i), find_add H]
    rcases H.find s with h' | ⟨v', h'⟩
    · by_cases e : d.name = s
      · simp [h', e, fnd]
      · simp only [h', e, fnd, if_false]
        cases fnd s l <;> simp
        omega
    · simp [h']
theorem find_mp (s : ByteArray) (ds : List Decl) : findA (.str s) (mp ds ds.length) = some ((fnd s ds).map fun k => .int .i64 (k : Int)) := by
  unfold mp
  rw [List.take_length, find_atOf s ds [] 0 (fun e he => by simp at he)]
  simp [findA]

theorem fnd_lt {s : ByteArray} : ∀ {ds : List Decl} {n : Nat}, fnd s ds = some n → n < ds.length
  | [], n, e => by cases e
  | d :: l, n, e => by
    simp only [fnd] at e
    split at e
    · injection e with e; subst e; simp
    · obtain ⟨k, hk, rfl⟩ := Option.map_eq_some_iff.1 e
      have := fnd_lt hk
      simp; omega
theorem w96_nil {h : List AO} {s : ByteArray} {K : ARes → List AO → Prop} (k : K (.ok (.int .i64 0)) h) : W 96 [.nilp, .str s] h K := by
  refine W_of mixed c96 (by simp [A96]) ?_
  simp [A96]
  refine w103_nil ?_
  simp
  exact .inl k
theorem w96 {h : List AO} {s : ByteArray} {K : ARes → List AO → Prop} {i j : Nat} {y : AV} {es : List (AV × AV)} (h1 : h[i]? = some (.box [.map j, y])) (h2 : h[j]? = some (.map es)) {ds : List Decl} (h3 : findA (.str s) es = some ((fnd s ds).map fun k => .int .i64 (k : Int)))
    (hy : iaA_ 1 y = iaA_ 1 (.rsl (kinds ds))) (k : K (.ok (.int .i64 (match fnd s ds with | some n => (ds[n]?.map Decl.kind).getD 0 | none => 0))) h) : W 96 [.ptr i 0, .str s] h K := by
  refine W_of mixed c96 (by simp [A96]) ?_
  simp [A96]
  refine w103 h1 h2 h3 (fun x hx => ?_) ?_
  · cases hf : fnd s ds <;> rw [hf] at hx <;> simp at hx
    exact ⟨_, hx.symm⟩
  · cases hf : fnd s ds with
    | none =>
      simp
      rw [hf] at k
      exact .inl k
    | some n =>
      have hlt := fnd_lt hf
      simp [-iaA_, h1, hy]
      simp [kinds, hlt]
      rw [hf] at k
      simp [hlt] at k
      exact .inl k
theorem w59 {h : List AO} {ds : List Decl} {s : ByteArray} {K : ARes → List AO → Prop} (hl : ds.length < 4611686018427387904) (k : K (.ok (.int .i64 (match fnd s ds with | some n => (ds[n]?.map Decl.kind).getD 0 | none => 0))) h) : W 59 [.rsl (ds.map Decl.av), .str s] h K := by
  refine W_of mixed c59 (by simp [A59]) ?_
  simp [A59]
  refine w99 hl ?_
  cases hf : fnd s ds with
  | none =>
    simp [pl]
    rw [hf] at k
    exact .inl k
  | some n =>
    have hlt := fnd_lt hf
    rw [hf] at k
    simp [hlt] at k
    simp [pl, hlt, Decl.av]
    exact .inl k
/-- A table as names.Of leaves it. -/
theorem ofH_box (h : List AO) (ds : List Decl) (n : Nat) : ∃ y, (ofH h ds n)[h.length + 1]? = some (.box [.map h.length, y]) ∧ (ofH h ds n)[h.length]? = some (.map (mp ds n)) ∧ ∀ i, iaA_ 1 y i = iaA_ 1 (.rsl (kinds (ds.take n))) i := by
  cases n with
  | zero => exact ⟨.esl, by simp [ofH], by simp [ofH, mp, atOf], fun i => by simp [kinds]⟩
  | succ n => exact ⟨.osl (h.length + 3) (kinds (ds.take (n + 1))), by simp [ofH], by simp [ofH], fun i => by simp⟩
/-- What Find gives. -/
def fndR (s : ByteArray) (ds : List Decl) : AV := .tup [((fnd s ds).map fun (k : Nat) => AV.int .i64 (k : Int)).getD (.int .i64 0), .bool (fnd s ds).isSome]
theorem w103_of {h : List AO} {s : ByteArray} {ds : List Decl} {K : ARes → List AO → Prop} (k : K (.ok (fndR s ds)) (ofH h ds ds.length)) : W 103 [.ptr (h.length + 1) 0, .str s] (ofH h ds ds.length) K := by
  obtain ⟨y, h1, h2, h3⟩ := ofH_box h ds ds.length
  refine w103 h1 h2 (find_mp s ds) (fun x hx => ?_) ?_
  · cases hf : fnd s ds <;> rw [hf] at hx <;> simp at hx
    exact ⟨_, hx.symm⟩
  · simpa [fndR] using k
def kindR (s : ByteArray) (ds : List Decl) : Int := match fnd s ds with | some n => (ds[n]?.map Decl.kind).getD 0 | none => 0
theorem w96_of {h : List AO} {s : ByteArray} {ds : List Decl} {K : ARes → List AO → Prop} (k : K (.ok (.int .i64 (kindR s ds))) (ofH h ds ds.length)) : W 96 [.ptr (h.length + 1) 0, .str s] (ofH h ds ds.length) K := by
  obtain ⟨y, h1, h2, h3⟩ := ofH_box h ds ds.length
  exact w96 h1 h2 (find_mp s ds) (funext fun i => by rw [h3, List.take_length]) k
end Go.Proofs.YtjljhmeadfejhaaGreat

/- Twice and NamesOwn, about the engine. -/
set_option maxRecDepth 100000
set_option linter.unusedVariables false
set_option linter.unusedSimpArgs false
namespace Go.Proofs.YtjljhmeadfejhaaGreat
open Go.Eng

/-- Behind what was there: the objects of a table. -/
def ofT (n0 : Nat) (ds : List Decl) : Nat → List AO
  | 0 => [.map [], .box [.map n0, .esl]]
  | i + 1 => [.map (mp ds (i + 1)), .box [.map n0, .osl (n0 + 3) (kinds (ds.take (i + 1)))], .box ((ds.head?.map fun d => d.av.cells).getD []), .tok 3 1 (i + 1)]
theorem ofH_eq (h : List AO) (ds : List Decl) (n : Nat) : ofH h ds n = h ++ ofT h.length ds n := by cases n <;> rfl
theorem ofT_bel (n0 : Nat) (ds : List Decl) (n : Nat) : (ofT n0 ds n).all (AO.bel (n0 + (ofT n0 ds n).length)) = true ∧ 2 ≤ (ofT n0 ds n).length := by
  cases n with
  | zero => simp [ofT, AO.bel, belL, AV.bel]
  | succ i =>
    simp [ofT, AO.bel, belL, AV.bel]
    constructor
    · intro a b hab
      obtain ⟨s, n, e⟩ := mp_str ds (i + 1) _ hab
      injection e with _ e; subst e; rfl
    · cases ds <;> simp [belL, AV.bel, Decl.av]
theorem lp_cut_of {h l : List AO} {ds : List Decl} {n : Nat} {res : List ARV} {K : ARes → List AO → Prop} {keep : List Nat} {a : AC} {k : List KI} {f f' : Fr}
    (hf : ∀ m, h.length + 2 ≤ m → ∀ h', outF m h' 3 (keepF keep f) = some f') (L : LP ⟨intPg Tryz.prog 0 .i64, h, res, K⟩ keep a k f' (ofH h ds n)) : LP ⟨intPg Tryz.prog 0 .i64, h, res, K⟩ keep a k f (ofH h ds n ++ l) := by
  rw [ofH_eq] at L ⊢
  obtain ⟨b1, b2⟩ := ofT_bel h.length ds n
  rw [List.append_assoc]
  refine lp_cut (ofT h.length ds n).length ?_ (hf _ (by omega) _) ?_
  · rw [List.take_left]; exact b1
  · rw [List.take_left]; exact L
theorem w103_of' {h l : List AO} {s : ByteArray} {ds : List Decl} {K : ARes → List AO → Prop} (k : K (.ok (fndR s ds)) (ofH h ds ds.length ++ l)) : W 103 [.ptr (h.length + 1) 0, .str s] (ofH h ds ds.length ++ l) K := by
  obtain ⟨y, h1, h2, h3⟩ := ofH_box h ds ds.length
  have e1 : (ofH h ds ds.length ++ l)[h.length + 1]? = some (.box [.map h.length, y]) := by
    rw [List.getElem?_append_left (List.getElem?_eq_some_iff.1 h1).1]; exact h1
  have e2 : (ofH h ds ds.length ++ l)[h.length]? = some (.map (mp ds ds.length)) := by
    rw [List.getElem?_append_left (List.getElem?_eq_some_iff.1 h2).1]; exact h2
  refine w103 e1 e2 (find_mp s ds) (fun x hx => ?_) ?_
  · cases hf : fnd s ds <;> rw [hf] at hx <;> simp at hx
    exact ⟨_, hx.symm⟩
  · simpa [fndR] using k
theorem ret_of {h l : List AO} {ds : List Decl} {n : Nat} {K : ARes → List AO → Prop} {x : AV} (hx : ∀ h', out h.length h' 3 x = some x) (k : K (.ok x) h) : retK h K x (ofH h ds n ++ l) := by
  rw [ofH_eq, List.append_assoc]
  exact ret_pure (hx _) k

theorem fnd_le {ds : List Decl} {i : Nat} (hi : i < ds.length) : ∃ k, fnd ds[i].name ds = some k ∧ k ≤ i := by
  induction ds generalizing i with
  | nil => simp at hi
  | cons d l ih =>
    cases i with
    | zero => exact ⟨0, by simp [fnd], by omega⟩
    | succ i =>
      obtain ⟨k, h1, h2⟩ := ih (i := i) (by simpa using hi)
      simp only [List.getElem_cons_succ, fnd]
      split
      · exact ⟨0, rfl, by omega⟩
      · exact ⟨k + 1, by rw [h1]; rfl, by omega⟩
def good (ds : List Decl) (i : Nat) : Bool := match ds[i]? with
  | some d => fnd d.name ds == some i
  | none => true
def twice (ds : List Decl) : Int := match (List.range ds.length).find? (fun i => !good ds i) with
  | some i => i
  | none => -1
theorem twice_at {ds : List Decl} {i : Nat} (hi : i < ds.length) (h1 : ∀ j, j < i → good ds j = true) (h2 : good ds i = false) : twice ds = i := by
  have : (List.range ds.length).find? (fun i => !good ds i) = some i := by
    rw [List.find?_range_eq_some]
    exact ⟨by simp [h2], by simpa using hi, fun j hj => by simp [h1 j hj]⟩
  simp [twice, this]
theorem twice_none {ds : List Decl} (h1 : ∀ j, j < ds.length → good ds j = true) : twice ds = -1 := by
  have : (List.range ds.length).find? (fun i => !good ds i) = none := by
    rw [List.find?_eq_none]
    intro j hj
    simp [h1 j (by simpa using hj)]
  simp [twice, this]

end Go.Proofs.YtjljhmeadfejhaaGreat

/- Field, Method, Twice of names and of the reference, about the engine. -/
set_option maxRecDepth 100000
set_option linter.unusedVariables false
set_option linter.unusedSimpArgs false
namespace Go.Proofs.YtjljhmeadfejhaaGreat
open Go.Eng

/-- At i there is a table of the declarations. -/
def IsTab (H : List AO) (i : Nat) (ds : List Decl) : Prop := ∃ j y, H[i]? = some (.box [.map j, y]) ∧ H[j]? = some (.map (mp ds ds.length)) ∧ ∀ q, iaA_ 1 y q = iaA_ 1 (.rsl (kinds ds)) q
theorem isTab_app (pre post : List AO) (ds : List Decl) : IsTab (pre ++ (ofT pre.length ds ds.length ++ post)) (pre.length + 1) ds := by
  obtain ⟨y, h1, h2, h3⟩ := ofH_box pre ds ds.length
  rw [ofH_eq] at h1 h2
  refine ⟨pre.length, y, ?_, ?_, fun q => by rw [h3, List.take_length]⟩
  · rw [← List.append_assoc, List.getElem?_append_left (List.getElem?_eq_some_iff.1 h1).1]; exact h1
  · rw [← List.append_assoc, List.getElem?_append_left (List.getElem?_eq_some_iff.1 h2).1]; exact h2
theorem w103t {H : List AO} {i : Nat} {s : ByteArray} {ds : List Decl} {K : ARes → List AO → Prop} (T : IsTab H i ds) (k : K (.ok (fndR s ds)) H) : W 103 [.ptr i 0, .str s] H K := by
  obtain ⟨j, y, h1, h2, h3⟩ := T
  refine w103 h1 h2 (find_mp s ds) (fun x hx => ?_) ?_
  · cases hf : fnd s ds <;> rw [hf] at hx <;> simp at hx
    exact ⟨_, hx.symm⟩
  · simpa [fndR] using k
theorem w96t {H : List AO} {i : Nat} {s : ByteArray} {ds : List Decl} {K : ARes → List AO → Prop} (T : IsTab H i ds) (k : K (.ok (.int .i64 (kindR s ds))) H) : W 96 [.ptr i 0, .str s] H K := by
  obtain ⟨j, y, h1, h2, h3⟩ := T
  exact w96 h1 h2 (find_mp s ds) (funext h3) k
theorem w77t {h : List AO} {ds : List Decl} {K : ARes → List AO → Prop} (hl : ds.length < 2199023255552) (k : K (.ok (.ptr (h.length + 1) 0)) (h ++ ofT h.length ds ds.length)) : W 77 [.rsl (ds.map Decl.av)] h K :=
  w77 hl (by rw [ofH_eq]; exact k)

/-- The first place of a tag. -/
def fldAt (tag : Int) : List Fld → Option Nat
  | [] => none
  | f :: l => if f.tag = tag then some 0 else (fldAt tag l).map (· + 1)
theorem fldAt_step {tag : Int} {l : List Fld} {i : Nat} {f : Fld} (hi : l[i]? = some f) (e : fldAt tag l = (fldAt tag (l.drop i)).map (· + i)) :
    (f.tag = tag → fldAt tag l = some i) ∧ (f.tag ≠ tag → fldAt tag l = (fldAt tag (l.drop (i + 1))).map (· + (i + 1))) := by
  have hlt := (List.getElem?_eq_some_iff.1 hi).1
  have hf : l[i] = f := by rw [List.getElem?_eq_getElem hlt] at hi; injection hi
  rw [List.drop_eq_getElem_cons hlt, hf] at e
  simp only [fldAt] at e
  constructor
  · intro h; rw [if_pos h] at e; simpa using e
  · intro h
    rw [if_neg h] at e
    rw [e]
    cases fldAt tag (l.drop (i + 1)) <;> simp
    omega

theorem w167 {h : List AO} {d : Decl} {tag : Int} {K : ARes → List AO → Prop} (hl : d.fields.length < most) (k : K (.ok (.int .i64 (pl (fldAt tag d.fields)))) h) :
    W 167 [.agg [.int .i64 d.kind, .str d.name, .rsl (d.fields.map Fld.av), .rsl (d.methods.map Mth.av), .int .i64 d.e], .int .i64 tag] h K := by
  simp only [most] at hl
  refine W_of mixed c167 (by simp [A167]) ?_
  simp [A167]
  refine lp_ind (ι := Nat) (fun i => i ≤ d.fields.length ∧ fldAt tag d.fields = (fldAt tag (d.fields.drop i)).map (· + i)) (fun i => d.fields.length - i)
    (fun i => [(1, .int .i64 tag), (2, .ptr h.length 0), (5, .int .i64 (i : Int))])
    (fun i => h ++ [.box [.int .i64 d.kind, .str d.name, .rsl (d.fields.map Fld.av), .rsl (d.methods.map Mth.av), .int .i64 d.e]]) ?_ 0 ⟨by omega, by simp⟩
  intro i ⟨hi, hf⟩ ih
  have hw : IntKind.i64.wrap ((i : Int) + 1) = ((i + 1 : Nat) : Int) := by rw [wrap_i64 _ (by omega) (by omega)]; omega
  by_cases hlt : i < d.fields.length
  · obtain ⟨s1, s2⟩ := fldAt_step (List.getElem?_eq_getElem hlt) hf
    by_cases hn : d.fields[i].tag = tag
    · simp [A167_l0, hlt, Fld.av, hn]
      refine ret_pure (by simp) ?_
      rw [s1 hn] at k
      exact k
    · simp [A167_l0, hlt, Fld.av, hn, hw]
      exact ih (i + 1) ⟨by omega, s2 hn⟩ (by omega)
  · have : d.fields.drop i = [] := List.drop_eq_nil_of_le (by omega)
    rw [this] at hf
    simp [A167_l0, A167_r0, hlt]
    refine ret_pure (by simp) ?_
    simp [fldAt] at hf
    rw [hf] at k
    exact k

/-- The method of names. -/
def mthAt (svc m : ByteArray) (ds : List Decl) : Option Mth := match fnd svc ds with
  | some i => match ds[i]? with
    | some d => if d.kind = 4 then d.methods.find? (fun x => decide (x.name = m)) else none
    | none => none
  | none => none
def noMth : Mth := ⟨0, ⟨#[]⟩, ⟨#[]⟩, ⟨#[]⟩, false⟩
def mthR (o : Option Mth) : AV := .tup [(o.getD noMth).av, .bool o.isSome]
theorem find_step {m : ByteArray} {l : List Mth} {i : Nat} (hi : i < l.length) (e : l.find? (fun x => decide (x.name = m)) = (l.drop i).find? (fun x => decide (x.name = m))) :
    (l[i].name = m → l.find? (fun x => decide (x.name = m)) = some l[i]) ∧ (l[i].name ≠ m → l.find? (fun x => decide (x.name = m)) = (l.drop (i + 1)).find? (fun x => decide (x.name = m))) := by
  rw [List.drop_eq_getElem_cons hi, List.find?_cons] at e
  constructor
  · intro h; simp [h] at e; exact e
  · intro h; simp [h] at e; exact e

end Go.Proofs.YtjljhmeadfejhaaGreat

/- Which declarations are finite: one round of the reference, about the engine. -/
set_option maxRecDepth 100000
set_option linter.unusedVariables false
set_option linter.unusedSimpArgs false
namespace Go.Proofs.YtjljhmeadfejhaaGreat
open Go.Eng
def fineM (ds : List Decl) (known : List Bool) (t : Ty) : Bool := !decide (t.kind = 6) || match fnd t.name ds with
  | some i => known[i]?.getD false
  | none => false
def oneM (ds : List Decl) (known : List Bool) (d : Decl) : Bool :=
  decide (d.kind = 3) || decide (d.kind = 4) || (decide (d.kind = 1) && d.fields.all fun f => fineM ds known f.ty) || (decide (d.kind = 2) && d.fields.any fun f => fineM ds known f.ty)

/-- How many are fine. -/
def cnt (ds : List Decl) (known : List Bool) : List Fld → Nat
  | [] => 0
  | f :: l => (if fineM ds known f.ty then 1 else 0) + cnt ds known l
theorem cnt_snoc (ds : List Decl) (known : List Bool) : ∀ (l : List Fld) (f : Fld), cnt ds known (l ++ [f]) = cnt ds known l + (if fineM ds known f.ty then 1 else 0)
  | [], f => by simp [cnt]
  | g :: l, f => by simp only [List.cons_append, cnt, cnt_snoc ds known l f]; omega
theorem cnt_le (ds : List Decl) (known : List Bool) : ∀ (l : List Fld), cnt ds known l ≤ l.length
  | [] => by simp [cnt]
  | g :: l => by
    have := cnt_le ds known l
    simp only [cnt, List.length_cons]
    split <;> omega
theorem cnt_all (ds : List Decl) (known : List Bool) : ∀ (l : List Fld), (cnt ds known l = l.length) = (l.all fun f => fineM ds known f.ty)
  | [] => by simp [cnt]
  | g :: l => by
    have := cnt_all ds known l
    have h2 := cnt_le ds known l
    simp only [cnt, List.length_cons, List.all_cons]
    cases hb : fineM ds known g.ty
    · simp; omega
    · simp only [if_true, Bool.true_and, ← this]
      apply propext; omega
theorem cnt_any (ds : List Decl) (known : List Bool) : ∀ (l : List Fld), (0 < cnt ds known l) = (l.any fun f => fineM ds known f.ty)
  | [] => by simp [cnt]
  | g :: l => by
    have := cnt_any ds known l
    simp only [cnt, List.any_cons]
    cases hb : fineM ds known g.ty
    · simp only [Bool.false_eq_true, if_false, Bool.false_or, ← this]
      apply propext; omega
    · simp; omega

end Go.Proofs.YtjljhmeadfejhaaGreat

/- The reference's Finite, about the engine. -/
set_option maxRecDepth 100000
set_option linter.unusedVariables false
set_option linter.unusedSimpArgs false
namespace Go.Proofs.YtjljhmeadfejhaaGreat
open Go.Eng
theorem lp_ind' {C : Ctx} {k : List KI} {ι : Type} {keep : List Nat} {a : AC} {f : Fr} {h : List AO} (Inv : ι → Prop) (μ : ι → Nat) (F : ι → Fr) (H : ι → List AO)
    (step : ∀ i, Inv i → (∀ j, Inv j → μ j < μ i → LP C keep a k (F j) (H j)) → R C a (.lp keep a :: k) (keepF keep (F i)) (H i)) (i : ι) (hi : Inv i) (hf : F i = f) (hh : H i = h) : LP C keep a k f h := by
  subst hf hh
  exact lp_ind Inv μ F H step i hi
def rndM (ds : List Decl) (bs : List Bool) : List Bool := ds.map (oneM ds bs)
def itF (ds : List Decl) : Nat → List Bool
  | 0 => List.replicate ds.length false
  | k + 1 => rndM ds (itF ds k)
theorem itF_len (ds : List Decl) (k : Nat) : (itF ds k).length = ds.length := by cases k <;> simp [itF, rndM]
def rows (ds : List Decl) (n : Nat) : List AO := (List.range (n + 1)).map fun k => .box ((itF ds k).map .bool)
theorem rows_len (ds : List Decl) (n : Nat) : (rows ds n).length = n + 1 := by simp [rows]
theorem rows_get (ds : List Decl) (n : Nat) (l : List AO) : (rows ds n ++ l)[n]? = some (.box ((itF ds n).map .bool)) := by
  rw [List.getElem?_append_left (by rw [rows_len]; omega)]; simp [rows]
theorem rows_next (ds : List Decl) (n : Nat) (l : List AO) : (rows ds n ++ l)[n + 1]? = l[0]? := by
  rw [List.getElem?_append_right (by rw [rows_len]; omega), rows_len]; simp
theorem rows_set (ds : List Decl) (n : Nat) (x y : AO) : (rows ds n ++ [x]).set (n + 1) y = rows ds n ++ [y] := by
  rw [List.set_append_right _ _ (by rw [rows_len]; omega), rows_len]; simp
theorem rows_succ (ds : List Decl) (n : Nat) : rows ds (n + 1) = rows ds n ++ [.box ((itF ds (n + 1)).map .bool)] := by
  simp only [rows]
  rw [List.range_succ, List.map_append]; rfl
theorem mapO_bools (m : Nat) (H : List AO) (k : Nat) : ∀ bs : List Bool, mapO (frz m H (k + 1)) (bs.map .bool) = some (bs.map .bool)
  | [] => rfl
  | b :: bs => by simp [mapO, frz, mapO_bools m H k bs]

/-- A row that is filled: the first q cells are told. -/
def part (A : List AV) (q : Nat) (z : AV) : List AV := A.take q ++ List.replicate (A.length - q) z
theorem part_len (A : List AV) (q : Nat) (z : AV) (hq : q ≤ A.length) : (part A q z).length = A.length := by simp [part]; omega
theorem part_set (A : List AV) (q : Nat) (z y : AV) (hq : q < A.length) (hy : A[q] = y) : setL (part A q z) q [y] = part A (q + 1) z := by
  have hl : (A.take q).length = q := by simp; omega
  unfold setL part
  rw [List.take_append_of_le_length (by omega), List.take_of_length_le (by omega), List.take_succ_eq_append_getElem hq, hy, List.append_assoc, List.append_assoc]
  congr 2
  rw [List.drop_append, List.drop_of_length_le (by simp; omega)]
  simp
  omega
end Go.Proofs.YtjljhmeadfejhaaGreat

/- check.Finite, about the engine. -/
set_option maxRecDepth 100000
set_option linter.unusedVariables false
set_option linter.unusedSimpArgs false
namespace Go.Proofs.YtjljhmeadfejhaaGreat
open Go.Eng
theorem get_app_old {h : List AO} {i : Nat} {o : AO} (hi : h[i]? = some o) (l : List AO) : (h ++ l)[i]? = some o := by
  rw [List.getElem?_append_left (List.getElem?_eq_some_iff.1 hi).1]; exact hi
theorem IsTab.app {h : List AO} {i : Nat} {ds : List Decl} (T : IsTab h i ds) (l : List AO) : IsTab (h ++ l) i ds := by
  obtain ⟨j, y, h1, h2, h3⟩ := T
  exact ⟨j, y, get_app_old h1 l, get_app_old h2 l, h3⟩

theorem w178 {h : List AO} {a c tb b r m : Nat} {L : AV} {bs : List Bool} {ds : List Decl} {t : Ty} {K : ARes → List AO → Prop} (ha : h[a]? = some (.box [.ptr c 0])) (hc : h[c]? = some (.box [L, .ptr tb 0])) (T : IsTab h tb ds)
    (hb : h[b]? = some (.box [.msl r 0 m m])) (hr : h[r]? = some (.box (bs.map .bool))) (hm : m = bs.length) (hn : bs.length = ds.length) (k : K (.ok (.bool (fineM ds bs t))) h) :
    W 178 [.agg [.int .i64 t.kind, .str t.name, .rsl (t.of.map Ty.av)], .ptr a 0, .ptr b 0] h K := by
  subst hm
  have ha' := get_app_old ha
  have hc' := get_app_old hc
  have hb' := get_app_old hb
  have hr' := get_app_old hr
  refine W_of mixed c178 (by simp [A178]) ?_
  simp [A178, ha', hc']
  refine ⟨_, _, w103t (T.app _) ⟨rfl, rfl⟩, ?_⟩
  simp [fndR]
  by_cases hk : t.kind = 6
  · cases hf : fnd t.name ds with
    | none =>
      simp [hk]
      refine ret_pure (by simp) ?_
      simpa [fineM, hk, hf] using k
    | some q =>
      have hq : q < bs.length := by rw [hn]; exact fnd_lt hf
      have hqe : q ≤ bs.length := by omega
      simp [hk, hb', hr', hq, hqe]
      refine ret_pure (by simp) ?_
      simpa [fineM, hk, hf, hq] using k
  · simp [hk]
    refine ret_pure (by simp) ?_
    simpa [fineM, hk] using k

theorem all_step {ds : List Decl} {bs : List Bool} {l : List Fld} {i : Nat} (hi : i < l.length) : (l.drop i).all (fun f => fineM ds bs f.ty) = (fineM ds bs l[i].ty && (l.drop (i + 1)).all fun f => fineM ds bs f.ty) := by
  rw [List.drop_eq_getElem_cons hi]; rfl
theorem any_step {ds : List Decl} {bs : List Bool} {l : List Fld} {i : Nat} (hi : i < l.length) : (l.drop i).any (fun f => fineM ds bs f.ty) = (fineM ds bs l[i].ty || (l.drop (i + 1)).any fun f => fineM ds bs f.ty) := by
  rw [List.drop_eq_getElem_cons hi]; rfl

theorem w137 {h : List AO} {c tb r m : Nat} {L : AV} {bs : List Bool} {ds : List Decl} {d : Decl} {K : ARes → List AO → Prop} (hc : h[c]? = some (.box [L, .ptr tb 0])) (T : IsTab h tb ds)
    (hr : h[r]? = some (.box (bs.map .bool))) (hm : m = bs.length) (hn : bs.length = ds.length) (hok : d.ok) (k : K (.ok (.bool (oneM ds bs d))) h) :
    W 137 [.ptr c 0, .agg [.int .i64 d.kind, .str d.name, .rsl (d.fields.map Fld.av), .rsl (d.methods.map Mth.av), .int .i64 d.e], .msl r 0 m m] h K := by
  have hf := hok.2.2.1
  simp only [most] at hf
  have hcl := (List.getElem?_eq_some_iff.1 hc).1
  have hrl := (List.getElem?_eq_some_iff.1 hr).1
  refine W_of mixed c137 (by simp [A137]) ?_
  by_cases c3 : d.kind = 3
  · simp [A137, c3]
    refine ret_pure (by simp) ?_
    simpa [oneM, c3] using k
  · by_cases c4 : d.kind = 4
    · simp [A137, c3, c4]
      refine ret_pure (by simp) ?_
      simpa [oneM, c3, c4] using k
    · by_cases c1 : d.kind = 1
      · simp [A137, c1]
        have kk : oneM ds bs d = d.fields.all fun f => fineM ds bs f.ty := by simp [oneM, c1]
        rw [kk] at k
        refine lp_ind' (ι := Nat) (fun i => i ≤ d.fields.length ∧ (d.fields.all fun f => fineM ds bs f.ty) = ((d.fields.drop i).all fun f => fineM ds bs f.ty)) (fun i => d.fields.length - i)
          (fun i => [(4, .ptr (h.length + 1) 0), (7, .fn 178 [] [.ptr h.length 0, .ptr (h.length + 2) 0]), (20, .rsl (d.fields.map Fld.av)), (21, .int .i64 (d.fields.length : Int)), (22, .int .i64 (i : Int))])
          (fun i => h ++ [.box [.ptr c 0], .box [.int .i64 1, .str d.name, .rsl (d.fields.map Fld.av), .rsl (d.methods.map Mth.av), .int .i64 d.e], .box [.msl r 0 m m]]) ?_ 0 ⟨by omega, by simp⟩ (by simp) rfl
        intro i ⟨hi, hs⟩ ih
        have hw : IntKind.i64.wrap ((i : Int) + 1) = ((i + 1 : Nat) : Int) := by rw [wrap_i64 _ (by omega) (by omega)]; omega
        by_cases hlt : i < d.fields.length
        · rw [all_step hlt] at hs
          simp [A137_l0, hlt, Fld.av]
          refine R_regS ?_
          simp
          refine ⟨_, w178 (c := c) (tb := tb) (r := r) (m := m) (L := L) (bs := bs) (ds := ds) (t := d.fields[i].ty) (by simp) (get_app_old hc _) (T.app _) (by simp) (get_app_old hr _) hm hn ⟨rfl, rfl⟩, ?_⟩
          cases hb : fineM ds bs d.fields[i].ty with
          | false =>
            rw [hb] at hs
            simp only [Bool.false_and, Bool.true_or] at hs
            simp
            refine ret_pure (by simp) ?_
            rw [hs] at k
            exact k
          | _ =>
            rw [hb] at hs
            simp only [Bool.true_and, Bool.false_or] at hs
            simp [hw]
            refine lp_cut (f' := [(4, .ptr (h.length + 1) 0), (7, .fn 178 [] [.ptr h.length 0, .ptr (h.length + 2) 0]), (20, .rsl (d.fields.map Fld.av)), (21, .int .i64 (d.fields.length : Int)), (22, .int .i64 ((i + 1 : Nat) : Int))]) 3 ?_ ?_ (ih (i + 1) ⟨by omega, hs⟩ (by omega))
            · simp [AO.bel, belL, AV.bel]
              omega
            · simp
        · have : d.fields.drop i = [] := List.drop_eq_nil_of_le (by omega)
          rw [this] at hs
          simp [A137_l0, A137_r0, hlt]
          refine ret_pure (by simp) ?_
          simp only [List.all_nil] at hs
          rw [hs] at k
          exact k
      · by_cases c2 : d.kind = 2
        · simp [A137, c2]
          have kk : oneM ds bs d = d.fields.any fun f => fineM ds bs f.ty := by simp [oneM, c2]
          rw [kk] at k
          refine lp_ind' (ι := Nat) (fun i => i ≤ d.fields.length ∧ (d.fields.any fun f => fineM ds bs f.ty) = ((d.fields.drop i).any fun f => fineM ds bs f.ty)) (fun i => d.fields.length - i)
            (fun i => [(4, .ptr (h.length + 1) 0), (7, .fn 178 [] [.ptr h.length 0, .ptr (h.length + 2) 0]), (20, .rsl (d.fields.map Fld.av)), (21, .int .i64 (d.fields.length : Int)), (22, .int .i64 (i : Int))])
            (fun i => h ++ [.box [.ptr c 0], .box [.int .i64 2, .str d.name, .rsl (d.fields.map Fld.av), .rsl (d.methods.map Mth.av), .int .i64 d.e], .box [.msl r 0 m m]]) ?_ 0 ⟨by omega, by simp⟩ (by simp) rfl
          intro i ⟨hi, hs⟩ ih
          have hw : IntKind.i64.wrap ((i : Int) + 1) = ((i + 1 : Nat) : Int) := by rw [wrap_i64 _ (by omega) (by omega)]; omega
          by_cases hlt : i < d.fields.length
          · rw [any_step hlt] at hs
            simp [A137_l0, hlt, Fld.av]
            refine R_regS ?_
            simp
            refine ⟨_, w178 (c := c) (tb := tb) (r := r) (m := m) (L := L) (bs := bs) (ds := ds) (t := d.fields[i].ty) (by simp) (get_app_old hc _) (T.app _) (by simp) (get_app_old hr _) hm hn ⟨rfl, rfl⟩, ?_⟩
            cases hb : fineM ds bs d.fields[i].ty with
            | true =>
              rw [hb] at hs
              simp only [Bool.false_and, Bool.true_or] at hs
              simp
              refine ret_pure (by simp) ?_
              rw [hs] at k
              exact k
            | _ =>
              rw [hb] at hs
              simp only [Bool.true_and, Bool.false_or] at hs
              simp [hw]
              refine lp_cut (f' := [(4, .ptr (h.length + 1) 0), (7, .fn 178 [] [.ptr h.length 0, .ptr (h.length + 2) 0]), (20, .rsl (d.fields.map Fld.av)), (21, .int .i64 (d.fields.length : Int)), (22, .int .i64 ((i + 1 : Nat) : Int))]) 3 ?_ ?_ (ih (i + 1) ⟨by omega, hs⟩ (by omega))
              · simp [AO.bel, belL, AV.bel]
                omega
              · simp
          · have : d.fields.drop i = [] := List.drop_eq_nil_of_le (by omega)
            rw [this] at hs
            simp [A137_l0, A137_r0, hlt]
            refine ret_pure (by simp) ?_
            simp only [List.any_nil] at hs
            rw [hs] at k
            exact k
        · simp [A137, A137_r1, c1, c2, c3, c4]
          refine ret_pure (by simp) ?_
          simpa [oneM, c1, c2, c3, c4] using k
end Go.Proofs.YtjljhmeadfejhaaGreat

/- check.Finite, about the engine: it finds the least closed list. -/
set_option maxRecDepth 100000
set_option linter.unusedVariables false
set_option linter.unusedSimpArgs false
namespace Go.Proofs.YtjljhmeadfejhaaGreat
open Go.Eng
/-- What the one says, the other says too. -/
def Le (a b : List Bool) : Prop := ∀ i : Nat, a[i]?.getD false = true → b[i]?.getD false = true
theorem fineM_mono {ds : List Decl} {a b : List Bool} (L : Le a b) {t : Ty} (h : fineM ds a t = true) : fineM ds b t = true := by
  unfold fineM at h ⊢
  cases hf : fnd t.name ds with
  | none => rw [hf] at h; exact h
  | some i =>
    rw [hf] at h
    simp only [Bool.or_eq_true] at h ⊢
    exact h.imp id (L i)
theorem oneM_mono {ds : List Decl} {a b : List Bool} (L : Le a b) {d : Decl} (h : oneM ds a d = true) : oneM ds b d = true := by
  simp only [oneM, Bool.or_eq_true, Bool.and_eq_true, List.all_eq_true, List.any_eq_true] at h ⊢
  rcases h with (h | ⟨h, h'⟩) | ⟨h, f, hf, h'⟩
  · exact .inl (.inl h)
  · exact .inl (.inr ⟨h, fun f hf => fineM_mono L (h' f hf)⟩)
  · exact .inr ⟨h, f, hf, fineM_mono L h'⟩
theorem rndM_get {ds : List Decl} {bs : List Bool} {i : Nat} : (rndM ds bs)[i]?.getD false = ((ds[i]?).map (oneM ds bs)).getD false := by simp [rndM]
theorem rndM_mono {ds : List Decl} {a b : List Bool} (L : Le a b) : Le (rndM ds a) (rndM ds b) := by
  intro i h
  rw [rndM_get] at h ⊢
  cases hd : ds[i]? with
  | none => rw [hd] at h; simp at h
  | some d => rw [hd] at h; simp at h ⊢; exact oneM_mono L h
theorem Le.zero (n : Nat) (b : List Bool) : Le (List.replicate n false) b := by
  intro i h
  rw [List.getElem?_replicate] at h
  split at h <;> simp at h
theorem itF_step (ds : List Decl) : ∀ k, Le (itF ds k) (itF ds (k + 1))
  | 0 => Le.zero _ _
  | k + 1 => rndM_mono (itF_step ds k)
theorem cntLe : ∀ (a b : List Bool), a.length = b.length → Le a b → a = b ∨ a.count true < b.count true
  | [], [], _, _ => .inl rfl
  | [], y :: b, h, _ => by simp at h
  | x :: a, [], h, _ => by simp at h
  | x :: a, y :: b, h, L => by
    have h0 := L 0
    have ih := cntLe a b (by simpa using h) (fun i hi => by simpa using L (i + 1) (by simpa using hi))
    simp only [List.getElem?_cons_zero, Option.getD_some] at h0
    cases x <;> cases y
    · rcases ih with rfl | ih
      · exact .inl rfl
      · right; simpa using ih
    · rcases ih with rfl | ih
      · right; simp
      · right; simp; omega
    · simp at h0
    · rcases ih with rfl | ih
      · exact .inl rfl
      · right; simp; omega
theorem cnt_len (a : List Bool) : a.count true ≤ a.length := List.count_le_length
theorem itF_grow (ds : List Decl) : ∀ k, itF ds (k + 1) = itF ds k ∨ k + 1 ≤ (itF ds (k + 1)).count true := by
  intro k
  induction k with
  | zero =>
    rcases cntLe (itF ds 0) (itF ds 1) (by rw [itF_len, itF_len]) (itF_step ds 0) with h | h
    · exact .inl h.symm
    · right; exact Nat.succ_le_of_lt (Nat.lt_of_le_of_lt (Nat.zero_le _) h)
  | succ k ih =>
    rcases ih with ih | ih
    · left
      show rndM ds (itF ds (k + 1)) = itF ds (k + 1)
      rw [ih]; exact ih
    · rcases cntLe (itF ds (k + 1)) (itF ds (k + 2)) (by rw [itF_len, itF_len]) (itF_step ds (k + 1)) with h | h
      · exact .inl h.symm
      · right; exact Nat.succ_le_of_lt (Nat.lt_of_le_of_lt ih h)
theorem itF_fix (ds : List Decl) : rndM ds (itF ds ds.length) = itF ds ds.length := by
  rcases itF_grow ds ds.length with h | h
  · exact h
  · have := cnt_len (itF ds (ds.length + 1))
    rw [itF_len] at this
    omega
theorem itF_least {ds : List Decl} {bs : List Bool} (hl : bs.length = ds.length) (h1 : Le bs (itF ds ds.length))
    (h2 : ∀ i, ∀ hi : i < ds.length, bs[i]?.getD false = false → oneM ds bs ds[i] = false) : bs = itF ds ds.length := by
  have hc : Le (rndM ds bs) bs := by
    intro i h
    rw [rndM_get] at h
    cases hb : bs[i]?.getD false with
    | true => rfl
    | false =>
      rcases Nat.lt_or_ge i ds.length with hi | hi
      · rw [List.getElem?_eq_getElem hi] at h
        simp [h2 i hi hb] at h
      · rw [List.getElem?_eq_none hi] at h
        simp at h
  have hk : ∀ k, Le (itF ds k) bs := by
    intro k
    induction k with
    | zero => exact Le.zero _ _
    | succ k ih => intro i h; exact hc i (rndM_mono ih i h)
  have e : bs.length = (itF ds ds.length).length := by rw [hl, itF_len]
  rcases cntLe _ _ e h1 with h | h
  · exact h
  · rcases cntLe _ _ e.symm (hk _) with h' | h'
    · exact h'.symm
    · omega
theorem Le.put {ds : List Decl} {bs : List Bool} {i : Nat} (hi : i < ds.length) (L : Le bs (itF ds ds.length)) (h : oneM ds bs ds[i] = true) : Le (bs.set i true) (itF ds ds.length) := by
  intro j hj
  rw [List.getElem?_set] at hj
  split at hj
  · rename_i e
    subst e
    rw [← itF_fix, rndM_get, List.getElem?_eq_getElem hi]
    exact oneM_mono L h
  · exact L j hj
theorem Le.put_self {bs : List Bool} {i : Nat} : Le bs (bs.set i true) := by
  intro j hj
  rw [List.getElem?_set]
  split
  · rename_i e
    subst e
    split
    · rfl
    · rename_i hn
      rw [List.getElem?_eq_none (by omega)] at hj
      simp at hj
  · exact hj

theorem belL_bools (n : Nat) : ∀ bs : List Bool, belL n (bs.map .bool) = true
  | [] => rfl
  | b :: bs => by simp [belL, AV.bel, belL_bools n bs]
theorem setL_bools {bs : List Bool} {i : Nat} (hi : i < bs.length) : setL (bs.map .bool) i [.bool true] = (bs.set i true).map .bool := by
  rw [List.map_set, List.set_eq_take_append_cons_drop, if_pos (by simpa using hi)]
  simp [setL]
theorem w79 {h : List AO} {ds : List Decl} {K : ARes → List AO → Prop} (hl : ds.length < 2199023255552) (hok : ∀ d ∈ ds, d.ok) (k : K (.ok (.rsl ((itF ds ds.length).map .bool))) h) : W 79 [.rsl (ds.map Decl.av)] h K := by
  refine W_of mixed c79 (by simp [A79]) ?_
  have hb1 : (ds.length : Int) ≤ 281474976710656 := by omega
  have hb2 : (ds.length : Int) < 9223372036854775808 := by omega
  simp [A79, fillA]
  refine w77t hl ?_
  obtain ⟨T0, hT0⟩ : ∃ T0, T0 = ofT h.length ds ds.length := ⟨_, rfl⟩
  have hT : ∀ l, IsTab (h ++ (T0 ++ l)) (h.length + 1) ds := fun l => by rw [hT0]; exact isTab_app h l ds
  obtain ⟨hbel, hlen2⟩ := ofT_bel h.length ds ds.length
  rw [← hT0] at hbel hlen2 ⊢
  have hbel2 : T0.all (AO.bel (h.length + (T0.length + 2))) = true := all_bel_mono (by omega) hbel
  simp [fillA, hb1, hb2]
  refine lp_indE (ι := List Bool) (fun bs => bs.length = ds.length ∧ Le bs (itF ds ds.length)) (fun bs => ds.length - bs.count true)
    (fun bs => [(0, .rsl (ds.map Decl.av)), (3, .ptr (h.length + T0.length) 0), (4, .msl (h.length + (T0.length + 1)) 0 ds.length ds.length)])
    (fun bs => h ++ (T0 ++ [.box [.rsl (ds.map Decl.av), .ptr (h.length + 1) 0], .box (bs.map .bool)])) ?_ (List.replicate ds.length false) ⟨by simp, Le.zero _ _⟩ (by rfl) (by simp)
  intro bs ⟨hbl, hle⟩ ih
  have hA : ∀ bs' : List Bool, (T0 ++ [AO.box [.rsl (ds.map Decl.av), .ptr (h.length + 1) 0], AO.box (bs'.map AV.bool)]).all (AO.bel (h.length + (T0 ++ [AO.box [.rsl (ds.map Decl.av), .ptr (h.length + 1) 0], AO.box (bs'.map AV.bool)]).length)) = true := by
    intro bs'
    rw [List.all_append, Bool.and_eq_true]
    refine ⟨by simpa using hbel2, ?_⟩
    simp [AO.bel, belL, AV.bel, belL_bools]
  simp [uf A79_l1.eq_1]
  refine lp_for ds.length (fun i => ∀ j, j < i → ∀ hj : j < ds.length, bs[j]?.getD false = false → oneM ds bs ds[j] = false) (fun i f => setF f 17 (.int .i64 (i : Int))) (fun i => h ++ (T0 ++ [.box [.rsl (ds.map Decl.av), .ptr (h.length + 1) 0], .box (bs.map .bool)])) ?_ (fun j hj => by omega) (by simp) rfl
  intro i hi hinv ihi
  have hw := wrap_succ (i := i) (by omega)
  by_cases hlt : i < ds.length
  · have h1 : i < bs.length := by omega
    have h2 : i ≤ bs.length := by omega
    simp at ihi
    cases hb : bs[i] with
    | true =>
      have hb' : bs[i]? = some true := by rw [List.getElem?_eq_getElem h1, hb]
      simp [uf A79_l0.eq_1, hlt, Decl.av, h1, h2, hb, hw]
      refine lp_cutA (B := [AO.box _]) (by rw [List.append_assoc]; rfl) (hA bs) (by simp) (ihi (by omega) fun j hj hj' hjb => ?_)
      by_cases e : j = i
      · subst e; rw [hb'] at hjb; simp at hjb
      · exact hinv j (by omega) hj' hjb
    | false =>
      have hb' : bs[i]?.getD false = false := by rw [List.getElem?_eq_getElem h1, hb]; rfl
      simp [uf A79_l0.eq_1, hlt, Decl.av, h1, h2, hb, hw]
      refine w137 (c := h.length + T0.length) (tb := h.length + 1) (r := h.length + (T0.length + 1)) (bs := bs) (ds := ds) (d := ds[i]) (L := .rsl (ds.map Decl.av)) ?_ (hT _) ?_ (by omega) hbl (hok _ (List.getElem_mem hlt)) ?_
      · simp
      · simp
      · cases ho : oneM ds bs ds[i] with
        | true =>
          have hs := setL_bools h1
          simp only [setL] at hs
          simp at hs
          have h3 : i + 1 ≤ bs.length := by omega
          simp [hlt, h3, hs]
          have hm : ds.length - (bs.set i true).count true < ds.length - bs.count true := by
            have c1 := cnt_len (bs.set i true)
            rw [List.length_set, hbl] at c1
            rcases cntLe bs (bs.set i true) (by simp) Le.put_self with e | e
            · have : bs[i]? = (bs.set i true)[i]? := by rw [← e]
              rw [List.getElem?_eq_getElem h1, hb, List.getElem?_set_self h1] at this
              cases this
            · omega
          exact lp_cutA (B := [AO.box _]) (by rw [List.append_assoc, List.map_set]; rfl) (hA (bs.set i true)) (by simp) (ih (bs.set i true) ⟨by rw [List.length_set]; exact hbl, Le.put hlt hle ho⟩ hm)
        | false =>
          simp [hw]
          refine lp_cutA (B := [AO.box _]) (by rw [List.append_assoc]; rfl) (hA bs) (by simp) (ihi (by omega) fun j hj hj' hjb => ?_)
          by_cases e : j = i
          · subst e; exact ho
          · exact hinv j (by omega) hj' hjb
  · have hn : i = ds.length := by omega
    subst hn
    have hbs := itF_least hbl hle (fun j hj => hinv j hj hj)
    simp [uf A79_l0.eq_1, uf A79_r0.eq_1]
    refine .inr ⟨h.length, 3, .rsl (bs.map .bool), DropOk.app h _, ?_, by rw [List.take_left, hbs]; exact k⟩
    have hm := mapO_bools h.length (h ++ (T0 ++ [AO.box [AV.rsl (List.map Decl.av ds), AV.ptr (h.length + 1) 0], AO.box (List.map AV.bool bs)])) 0 bs
    simp [out, frz, hbl, packR]
    rw [List.take_of_length_le (by simp [hbl])]
    simp [hm]
end Go.Proofs.YtjljhmeadfejhaaGreat

/- What is wrong with a schema, plain; without its last declaration. -/
set_option maxRecDepth 100000
set_option linter.unusedVariables false
set_option linter.unusedSimpArgs false
namespace Go.Proofs.YtjljhmeadfejhaaGreat
open Go.Eng
def arM (k : Int) : Int := if k = 1 ∨ k = 2 ∨ k = 3 ∨ k = 4 ∨ k = 5 ∨ k = 6 then 0 else if k = 7 ∨ k = 9 then 1 else if k = 8 then 2 else -1
def keyM (ds : List Decl) (t : Ty) : Bool := decide (t.kind = 1 ∨ t.kind = 2 ∨ t.kind = 3 ∨ t.kind = 4) || (decide (t.kind = 6) && decide (kindR t.name ds = 3))
mutual
def typM (ds : List Decl) : Ty → Bool → Int
  | .mk k s l, inner =>
    if ¬ (l.length : Int) = arM k ∨ (¬ k = 6 ∧ ¬ s = ⟨#[]⟩) then 8
    else if k = 6 then (if kindR s ds = 1 ∨ kindR s ds = 2 ∨ kindR s ds = 3 then 0 else if (fnd s ds).isSome then 8 else 6)
    else if k = 9 ∧ inner = true then 8
    else if k = 8 ∧ ((l[0]?).map (keyM ds)).getD false = false then 8
    else typML ds l
def typML (ds : List Decl) : List Ty → Int
  | [] => 0
  | t :: l => if typM ds t true = 0 then typML ds l else typM ds t true
end
def fieldM (ds : List Decl) (kind : Int) (f : Fld) : Int :=
  if kind = 3 then 0 else if ¬ typM ds f.ty false = 0 then typM ds f.ty false else if kind = 2 ∧ f.ty.kind = 9 then 8 else 0
def strM (ds : List Decl) (s : ByteArray) : Int := if (fnd s ds).isSome then (if kindR s ds = 1 then 0 else 8) else 6
def methodM (ds : List Decl) (m : Mth) : Int := if strM ds m.inn = 0 then strM ds m.out else strM ds m.inn
/-- What stood ahead. -/
def rowM (S : List (Int × ByteArray)) (tag : Int) (name : ByteArray) (least most : Int) : Int :=
  if tag < least ∨ most < tag then 9 else if S.any (fun x => decide (x.1 = tag) || decide (x.2 = name)) then 7 else 0
def fieldsM (ds : List Decl) (kind least most : Int) : List (Int × ByteArray) → List Fld → Int
  | _, [] => 0
  | S, f :: l => if ¬ rowM S f.tag f.name least most = 0 then rowM S f.tag f.name least most else if ¬ fieldM ds kind f = 0 then fieldM ds kind f else fieldsM ds kind least most (S ++ [(f.tag, f.name)]) l
def methodsM (ds : List Decl) (least most : Int) : List (Int × ByteArray) → List Mth → Int
  | _, [] => 0
  | S, m :: l => if ¬ rowM S m.tag m.name least most = 0 then rowM S m.tag m.name least most else if ¬ methodM ds m = 0 then methodM ds m else methodsM ds least most (S ++ [(m.tag, m.name)]) l
def leastM (kind : Int) : Int := if kind = 3 then 0 else 1
def mostM (kind : Int) : Int := if kind = 3 then 9999 else 255
def tagsF (l : List Fld) : List (Int × ByteArray) := l.map fun f => (f.tag, f.name)
def declM (ds : List Decl) (i : Nat) (d : Decl) : Int :=
  if ¬ fnd d.name ds = some i then 7
  else if ¬ (d.kind = 1 ∨ d.kind = 2 ∨ d.kind = 3 ∨ d.kind = 4) then 4
  else if ¬ fieldsM ds d.kind (leastM d.kind) (mostM d.kind) [] d.fields = 0 then fieldsM ds d.kind (leastM d.kind) (mostM d.kind) [] d.fields
  else if ¬ methodsM ds (leastM d.kind) (mostM d.kind) (tagsF d.fields) d.methods = 0 then methodsM ds (leastM d.kind) (mostM d.kind) (tagsF d.fields) d.methods
  else if (d.kind = 2 ∨ d.kind = 3) ∧ d.fields = [] then 12 else 0
/-- The first fault of declarations from one on. -/
def declsM (ds : List Decl) : Nat → List Decl → Int × Int
  | _, [] => (0, 0)
  | i, d :: l => if ¬ declM ds i d = 0 then (declM ds i d, d.e) else declsM ds (i + 1) l
def deepM : List Bool → List Decl → Int × Int
  | b :: bs, d :: l => if b then deepM bs l else (10, d.e)
  | _, _ => (0, 0)
def checkM (ds : List Decl) : Int × Int := if ¬ (declsM ds 0 ds).1 = 0 then declsM ds 0 ds else deepM (itF ds ds.length) ds

/-! ### without the last one -/
section
variable {l : List Decl} {d : Decl}
theorem fnd_app (s : ByteArray) : ∀ (l : List Decl) (d : Decl), fnd s (l ++ [d]) = match fnd s l with
    | some i => some i
    | none => if d.name = s then some l.length else none
  | [], d => by simp [fnd]
  | x :: l, d => by
    simp only [List.cons_append, fnd]
    split
    · simp
    · rw [fnd_app s l d]
      cases fnd s l with
      | some i => rfl
      | none => by_cases h : d.name = s <;> simp [h]
theorem fnd_front (h : fnd d.name (l ++ [d]) = some l.length) (s : ByteArray) : fnd s l = if s = d.name then none else fnd s (l ++ [d]) := by
  by_cases e : s = d.name
  · subst e
    rw [fnd_app] at h
    cases hf : fnd d.name l with
    | none => simp
    | some i =>
      rw [hf] at h
      have := fnd_lt hf
      simp only [Option.some.injEq] at h
      omega
  · rw [fnd_app]
    cases hf : fnd s l with
    | none => rw [if_neg e, if_neg (fun h : d.name = s => e h.symm)]
    | some i => simp [e]
theorem kindR_front (h : fnd d.name (l ++ [d]) = some l.length) (s : ByteArray) : kindR s l = if s = d.name then 0 else kindR s (l ++ [d]) := by
  have hf := fnd_front h s
  unfold kindR
  by_cases e : s = d.name
  · rw [if_pos e] at hf ⊢; rw [hf]
  · rw [if_neg e] at hf
    rw [if_neg e, ← hf]
    cases hs : fnd s l with
    | none => rfl
    | some i =>
      have := fnd_lt hs
      simp only [List.getElem?_append_left this]
theorem kindR_last (h : fnd d.name (l ++ [d]) = some l.length) : kindR d.name (l ++ [d]) = d.kind := by
  unfold kindR
  simp [h]
/-- What may be wrong without the last one. -/
def May (d : Decl) (e : Int) : Prop := e = 0 ∨ e = 6 ∨ (e = 8 ∧ d.kind = 3)
mutual
theorem typM_front (h : fnd d.name (l ++ [d]) = some l.length) : ∀ (t : Ty) (b : Bool), typM (l ++ [d]) t b = 0 → May d (typM l t b) := by
  intro t b e
  cases t with
  | mk k s of =>
    unfold typM at e ⊢
    split at e
    · cases e
    rename_i h1
    rw [if_neg h1]
    split at e
    · rename_i h2
      rw [if_pos h2, kindR_front h s, fnd_front h s]
      by_cases hs : s = d.name
      · simp [hs, May]
      · simp only [hs, if_false]
        rw [e]; exact .inl rfl
    · rename_i h2
      rw [if_neg h2]
      split at e
      · cases e
      rename_i h3
      rw [if_neg h3]
      split at e
      · cases e
      rename_i h4
      by_cases h5 : k = 8 ∧ ((of[0]?).map (keyM l)).getD false = false
      · rw [if_pos h5]
        refine .inr (.inr ⟨rfl, ?_⟩)
        obtain ⟨h5, h6⟩ := h5
        have h7 : ((of[0]?).map (keyM (l ++ [d]))).getD false = true := by
          cases hb : ((of[0]?).map (keyM (l ++ [d]))).getD false with
          | true => rfl
          | false => exact absurd ⟨h5, hb⟩ h4
        cases ho : of[0]? with
        | none => rw [ho] at h7; simp at h7
        | some t =>
          rw [ho] at h6 h7
          simp only [Option.map_some, Option.getD_some, keyM, Bool.or_eq_true, Bool.or_eq_false_iff, Bool.and_eq_true, Bool.and_eq_false_iff, decide_eq_true_eq, decide_eq_false_iff_not, kindR_front h t.name] at h6 h7
          rcases h7 with h7 | ⟨h7, h8⟩
          · exact absurd h7 h6.1
          · by_cases hn : t.name = d.name
            · rw [hn, kindR_last h] at h8; exact h8
            · rcases h6.2 with h9 | h9
              · exact absurd h7 h9
              · rw [if_neg hn] at h9; exact absurd h8 h9
      · rw [if_neg h5]
        exact typML_front h of e
theorem typML_front (h : fnd d.name (l ++ [d]) = some l.length) : ∀ (ts : List Ty), typML (l ++ [d]) ts = 0 → May d (typML l ts) := by
  intro ts e
  cases ts with
  | nil => exact .inl rfl
  | cons t ts =>
    unfold typML at e ⊢
    split at e
    · rename_i h1
      have := typM_front h t true h1
      split
      · exact typML_front h ts e
      · exact this
    · rename_i h1; exact absurd e h1
end
theorem fieldM_front (h : fnd d.name (l ++ [d]) = some l.length) {kind : Int} {f : Fld} (e : fieldM (l ++ [d]) kind f = 0) : May d (fieldM l kind f) ∧ (fieldM l kind f = 0 → kind = 3 ∨ typM l f.ty false = 0) := by
  unfold fieldM at e ⊢
  split at e
  · rename_i h1; rw [if_pos h1]; exact ⟨.inl rfl, fun _ => .inl h1⟩
  rename_i h1
  rw [if_neg h1]
  split at e
  · rename_i h2; exact absurd e h2
  rename_i h2
  have := typM_front h f.ty false (Classical.not_not.1 h2)
  split at e
  · cases e
  rename_i h3
  split
  · rename_i h4; exact ⟨this, fun e => absurd e h4⟩
  · rename_i h4; exact ⟨.inl rfl, fun _ => .inr (Classical.not_not.1 h4)⟩
theorem strM_front (h : fnd d.name (l ++ [d]) = some l.length) {s : ByteArray} (e : strM (l ++ [d]) s = 0) : May d (strM l s) := by
  unfold strM at e ⊢
  rw [kindR_front h, fnd_front h]
  by_cases hs : s = d.name
  · simp [hs, May]
  · simp only [hs, if_false]
    rw [e]; exact .inl rfl
theorem methodM_front (h : fnd d.name (l ++ [d]) = some l.length) {m : Mth} (e : methodM (l ++ [d]) m = 0) : May d (methodM l m) := by
  unfold methodM at e ⊢
  split at e
  · rename_i h1
    have k1 := strM_front h h1
    have k2 := strM_front h e
    split
    · exact k2
    · exact k1
  · rename_i h1; exact absurd e h1
theorem fieldsM_front (h : fnd d.name (l ++ [d]) = some l.length) {kind a b : Int} : ∀ (fs : List Fld) (S : List (Int × ByteArray)), fieldsM (l ++ [d]) kind a b S fs = 0 →
    May d (fieldsM l kind a b S fs) ∧ (fieldsM l kind a b S fs = 0 → kind = 3 ∨ ∀ f ∈ fs, typM l f.ty false = 0)
  | [], S, e => ⟨.inl rfl, fun _ => .inr (by simp)⟩
  | f :: fs, S, e => by
    unfold fieldsM at e ⊢
    split at e
    · rename_i h1; exact absurd e h1
    rename_i h1
    rw [if_neg h1]
    split at e
    · rename_i h2; exact absurd e h2
    rename_i h2
    obtain ⟨k1, k2⟩ := fieldM_front h (Classical.not_not.1 h2)
    obtain ⟨k3, k4⟩ := fieldsM_front h fs _ e
    split
    · rename_i h3; exact ⟨k1, fun e => absurd e h3⟩
    · rename_i h3
      refine ⟨k3, fun e => ?_⟩
      rcases k2 (Classical.not_not.1 h3) with h4 | h4
      · exact .inl h4
      · rcases k4 e with h5 | h5
        · exact .inl h5
        · refine .inr fun g hg => ?_
          rcases List.mem_cons.1 hg with rfl | hg
          · exact h4
          · exact h5 g hg
theorem methodsM_front (h : fnd d.name (l ++ [d]) = some l.length) {a b : Int} : ∀ (ms : List Mth) (S : List (Int × ByteArray)), methodsM (l ++ [d]) a b S ms = 0 → May d (methodsM l a b S ms)
  | [], S, e => .inl rfl
  | m :: ms, S, e => by
    unfold methodsM at e ⊢
    split at e
    · rename_i h1; exact absurd e h1
    rename_i h1
    rw [if_neg h1]
    split at e
    · rename_i h2; exact absurd e h2
    rename_i h2
    have k1 := methodM_front h (Classical.not_not.1 h2)
    have k3 := methodsM_front h ms _ e
    split
    · exact k1
    · exact k3
theorem declM_front (h : fnd d.name (l ++ [d]) = some l.length) {i : Nat} {x : Decl} (hx : l[i]? = some x) (e : declM (l ++ [d]) i x = 0) :
    May d (declM l i x) ∧ (declM l i x = 0 → x.kind = 3 ∨ ∀ f ∈ x.fields, typM l f.ty false = 0) := by
  have hi := (List.getElem?_eq_some_iff.1 hx).1
  unfold declM at e ⊢
  split at e
  · cases e
  rename_i h1
  have hne : ¬ x.name = d.name := by
    intro hn
    rw [hn, h] at h1
    simp only [Option.some.injEq, Classical.not_not] at h1
    omega
  rw [fnd_front h, if_neg hne, if_neg h1]
  split at e
  · cases e
  rename_i h2
  rw [if_neg h2]
  split at e
  · rename_i h3; exact absurd e h3
  rename_i h3
  obtain ⟨k1, k2⟩ := fieldsM_front h _ _ (Classical.not_not.1 h3)
  split at e
  · rename_i h4; exact absurd e h4
  rename_i h4
  have k3 := methodsM_front h _ _ (Classical.not_not.1 h4)
  split at e
  · cases e
  rename_i h5
  split
  · rename_i h6; exact ⟨k1, fun e => absurd e h6⟩
  · rename_i h6
    split
    · rename_i h7; exact ⟨k3, fun e => absurd e h7⟩
    · exact ⟨.inl rfl, fun _ => k2 (Classical.not_not.1 h6)⟩
theorem declsM_zero {ds : List Decl} : ∀ (l : List Decl) (i : Nat), (declsM ds i l).1 = 0 → ∀ (j : Nat) (x : Decl), l[j]? = some x → declM ds (i + j) x = 0
  | [], i, e, j, x, hx => by simp at hx
  | y :: l, i, e, j, x, hx => by
    unfold declsM at e
    split at e
    · rename_i h1; exact absurd e h1
    rename_i h1
    cases j with
    | zero => simp at hx; subst hx; exact Classical.not_not.1 h1
    | succ j => have := declsM_zero l (i + 1) e j x (by simpa using hx); rw [show i + (j + 1) = i + 1 + j by omega]; exact this
theorem declsM_may {ds : List Decl} : ∀ (l : List Decl) (i : Nat), (∀ (j : Nat) (x : Decl), l[j]? = some x → May d (declM ds (i + j) x)) → May d (declsM ds i l).1
  | [], i, H => .inl rfl
  | y :: l, i, H => by
    unfold declsM
    split
    · exact H 0 y rfl
    · exact declsM_may l (i + 1) fun j x hx => by have := H (j + 1) x (by simpa using hx); rw [show i + (j + 1) = i + 1 + j by omega] at this; exact this
theorem deepM_zero : ∀ (bs : List Bool) (ds : List Decl), bs.length = ds.length → ((deepM bs ds).1 = 0 ↔ ∀ b ∈ bs, b = true)
  | [], [], _ => by simp [deepM]
  | [], d :: ds, h => by simp at h
  | b :: bs, [], h => by simp at h
  | b :: bs, d :: ds, h => by
    have := deepM_zero bs ds (by simpa using h)
    cases b <;> simp [deepM, this]
theorem typ_name {ds : List Decl} {t : Ty} (e : typM ds t false = 0) (hk : t.kind = 6) : (fnd t.name ds).isSome := by
  cases t with
  | mk k s of =>
    simp only [Ty.kind] at hk
    subst hk
    unfold typM at e
    split at e
    · cases e
    simp only [if_true] at e
    cases hf : fnd s ds with
    | some i => simp [Ty.name, hf]
    | none => simp [kindR, hf] at e
theorem itF_front (h : fnd d.name (l ++ [d]) = some l.length) (ht : ∀ x ∈ l, x.kind = 3 ∨ ∀ f ∈ x.fields, typM l f.ty false = 0) : ∀ k, itF l k = (itF (l ++ [d]) k).take l.length := by
  intro k
  induction k with
  | zero => simp [itF]
  | succ k ih =>
    simp only [itF, rndM, List.map_append]
    rw [List.take_append_of_le_length (by simp), List.take_of_length_le (by simp)]
    refine List.map_congr_left fun x hx => ?_
    have fine : ∀ t : Ty, typM l t false = 0 → fineM l (itF l k) t = fineM (l ++ [d]) (itF (l ++ [d]) k) t := by
      intro t e
      unfold fineM
      by_cases hk : t.kind = 6
      · have hs := typ_name e hk
        have hf := fnd_front h t.name
        by_cases hn : t.name = d.name
        · rw [if_pos hn] at hf; rw [hf] at hs; simp at hs
        · rw [if_neg hn] at hf
          rw [← hf]
          cases hq : fnd t.name l with
          | none => rfl
          | some q =>
            simp only
            rw [ih, List.getElem?_take, if_pos (fnd_lt hq)]
      · simp [hk]
    unfold oneM
    rcases ht x hx with h3 | hf
    · simp [h3]
    · have e1 : (x.fields.all fun f => fineM l (itF l k) f.ty) = x.fields.all fun f => fineM (l ++ [d]) (itF (l ++ [d]) k) f.ty := by
        rw [Bool.eq_iff_iff, List.all_eq_true, List.all_eq_true]
        constructor
        · intro H f hm; rw [← fine _ (hf f hm)]; exact H f hm
        · intro H f hm; rw [fine _ (hf f hm)]; exact H f hm
      have e2 : (x.fields.any fun f => fineM l (itF l k) f.ty) = x.fields.any fun f => fineM (l ++ [d]) (itF (l ++ [d]) k) f.ty := by
        rw [Bool.eq_iff_iff, List.any_eq_true, List.any_eq_true]
        constructor
        · rintro ⟨f, hm, H⟩; exact ⟨f, hm, by rw [← fine _ (hf f hm)]; exact H⟩
        · rintro ⟨f, hm, H⟩; exact ⟨f, hm, by rw [fine _ (hf f hm)]; exact H⟩
      rw [e1, e2]
/-- Without its last declaration. -/
theorem check_less (e : (checkM (l ++ [d])).1 = 0) : May d (checkM l).1 := by
  unfold checkM at e
  split at e
  · rename_i h1; exact absurd e h1
  rename_i h1
  have hz := declsM_zero _ 0 (Classical.not_not.1 h1)
  simp only [Nat.zero_add] at hz
  have h : fnd d.name (l ++ [d]) = some l.length := by
    have := hz l.length d (by simp)
    unfold declM at this
    split at this
    · cases this
    · rename_i h2; exact Classical.not_not.1 h2
  have hf : ∀ (j : Nat) (x : Decl), l[j]? = some x → May d (declM l (0 + j) x) ∧ (declM l (0 + j) x = 0 → x.kind = 3 ∨ ∀ f ∈ x.fields, typM l f.ty false = 0) := by
    intro j x hx
    have hj := (List.getElem?_eq_some_iff.1 hx).1
    rw [Nat.zero_add]
    exact declM_front h hx (hz j x (by rw [List.getElem?_append_left hj]; exact hx))
  unfold checkM
  split
  · exact declsM_may l 0 fun j x hx => (hf j x hx).1
  · rename_i h2
    have hz2 := declsM_zero _ 0 (Classical.not_not.1 h2)
    have ht : ∀ x ∈ l, x.kind = 3 ∨ ∀ f ∈ x.fields, typM l f.ty false = 0 := by
      intro x hx
      obtain ⟨j, hj, rfl⟩ := List.getElem_of_mem hx
      exact (hf j _ (List.getElem?_eq_getElem hj)).2 (hz2 j _ (List.getElem?_eq_getElem hj))
    left
    rw [deepM_zero _ _ (itF_len _ _)] at e ⊢
    have hk := itF_front h ht (l.length + 1)
    have hfix : itF l (l.length + 1) = itF l l.length := itF_fix l
    rw [hfix] at hk
    rw [hk]
    intro b hb
    refine e b ?_
    have : (l ++ [d]).length = l.length + 1 := by simp
    rw [this]
    exact List.mem_of_mem_take hb
end
end Go.Proofs.YtjljhmeadfejhaaGreat

/- Rows and methods of the checker, about the engine. -/
set_option maxRecDepth 100000
set_option linter.unusedVariables false
set_option linter.unusedSimpArgs false
namespace Go.Proofs.YtjljhmeadfejhaaGreat
open Go.Eng
/-! ### maps whose values are 1 -/
def tmap (S : List (Int × ByteArray)) : List (AV × AV) := S.map fun x => (.int .i64 x.1, .int .i64 1)
def nmap (S : List (Int × ByteArray)) : List (AV × AV) := S.map fun x => (.str x.2, .int .i64 1)
theorem find_upd {k v : AV} (hk : keyEq k k = some true) : ∀ {es es' : List (AV × AV)}, updA k v es = some es' → findA k es' = some (some v)
  | [], es', e => by injection e with e; subst e; simp only [findA, hk]
  | (a, u) :: r, es', e => by
    simp only [updA] at e
    split at e
    · injection e with e; subst e; simp only [findA, hk]
    · rename_i hb
      obtain ⟨r', h1, rfl⟩ := Option.map_eq_some_iff.1 e
      simp only [findA, hb]
      exact find_upd hk h1
    · cases e
theorem tmap_find (t : Int) : ∀ S : List (Int × ByteArray), findA (.int .i64 t) (tmap S) = some (if S.any (fun x => decide (x.1 = t)) then some (.int .i64 1) else none)
  | [] => rfl
  | x :: S => by
    have ih := tmap_find t S
    simp only [tmap] at ih ⊢
    simp only [List.map_cons, findA, keyEq, if_true, List.any_cons]
    by_cases h : t = x.1
    · simp [h]
    · have h' : ¬ x.1 = t := fun e => h e.symm
      simp only [h, h', decide_false, Bool.false_or]
      exact ih
theorem nmap_find (t : ByteArray) : ∀ S : List (Int × ByteArray), findA (.str t) (nmap S) = some (if S.any (fun x => decide (x.2 = t)) then some (.int .i64 1) else none)
  | [] => rfl
  | x :: S => by
    have ih := nmap_find t S
    simp only [nmap] at ih ⊢
    simp only [List.map_cons, findA, keyEq, List.any_cons]
    by_cases h : t = x.2
    · simp [h]
    · have h' : ¬ x.2 = t := fun e => h e.symm
      simp only [h, h', decide_false, Bool.false_or]
      exact ih
theorem tmap_upd (t : Int) (v : AV) : ∀ S : List (Int × ByteArray), ∃ es', updA (.int .i64 t) v (tmap S) = some es' ∧ (S.any (fun x => decide (x.1 = t)) = false → es' = tmap S ++ [(.int .i64 t, v)])
  | [] => ⟨_, rfl, fun _ => rfl⟩
  | x :: S => by
    obtain ⟨es', h1, h2⟩ := tmap_upd t v S
    simp only [tmap] at h1 h2 ⊢
    simp only [List.map_cons, updA, keyEq, if_true, List.any_cons]
    by_cases h : t = x.1
    · simp [h]
    · have h' : ¬ x.1 = t := fun e => h e.symm
      simp only [h, h', decide_false, Bool.false_or, h1, Option.map_some]
      exact ⟨_, rfl, fun e => by rw [h2 e]; rfl⟩
theorem nmap_upd (t : ByteArray) (v : AV) : ∀ S : List (Int × ByteArray), ∃ es', updA (.str t) v (nmap S) = some es' ∧ (S.any (fun x => decide (x.2 = t)) = false → es' = nmap S ++ [(.str t, v)])
  | [] => ⟨_, rfl, fun _ => rfl⟩
  | x :: S => by
    obtain ⟨es', h1, h2⟩ := nmap_upd t v S
    simp only [nmap] at h1 h2 ⊢
    simp only [List.map_cons, updA, keyEq, List.any_cons]
    by_cases h : t = x.2
    · simp [h]
    · have h' : ¬ x.2 = t := fun e => h e.symm
      simp only [h, h', decide_false, Bool.false_or, h1, Option.map_some]
      exact ⟨_, rfl, fun e => by rw [h2 e]; rfl⟩
theorem wrap_two : IntKind.i64.wrap 2 = 2 := by decide
theorem wrap_one : IntKind.i64.wrap 1 = 1 := by decide

theorem w134 {h : List AO} {s tm nm : Nat} {S : List (Int × ByteArray)} {tag least most : Int} {name : ByteArray} {K : ARes → List AO → Prop} (hs : h[s]? = some (.box [.map tm, .map nm])) (ht : h[tm]? = some (.map (tmap S))) (hn : h[nm]? = some (.map (nmap S)))
    (h1 : s ≠ tm) (h2 : s ≠ nm) (h3 : tm ≠ nm) (k9 : rowM S tag name least most = 9 → K (.ok (.int .i64 9)) h) (k7 : rowM S tag name least most = 7 → ∀ te ne, K (.ok (.int .i64 7)) ((h.set tm (.map te)).set nm (.map ne)))
    (k0 : rowM S tag name least most = 0 → K (.ok (.int .i64 0)) ((h.set tm (.map (tmap (S ++ [(tag, name)])))).set nm (.map (nmap (S ++ [(tag, name)]))))) :
    W 134 [.ptr s 0, .int .i64 tag, .str name, .int .i64 least, .int .i64 most] h K := by
  have lt := (List.getElem?_eq_some_iff.1 ht).1
  have ln := (List.getElem?_eq_some_iff.1 hn).1
  have a1 : ∀ x, (h.set tm x)[tm]? = some x := fun x => List.getElem?_set_self lt
  have a2 : ∀ x y, ((h.set tm x).set nm y)[nm]? = some y := fun x y => List.getElem?_set_self (by simpa using ln)
  clear lt ln
  refine W_of mixed c134 (by simp [A134]) ?_
  by_cases c1 : tag < least
  · simp [A134, c1]
    exact .inl (k9 (by simp [rowM, c1]))
  · by_cases c2 : most < tag
    · simp [A134, c1, c2]
      exact .inl (k9 (by simp [rowM, c1, c2]))
    · have hr : ∀ S : List (Int × ByteArray), S.any (fun x => decide (x.1 = tag) || decide (x.2 = name)) = (S.any (fun x => decide (x.1 = tag)) || S.any (fun x => decide (x.2 = name))) := by
        intro S
        induction S with
        | nil => rfl
        | cons x S ih => simp only [List.any_cons, ih]; cases decide (x.1 = tag) <;> cases decide (x.2 = name) <;> simp
      have hR : rowM S tag name least most = if (S.any (fun x => decide (x.1 = tag)) || S.any (fun x => decide (x.2 = name))) = true then 7 else 0 := by simp only [rowM, c1, c2, hr, or_self, if_false]
      have ft := tmap_find tag S
      have fn := nmap_find name S
      have e1 : (AV.int .i64 tag, AV.int .i64 1) = (AV.int .i64 (tag, name).1, AV.int .i64 1) := rfl
      have tmap_snoc : tmap S ++ [(.int .i64 tag, .int .i64 1)] = tmap (S ++ [(tag, name)]) := by simp [tmap]
      have nmap_snoc : nmap S ++ [(.str name, .int .i64 1)] = nmap (S ++ [(tag, name)]) := by simp [nmap]
      cases b1 : S.any (fun x => decide (x.1 = tag)) with
      | true =>
        obtain ⟨te, u1, _⟩ := tmap_upd tag (.int .i64 2) S
        have f1 := find_upd (k := .int .i64 tag) (by simp [keyEq]) u1
        rw [b1] at ft hR
        cases b2 : S.any (fun x => decide (x.2 = name)) with
        | true =>
          obtain ⟨ne, u2, _⟩ := nmap_upd name (.int .i64 2) S
          have f2 := find_upd (k := .str name) (by simp [keyEq]) u2
          rw [b2] at fn hR
          simp [A134, c1, c2, hs, ht, hn, h1, h2, h3, Ne.symm h1, Ne.symm h2, Ne.symm h3, a1, a2, ft, fn, u1, u2, f1, f2, wrap_two, -findA, -updA]
          exact .inl (k7 hR te ne)
        | false =>
          obtain ⟨ne, u2, _⟩ := nmap_upd name (.int .i64 1) S
          have f2 := find_upd (k := .str name) (by simp [keyEq]) u2
          rw [b2] at fn hR
          simp [A134, c1, c2, hs, ht, hn, h1, h2, h3, Ne.symm h1, Ne.symm h2, Ne.symm h3, a1, a2, ft, fn, u1, u2, f1, f2, wrap_two, wrap_one, -findA, -updA]
          exact .inl (k7 hR te ne)
      | false =>
        obtain ⟨te, u1, v1⟩ := tmap_upd tag (.int .i64 1) S
        have f1 := find_upd (k := .int .i64 tag) (by simp [keyEq]) u1
        have v1 := v1 b1
        rw [b1] at ft hR
        cases b2 : S.any (fun x => decide (x.2 = name)) with
        | true =>
          obtain ⟨ne, u2, _⟩ := nmap_upd name (.int .i64 2) S
          have f2 := find_upd (k := .str name) (by simp [keyEq]) u2
          rw [b2] at fn hR
          simp [A134, c1, c2, hs, ht, hn, h1, h2, h3, Ne.symm h1, Ne.symm h2, Ne.symm h3, a1, a2, ft, fn, u1, u2, f1, f2, wrap_two, wrap_one, -findA, -updA]
          exact .inl (k7 hR te ne)
        | false =>
          obtain ⟨ne, u2, v2⟩ := nmap_upd name (.int .i64 1) S
          have f2 := find_upd (k := .str name) (by simp [keyEq]) u2
          have v2 := v2 b2
          rw [b2] at fn hR
          simp [A134, c1, c2, hs, ht, hn, h1, h2, h3, Ne.symm h1, Ne.symm h2, Ne.symm h3, a1, a2, ft, fn, u1, u2, f1, f2, wrap_two, wrap_one, -findA, -updA]
          rw [v1, v2, tmap_snoc, nmap_snoc]
          exact .inl (k0 hR)

theorem w136 {h : List AO} {c tb : Nat} {L : AV} {ds : List Decl} {m : Mth} {K : ARes → List AO → Prop} (hc : h[c]? = some (.box [L, .ptr tb 0])) (T : IsTab h tb ds) (k : K (.ok (.int .i64 (methodM ds m))) h) :
    W 136 [.ptr c 0, .agg [.int .i64 m.tag, .str m.name, .str m.inn, .str m.out, .bool m.oneWay]] h K := by
  have hc' := get_app_old hc
  refine W_of mixed c136 (by simp [A136]) ?_
  simp [A136]
  refine lp_step ?_
  simp [uf A136_l0.eq_1, hc']
  refine w103t (T.app _) ?_
  unfold methodM strM at k
  cases hf : fnd m.inn ds with
  | none =>
    simp [fndR, hf]
    refine ret_pure (by simp) ?_
    simpa [hf] using k
  | some i =>
    simp [fndR, hf, hc']
    refine w96t (T.app _) ?_
    by_cases hk : kindR m.inn ds = 1
    · simp [hk, wrap_one]
      refine lp_step ?_
      simp [uf A136_l0.eq_1, hc']
      refine w103t (T.app _) ?_
      cases hf2 : fnd m.out ds with
      | none =>
        simp [fndR, hf2]
        refine ret_pure (by simp) ?_
        simpa [hf, hf2, hk] using k
      | some j =>
        simp [fndR, hf2, hc']
        refine w96t (T.app _) ?_
        by_cases hk2 : kindR m.out ds = 1
        · simp [hk2, wrap_two]
          refine lp_step ?_
          simp [uf A136_l0.eq_1, uf A136_r0.eq_1]
          refine ret_pure (by simp) ?_
          simpa [hf, hf2, hk, hk2] using k
        · simp [hk2]
          refine ret_pure (by simp) ?_
          simpa [hf, hf2, hk, hk2] using k
    · simp [hk]
      refine ret_pure (by simp) ?_
      simpa [hf, hk] using k
end Go.Proofs.YtjljhmeadfejhaaGreat

/- Types of the checker, about the engine. -/
set_option maxRecDepth 100000
set_option linter.unusedVariables false
set_option linter.unusedSimpArgs false
namespace Go.Proofs.YtjljhmeadfejhaaGreat
open Go.Eng
theorem w203 {h : List AO} {x : Int} {K : ARes → List AO → Prop} (k : K (.ok (.int .i64 (arM x))) h) : W 203 [.int .i64 x] h K := by
  refine W_of mixed c203 (by simp [A203]) ?_
  unfold arM at k
  by_cases c1 : x = 1
  · simp [A203, c1] at k ⊢; exact .inl k
  by_cases c2 : x = 2
  · simp [A203, c2] at k ⊢; exact .inl k
  by_cases c3 : x = 3
  · simp [A203, c3] at k ⊢; exact .inl k
  by_cases c4 : x = 4
  · simp [A203, c4] at k ⊢; exact .inl k
  by_cases c5 : x = 5
  · simp [A203, c5] at k ⊢; exact .inl k
  by_cases c6 : x = 6
  · simp [A203, c6] at k ⊢; exact .inl k
  by_cases c7 : x = 7
  · simp [A203, c7] at k ⊢; exact .inl k
  by_cases c9 : x = 9
  · simp [A203, c9] at k ⊢; exact .inl k
  by_cases c8 : x = 8
  · simp [A203, c8] at k ⊢; exact .inl k
  simp [A203, c1, c2, c3, c4, c5, c6, c7, c8, c9] at k ⊢; exact .inl k

theorem w204 {h : List AO} {c tb : Nat} {L : AV} {ds : List Decl} {t : Ty} {K : ARes → List AO → Prop} (hc : h[c]? = some (.box [L, .ptr tb 0])) (T : IsTab h tb ds) (k : K (.ok (.bool (keyM ds t))) h) :
    W 204 [.ptr c 0, .agg [.int .i64 t.kind, .str t.name, .rsl (t.of.map Ty.av)]] h K := by
  have hc' := get_app_old hc
  refine W_of mixed c204 (by simp [A204]) ?_
  unfold keyM at k
  by_cases c1 : t.kind = 1
  · simp [A204, c1] at k ⊢; exact ret_pure (by simp) k
  by_cases c2 : t.kind = 2
  · simp [A204, c2] at k ⊢; exact ret_pure (by simp) k
  by_cases c3 : t.kind = 3
  · simp [A204, c3] at k ⊢; exact ret_pure (by simp) k
  by_cases c4 : t.kind = 4
  · simp [A204, c4] at k ⊢; exact ret_pure (by simp) k
  by_cases c6 : t.kind = 6
  · simp [A204, c6, hc'] at k ⊢
    refine ⟨_, _, w96t (T.app _) ⟨rfl, rfl⟩, ?_⟩
    simp
    exact ret_pure (by simp) k
  simp [A204, c1, c2, c3, c4, c6] at k ⊢; exact ret_pure (by simp) k

theorem typML_step {ds : List Decl} {l : List Ty} {i : Nat} (hi : i < l.length) : typML ds (l.drop i) = if typM ds l[i] true = 0 then typML ds (l.drop (i + 1)) else typM ds l[i] true := by
  rw [List.drop_eq_getElem_cons hi]; rw [typML]

theorem w177 {ds : List Decl} {c tb : Nat} {L : AV} : ∀ (n : Nat) (t : Ty), SizeOf.sizeOf t ≤ n → ∀ (h : List AO) (inner : Bool) (K : ARes → List AO → Prop), h[c]? = some (.box [L, .ptr tb 0]) → IsTab h tb ds → t.ok →
    K (.ok (.int .i64 (typM ds t inner))) h → W 177 [.ptr c 0, .agg [.int .i64 t.kind, .str t.name, .rsl (t.of.map Ty.av)], .bool inner] h K := by
  intro n
  induction n with
  | zero => intro t ht; cases t; simp at ht
  | succ n IH =>
    intro t ht h inner K hc T hok k
    have hc' := get_app_old hc
    have IHm : ∀ u ∈ t.of, SizeOf.sizeOf u ≤ n := fun u hu => by have := Ty.lt_of_mem hu; omega
    cases t with
    | mk x s l =>
      obtain ⟨_, _, hlen, hokl⟩ := hok
      rw [Ty.okL_iff] at hokl
      simp only [most] at hlen
      unfold typM at k
      simp only [Ty.kind, Ty.name, Ty.of] at IHm ⊢
      refine W_of mixed c177 (by simp [A177]) ?_
      simp [A177]
      refine R_regS ?_
      simp
      refine ⟨_, w203 ⟨rfl, rfl⟩, ?_⟩
      by_cases h1 : (l.length : Int) = arM x
      · by_cases c6 : x = 6
        · rw [if_neg (by simp [h1, c6]), if_pos c6] at k
          subst c6
          simp [h1, hc']
          refine ⟨_, _, w96t (T.app _) ⟨rfl, rfl⟩, ?_⟩
          by_cases k1 : kindR s ds = 1
          · simp [k1] at k ⊢; exact ret_pure (by simp) k
          by_cases k2 : kindR s ds = 2
          · simp [k2] at k ⊢; exact ret_pure (by simp) k
          by_cases k3 : kindR s ds = 3
          · simp [k3] at k ⊢; exact ret_pure (by simp) k
          simp [k1, k2, k3, hc']
          refine ⟨_, _, w103t (T.app _) ⟨rfl, rfl⟩, ?_⟩
          cases hf : fnd s ds with
          | none => simp [fndR, hf, k1, k2, k3] at k ⊢; exact ret_pure (by simp) k
          | some i => simp [fndR, hf, k1, k2, k3] at k ⊢; exact ret_pure (by simp) k
        · by_cases hs : s = ⟨#[]⟩
          · rw [if_neg (by simp [h1, c6, hs]), if_neg c6] at k
            have loop : ∀ (h : List AO) (K : ARes → List AO → Prop), h[c]? = some (.box [L, .ptr tb 0]) → IsTab h tb ds → K (.ok (.int .i64 (typML ds l))) h →
                LP ⟨intPg Tryz.prog 0 .i64, h, [.t 6], K⟩ [0, 69, 70, 71] A177_l0 [.blk 2, .seq A177_r0] [(0, .ptr c 0), (69, .rsl (l.map Ty.av)), (70, .int .i64 (l.length : Int)), (71, .int .i64 0)]
                  (h ++ [.box [.int .i64 x, .str s, .rsl (l.map Ty.av)]]) := by
              intro h K hc T k
              refine lp_for l.length (fun i => typML ds l = typML ds (l.drop i)) (fun i f => setF f 71 (.int .i64 (i : Int))) (fun _ => h ++ [.box [.int .i64 x, .str s, .rsl (l.map Ty.av)]]) ?_ (by simp) (by simp) rfl
              intro i hi hs ih
              have hw := wrap_succ (i := i) (by omega)
              have hcl : c < h.length + 1 := by have := (List.getElem?_eq_some_iff.1 hc).1; omega
              simp at ih
              by_cases hlt : i < l.length
              · rw [typML_step hlt] at hs
                simp [uf A177_l0.eq_1, hlt, Ty.av, Ty.cells_eq]
                refine IH l[i] (IHm _ (List.getElem_mem hlt)) _ true _ (get_app_old hc _) (T.app _) (hokl _ (List.getElem_mem hlt)) ?_
                by_cases he : typM ds l[i] true = 0
                · simp [he, hw]
                  rw [if_pos he] at hs
                  exact lp_cutA (A := [AO.box _]) (B := [AO.box _]) rfl (by simp [AO.bel, belL, AV.bel]) (by simp [hcl]) (ih (by omega) hs)
                · simp [he]
                  refine ret_pure (by simp) ?_
                  rw [hs, if_neg he] at k; exact k
              · have : l.drop i = [] := List.drop_eq_nil_of_le (by omega)
                rw [this, typML] at hs
                simp [uf A177_l0.eq_1, uf A177_r0.eq_1, hlt]
                refine ret_pure (by simp) ?_
                rw [hs] at k; exact k
            by_cases c9 : x = 9
            · subst c9
              cases inner with
              | true =>
                simp at k
                simp [h1, hs]
                exact ret_pure (by simp) k
              | false =>
                simp at k
                simp [h1, hs]
                have := loop h K hc T k
                simpa [hs, h1] using this
            · by_cases c8 : x = 8
              · subst c8
                have hl2 : l.length = 2 := by simp [arM] at h1; omega
                have h0 : 0 < l.length := by omega
                simp at k
                simp [h1, hs, h0, hc', Ty.av, Ty.cells_eq]
                refine w204 (hc' _) (T.app _) ?_
                cases hk : keyM ds l[0] with
                | true =>
                  simp [List.getElem?_eq_getElem h0, hk] at k ⊢
                  have := loop h K hc T k
                  simpa [hs, h1, Ty.av, Ty.cells_eq] using this
                | false =>
                  simp [List.getElem?_eq_getElem h0, hk] at k ⊢
                  exact ret_pure (by simp) k
              · simp [c8, c9] at k
                simp [h1, c6, c8, c9, hs]
                have := loop h K hc T k
                simpa [hs, h1] using this
          · rw [if_pos (by simp [c6, hs])] at k
            simp [h1, c6, hs]
            exact ret_pure (by simp) k
      · rw [if_pos (.inl h1)] at k
        simp [h1]
        exact ret_pure (by simp) k
end Go.Proofs.YtjljhmeadfejhaaGreat

/- Declarations of the checker, about the engine. -/
set_option maxRecDepth 100000
set_option linter.unusedVariables false
set_option linter.unusedSimpArgs false
namespace Go.Proofs.YtjljhmeadfejhaaGreat
open Go.Eng
theorem w135 {ds : List Decl} {c tb : Nat} {L : AV} {h : List AO} {d : Decl} {f : Fld} {K : ARes → List AO → Prop} (hc : h[c]? = some (.box [L, .ptr tb 0])) (T : IsTab h tb ds) (hok : f.ok) (k : K (.ok (.int .i64 (fieldM ds d.kind f))) h) :
    W 135 [.ptr c 0, .agg [.int .i64 d.kind, .str d.name, .rsl (d.fields.map Fld.av), .rsl (d.methods.map Mth.av), .int .i64 d.e], .agg [.int .i64 f.tag, .str f.name, .int .i64 f.ty.kind, .str f.ty.name, .rsl (f.ty.of.map Ty.av)]] h K := by
  refine W_of mixed c135 (by simp [A135]) ?_
  unfold fieldM at k
  by_cases c3 : d.kind = 3
  · simp [A135, c3] at k ⊢; exact ret_pure (by simp) k
  · simp [A135, c3]
    refine w177 _ f.ty (Nat.le_refl _) _ false _ (get_app_old hc _) (T.app _) hok.2.2 ?_
    by_cases he : typM ds f.ty false = 0
    · by_cases c2 : d.kind = 2
      · by_cases c9 : f.ty.kind = 9
        · simp [he, c2, c9] at k ⊢; exact ret_pure (by simp) k
        · simp [he, c2, c9] at k ⊢; exact ret_pure (by simp) k
      · simp [he, c2, c3] at k ⊢; exact ret_pure (by simp) k
    · simp [he, c3] at k ⊢; exact ret_pure (by simp) k

/-- While a declaration is looked at. -/
def dH (h : List AO) (d : Decl) (S : List (Int × ByteArray)) : List AO :=
  [.box [.int .i64 d.kind, .str d.name, .rsl (d.fields.map Fld.av), .rsl (d.methods.map Mth.av), .int .i64 d.e], .map (tmap S), .map (nmap S), .box [.map (h.length + 1), .map (h.length + 2)]]
theorem tmap_bel (n : Nat) (S : List (Int × ByteArray)) : (AO.map (tmap S)).bel n = true := by
  simp only [AO.bel, tmap, List.all_map, List.all_eq_true]
  intro x _; rfl
theorem nmap_bel (n : Nat) (S : List (Int × ByteArray)) : (AO.map (nmap S)).bel n = true := by
  simp only [AO.bel, nmap, List.all_map, List.all_eq_true]
  intro x _; rfl
theorem dH_bel (h : List AO) (d : Decl) (S : List (Int × ByteArray)) : (dH h d S).all (AO.bel (h.length + (dH h d S).length)) = true := by
  have h1 := tmap_bel (h.length + (dH h d S).length) S
  have h2 := nmap_bel (h.length + (dH h d S).length) S
  simp only [dH, List.all_cons, List.all_nil, Bool.and_eq_true] at h1 h2 ⊢
  refine ⟨rfl, h1, h2, ?_, trivial⟩
  simp [AO.bel, belL, AV.bel]
theorem tagsF_succ {l : List Fld} {i : Nat} (hi : i < l.length) : tagsF (l.take (i + 1)) = tagsF (l.take i) ++ [(l[i].tag, l[i].name)] := by
  rw [List.take_succ_eq_append_getElem hi, tagsF, List.map_append]; rfl
theorem fieldsM_step {ds : List Decl} {kd a b : Int} {l : List Fld} {i : Nat} (hi : i < l.length) : fieldsM ds kd a b (tagsF (l.take i)) (l.drop i) =
    if ¬ rowM (tagsF (l.take i)) l[i].tag l[i].name a b = 0 then rowM (tagsF (l.take i)) l[i].tag l[i].name a b else if ¬ fieldM ds kd l[i] = 0 then fieldM ds kd l[i] else fieldsM ds kd a b (tagsF (l.take (i + 1))) (l.drop (i + 1)) := by
  rw [List.drop_eq_getElem_cons hi, fieldsM, tagsF_succ hi]
def tagsM (l : List Mth) : List (Int × ByteArray) := l.map fun f => (f.tag, f.name)
theorem tagsM_succ {F : List (Int × ByteArray)} {l : List Mth} {i : Nat} (hi : i < l.length) : F ++ tagsM (l.take (i + 1)) = (F ++ tagsM (l.take i)) ++ [(l[i].tag, l[i].name)] := by
  rw [List.take_succ_eq_append_getElem hi, tagsM, List.map_append, List.append_assoc]; rfl
theorem methodsM_step {ds : List Decl} {a b : Int} {F : List (Int × ByteArray)} {l : List Mth} {i : Nat} (hi : i < l.length) : methodsM ds a b (F ++ tagsM (l.take i)) (l.drop i) =
    if ¬ rowM (F ++ tagsM (l.take i)) l[i].tag l[i].name a b = 0 then rowM (F ++ tagsM (l.take i)) l[i].tag l[i].name a b else if ¬ methodM ds l[i] = 0 then methodM ds l[i] else methodsM ds a b (F ++ tagsM (l.take (i + 1))) (l.drop (i + 1)) := by
  rw [List.drop_eq_getElem_cons hi, methodsM, tagsM_succ hi]
theorem rowM_vals (S : List (Int × ByteArray)) (t : Int) (s : ByteArray) (a b : Int) : rowM S t s a b = 9 ∨ rowM S t s a b = 7 ∨ rowM S t s a b = 0 := by
  unfold rowM
  split
  · exact .inl rfl
  · split
    · exact .inr (.inl rfl)
    · exact .inr (.inr rfl)

def endM (ds : List Decl) (d : Decl) (a b : Int) : Int :=
  if ¬ methodsM ds a b (tagsF d.fields) d.methods = 0 then methodsM ds a b (tagsF d.fields) d.methods else if (d.kind = 2 ∨ d.kind = 3) ∧ d.fields = [] then 12 else 0
def bodM (ds : List Decl) (d : Decl) (a b : Int) : Int := if ¬ fieldsM ds d.kind a b [] d.fields = 0 then fieldsM ds d.kind a b [] d.fields else endM ds d a b

theorem w78_m {ds : List Decl} {c tb : Nat} {h : List AO} {L : AV} {d : Decl} {a b : Int} {K : ARes → List AO → Prop} (hc : h[c]? = some (.box [L, .ptr tb 0])) (T : IsTab h tb ds) (hok : d.ok) (k : K (.ok (.int .i64 (endM ds d a b))) h) :
    LP ⟨intPg Tryz.prog 0 .i64, h, [.t 4], K⟩ [0, 5, 8, 9, 10, 78, 79, 80] A78_l1 [.blk 3, .seq A78_r0]
      [(0, .ptr c 0), (5, .ptr h.length 0), (8, .int .i64 a), (9, .int .i64 b), (10, .ptr (h.length + 3) 0), (78, .rsl (d.methods.map Mth.av)), (79, .int .i64 (d.methods.length : Int)), (80, .int .i64 0)] (h ++ dH h d (tagsF d.fields)) := by
  have hcl : c < h.length := (List.getElem?_eq_some_iff.1 hc).1
  obtain ⟨_, _, hf, hm, _, hfo, hmo⟩ := hok
  simp only [most] at hf hm
  unfold endM at k
  refine lp_for d.methods.length (fun j => methodsM ds a b (tagsF d.fields) d.methods = methodsM ds a b (tagsF d.fields ++ tagsM (d.methods.take j)) (d.methods.drop j)) (fun j f => setF f 80 (.int .i64 (j : Int)))
    (fun j => h ++ dH h d (tagsF d.fields ++ tagsM (d.methods.take j))) ?_ (by simp [tagsM]) (by simp) (by simp [tagsM])
  intro j hj hs ih
  have hw := wrap_succ (i := j) (by omega)
  simp at ih
  by_cases hlt : j < d.methods.length
  · rw [methodsM_step hlt] at hs
    simp [uf A78_l1.eq_1, hlt, Mth.av]
    refine w134 (S := tagsF d.fields ++ tagsM (d.methods.take j)) (tm := h.length + 1) (nm := h.length + 2) (by simp [dH]) (by simp [dH]) (by simp [dH]) (by omega) (by omega) (by omega) (fun e => ?_) (fun e te ne => ?_) (fun e => ?_)
    · rw [if_pos (by omega), e] at hs
      simp
      refine ret_pure (by simp) ?_
      rw [if_pos (by omega), hs] at k; exact k
    · rw [if_pos (by omega), e] at hs
      simp [dH]
      refine ret_pure (by simp) ?_
      rw [if_pos (by omega), hs] at k; exact k
    · rw [if_neg (by omega)] at hs
      rw [tagsM_succ hlt] at hs ih
      simp only [List.append_assoc] at hs ih
      simp [dH]
      refine w136 (get_app_old hc _) (T.app _) ?_
      by_cases he : methodM ds d.methods[j] = 0
      · rw [if_neg (by omega)] at hs
        simp [he, hw]
        refine lp_cutA (A := dH h d _) (B := [AO.box _]) rfl (dH_bel h d _) ?_ (ih (by omega) hs)
        simp [dH, show c < h.length + 4 by omega]
      · rw [if_pos he] at hs
        simp [he]
        refine ret_pure (by simp) ?_
        rw [hs, if_pos he] at k; exact k
  · have : d.methods.drop j = [] := List.drop_eq_nil_of_le (by omega)
    rw [this, methodsM] at hs
    rw [if_neg (by omega)] at k
    simp [uf A78_l1.eq_1, uf A78_r0.eq_1, hlt, dH]
    by_cases c2 : d.kind = 2
    · by_cases hn : d.fields = []
      · simp [c2, hn] at k ⊢; exact ret_pure (by simp) k
      · simp [c2, hn] at k ⊢; exact ret_pure (by simp) k
    · by_cases c3 : d.kind = 3
      · by_cases hn : d.fields = []
        · simp [c3, hn] at k ⊢; exact ret_pure (by simp) k
        · simp [c3, hn] at k ⊢; exact ret_pure (by simp) k
      · simp [c2, c3] at k ⊢; exact ret_pure (by simp) k

theorem w78_f {ds : List Decl} {c tb : Nat} {h : List AO} {L : AV} {d : Decl} {a b : Int} {K : ARes → List AO → Prop} (hc : h[c]? = some (.box [L, .ptr tb 0])) (T : IsTab h tb ds) (hok : d.ok) (k : K (.ok (.int .i64 (bodM ds d a b))) h) :
    LP ⟨intPg Tryz.prog 0 .i64, h, [.t 4], K⟩ [0, 5, 8, 9, 10, 52, 53, 54] A78_l0 [.blk 1, .seq A78_r1]
      [(0, .ptr c 0), (5, .ptr h.length 0), (8, .int .i64 a), (9, .int .i64 b), (10, .ptr (h.length + 3) 0), (52, .rsl (d.fields.map Fld.av)), (53, .int .i64 (d.fields.length : Int)), (54, .int .i64 0)] (h ++ dH h d []) := by
  have hcl : c < h.length := (List.getElem?_eq_some_iff.1 hc).1
  have hok' := hok
  obtain ⟨_, _, hf, hm, _, hfo, hmo⟩ := hok
  simp only [most] at hf hm
  unfold bodM at k
  refine lp_for d.fields.length (fun j => fieldsM ds d.kind a b [] d.fields = fieldsM ds d.kind a b (tagsF (d.fields.take j)) (d.fields.drop j)) (fun j f => setF f 54 (.int .i64 (j : Int)))
    (fun j => h ++ dH h d (tagsF (d.fields.take j))) ?_ (by simp [tagsF]) (by simp) (by simp [tagsF])
  intro j hj hs ih
  have hw := wrap_succ (i := j) (by omega)
  simp at ih
  by_cases hlt : j < d.fields.length
  · rw [fieldsM_step hlt] at hs
    simp [uf A78_l0.eq_1, hlt, Fld.av]
    refine w134 (S := tagsF (d.fields.take j)) (tm := h.length + 1) (nm := h.length + 2) (by simp [dH]) (by simp [dH]) (by simp [dH]) (by omega) (by omega) (by omega) (fun e => ?_) (fun e te ne => ?_) (fun e => ?_)
    · rw [if_pos (by omega), e] at hs
      simp
      refine ret_pure (by simp) ?_
      rw [if_pos (by omega), hs] at k; exact k
    · rw [if_pos (by omega), e] at hs
      simp [dH]
      refine ret_pure (by simp) ?_
      rw [if_pos (by omega), hs] at k; exact k
    · rw [if_neg (by omega)] at hs
      rw [tagsF_succ hlt] at hs ih
      simp [dH]
      refine w135 (get_app_old hc _) (T.app _) (hfo _ (List.getElem_mem hlt)) ?_
      by_cases he : fieldM ds d.kind d.fields[j] = 0
      · rw [if_neg (by omega)] at hs
        simp [he, hw]
        refine lp_cutA (A := dH h d _) (B := [AO.box _]) rfl (dH_bel h d _) ?_ (ih (by omega) hs)
        simp [dH, show c < h.length + 4 by omega]
      · rw [if_pos he] at hs
        simp [he]
        refine ret_pure (by simp) ?_
        rw [hs, if_pos he] at k; exact k
  · have : d.fields.drop j = [] := List.drop_eq_nil_of_le (by omega)
    rw [this, fieldsM] at hs
    rw [if_neg (by omega)] at k
    have htk : d.fields.take j = d.fields := List.take_of_length_le (by omega)
    rw [htk]
    simp [uf A78_l0.eq_1, uf A78_r1.eq_1, hlt, dH]
    have := w78_m (K := K) hc T hok' k
    simpa [dH] using this

theorem w78 {ds : List Decl} {c tb i : Nat} {h : List AO} {K : ARes → List AO → Prop} (hc : h[c]? = some (.box [.rsl (ds.map Decl.av), .ptr tb 0])) (T : IsTab h tb ds) (hi : i < ds.length) (hok : ds[i].ok) (k : K (.ok (.int .i64 (declM ds i ds[i]))) h) :
    W 78 [.ptr c 0, .int .i64 (i : Int)] h K := by
  have hc' := get_app_old hc
  obtain ⟨d, hd⟩ : ∃ d, d = ds[i] := ⟨_, rfl⟩
  obtain ⟨q, hq, hqi⟩ := fnd_le hi
  rw [← hd] at hq hok k
  refine W_of mixed c78 (by simp [A78]) ?_
  simp [A78, fillA, hc, hi, ← hd, Decl.av, hc']
  refine ⟨_, _, w103t (T.app _) ⟨rfl, rfl⟩, ?_⟩
  simp [fndR, hq]
  by_cases he : q = i
  · subst he
    have loop : ∀ (a b : Int), leastM d.kind = a → mostM d.kind = b → (d.kind = 1 ∨ d.kind = 2 ∨ d.kind = 3 ∨ d.kind = 4) →
        LP ⟨intPg Tryz.prog 0 .i64, h, [.t 4], K⟩ [0, 5, 8, 9, 10, 52, 53, 54] A78_l0 [.blk 1, .seq A78_r1]
          [(0, .ptr c 0), (5, .ptr h.length 0), (8, .int .i64 a), (9, .int .i64 b), (10, .ptr (h.length + 3) 0), (52, .rsl (d.fields.map Fld.av)), (53, .int .i64 (d.fields.length : Int)), (54, .int .i64 0)] (h ++ dH h d []) := by
      intro a b ha hb hk
      refine w78_f hc T hok ?_
      unfold declM at k
      rw [if_neg (by simp [hq]), if_neg (fun e => e hk), ha, hb] at k
      exact k
    by_cases c1 : d.kind = 1
    · have := loop 1 255 (by simp [leastM, c1]) (by simp [mostM, c1]) (.inl c1)
      simp [dH, tmap, nmap, c1] at this
      simp [c1, fillA]
      exact this
    by_cases c2 : d.kind = 2
    · have := loop 1 255 (by simp [leastM, c2]) (by simp [mostM, c2]) (.inr (.inl c2))
      simp [dH, tmap, nmap, c2] at this
      simp [c2, fillA]
      exact this
    by_cases c4 : d.kind = 4
    · have := loop 1 255 (by simp [leastM, c4]) (by simp [mostM, c4]) (.inr (.inr (.inr c4)))
      simp [dH, tmap, nmap, c4] at this
      simp [c4, fillA]
      exact this
    by_cases c3 : d.kind = 3
    · have := loop 0 9999 (by simp [leastM, c3]) (by simp [mostM, c3]) (.inr (.inr (.inl c3)))
      simp [dH, tmap, nmap, c3] at this
      simp [c3, fillA]
      exact this
    · simp [c1, c2, c3, c4]
      refine ret_pure (by simp) ?_
      unfold declM at k
      rw [if_neg (by simp [hq]), if_pos (by simp [c1, c2, c3, c4])] at k
      exact k
  · unfold declM at k
    rw [if_pos (by simp [hq, he])] at k
    have he' : ¬ (q : Int) = (i : Int) := by omega
    simp [he']
    exact ret_pure (by simp) k
end Go.Proofs.YtjljhmeadfejhaaGreat

/- Check and CheckLess, about the engine. -/

set_option maxRecDepth 100000
set_option linter.unusedVariables false
set_option linter.unusedSimpArgs false
namespace Go.Proofs.YtjljhmeadfejhaaGreat
open Go.Eng
theorem declsM_step {ds : List Decl} {i : Nat} (hi : i < ds.length) : declsM ds i (ds.drop i) = if ¬ declM ds i ds[i] = 0 then (declM ds i ds[i], ds[i].e) else declsM ds (i + 1) (ds.drop (i + 1)) := by
  rw [List.drop_eq_getElem_cons hi, declsM]
theorem deepM_step {ds : List Decl} {bs : List Bool} {i : Nat} (hi : i < ds.length) (hb : i < bs.length) : deepM (bs.drop i) (ds.drop i) = if bs[i] then deepM (bs.drop (i + 1)) (ds.drop (i + 1)) else (10, ds[i].e) := by
  rw [List.drop_eq_getElem_cons hi, List.drop_eq_getElem_cons hb, deepM]
theorem deepM_nil (ds : List Decl) : deepM [] ds = (0, 0) := by cases ds <;> rfl

theorem w44 {h : List AO} {ds : List Decl} {K : ARes → List AO → Prop} (hl : ds.length < 2199023255552) (hok : ∀ d ∈ ds, d.ok) (k : K (.ok (.agg [.int .i64 (checkM ds).1, .int .i64 (checkM ds).2])) h) : W 44 [.rsl (ds.map Decl.av)] h K := by
  refine W_of mixed c44 (by simp [A44]) ?_
  simp [A44, fillA]
  refine w77t hl ?_
  obtain ⟨T0, hT0⟩ : ∃ T0, T0 = ofT (h.length + 1) ds ds.length := ⟨_, rfl⟩
  obtain ⟨b0, hb0⟩ : ∃ b0 : AO, b0 = .box [.int .i64 0, .int .i64 0] := ⟨_, rfl⟩
  have hT : ∀ l, IsTab (h ++ (b0 :: (T0 ++ l))) (h.length + 1 + 1) ds := fun l => by
    have := isTab_app (h ++ [b0]) l ds
    simpa [hT0] using this
  obtain ⟨hbel, hlen2⟩ := ofT_bel (h.length + 1) ds ds.length
  rw [← hT0] at hbel hlen2
  simp [fillA, ← hT0]
  rw [← hb0]
  have hA : (b0 :: (T0 ++ [AO.box [.rsl (ds.map Decl.av), .ptr (h.length + 1 + 1) 0]])).all (AO.bel (h.length + (b0 :: (T0 ++ [AO.box [AV.rsl (ds.map Decl.av), AV.ptr (h.length + 1 + 1) 0]])).length)) = true := by
    rw [List.all_cons, List.all_append, Bool.and_eq_true, Bool.and_eq_true]
    refine ⟨by rw [hb0]; rfl, all_bel_mono (by simp; omega) hbel, ?_⟩
    simp [AO.bel, belL, AV.bel]
    omega
  refine lp_for ds.length (fun i => declsM ds 0 ds = declsM ds i (ds.drop i)) (fun i f => setF f 16 (.int .i64 (i : Int))) (fun _ => h ++ (b0 :: (T0 ++ [.box [.rsl (ds.map Decl.av), .ptr (h.length + 1 + 1) 0]]))) ?_ (by simp) (by simp) (by simp)
  intro i hi hs ih
  have hw := wrap_succ (i := i) (by omega)
  simp at ih
  by_cases hlt : i < ds.length
  · rw [declsM_step hlt] at hs
    simp [uf A44_l0.eq_1, hlt, Decl.av]
    refine w78 (ds := ds) (tb := h.length + 1 + 1) (by simp) (hT _) hlt (hok _ (List.getElem_mem hlt)) ?_
    by_cases he : declM ds i ds[i] = 0
    · rw [if_neg (by simp [he])] at hs
      simp [he, hw]
      refine lp_cutA (A := b0 :: (T0 ++ [AO.box _])) (B := [AO.box _]) (by rw [List.cons_append, List.append_assoc]; rfl) hA (by simp) (ih (by omega) hs)
    · rw [if_pos he] at hs
      simp [he, hb0, fillA]
      refine ret_pure (by simp) ?_
      unfold checkM at k
      rw [if_pos (by rw [hs]; exact he), hs] at k
      exact k
  · have : ds.drop i = [] := List.drop_eq_nil_of_le (by omega)
    rw [this, declsM] at hs
    unfold checkM at k
    rw [if_neg (by rw [hs]; simp)] at k
    simp [uf A44_l0.eq_1, uf A44_r1.eq_1, hlt]
    refine w79 hl hok ?_
    obtain ⟨bs, hbs⟩ : ∃ bs, bs = itF ds ds.length := ⟨_, rfl⟩
    have hbl : bs.length = ds.length := by rw [hbs]; exact itF_len ds _
    rw [← hbs] at k ⊢
    simp [hbl]
    refine lp_for ds.length (fun i => deepM bs ds = deepM (bs.drop i) (ds.drop i)) (fun i f => setF f 34 (.int .i64 (i : Int))) (fun _ => h ++ (b0 :: (T0 ++ [.box [.rsl (ds.map Decl.av), .ptr (h.length + 1 + 1) 0]]))) ?_ (by simp) (by simp) (by simp)
    intro i hi hs ih
    have hw := wrap_succ (i := i) (by omega)
    simp at ih
    by_cases hlt : i < ds.length
    · have hlb : i < bs.length := by omega
      rw [deepM_step hlt hlb] at hs
      cases hb : bs[i] with
      | true =>
        rw [hb, if_pos rfl] at hs
        simp [uf A44_l1.eq_1, hlt, hlb, hb, hw]
        exact ih (by omega) hs
      | false =>
        rw [hb, if_neg (by simp)] at hs
        simp [uf A44_l1.eq_1, hlt, hlb, hb, hw, Decl.av, hb0, fillA]
        refine ret_pure (by simp) ?_
        rw [hs] at k
        exact k
    · have : bs.drop i = [] := List.drop_eq_nil_of_le (by omega)
      rw [this, deepM_nil] at hs
      simp [uf A44_l1.eq_1, uf A44_r0.eq_1, hlt, hb0, fillA]
      refine ret_pure (by simp) ?_
      rw [hs] at k
      exact k

end Go.Proofs.YtjljhmeadfejhaaGreat
