/- blank, about the engine: types that are not named, unions. -/
import Derived.Test.YtjljhmeadfejhaaGreatB7
import Derived.Test.YtjljhmeadfejhaaGreatG5
set_option maxRecDepth 100000
set_option linter.unusedVariables false
set_option linter.unusedSimpArgs false
namespace Go.Proofs.YtjljhmeadfejhaaGreat
open Go.Eng
abbrev resC (v : Val) : List AV := [.int .i64 v.kind, .int .i64 v.num, .str v.text, rowV (v.tags.map intA), rowV (v.items.map Val.av)]
abbrev val0 : Val := .mk 0 0 ⟨#[]⟩ [] []
abbrev outR (o : Option Val) : AV := .tup [.agg (resC (o.getD val0)), .bool o.isSome]
def fieldsA (rec : Ty → Option Val) (ts : List Int) (vs : List Val) : List Fld → Option Val
  | [] => some (.mk 9 0 ⟨#[]⟩ ts vs)
  | r :: rs => if r.ty.kind = 9 then fieldsA rec ts vs rs else match rec r.ty with
    | none => none
    | some x => fieldsA rec (ts ++ [r.tag]) (vs ++ [x]) rs
def oneB (rec : Ty → Option Val) : List Fld → Option Val
  | [] => none
  | r :: rs => match rec r.ty with
    | none => oneB rec rs
    | some x => some (.mk 10 0 ⟨#[]⟩ [r.tag] [x])
def namedB (rec : Ty → Option Val) (ds : List Decl) (s : ByteArray) : Option Val :=
  if kindR s ds = 3 then (sortT (fldsOf ds s)).head?.map fun r => .mk 6 r.tag ⟨#[]⟩ [] []
  else if kindR s ds = 1 then fieldsA rec [] [] (sortT (fldsOf ds s))
  else if kindR s ds = 2 then oneB rec (sortT (fldsOf ds s)) else none
def easyK (k : Int) (l : List Ty) : Prop := (1 ≤ k ∧ k ≤ 5 ∧ l = []) ∨ (k = 7 ∧ l.length = 1) ∨ (k = 8 ∧ l.length = 2)
instance (k : Int) (l : List Ty) : Decidable (easyK k l) := by unfold easyK; cases l <;> exact inferInstance
mutual
def byT (rec : Ty → Option Val) (ds : List Decl) : Ty → Option Val
  | .mk k s l => if k = 6 then namedB rec ds s else if easyK k l then some (.mk k 0 ⟨#[]⟩ [] []) else if k = 9 then byTL rec ds l else none
def byTL (rec : Ty → Option Val) (ds : List Decl) : List Ty → Option Val
  | [] => none
  | t :: l => if l = [] then byT rec ds t else none
end
theorem byT_eq (rec : Ty → Option Val) (ds : List Decl) (t : Ty) : byT rec ds t = if t.kind = 6 then namedB rec ds t.name else if easyK t.kind t.of then some (.mk t.kind 0 ⟨#[]⟩ [] []) else if t.kind = 9 then byTL rec ds t.of else none := by cases t; rw [byT]; rfl
def byM (ds : List Decl) : Nat → Ty → Option Val
  | 0 => fun _ => none
  | d + 1 => byT (byM ds d) ds
/-- A maker. -/
def Mk (h : List AO) (mi : Nat) (ds : List Decl) : Prop := ∃ di, h[mi]? = some (.box [.ptr di 0]) ∧ ReadyD h di ds
theorem Mk.app {h : List AO} {mi : Nat} {ds : List Decl} (m : Mk h mi ds) (X : List AO) : Mk (h ++ X) mi ds := by
  obtain ⟨di, h1, h2⟩ := m
  exact ⟨di, by rw [List.getElem?_append_left (List.getElem?_eq_some_iff.1 h1).1]; exact h1, h2.app X⟩
def optB (o : Ty → Option Val) : List Ty → Option Val
  | [u] => o u
  | _ => none
theorem easy_iff {k : Int} {l : List Ty} : easyK k l ↔ (1 ≤ k ∧ k ≤ 5 ∧ l = []) ∨ (k = 7 ∧ l.length = 1) ∨ (k = 8 ∧ l.length = 2) := Iff.rfl
theorem w152 {mi d : Nat} {t : Ty} (ht : t.of.length < most) {o : Ty → Option Val} (hn : ¬ t.kind = 6) {h : List AO} (each : ∀ u, t.of = [u] → ∀ (X : List AO) (K : ARes → List AO → Prop), K (.ok (outR (o u))) (h ++ X) → W 101 [.ptr mi 0, targ u, .int .i64 (d : Int)] (h ++ X) K)
    {K : ARes → List AO → Prop} (k : K (.ok (outR (if easyK t.kind t.of then some (.mk t.kind 0 ⟨#[]⟩ [] []) else if t.kind = 9 then optB o t.of else none))) h) : W 152 [.ptr mi 0, targ t, .int .i64 (d : Int)] h K := by
  refine W_of mixed c152 (by simp [A152]) ?_
  have n0 : ∀ {r : Option Val}, r = none → K (.ok (outR r)) h → K (.ok (.tup [.agg [.int .i64 0, .int .i64 0, .str ⟨#[]⟩, .esl, .esl], .bool false])) h := by
    rintro r rfl q; exact q
  by_cases h15 : 1 ≤ t.kind ∧ t.kind ≤ 5
  · obtain ⟨a, b⟩ := h15
    have n7 : ¬ t.kind = 7 := by omega
    have n8 : ¬ t.kind = 8 := by omega
    have n9 : ¬ t.kind = 9 := by omega
    by_cases hl : t.of = []
    · rw [if_pos (easy_iff.2 (.inl ⟨a, b, hl⟩))] at k
      simp [A152, a, b, hl, fillA, setL]
      exact .inr ⟨h.length, 3, _, DropOk.app h _, by simp [out, mapO]; rfl, by simpa using (show K (.ok (.tup [.agg [.int .i64 t.kind, .int .i64 0, .str ⟨#[]⟩, .esl, .esl], .bool true])) h from k)⟩
    · have hl' : ¬ t.of.length = 0 := fun e => hl (List.eq_nil_of_length_eq_zero e)
      rw [if_neg (fun e => by rcases easy_iff.1 e with ⟨_, _, e⟩ | ⟨e, _⟩ | ⟨e, _⟩; exact hl e; exact n7 e; exact n8 e), if_neg n9] at k
      simp [A152, a, b, hl, n7, n8, n9, fillA, setL]
      exact .inr ⟨h.length, 3, _, DropOk.app h _, by simp [out, mapO]; rfl, by simpa using n0 rfl k⟩
  · have h15' : 1 ≤ t.kind → ¬ t.kind ≤ 5 := fun a b => h15 ⟨a, b⟩
    have nE : ∀ {X : AX → Prop}, True := fun {_} => trivial
    by_cases h7 : t.kind = 7
    · by_cases hl : t.of.length = 1
      · rw [if_pos (easy_iff.2 (.inr (.inl ⟨h7, hl⟩)))] at k
        simp [A152, h7, hl, fillA, setL]
        exact .inr ⟨h.length, 3, _, DropOk.app h _, by simp [out, mapO]; rfl, by simpa [h7] using (show K (.ok (.tup [.agg [.int .i64 t.kind, .int .i64 0, .str ⟨#[]⟩, .esl, .esl], .bool true])) h from k)⟩
      · have hl' : ¬ ((t.of.length : Int) = 1) := by omega
        rw [if_neg (fun e => by rcases easy_iff.1 e with ⟨e, e', _⟩ | ⟨_, e⟩ | ⟨e, _⟩; exact h15 ⟨e, e'⟩; exact hl e; omega), if_neg (by omega)] at k
        simp [A152, h7, hl', fillA, setL]
        exact .inr ⟨h.length, 3, _, DropOk.app h _, by simp [out, mapO]; rfl, by simpa using n0 rfl k⟩
    by_cases h8 : t.kind = 8
    · by_cases hl : t.of.length = 2
      · rw [if_pos (easy_iff.2 (.inr (.inr ⟨h8, hl⟩)))] at k
        simp [A152, h8, hl, fillA, setL]
        exact .inr ⟨h.length, 3, _, DropOk.app h _, by simp [out, mapO]; rfl, by simpa [h8] using (show K (.ok (.tup [.agg [.int .i64 t.kind, .int .i64 0, .str ⟨#[]⟩, .esl, .esl], .bool true])) h from k)⟩
      · have hl' : ¬ ((t.of.length : Int) = 2) := by omega
        rw [if_neg (fun e => by rcases easy_iff.1 e with ⟨e, e', _⟩ | ⟨e, _⟩ | ⟨_, e⟩; exact h15 ⟨e, e'⟩; exact h7 e; exact hl e), if_neg (by omega)] at k
        simp [A152, h8, hl', fillA, setL]
        exact .inr ⟨h.length, 3, _, DropOk.app h _, by simp [out, mapO]; rfl, by simpa using n0 rfl k⟩
    rw [if_neg (fun e => by rcases easy_iff.1 e with ⟨e, e', _⟩ | ⟨e, _⟩ | ⟨e, _⟩; exact h15 ⟨e, e'⟩; exact h7 e; exact h8 e)] at k
    by_cases h9 : t.kind = 9
    · rw [if_pos h9] at k
      by_cases hl : t.of.length = 1
      · obtain ⟨u, hu⟩ : ∃ u, t.of = [u] := by
          match ht : t.of, hl with
          | [u], _ => exact ⟨u, rfl⟩
        rw [hu] at k
        have k : K (.ok (outR (o u))) h := k
        simp [A152, h9, hu, Ty.av, Ty.cells_eq]
        refine each u hu _ _ ?_
        simp
        exact .inr ⟨h.length, 3, _, DropOk.app h _, by simp [out, mapO]; rfl, by simpa using k⟩
      · have hl' : ¬ ((t.of.length : Int) = 1) := by omega
        have e0 : optB o t.of = none := by
          match t.of, hl with
          | [], _ => rfl
          | a :: b :: c, _ => rfl
        simp [A152, h9, hl', fillA, setL]
        exact .inr ⟨h.length, 3, _, DropOk.app h _, by simp [out, mapO]; rfl, by simpa using n0 e0 k⟩
    · rw [if_neg h9] at k
      by_cases h1 : 1 ≤ t.kind
      · have h5 := h15' h1
        simp [A152, h1, h5, h7, h8, h9, fillA, setL]
        exact .inr ⟨h.length, 3, _, DropOk.app h _, by simp [out, mapO]; rfl, by simpa using n0 rfl k⟩
      · simp [A152, h1, h7, h8, h9, fillA, setL]
        exact .inr ⟨h.length, 3, _, DropOk.app h _, by simp [out, mapO]; rfl, by simpa using n0 rfl k⟩
theorem w154 {mi d : Nat} {l : List Fld} (hl : l.length ≤ 30) {o : Ty → Option Val} {h : List AO} (each : ∀ f ∈ l, ∀ (X : List AO) (K : ARes → List AO → Prop), K (.ok (outR (o f.ty))) (h ++ X) → W 101 [.ptr mi 0, targ f.ty, .int .i64 (d : Int)] (h ++ X) K)
    (hd : d < 1000) (hmi : mi < h.length) {K : ARes → List AO → Prop} (k : K (.ok (outR (oneB o l))) h) : W 154 [.ptr mi 0, .rsl (l.map Fld.av), .int .i64 ((d : Int) + 1)] h K := by
  have hwd : IntKind.i64.wrap (d : Int) = (d : Int) := wrap_i64 _ (by omega) (by omega)
  refine W_of mixed c154 (by simp [A154]) ?_
  simp [A154]
  refine lp_indE (ι := Nat) (fun i => i ≤ l.length ∧ oneB o l = oneB o (l.drop i)) (fun i => l.length - i)
    (fun i => [(0, .ptr mi 0), (2, .int .i64 ((d : Int) + 1)), (6, .ptr h.length 0), (12, .rsl (l.map Fld.av)), (13, .int .i64 (l.length : Int)), (14, .int .i64 (i : Int))]) (fun _ => h ++ [.box [.int .i64 0, .int .i64 0, .str ⟨#[]⟩, .esl, .esl]]) ?_ 0 ⟨by simp, by simp⟩ rfl rfl
  rintro i ⟨hi, hr⟩ ih
  have hw := wrap_succ (i := i) (by omega)
  by_cases hlt : i < l.length
  · rw [List.drop_eq_getElem_cons hlt, oneB] at hr
    have hmem := List.getElem_mem hlt
    simp [uf A154_l0.eq_1, hlt, Fld.av, hwd]
    refine each _ hmem _ _ ?_
    cases ho : o l[i].ty with
    | none =>
      rw [ho] at hr
      simp [outR, hw]
      refine lp_cut 1 ?_ (by simp [show mi < h.length + 1 by omega]; rfl) ?_
      · simp [AO.bel, belL, AV.bel]
      · simpa using ih (i + 1) ⟨by omega, hr⟩ (by omega)
    | some x =>
      rw [ho] at hr
      simp only at hr
      rw [hr] at k
      simp [outR, fillA, setL]
      have e : outR (some (Val.mk 10 0 ⟨#[]⟩ [l[i].tag] [x])) = .tup [.agg [.int .i64 10, .int .i64 0, .str ⟨#[]⟩, .rsl [.int .i64 l[i].tag], .rsl [.agg [.int .i64 x.kind, .int .i64 x.num, .str x.text, .rsl (x.tags.map intA), .rsl (x.items.map Val.av)]]], .bool true] := by
        rw [← Val.cells_eq]; rfl
      rw [e] at k
      exact .inr ⟨h.length, 3, _, DropOk.app h _, by simp [out, mapO]; rfl, by simpa using k⟩
  · rw [List.drop_eq_nil_of_le (by omega), oneB] at hr
    rw [hr] at k
    simp [uf A154_l0.eq_1, uf A154_r0.eq_1, hlt, fillA, setL]
    exact .inr ⟨h.length, 3, _, DropOk.app h _, by simp [out, mapO]; rfl, by simpa using (show K (.ok (.tup [.agg [.int .i64 0, .int .i64 0, .str ⟨#[]⟩, .esl, .esl], .bool false])) h from k)⟩
end Go.Proofs.YtjljhmeadfejhaaGreat
