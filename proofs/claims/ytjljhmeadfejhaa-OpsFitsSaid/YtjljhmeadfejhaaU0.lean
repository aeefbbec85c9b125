/- Operations that fit, plain. -/
import Derived.Test.YtjljhmeadfejhaaG4
import Derived.Test.YtjljhmeadfejhaaV0
set_option maxRecDepth 100000
set_option linter.unusedVariables false
set_option linter.unusedSimpArgs false
namespace Go.Proofs.Ytjljhmeadfejhaa
open Go.Eng
def Plain (t : Ty) : Prop := t = tyT ∨ t = tyI ∨ t = tyU ∨ t = tyB ∨ t = tyO
theorem opIn_plain (op : Int) : ∀ t ∈ opIn op, Plain t := by
  intro t ht
  unfold opIn at ht
  unfold Plain
  split at ht
  · simp at ht; simp [ht]
  · split at ht
    · simp at ht; simp [ht]
    · split at ht
      · simp at ht; rcases ht with h | h <;> simp [h]
      · split at ht
        · simp at ht; rcases ht with h | h <;> simp [h]
        · simp at ht
theorem opOut_plain (op : Int) : ∀ t ∈ opOut op, Plain t := by
  intro t ht
  unfold opOut at ht
  unfold Plain
  split at ht
  · simp at ht; simp [ht]
  · split at ht
    · simp at ht; simp [ht]
    · split at ht
      · simp at ht; simp [ht]
      · simp at ht
/-! ### the program's answer, and the document's -/
def sameP (a b : Ty) : Bool := decide (a.kind = b.kind) && decide (a.of.length = b.of.length) && (decide (a.kind ≠ 9) || decide ((a.of[0]?).map Ty.kind = (b.of[0]?).map Ty.kind))
def begP (i : Nat) : List Fld → List Ty → Bool
  | rows, [] => rows.all fun r => decide (r.ty.kind = 9)
  | [], _ :: _ => false
  | r :: rows, t :: ts => decide (r.tag = (i : Int) + 1) && sameP r.ty t && begP (i + 1) rows ts
def refL (fs : List Fld) (i : Nat) : List Ty → Bool
  | [] => true
  | t :: ts => (match fs.find? fun f => decide (f.tag = (i : Int) + 1) with
    | none => false
    | some f => f.ty.same t) && refL fs (i + 1) ts
def begR (fs : List Fld) (t : List Ty) : Bool := refL fs 0 t && fs.all fun f => decide (f.tag ≤ (t.length : Int)) || decide (f.ty.kind = 9)
/-- What Check makes sure of, of a type in a field. -/
theorem plain_same {ds : List Decl} {a t : Ty} {inner : Bool} (ha : typM ds a inner = 0) (ht : Plain t) : sameP a t = a.same t := by
  have one : ∀ {a : Ty} {inner : Bool}, typM ds a inner = 0 → a.kind = 1 ∨ a.kind = 2 ∨ a.kind = 3 ∨ a.kind = 4 → a.name = ⟨#[]⟩ ∧ a.of = [] := by
    rintro ⟨k, s, l⟩ inner ha hk
    rw [typM] at ha
    split at ha
    · cases ha
    · rename_i hn
      simp only [Ty.kind, Ty.name, Ty.of] at hk ⊢
      have h0 : arM k = 0 := by unfold arM; rw [if_pos (by omega)]
      rw [h0] at hn
      have h6 : ¬ k = 6 := by omega
      have h1 : l.length = 0 := by
        by_cases h : l.length = 0
        · exact h
        · exact absurd (.inl (by omega)) hn
      refine ⟨?_, List.eq_nil_of_length_eq_zero h1⟩
      by_cases h : s = ⟨#[]⟩
      · exact h
      · exact absurd (.inr ⟨h6, h⟩) hn
  have nine : ∀ {a : Ty} {inner : Bool}, typM ds a inner = 0 → a.kind = 9 → a.name = ⟨#[]⟩ ∧ ∃ x, a.of = [x] ∧ typM ds x true = 0 := by
    rintro ⟨k, s, l⟩ inner ha hk
    simp only [Ty.kind, Ty.name, Ty.of] at hk ⊢
    subst hk
    rw [typM] at ha
    split at ha
    · cases ha
    · rename_i hn
      have h0 : arM 9 = 1 := rfl
      rw [h0] at hn
      have h1 : l.length = 1 := by
        by_cases h : l.length = 1
        · exact h
        · exact absurd (.inl (by omega)) hn
      have hs : s = ⟨#[]⟩ := by
        by_cases h : s = ⟨#[]⟩
        · exact h
        · exact absurd (.inr ⟨by decide, h⟩) hn
      obtain ⟨x, rfl⟩ : ∃ x, l = [x] := by
        match l, h1 with
        | [x], _ => exact ⟨x, rfl⟩
      refine ⟨hs, x, rfl, ?_⟩
      rw [if_neg (by decide)] at ha
      split at ha
      · cases ha
      · rw [if_neg (by simp), typML] at ha
        split at ha
        · assumption
        · exact ha
  have basic : ∀ (b : Ty), (b.kind = 1 ∨ b.kind = 2 ∨ b.kind = 3 ∨ b.kind = 4) → b.name = ⟨#[]⟩ → b.of = [] → ∀ (a : Ty) (inner : Bool), typM ds a inner = 0 → sameP a b = a.same b := by
    intro b hb hn ho a inner ha
    rw [Ty.same_eq]
    unfold sameP
    by_cases hk : a.kind = b.kind
    · obtain ⟨h1, h2⟩ := one ha (by omega)
      have h9 : ¬ a.kind = 9 := by omega
      simp [h9, hn, ho, h1, h2, Ty.sameL, hk]
    · simp [hk]
  rcases ht with rfl | rfl | rfl | rfl | rfl
  · exact basic _ (by decide) rfl rfl _ _ ha
  · exact basic _ (by decide) rfl rfl _ _ ha
  · exact basic _ (by decide) rfl rfl _ _ ha
  · exact basic _ (by decide) rfl rfl _ _ ha
  · rw [Ty.same_eq]
    unfold sameP
    by_cases hk : a.kind = 9
    · obtain ⟨h1, x, h2, hx⟩ := nine ha hk
      have e := basic tyT (by decide) rfl rfl x true hx
      have e2 : sameP x tyT = decide (x.kind = 4) := by
        unfold sameP
        by_cases h4 : x.kind = 4
        · have := (one hx (by omega)).2
          simp [h4, this, show tyT.kind = 4 from rfl, show tyT.of = [] from rfl]
        · simp [h4, show tyT.kind = 4 from rfl]
      rw [e2] at e
      simp [hk, h1, h2, show tyO.kind = 9 from rfl, show tyO.name = ⟨#[]⟩ from rfl, show tyO.of = [tyT] from rfl, show tyT.kind = 4 from rfl, Ty.sameL, ← e]
    · simp [hk, show tyO.kind = 9 from rfl]
theorem begP_eq {ds : List Decl} : ∀ (ts : List Ty) (rows : List Fld) (i : Nat), (∀ t ∈ ts, Plain t) → (∀ r ∈ rows, typM ds r.ty false = 0 ∧ (i : Int) < r.tag) → rows.Pairwise (fun a b => a.tag < b.tag) →
    begP i rows ts = (refL rows i ts && rows.all fun f => decide (f.tag ≤ ((i + ts.length : Nat) : Int)) || decide (f.ty.kind = 9))
  | [], rows, i, hp, hr, hs => by
    simp only [begP, refL, Bool.true_and, List.length_nil, Nat.add_zero]
    apply Bool.eq_iff_iff.2
    simp only [List.all_eq_true]
    refine forall_congr' fun r => ⟨fun h hm => by simp [h hm], fun h hm => ?_⟩
    have := (hr r hm).2
    have h1 : ¬ r.tag ≤ (i : Int) := by omega
    simpa [h1] using h hm
  | t :: ts, [], i, hp, hr, hs => by simp [begP, refL]
  | t :: ts, r :: rows, i, hp, hr, hs => by
    obtain ⟨hs1, hs2⟩ := List.pairwise_cons.1 hs
    obtain ⟨hr1, hr2⟩ := hr r (by simp)
    simp only [begP, refL]
    by_cases ht : r.tag = (i : Int) + 1
    · have IH := begP_eq (ds := ds) ts rows (i + 1) (fun t ht => hp t (by simp [ht])) (fun x hx => ⟨(hr x (by simp [hx])).1, by have := hs1 x hx; omega⟩) hs2
      rw [IH, plain_same hr1 (hp t (by simp))]
      have e1 : ∀ (us : List Ty) (j : Nat), i < j → refL (r :: rows) j us = refL rows j us := by
        intro us
        induction us with
        | nil => intro j _; rfl
        | cons u us ih =>
          intro j hj
          simp only [refL]
          rw [ih (j + 1) (by omega)]
          have : ¬ r.tag = (j : Int) + 1 := by omega
          simp [List.find?, this]
      rw [e1 ts (i + 1) (by omega)]
      have e2 : r.tag ≤ ((i + (t :: ts).length : Nat) : Int) := by simp; omega
      have e3 : i + 1 + ts.length = i + (t :: ts).length := by simp; omega
      rw [e3]
      rw [ht] at e2
      simp only [List.find?, ht, decide_true, List.all_cons, e2, Bool.true_or, Bool.true_and, Bool.and_assoc]
    · have : ∀ x ∈ r :: rows, ¬ x.tag = (i : Int) + 1 := by
        intro x hx
        rcases List.mem_cons.1 hx with rfl | hx
        · exact ht
        · have := hs1 x hx; omega
      have e : (r :: rows).find? (fun f => decide (f.tag = (i : Int) + 1)) = none := by
        rw [List.find?_eq_none]
        intro x hx
        simpa using this x hx
      rw [e]
      simp [ht]
theorem find_tag {l : List Fld} (hn : l.Pairwise fun a b => a.tag ≠ b.tag) (n : Int) (f : Fld) : (l.find? fun f => decide (f.tag = n)) = some f ↔ f ∈ l ∧ f.tag = n := by
  induction l with
  | nil => simp
  | cons x l ih =>
    obtain ⟨h1, h2⟩ := List.pairwise_cons.1 hn
    simp only [List.find?]
    by_cases hx : x.tag = n
    · simp only [hx, decide_true]
      constructor
      · intro e; injection e with e; subst e; exact ⟨by simp, hx⟩
      · rintro ⟨hm, ht⟩
        rcases List.mem_cons.1 hm with rfl | hm
        · rfl
        · exact absurd (hx.trans ht.symm) (h1 f hm)
    · simp only [hx, decide_false]
      rw [ih h2]
      constructor
      · rintro ⟨a, b⟩; exact ⟨by simp [a], b⟩
      · rintro ⟨a, b⟩
        rcases List.mem_cons.1 a with rfl | a
        · exact absurd b hx
        · exact ⟨a, b⟩
theorem refL_perm {l l' : List Fld} (hn : l.Pairwise fun a b => a.tag ≠ b.tag) (p : l.Perm l') : ∀ (ts : List Ty) (i : Nat), refL l i ts = refL l' i ts
  | [], i => rfl
  | t :: ts, i => by
    have hn' : l'.Pairwise fun a b => a.tag ≠ b.tag := (p.pairwise_iff (fun {a b} h => Ne.symm h)).1 hn
    simp only [refL]
    rw [refL_perm hn p ts (i + 1)]
    have : (l.find? fun f => decide (f.tag = (i : Int) + 1)) = l'.find? fun f => decide (f.tag = (i : Int) + 1) := by
      apply Option.ext
      intro f
      rw [find_tag hn, find_tag hn', p.mem_iff]
    rw [this]
/-- The law: sorted rows against the fields as they stand. -/
theorem beg_law {ds : List Decl} {ts : List Ty} {rows fs : List Fld} (hp : ∀ t ∈ ts, Plain t) (hf : ∀ f ∈ fs, typM ds f.ty false = 0 ∧ 1 ≤ f.tag) (hn : fs.Pairwise fun a b => a.tag ≠ b.tag) (hs : SortedOn rows 0 fs.length) (pm : rows.Perm fs) :
    begP 0 rows ts = begR fs ts := by
  have hn' : rows.Pairwise fun a b => a.tag ≠ b.tag := (pm.pairwise_iff (fun {a b} h => Ne.symm h)).2 hn
  have hlt : rows.Pairwise fun a b => a.tag < b.tag := by
    rw [List.pairwise_iff_getElem] at hn' ⊢
    intro i j hi hj hij
    have h1 := hs i j (Nat.zero_le _) hij (by rw [← pm.length_eq]; exact hj)
    have h2 := hn' i j hi hj hij
    simp only [tg, List.getElem?_eq_getElem hi, List.getElem?_eq_getElem hj, Option.map_some, Option.getD_some] at h1
    omega
  rw [begP_eq (ds := ds) ts rows 0 hp (fun r hr => by have := hf r (pm.mem_iff.1 hr); exact ⟨this.1, by omega⟩) hlt, refL_perm hn' pm]
  unfold begR
  congr 1
  apply Bool.eq_iff_iff.2
  simp only [List.all_eq_true, Nat.zero_add]
  exact forall_congr' fun f => by rw [pm.mem_iff]
/-! ### what Check makes sure of -/
theorem z_declsM_zero {ds : List Decl} : ∀ {l : List Decl} {i : Nat}, (declsM ds i l).1 = 0 → ∀ (j : Nat) (hj : j < l.length), declM ds (i + j) l[j] = 0
  | [], i, h, j, hj => by simp at hj
  | d :: l, i, h, j, hj => by
    simp only [declsM] at h
    by_cases h' : declM ds i d = 0
    · rw [if_neg (by simpa using h')] at h
      cases j with
      | zero => simpa using h'
      | succ j =>
        have := z_declsM_zero h j (by simpa using hj)
        rw [show i + (j + 1) = i + 1 + j by omega]
        exact this
    · rw [if_pos h'] at h
      exact absurd h h'
theorem z_checkM_declM {ds : List Decl} (h : (checkM ds).1 = 0) (j : Nat) (hj : j < ds.length) : declM ds j ds[j] = 0 := by
  have h0 : (declsM ds 0 ds).1 = 0 := by
    unfold checkM at h
    by_cases h' : (declsM ds 0 ds).1 = 0
    · exact h'
    · rw [if_pos h'] at h; exact absurd h h'
  have := z_declsM_zero h0 j hj
  rwa [Nat.zero_add] at this
theorem z_declM_zero {ds : List Decl} {i : Nat} {d : Decl} (h : declM ds i d = 0) : fnd d.name ds = some i ∧ fieldsM ds d.kind (leastM d.kind) (mostM d.kind) [] d.fields = 0 := by
  unfold declM at h
  split at h
  · cases h
  · rename_i h1
    split at h
    · cases h
    · split at h
      · rename_i h2; exact absurd h h2
      · rename_i h2
        exact ⟨by simpa using h1, by simpa using h2⟩
theorem z_fieldsM_zero {ds : List Decl} {k lo hi : Int} : ∀ {l : List Fld} {S : List (Int × ByteArray)}, fieldsM ds k lo hi S l = 0 → (∀ f ∈ l, lo ≤ f.tag ∧ f.tag ≤ hi ∧ fieldM ds k f = 0 ∧ ∀ x ∈ S, x.1 ≠ f.tag) ∧ l.Pairwise fun f g => f.tag ≠ g.tag
  | [], S, h => by simp
  | f :: l, S, h => by
    simp only [fieldsM] at h
    by_cases h1 : rowM S f.tag f.name lo hi = 0
    · rw [if_neg (by simpa using h1)] at h
      by_cases h2 : fieldM ds k f = 0
      · rw [if_neg (by simpa using h2)] at h
        obtain ⟨q1, q2⟩ := z_fieldsM_zero h
        have h3 : lo ≤ f.tag ∧ f.tag ≤ hi ∧ ∀ x ∈ S, x.1 ≠ f.tag := by
          unfold rowM at h1
          split at h1
          · cases h1
          · rename_i hb
            split at h1
            · cases h1
            · rename_i ha
              refine ⟨by omega, by omega, fun x hx e => ?_⟩
              apply ha
              rw [List.any_eq_true]
              exact ⟨x, hx, by simp [e]⟩
        refine ⟨fun g hg => ?_, List.pairwise_cons.2 ⟨fun g hg => ?_, q2⟩⟩
        · rcases List.mem_cons.1 hg with rfl | hg
          · exact ⟨h3.1, h3.2.1, h2, h3.2.2⟩
          · obtain ⟨a, b, c, d⟩ := q1 g hg
            exact ⟨a, b, c, fun x hx => d x (by simp [hx])⟩
        · exact (q1 g hg).2.2.2 (f.tag, f.name) (by simp)
      · rw [if_pos h2] at h; exact absurd h h2
    · rw [if_pos h1] at h; exact absurd h h1
theorem told_of {ds : List Decl} (hl : ds.length < 1099511627776) (hok : ∀ d ∈ ds, d.ok) (hf : ∀ d ∈ ds, d.fit) (h : (checkM ds).1 = 0) : Told ds :=
  ⟨hl, hok, hf, fun i j hi hj hij e => by
    have h1 := (z_declM_zero (z_checkM_declM h i hi)).1
    have h2 := (z_declM_zero (z_checkM_declM h j hj)).1
    rw [e, h2] at h1
    injection h1 with h1
    omega⟩
/-- The fields of a struct. -/
theorem struct_of {ds : List Decl} {s : ByteArray} (h : (checkM ds).1 = 0) (hk : kindR s ds = 1) : ∃ n d, fnd s ds = some n ∧ ds[n]? = some d ∧ (∀ f ∈ d.fields, typM ds f.ty false = 0 ∧ 1 ≤ f.tag) ∧ d.fields.Pairwise fun a b => a.tag ≠ b.tag := by
  cases hf : fnd s ds with
  | none => simp [kindR, hf] at hk
  | some n =>
    have hlt := fnd_lt hf
    simp [kindR, hf, hlt] at hk
    obtain ⟨h1, h2⟩ := z_declM_zero (z_checkM_declM h n hlt)
    obtain ⟨q1, q2⟩ := z_fieldsM_zero h2
    refine ⟨n, ds[n], rfl, List.getElem?_eq_getElem hlt, fun f hfm => ?_, q2⟩
    obtain ⟨a, b, c, _⟩ := q1 f hfm
    rw [hk] at a c
    refine ⟨?_, by simpa [leastM] using a⟩
    unfold fieldM at c
    rw [if_neg (by decide)] at c
    split at c
    · rename_i hc; exact absurd c hc
    · rename_i hc; simpa using hc
end Go.Proofs.Ytjljhmeadfejhaa
