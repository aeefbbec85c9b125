/- What is wrong with a schema, plain; without its last declaration. -/
import Derived.Test.YtjljhmeadfejhaaT11
set_option maxRecDepth 100000
set_option linter.unusedVariables false
set_option linter.unusedSimpArgs false
namespace Go.Proofs.Ytjljhmeadfejhaa
open Go.Eng
def arM (k : Int) : Int := if k = 1 ∨ k = 2 ∨ k = 3 ∨ k = 4 ∨ k = 5 ∨ k = 6 then 0 else if k = 7 ∨ k = 9 then 1 else if k = 8 then 2 else -1
def keyM (ds : List Decl) (t : Ty) : Bool := decide (t.kind = 1 ∨ t.kind = 2 ∨ t.kind = 3 ∨ t.kind = 4) || (decide (t.kind = 6) && decide (kindR t.name ds = 3))
mutual
def typM (ds : List Decl) : Ty → Bool → Int
  | .mk k s l, inner =>
    if ¬ (l.length : Int) = arM k ∨ (¬ k = 6 ∧ ¬ s = ⟨#[]⟩) then 8
    else if k = 6 then (if kindR s ds = 1 ∨ kindR s ds = 2 ∨ kindR s ds = 3 then 0 else if (fnd s ds).isSome then 8 else 6)
    else if k = 9 ∧ inner = true then 8
    else if k = 8 ∧ ((l[0]?).map (keyM ds)).getD false = false then 8
    else typML ds l
def typML (ds : List Decl) : List Ty → Int
  | [] => 0
  | t :: l => if typM ds t true = 0 then typML ds l else typM ds t true
end
def fieldM (ds : List Decl) (kind : Int) (f : Fld) : Int :=
  if kind = 3 then 0 else if ¬ typM ds f.ty false = 0 then typM ds f.ty false else if kind = 2 ∧ f.ty.kind = 9 then 8 else 0
def strM (ds : List Decl) (s : ByteArray) : Int := if (fnd s ds).isSome then (if kindR s ds = 1 then 0 else 8) else 6
def methodM (ds : List Decl) (m : Mth) : Int := if strM ds m.inn = 0 then strM ds m.out else strM ds m.inn
/-- What stood ahead. -/
def rowM (S : List (Int × ByteArray)) (tag : Int) (name : ByteArray) (least most : Int) : Int :=
  if tag < least ∨ most < tag then 9 else if S.any (fun x => decide (x.1 = tag) || decide (x.2 = name)) then 7 else 0
def fieldsM (ds : List Decl) (kind least most : Int) : List (Int × ByteArray) → List Fld → Int
  | _, [] => 0
  | S, f :: l => if ¬ rowM S f.tag f.name least most = 0 then rowM S f.tag f.name least most else if ¬ fieldM ds kind f = 0 then fieldM ds kind f else fieldsM ds kind least most (S ++ [(f.tag, f.name)]) l
def methodsM (ds : List Decl) (least most : Int) : List (Int × ByteArray) → List Mth → Int
  | _, [] => 0
  | S, m :: l => if ¬ rowM S m.tag m.name least most = 0 then rowM S m.tag m.name least most else if ¬ methodM ds m = 0 then methodM ds m else methodsM ds least most (S ++ [(m.tag, m.name)]) l
def leastM (kind : Int) : Int := if kind = 3 then 0 else 1
def mostM (kind : Int) : Int := if kind = 3 then 9999 else 255
def tagsF (l : List Fld) : List (Int × ByteArray) := l.map fun f => (f.tag, f.name)
def declM (ds : List Decl) (i : Nat) (d : Decl) : Int :=
  if ¬ fnd d.name ds = some i then 7
  else if ¬ (d.kind = 1 ∨ d.kind = 2 ∨ d.kind = 3 ∨ d.kind = 4) then 4
  else if ¬ fieldsM ds d.kind (leastM d.kind) (mostM d.kind) [] d.fields = 0 then fieldsM ds d.kind (leastM d.kind) (mostM d.kind) [] d.fields
  else if ¬ methodsM ds (leastM d.kind) (mostM d.kind) (tagsF d.fields) d.methods = 0 then methodsM ds (leastM d.kind) (mostM d.kind) (tagsF d.fields) d.methods
  else if (d.kind = 2 ∨ d.kind = 3) ∧ d.fields = [] then 12 else 0
/-- The first fault of declarations from one on. -/
def declsM (ds : List Decl) : Nat → List Decl → Int × Int
  | _, [] => (0, 0)
  | i, d :: l => if ¬ declM ds i d = 0 then (declM ds i d, d.e) else declsM ds (i + 1) l
def deepM : List Bool → List Decl → Int × Int
  | b :: bs, d :: l => if b then deepM bs l else (10, d.e)
  | _, _ => (0, 0)
def checkM (ds : List Decl) : Int × Int := if ¬ (declsM ds 0 ds).1 = 0 then declsM ds 0 ds else deepM (itF ds ds.length) ds

/-! ### without the last one -/
section
variable {l : List Decl} {d : Decl}
theorem fnd_app (s : ByteArray) : ∀ (l : List Decl) (d : Decl), fnd s (l ++ [d]) = match fnd s l with
    | some i => some i
    | none => if d.name = s then some l.length else none
  | [], d => by simp [fnd]
  | x :: l, d => by
    simp only [List.cons_append, fnd]
    split
    · simp
    · rw [fnd_app s l d]
      cases fnd s l with
      | some i => rfl
      | none => by_cases h : d.name = s <;> simp [h]
theorem fnd_front (h : fnd d.name (l ++ [d]) = some l.length) (s : ByteArray) : fnd s l = if s = d.name then none else fnd s (l ++ [d]) := by
  by_cases e : s = d.name
  · subst e
    rw [fnd_app] at h
    cases hf : fnd d.name l with
    | none => simp
    | some i =>
      rw [hf] at h
      have := fnd_lt hf
      simp only [Option.some.injEq] at h
      omega
  · rw [fnd_app]
    cases hf : fnd s l with
    | none => rw [if_neg e, if_neg (fun h : d.name = s => e h.symm)]
    | some i => simp [e]
theorem kindR_front (h : fnd d.name (l ++ [d]) = some l.length) (s : ByteArray) : kindR s l = if s = d.name then 0 else kindR s (l ++ [d]) := by
  have hf := fnd_front h s
  unfold kindR
  by_cases e : s = d.name
  · rw [if_pos e] at hf ⊢; rw [hf]
  · rw [if_neg e] at hf
    rw [if_neg e, ← hf]
    cases hs : fnd s l with
    | none => rfl
    | some i =>
      have := fnd_lt hs
      simp only [List.getElem?_append_left this]
theorem kindR_last (h : fnd d.name (l ++ [d]) = some l.length) : kindR d.name (l ++ [d]) = d.kind := by
  unfold kindR
  simp [h]
/-- What may be wrong without the last one. -/
def May (d : Decl) (e : Int) : Prop := e = 0 ∨ e = 6 ∨ (e = 8 ∧ d.kind = 3)
mutual
theorem typM_front (h : fnd d.name (l ++ [d]) = some l.length) : ∀ (t : Ty) (b : Bool), typM (l ++ [d]) t b = 0 → May d (typM l t b) := by
  intro t b e
  cases t with
  | mk k s of =>
    unfold typM at e ⊢
    split at e
    · cases e
    rename_i h1
    rw [if_neg h1]
    split at e
    · rename_i h2
      rw [if_pos h2, kindR_front h s, fnd_front h s]
      by_cases hs : s = d.name
      · simp [hs, May]
      · simp only [hs, if_false]
        rw [e]; exact .inl rfl
    · rename_i h2
      rw [if_neg h2]
      split at e
      · cases e
      rename_i h3
      rw [if_neg h3]
      split at e
      · cases e
      rename_i h4
      by_cases h5 : k = 8 ∧ ((of[0]?).map (keyM l)).getD false = false
      · rw [if_pos h5]
        refine .inr (.inr ⟨rfl, ?_⟩)
        obtain ⟨h5, h6⟩ := h5
        have h7 : ((of[0]?).map (keyM (l ++ [d]))).getD false = true := by
          cases hb : ((of[0]?).map (keyM (l ++ [d]))).getD false with
          | true => rfl
          | false => exact absurd ⟨h5, hb⟩ h4
        cases ho : of[0]? with
        | none => rw [ho] at h7; simp at h7
        | some t =>
          rw [ho] at h6 h7
          simp only [Option.map_some, Option.getD_some, keyM, Bool.or_eq_true, Bool.or_eq_false_iff, Bool.and_eq_true, Bool.and_eq_false_iff, decide_eq_true_eq, decide_eq_false_iff_not, kindR_front h t.name] at h6 h7
          rcases h7 with h7 | ⟨h7, h8⟩
          · exact absurd h7 h6.1
          · by_cases hn : t.name = d.name
            · rw [hn, kindR_last h] at h8; exact h8
            · rcases h6.2 with h9 | h9
              · exact absurd h7 h9
              · rw [if_neg hn] at h9; exact absurd h8 h9
      · rw [if_neg h5]
        exact typML_front h of e
theorem typML_front (h : fnd d.name (l ++ [d]) = some l.length) : ∀ (ts : List Ty), typML (l ++ [d]) ts = 0 → May d (typML l ts) := by
  intro ts e
  cases ts with
  | nil => exact .inl rfl
  | cons t ts =>
    unfold typML at e ⊢
    split at e
    · rename_i h1
      have := typM_front h t true h1
      split
      · exact typML_front h ts e
      · exact this
    · rename_i h1; exact absurd e h1
end
theorem fieldM_front (h : fnd d.name (l ++ [d]) = some l.length) {kind : Int} {f : Fld} (e : fieldM (l ++ [d]) kind f = 0) : May d (fieldM l kind f) ∧ (fieldM l kind f = 0 → kind = 3 ∨ typM l f.ty false = 0) := by
  unfold fieldM at e ⊢
  split at e
  · rename_i h1; rw [if_pos h1]; exact ⟨.inl rfl, fun _ => .inl h1⟩
  rename_i h1
  rw [if_neg h1]
  split at e
  · rename_i h2; exact absurd e h2
  rename_i h2
  have := typM_front h f.ty false (Classical.not_not.1 h2)
  split at e
  · cases e
  rename_i h3
  split
  · rename_i h4; exact ⟨this, fun e => absurd e h4⟩
  · rename_i h4; exact ⟨.inl rfl, fun _ => .inr (Classical.not_not.1 h4)⟩
theorem strM_front (h : fnd d.name (l ++ [d]) = some l.length) {s : ByteArray} (e : strM (l ++ [d]) s = 0) : May d (strM l s) := by
  unfold strM at e ⊢
  rw [kindR_front h, fnd_front h]
  by_cases hs : s = d.name
  · simp [hs, May]
  · simp only [hs, if_false]
    rw [e]; exact .inl rfl
theorem methodM_front (h : fnd d.name (l ++ [d]) = some l.length) {m : Mth} (e : methodM (l ++ [d]) m = 0) : May d (methodM l m) := by
  unfold methodM at e ⊢
  split at e
  · rename_i h1
    have k1 := strM_front h h1
    have k2 := strM_front h e
    split
    · exact k2
    · exact k1
  · rename_i h1; exact absurd e h1
theorem fieldsM_front (h : fnd d.name (l ++ [d]) = some l.length) {kind a b : Int} : ∀ (fs : List Fld) (S : List (Int × ByteArray)), fieldsM (l ++ [d]) kind a b S fs = 0 →
    May d (fieldsM l kind a b S fs) ∧ (fieldsM l kind a b S fs = 0 → kind = 3 ∨ ∀ f ∈ fs, typM l f.ty false = 0)
  | [], S, e => ⟨.inl rfl, fun _ => .inr (by simp)⟩
  | f :: fs, S, e => by
    unfold fieldsM at e ⊢
    split at e
    · rename_i h1; exact absurd e h1
    rename_i h1
    rw [if_neg h1]
    split at e
    · rename_i h2; exact absurd e h2
    rename_i h2
    obtain ⟨k1, k2⟩ := fieldM_front h (Classical.not_not.1 h2)
    obtain ⟨k3, k4⟩ := fieldsM_front h fs _ e
    split
    · rename_i h3; exact ⟨k1, fun e => absurd e h3⟩
    · rename_i h3
      refine ⟨k3, fun e => ?_⟩
      rcases k2 (Classical.not_not.1 h3) with h4 | h4
      · exact .inl h4
      · rcases k4 e with h5 | h5
        · exact .inl h5
        · refine .inr fun g hg => ?_
          rcases List.mem_cons.1 hg with rfl | hg
          · exact h4
          · exact h5 g hg
theorem methodsM_front (h : fnd d.name (l ++ [d]) = some l.length) {a b : Int} : ∀ (ms : List Mth) (S : List (Int × ByteArray)), methodsM (l ++ [d]) a b S ms = 0 → May d (methodsM l a b S ms)
  | [], S, e => .inl rfl
  | m :: ms, S, e => by
    unfold methodsM at e ⊢
    split at e
    · rename_i h1; exact absurd e h1
    rename_i h1
    rw [if_neg h1]
    split at e
    · rename_i h2; exact absurd e h2
    rename_i h2
    have k1 := methodM_front h (Classical.not_not.1 h2)
    have k3 := methodsM_front h ms _ e
    split
    · exact k1
    · exact k3
theorem declM_front (h : fnd d.name (l ++ [d]) = some l.length) {i : Nat} {x : Decl} (hx : l[i]? = some x) (e : declM (l ++ [d]) i x = 0) :
    May d (declM l i x) ∧ (declM l i x = 0 → x.kind = 3 ∨ ∀ f ∈ x.fields, typM l f.ty false = 0) := by
  have hi := (List.getElem?_eq_some_iff.1 hx).1
  unfold declM at e ⊢
  split at e
  · cases e
  rename_i h1
  have hne : ¬ x.name = d.name := by
    intro hn
    rw [hn, h] at h1
    simp only [Option.some.injEq, Classical.not_not] at h1
    omega
  rw [fnd_front h, if_neg hne, if_neg h1]
  split at e
  · cases e
  rename_i h2
  rw [if_neg h2]
  split at e
  · rename_i h3; exact absurd e h3
  rename_i h3
  obtain ⟨k1, k2⟩ := fieldsM_front h _ _ (Classical.not_not.1 h3)
  split at e
  · rename_i h4; exact absurd e h4
  rename_i h4
  have k3 := methodsM_front h _ _ (Classical.not_not.1 h4)
  split at e
  · cases e
  rename_i h5
  split
  · rename_i h6; exact ⟨k1, fun e => absurd e h6⟩
  · rename_i h6
    split
    · rename_i h7; exact ⟨k3, fun e => absurd e h7⟩
    · exact ⟨.inl rfl, fun _ => k2 (Classical.not_not.1 h6)⟩
theorem declsM_zero {ds : List Decl} : ∀ (l : List Decl) (i : Nat), (declsM ds i l).1 = 0 → ∀ (j : Nat) (x : Decl), l[j]? = some x → declM ds (i + j) x = 0
  | [], i, e, j, x, hx => by simp at hx
  | y :: l, i, e, j, x, hx => by
    unfold declsM at e
    split at e
    · rename_i h1; exact absurd e h1
    rename_i h1
    cases j with
    | zero => simp at hx; subst hx; exact Classical.not_not.1 h1
    | succ j => have := declsM_zero l (i + 1) e j x (by simpa using hx); rw [show i + (j + 1) = i + 1 + j by omega]; exact this
theorem declsM_may {ds : List Decl} : ∀ (l : List Decl) (i : Nat), (∀ (j : Nat) (x : Decl), l[j]? = some x → May d (declM ds (i + j) x)) → May d (declsM ds i l).1
  | [], i, H => .inl rfl
  | y :: l, i, H => by
    unfold declsM
    split
    · exact H 0 y rfl
    · exact declsM_may l (i + 1) fun j x hx => by have := H (j + 1) x (by simpa using hx); rw [show i + (j + 1) = i + 1 + j by omega] at this; exact this
theorem deepM_zero : ∀ (bs : List Bool) (ds : List Decl), bs.length = ds.length → ((deepM bs ds).1 = 0 ↔ ∀ b ∈ bs, b = true)
  | [], [], _ => by simp [deepM]
  | [], d :: ds, h => by simp at h
  | b :: bs, [], h => by simp at h
  | b :: bs, d :: ds, h => by
    have := deepM_zero bs ds (by simpa using h)
    cases b <;> simp [deepM, this]
theorem typ_name {ds : List Decl} {t : Ty} (e : typM ds t false = 0) (hk : t.kind = 6) : (fnd t.name ds).isSome := by
  cases t with
  | mk k s of =>
    simp only [Ty.kind] at hk
    subst hk
    unfold typM at e
    split at e
    · cases e
    simp only [if_true] at e
    cases hf : fnd s ds with
    | some i => simp [Ty.name, hf]
    | none => simp [kindR, hf] at e
theorem itF_front (h : fnd d.name (l ++ [d]) = some l.length) (ht : ∀ x ∈ l, x.kind = 3 ∨ ∀ f ∈ x.fields, typM l f.ty false = 0) : ∀ k, itF l k = (itF (l ++ [d]) k).take l.length := by
  intro k
  induction k with
  | zero => simp [itF]
  | succ k ih =>
    simp only [itF, rndM, List.map_append]
    rw [List.take_append_of_le_length (by simp), List.take_of_length_le (by simp)]
    refine List.map_congr_left fun x hx => ?_
    have fine : ∀ t : Ty, typM l t false = 0 → fineM l (itF l k) t = fineM (l ++ [d]) (itF (l ++ [d]) k) t := by
      intro t e
      unfold fineM
      by_cases hk : t.kind = 6
      · have hs := typ_name e hk
        have hf := fnd_front h t.name
        by_cases hn : t.name = d.name
        · rw [if_pos hn] at hf; rw [hf] at hs; simp at hs
        · rw [if_neg hn] at hf
          rw [← hf]
          cases hq : fnd t.name l with
          | none => rfl
          | some q =>
            simp only
            rw [ih, List.getElem?_take, if_pos (fnd_lt hq)]
      · simp [hk]
    unfold oneM
    rcases ht x hx with h3 | hf
    · simp [h3]
    · have e1 : (x.fields.all fun f => fineM l (itF l k) f.ty) = x.fields.all fun f => fineM (l ++ [d]) (itF (l ++ [d]) k) f.ty := by
        rw [Bool.eq_iff_iff, List.all_eq_true, List.all_eq_true]
        constructor
        · intro H f hm; rw [← fine _ (hf f hm)]; exact H f hm
        · intro H f hm; rw [fine _ (hf f hm)]; exact H f hm
      have e2 : (x.fields.any fun f => fineM l (itF l k) f.ty) = x.fields.any fun f => fineM (l ++ [d]) (itF (l ++ [d]) k) f.ty := by
        rw [Bool.eq_iff_iff, List.any_eq_true, List.any_eq_true]
        constructor
        · rintro ⟨f, hm, H⟩; exact ⟨f, hm, by rw [← fine _ (hf f hm)]; exact H⟩
        · rintro ⟨f, hm, H⟩; exact ⟨f, hm, by rw [fine _ (hf f hm)]; exact H⟩
      rw [e1, e2]
/-- Without its last declaration. -/
theorem check_less (e : (checkM (l ++ [d])).1 = 0) : May d (checkM l).1 := by
  unfold checkM at e
  split at e
  · rename_i h1; exact absurd e h1
  rename_i h1
  have hz := declsM_zero _ 0 (Classical.not_not.1 h1)
  simp only [Nat.zero_add] at hz
  have h : fnd d.name (l ++ [d]) = some l.length := by
    have := hz l.length d (by simp)
    unfold declM at this
    split at this
    · cases this
    · rename_i h2; exact Classical.not_not.1 h2
  have hf : ∀ (j : Nat) (x : Decl), l[j]? = some x → May d (declM l (0 + j) x) ∧ (declM l (0 + j) x = 0 → x.kind = 3 ∨ ∀ f ∈ x.fields, typM l f.ty false = 0) := by
    intro j x hx
    have hj := (List.getElem?_eq_some_iff.1 hx).1
    rw [Nat.zero_add]
    exact declM_front h hx (hz j x (by rw [List.getElem?_append_left hj]; exact hx))
  unfold checkM
  split
  · exact declsM_may l 0 fun j x hx => (hf j x hx).1
  · rename_i h2
    have hz2 := declsM_zero _ 0 (Classical.not_not.1 h2)
    have ht : ∀ x ∈ l, x.kind = 3 ∨ ∀ f ∈ x.fields, typM l f.ty false = 0 := by
      intro x hx
      obtain ⟨j, hj, rfl⟩ := List.getElem_of_mem hx
      exact (hf j _ (List.getElem?_eq_getElem hj)).2 (hz2 j _ (List.getElem?_eq_getElem hj))
    left
    rw [deepM_zero _ _ (itF_len _ _)] at e ⊢
    have hk := itF_front h ht (l.length + 1)
    have hfix : itF l (l.length + 1) = itF l l.length := itF_fix l
    rw [hfix] at hk
    rw [hk]
    intro b hb
    refine e b ?_
    have : (l ++ [d]).length = l.length + 1 := by simp
    rw [this]
    exact List.mem_of_mem_take hb
end
end Go.Proofs.Ytjljhmeadfejhaa
