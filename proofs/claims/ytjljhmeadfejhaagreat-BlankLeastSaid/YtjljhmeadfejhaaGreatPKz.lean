/- What Check makes sure of. -/
import Derived.Test.YtjljhmeadfejhaaGreatG4
set_option maxRecDepth 100000
set_option linter.unusedVariables false
set_option linter.unusedSimpArgs false
namespace Go.Proofs.YtjljhmeadfejhaaGreat
open Go.Eng
theorem find_tag {l : List Fld} (hn : l.Pairwise fun a b => a.tag ≠ b.tag) (n : Int) (f : Fld) : (l.find? fun f => decide (f.tag = n)) = some f ↔ f ∈ l ∧ f.tag = n := by
  induction l with
  | nil => simp
  | cons x l ih =>
    obtain ⟨h1, h2⟩ := List.pairwise_cons.1 hn
    simp only [List.find?]
    by_cases hx : x.tag = n
    · simp only [hx, decide_true]
      constructor
      · intro e; injection e with e; subst e; exact ⟨by simp, hx⟩
      · rintro ⟨hm, ht⟩
        rcases List.mem_cons.1 hm with rfl | hm
        · rfl
        · exact absurd (hx.trans ht.symm) (h1 f hm)
    · simp only [hx, decide_false]
      rw [ih h2]
      constructor
      · rintro ⟨a, b⟩; exact ⟨by simp [a], b⟩
      · rintro ⟨a, b⟩
        rcases List.mem_cons.1 a with rfl | a
        · exact absurd b hx
        · exact ⟨a, b⟩
theorem z_declsM_zero {ds : List Decl} : ∀ {l : List Decl} {i : Nat}, (declsM ds i l).1 = 0 → ∀ (j : Nat) (hj : j < l.length), declM ds (i + j) l[j] = 0
  | [], i, h, j, hj => by simp at hj
  | d :: l, i, h, j, hj => by
    simp only [declsM] at h
    by_cases h' : declM ds i d = 0
    · rw [if_neg (by simpa using h')] at h
      cases j with
      | zero => simpa using h'
      | succ j =>
        have := z_declsM_zero h j (by simpa using hj)
        rw [show i + (j + 1) = i + 1 + j by omega]
        exact this
    · rw [if_pos h'] at h
      exact absurd h h'
theorem z_checkM_declM {ds : List Decl} (h : (checkM ds).1 = 0) (j : Nat) (hj : j < ds.length) : declM ds j ds[j] = 0 := by
  have h0 : (declsM ds 0 ds).1 = 0 := by
    unfold checkM at h
    by_cases h' : (declsM ds 0 ds).1 = 0
    · exact h'
    · rw [if_pos h'] at h; exact absurd h h'
  have := z_declsM_zero h0 j hj
  rwa [Nat.zero_add] at this
theorem z_declM_zero {ds : List Decl} {i : Nat} {d : Decl} (h : declM ds i d = 0) : fnd d.name ds = some i ∧ fieldsM ds d.kind (leastM d.kind) (mostM d.kind) [] d.fields = 0 := by
  unfold declM at h
  split at h
  · cases h
  · rename_i h1
    split at h
    · cases h
    · split at h
      · rename_i h2; exact absurd h h2
      · rename_i h2
        exact ⟨by simpa using h1, by simpa using h2⟩
theorem z_fieldsM_zero {ds : List Decl} {k lo hi : Int} : ∀ {l : List Fld} {S : List (Int × ByteArray)}, fieldsM ds k lo hi S l = 0 → (∀ f ∈ l, lo ≤ f.tag ∧ f.tag ≤ hi ∧ fieldM ds k f = 0 ∧ ∀ x ∈ S, x.1 ≠ f.tag) ∧ l.Pairwise fun f g => f.tag ≠ g.tag
  | [], S, h => by simp
  | f :: l, S, h => by
    simp only [fieldsM] at h
    by_cases h1 : rowM S f.tag f.name lo hi = 0
    · rw [if_neg (by simpa using h1)] at h
      by_cases h2 : fieldM ds k f = 0
      · rw [if_neg (by simpa using h2)] at h
        obtain ⟨q1, q2⟩ := z_fieldsM_zero h
        have h3 : lo ≤ f.tag ∧ f.tag ≤ hi ∧ ∀ x ∈ S, x.1 ≠ f.tag := by
          unfold rowM at h1
          split at h1
          · cases h1
          · rename_i hb
            split at h1
            · cases h1
            · rename_i ha
              refine ⟨by omega, by omega, fun x hx e => ?_⟩
              apply ha
              rw [List.any_eq_true]
              exact ⟨x, hx, by simp [e]⟩
        refine ⟨fun g hg => ?_, List.pairwise_cons.2 ⟨fun g hg => ?_, q2⟩⟩
        · rcases List.mem_cons.1 hg with rfl | hg
          · exact ⟨h3.1, h3.2.1, h2, h3.2.2⟩
          · obtain ⟨a, b, c, d⟩ := q1 g hg
            exact ⟨a, b, c, fun x hx => d x (by simp [hx])⟩
        · exact (q1 g hg).2.2.2 (f.tag, f.name) (by simp)
      · rw [if_pos h2] at h; exact absurd h h2
    · rw [if_pos h1] at h; exact absurd h h1
theorem told_of {ds : List Decl} (hl : ds.length < 1099511627776) (hok : ∀ d ∈ ds, d.ok) (hf : ∀ d ∈ ds, d.fit) (h : (checkM ds).1 = 0) : Told ds :=
  ⟨hl, hok, hf, fun i j hi hj hij e => by
    have h1 := (z_declM_zero (z_checkM_declM h i hi)).1
    have h2 := (z_declM_zero (z_checkM_declM h j hj)).1
    rw [e, h2] at h1
    injection h1 with h1
    omega⟩
/-- The fields of a struct. -/
theorem struct_of {ds : List Decl} {s : ByteArray} (h : (checkM ds).1 = 0) (hk : kindR s ds = 1) : ∃ n d, fnd s ds = some n ∧ ds[n]? = some d ∧ (∀ f ∈ d.fields, typM ds f.ty false = 0 ∧ 1 ≤ f.tag) ∧ d.fields.Pairwise fun a b => a.tag ≠ b.tag := by
  cases hf : fnd s ds with
  | none => simp [kindR, hf] at hk
  | some n =>
    have hlt := fnd_lt hf
    simp [kindR, hf, hlt] at hk
    obtain ⟨h1, h2⟩ := z_declM_zero (z_checkM_declM h n hlt)
    obtain ⟨q1, q2⟩ := z_fieldsM_zero h2
    refine ⟨n, ds[n], rfl, List.getElem?_eq_getElem hlt, fun f hfm => ?_, q2⟩
    obtain ⟨a, b, c, _⟩ := q1 f hfm
    rw [hk] at a c
    refine ⟨?_, by simpa [leastM] using a⟩
    unfold fieldM at c
    rw [if_neg (by decide)] at c
    split at c
    · rename_i hc; exact absurd c hc
    · rename_i hc; simpa using hc
def fldsOf (ds : List Decl) (s : ByteArray) : List Fld := match fnd s ds with
  | none => []
  | some n => (ds[n]?.map Decl.fields).getD []
theorem Dsc.lt {h : List AO} {di : Nat} {ds : List Decl} (D : Dsc h di ds) : di < h.length := by
  rcases D with D | ⟨b, u, s, sm, hd, _, ti, j, y, em, mi, es, _, _, _, b1, _⟩
  · exact (List.getElem?_eq_some_iff.1 D).1
  · exact (List.getElem?_eq_some_iff.1 b1).1
theorem Dsc.box {h : List AO} {di : Nat} {ds : List Decl} (D : Dsc h di ds) : ∃ cs, h[di]? = some (.box cs) := by
  rcases D with D | ⟨b, u, s, sm, hd, _, ti, j, y, em, mi, es, _, _, _, b1, _⟩
  · exact ⟨_, D⟩
  · exact ⟨_, b1⟩
end Go.Proofs.YtjljhmeadfejhaaGreat
