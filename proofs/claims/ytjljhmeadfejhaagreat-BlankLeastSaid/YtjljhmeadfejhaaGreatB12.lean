/- No value of a struct is less deep than its blank one: the plain law. -/
import Derived.Test.YtjljhmeadfejhaaGreatB11
set_option maxRecDepth 100000
set_option linter.unusedVariables false
set_option linter.unusedSimpArgs false
namespace Go.Proofs.YtjljhmeadfejhaaGreat
open Go.Eng
theorem fields_some {r : Ty → Option Val} : ∀ (l : List Fld) (ts : List Int) (vs : List Val), (fieldsA r ts vs l).isSome = true ↔ ∀ f ∈ l, f.ty.kind = 9 ∨ (r f.ty).isSome = true
  | [], ts, vs => by simp [fieldsA]
  | f :: l, ts, vs => by
    rw [fieldsA]
    by_cases h9 : f.ty.kind = 9
    · rw [if_pos h9, fields_some l]
      simp [h9]
    · rw [if_neg h9]
      cases hr : r f.ty with
      | none => simp [hr, h9]
      | some x =>
        simp only [fields_some l]
        simp [hr]
theorem one_some {r : Ty → Option Val} : ∀ (l : List Fld), (oneB r l).isSome = true ↔ ∃ f ∈ l, (r f.ty).isSome = true
  | [] => by simp [oneB]
  | f :: l => by
    rw [oneB]
    cases hr : r f.ty with
    | none => simp [hr, one_some l]
    | some x => simp [hr]
theorem named_some {r : Ty → Option Val} {ds : List Decl} {s : ByteArray} : (namedB r ds s).isSome = true ↔ (kindR s ds = 3 ∧ fldsOf ds s ≠ []) ∨ (kindR s ds = 1 ∧ ∀ f ∈ fldsOf ds s, f.ty.kind = 9 ∨ (r f.ty).isSome = true) ∨ (kindR s ds = 2 ∧ ∃ f ∈ fldsOf ds s, (r f.ty).isSome = true) := by
  unfold namedB
  by_cases k3 : kindR s ds = 3
  · have e : (sortT (fldsOf ds s)).head?.isSome = true ↔ fldsOf ds s ≠ [] := by
      have hp := (sortT_perm (fldsOf ds s)).length_eq
      cases h : sortT (fldsOf ds s) with
      | nil => rw [h] at hp; simp at hp; simp [List.eq_nil_of_length_eq_zero hp.symm]
      | cons a b =>
        rw [h] at hp
        simp
        intro e; rw [e] at hp; simp at hp
    rw [if_pos k3, Option.isSome_map, e]
    simp [k3]
  · rw [if_neg k3]
    by_cases k1 : kindR s ds = 1
    · rw [if_pos k1, fields_some]
      simp [k1, sort_mem]
    · rw [if_neg k1]
      by_cases k2 : kindR s ds = 2
      · rw [if_pos k2, one_some]
        simp [k2, sort_mem]
      · rw [if_neg k2]
        simp [k1, k2, k3]
mutual
theorem byT_mono {r r' : Ty → Option Val} {ds : List Decl} (h : ∀ t, (r t).isSome = true → (r' t).isSome = true) : ∀ t : Ty, (byT r ds t).isSome = true → (byT r' ds t).isSome = true
  | .mk k s l => by
    rw [byT, byT]
    by_cases h6 : k = 6
    · rw [if_pos h6, if_pos h6, named_some, named_some]
      rintro (a | ⟨a, b⟩ | ⟨a, f, b, c⟩)
      · exact .inl a
      · exact .inr (.inl ⟨a, fun f hf => (b f hf).imp id (h _)⟩)
      · exact .inr (.inr ⟨a, f, b, h _ c⟩)
    · rw [if_neg h6, if_neg h6]
      by_cases he : easyK k l
      · rw [if_pos he, if_pos he]; exact id
      · rw [if_neg he, if_neg he]
        by_cases h9 : k = 9
        · rw [if_pos h9, if_pos h9]; exact byTL_mono h l
        · rw [if_neg h9, if_neg h9]; exact id
theorem byTL_mono {r r' : Ty → Option Val} {ds : List Decl} (h : ∀ t, (r t).isSome = true → (r' t).isSome = true) : ∀ l : List Ty, (byTL r ds l).isSome = true → (byTL r' ds l).isSome = true
  | [] => by rw [byTL, byTL]; exact id
  | t :: l => by
    rw [byTL, byTL]
    by_cases hl : l = []
    · rw [if_pos hl, if_pos hl]; exact byT_mono h t
    · rw [if_neg hl, if_neg hl]; exact id
end
theorem byM_succ {ds : List Decl} : ∀ (d : Nat) (t : Ty), (byM ds d t).isSome = true → (byM ds (d + 1) t).isSome = true
  | 0, t, h => by simp [byM] at h
  | d + 1, t, h => byT_mono (byM_succ d) t h
theorem byM_mono {ds : List Decl} {d e : Nat} (hde : d ≤ e) (t : Ty) (h : (byM ds d t).isSome = true) : (byM ds e t).isSome = true := by
  induction hde with
  | refl => exact h
  | step _ ih => exact byM_succ _ t ih
theorem tagsE_zero {rec : Ty → Val → Int} {fs : List Fld} : ∀ {ts : List Int} {vs : List Val}, tagsE rec fs ts vs = 0 → ts.length = vs.length → ∀ (i : Nat) (h1 : i < ts.length) (h2 : i < vs.length), ∃ f, (fs.find? fun f => decide (f.tag = ts[i])) = some f ∧ rec f.ty vs[i] = 0
  | [], vs, h, hl, i, h1, h2 => by simp at h1
  | t :: ts, [], h, hl, i, h1, h2 => by simp at h2
  | t :: ts, v :: vs, h, hl, i, h1, h2 => by
    rw [tagsE] at h
    cases hf : fs.find? fun f => decide (f.tag = t) with
    | none => rw [hf] at h; simp at h
    | some f =>
      rw [hf] at h
      simp only at h
      by_cases he : rec f.ty v = 0
      · rw [if_pos he] at h
        cases i with
        | zero => exact ⟨f, by simpa using hf, by simpa using he⟩
        | succ i =>
          obtain ⟨g, q1, q2⟩ := tagsE_zero h (by simpa using hl) i (by simpa using h1) (by simpa using h2)
          exact ⟨g, by simpa using q1, by simpa using q2⟩
      · rw [if_neg he] at h; exact absurd h he
/-- What Check makes sure of. -/
structure Typed (ds : List Decl) : Prop where
  typ : ∀ s f, (kindR s ds = 1 ∨ kindR s ds = 2) → f ∈ fldsOf ds s → typM ds f.ty false = 0
theorem typ_len {ds : List Decl} {t : Ty} {inner : Bool} (h : typM ds t inner = 0) : (t.of.length : Int) = arM t.kind := by
  obtain ⟨k, s, l⟩ := t
  rw [typM] at h
  split at h
  · cases h
  · rename_i hn
    by_cases e : (l.length : Int) = arM k
    · exact e
    · exact absurd (.inl e) hn
theorem typ_nine {ds : List Decl} {t u : Ty} {inner : Bool} (h : typM ds t inner = 0) (h9 : t.kind = 9) (hu : t.of = [u]) : typM ds u true = 0 := by
  obtain ⟨k, s, l⟩ := t
  simp only [Ty.kind, Ty.of] at h9 hu
  subst h9 hu
  rw [typM] at h
  split at h
  · cases h
  · rw [if_neg (by decide)] at h
    split at h
    · cases h
    · rw [if_neg (by simp), typML] at h
      split at h
      · assumption
      · exact h
theorem blank_law {ds : List Decl} (G : Good ds) (T : Typed ds) : ∀ (n : Nat) (v : Val), v.well → ∀ (m : Nat) (t : Ty) (inner : Bool), SizeOf.sizeOf t ≤ m → typM ds t inner = 0 → SizeOf.sizeOf v ≤ n → innV ds n t v = 0 → (byM ds v.depth t).isSome = true := by
  intro n
  induction n with
  | zero => intro v _ m t inner _ _ hv; cases v; simp at hv
  | succ n IH =>
    intro v hw m
    obtain ⟨⟨w9, w10⟩, hwi⟩ := (Val.well_iff v).1 hw
    induction m with
    | zero => intro t inner ht; cases t; simp at ht
    | succ m IHm =>
      intro t inner ht hty hv h
      have each : ∀ u ∈ v.items, ∀ t, typM ds t false = 0 → innV ds n t u = 0 → (byM ds (Val.depthL v.items) t).isSome = true := fun u hu t hty h =>
        byM_mono (Val.depth_le hu) t (IH u (hwi u hu) _ t false (Nat.le_refl _) hty (by have := Val.lt_of_mem hu; omega) h)
      have h : innT (innV ds n) ds t v = 0 := h
      have hd : v.depth = Val.depthL v.items + 1 := by rw [Val.depth_eq]; omega
      rw [hd]
      show (byT (byM ds (Val.depthL v.items)) ds t).isSome = true
      rw [innT_eq] at h
      have hl := typ_len hty
      rw [byT_eq]
      by_cases c0 : 7 ≤ t.kind ∧ ¬ ofK t.kind = (t.of.length : Int)
      · rw [if_pos c0] at h; cases h
      rw [if_neg c0] at h
      by_cases c1 : t.kind = 1 ∨ t.kind = 2 ∨ t.kind = 3 ∨ t.kind = 4 ∨ t.kind = 5
      · have h0 : arM t.kind = 0 := by unfold arM; rw [if_pos (by omega)]
        have he : t.of = [] := List.eq_nil_of_length_eq_zero (by omega)
        rw [if_neg (by omega), if_pos (easy_iff.2 (.inl ⟨by omega, by omega, he⟩))]
        rfl
      rw [if_neg c1] at h
      by_cases c6 : t.kind = 6
      · rw [if_pos c6] at h
        rw [if_pos c6, named_some]
        unfold namedR at h
        by_cases k3 : kindR t.name ds = 3
        · exact .inl ⟨k3, G.enum _ k3⟩
        rw [if_neg k3] at h
        by_cases k1 : kindR t.name ds = 1
        · rw [if_pos k1] at h
          by_cases e9 : v.kind = 9
          · rw [if_pos e9] at h
            by_cases a : tagsE (innV ds n) (fldsOf ds t.name) v.tags v.items = 0
            · rw [if_pos a] at h
              by_cases b : missE (fldsOf ds t.name) v.tags = true
              · rw [if_pos b] at h; cases h
              · refine .inr (.inl ⟨k1, fun f hf => ?_⟩)
                by_cases f9 : f.ty.kind = 9
                · exact .inl f9
                · right
                  have hin : f.tag ∈ v.tags := by
                    by_cases hin : f.tag ∈ v.tags
                    · exact hin
                    · exact absurd (List.any_eq_true.2 ⟨f, hf, by simp [f9, hin]⟩) b
                  obtain ⟨i, hi, ei⟩ := List.mem_iff_getElem.1 hin
                  have hi2 : i < v.items.length := by have := w9 e9; omega
                  obtain ⟨g, g1, g2⟩ := tagsE_zero a (w9 e9) i hi hi2
                  rw [ei] at g1
                  have := (find_tag (G.rowed.dist t.name) f.tag f).2 ⟨hf, rfl⟩
                  rw [this] at g1
                  injection g1 with g1
                  subst g1
                  exact each _ (List.getElem_mem hi2) _ (T.typ _ _ (.inl k1) hf) g2
            · rw [if_neg a] at h; exact absurd h a
          · rw [if_neg e9] at h; cases h
        rw [if_neg k1] at h
        by_cases k2 : kindR t.name ds = 2
        · rw [if_pos k2] at h
          by_cases e10 : v.kind = 10
          · rw [if_pos e10] at h
            obtain ⟨l1, l2⟩ := w10 e10
            obtain ⟨g, g1, g2⟩ := tagsE_zero h (by omega) 0 (by omega) (by omega)
            have hg := List.mem_of_find?_eq_some g1
            exact .inr (.inr ⟨k2, g, hg, each _ (List.getElem_mem (by omega)) _ (T.typ _ _ (.inr k2) hg) g2⟩)
          · rw [if_neg e10] at h; cases h
        · rw [if_neg k2] at h; cases h
      rw [if_neg c6] at h
      rw [if_neg c6]
      by_cases c78 : t.kind = 7 ∨ t.kind = 8
      · have he : easyK t.kind t.of := by
          rcases c78 with e | e
          · refine easy_iff.2 (.inr (.inl ⟨e, ?_⟩)); rw [e] at hl; simp [arM] at hl; omega
          · refine easy_iff.2 (.inr (.inr ⟨e, ?_⟩)); rw [e] at hl; simp [arM] at hl; omega
        rw [if_pos he]
        rfl
      rw [if_neg c78] at h
      by_cases c9 : t.kind = 9
      · rw [if_pos c9] at h
        have hne : ¬ easyK t.kind t.of := fun e => by
          rcases easy_iff.1 e with ⟨_, b, _⟩ | ⟨b, _⟩ | ⟨b, _⟩ <;> omega
        rw [if_neg hne, if_pos c9]
        have l1 : t.of.length = 1 := by rw [c9] at hl; simp [arM] at hl; omega
        obtain ⟨u, hu⟩ : ∃ u, t.of = [u] := by
          match ht : t.of, l1 with
          | [u], _ => exact ⟨u, rfl⟩
        rw [hu] at h ⊢
        rw [innTL] at h
        rw [byTL, if_pos rfl]
        have := IHm u true (by have := Ty.lt_of (t := t) (u := u) (by rw [hu]; simp); omega) (typ_nine hty c9 hu) hv h
        rw [hd] at this
        exact this
      · rw [if_neg c9] at h; cases h
end Go.Proofs.YtjljhmeadfejhaaGreat
