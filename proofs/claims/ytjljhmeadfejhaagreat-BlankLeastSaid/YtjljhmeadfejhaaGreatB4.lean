/- Whether a value is of a type, by the document, about the engine. -/
import Derived.Test.YtjljhmeadfejhaaGreatB3
import Derived.Test.YtjljhmeadfejhaaGreatV5z
set_option maxRecDepth 100000
set_option linter.unusedVariables false
set_option linter.unusedSimpArgs false
namespace Go.Proofs.YtjljhmeadfejhaaGreat
open Go.Eng
def ofK (k : Int) : Int := if k = 7 ∨ k = 9 then 1 else if k = 8 then 2 else if k < 1 ∨ 9 < k then -1 else 0
theorem w150 {x : Int} {h : List AO} {K : ARes → List AO → Prop} (k : K (.ok (.int .i64 (ofK x))) h) : W 150 [.int .i64 x] h K := by
  refine W_of mixed c150 (by simp [A150]) ?_
  unfold ofK at k
  by_cases h7 : x = 7
  · subst h7; simp [A150] at k ⊢; exact .inl k
  by_cases h9 : x = 9
  · subst h9; simp [A150] at k ⊢; exact .inl k
  by_cases h8 : x = 8
  · subst h8; simp [A150] at k ⊢; exact .inl k
  simp only [h7, h9, h8, or_self, if_false] at k
  by_cases h1 : x < 1
  · simp [h1] at k; simp [A150, h7, h9, h8, h1]; exact .inl k
  · by_cases h2 : 9 < x
    · simp [h1, h2] at k; simp [A150, h7, h9, h8, h1, h2]; exact .inl k
    · simp [h1, h2] at k; simp [A150, h7, h9, h8, h1, h2]; exact .inl k
theorem w189 {v : Val} (hok : v.ok) {tag : Int} {h : List AO} {K : ARes → List AO → Prop} (k : K (.ok (.bool (decide (tag ∈ v.tags)))) h) : W 189 [.agg (vcells v), .int .i64 tag] h K := by
  obtain ⟨_, _, _, htl, _, _, _⟩ := Val.parts hok
  simp only [most] at htl
  refine W_of mixed c189 (by simp [A189]) ?_
  simp [A189]
  refine lp_ind (ι := Nat) (fun i => i ≤ v.tags.length ∧ ∀ (j : Nat) (hj : j < v.tags.length), j < i → v.tags[j] ≠ tag) (fun i => v.tags.length - i) (fun i => [(1, .int .i64 tag), (2, .ptr h.length 0), (5, .int .i64 (i : Int))]) (fun _ => h ++ [.box (vcells v)]) ?_ 0 (by simp)
  rintro i ⟨hi, hno⟩ ih
  have hw := wrap_succ (i := i) (by omega)
  by_cases hlt : i < v.tags.length
  · by_cases he : v.tags[i] = tag
    · have hm : tag ∈ v.tags := by rw [← he]; exact List.getElem_mem hlt
      simp [hm] at k
      simp [uf A189_l0.eq_1, hlt, intA, he]
      exact ret_pure (by simp) k
    · simp [uf A189_l0.eq_1, hlt, intA, he, hw]
      refine ih (i + 1) ⟨by omega, fun j hj hji => ?_⟩ (by omega)
      by_cases e : j = i
      · subst e; exact he
      · exact hno j hj (by omega)
  · have hm : ¬ tag ∈ v.tags := by
      intro hm
      obtain ⟨j, hj, e⟩ := List.mem_iff_getElem.1 hm
      exact hno j hj (by omega) e
    simp [hm] at k
    simp [uf A189_l0.eq_1, uf A189_r0.eq_1, hlt]
    exact ret_pure (by simp) k
def tagsE (rec : Ty → Val → Int) (fs : List Fld) : List Int → List Val → Int
  | t :: ts, v :: vs => (match fs.find? fun f => decide (f.tag = t) with
    | none => 9
    | some f => if rec f.ty v = 0 then tagsE rec fs ts vs else rec f.ty v)
  | _, _ => 0
def missE (fs : List Fld) (tags : List Int) : Bool := fs.any fun f => !decide (f.ty.kind = 9) && !decide (f.tag ∈ tags)
def namedR (rec : Ty → Val → Int) (ds : List Decl) (s : ByteArray) (v : Val) : Int :=
  if kindR s ds = 3 then (if v.kind = 6 then (match (fldsOf ds s).find? fun f => decide (f.tag = v.num) with | none => 9 | some _ => 0) else 4)
  else if kindR s ds = 1 then (if v.kind = 9 then (if tagsE rec (fldsOf ds s) v.tags v.items = 0 then (if missE (fldsOf ds s) v.tags = true then 12 else 0) else tagsE rec (fldsOf ds s) v.tags v.items) else 4)
  else if kindR s ds = 2 then (if v.kind = 10 then tagsE rec (fldsOf ds s) v.tags v.items else 4)
  else 8
def itemsE (rec : Ty → Val → Int) (of : List Ty) : Nat → List Val → Int
  | _, [] => 0
  | i, v :: l => (match of[i % of.length]? with
    | none => 0
    | some t => if rec t v = 0 then itemsE rec of (i + 1) l else rec t v)
mutual
def innT (rec : Ty → Val → Int) (ds : List Decl) : Ty → Val → Int
  | .mk k s l, v => if 7 ≤ k ∧ ¬ ofK k = (l.length : Int) then 8 else if k = 1 ∨ k = 2 ∨ k = 3 ∨ k = 4 ∨ k = 5 then (if v.kind = k then 0 else 4) else if k = 6 then namedR rec ds s v
    else if k = 7 ∨ k = 8 then (if v.kind = k then itemsE rec l 0 v.items else 4) else if k = 9 then innTL rec ds l v else 8
def innTL (rec : Ty → Val → Int) (ds : List Decl) : List Ty → Val → Int
  | [], _ => 0
  | t :: _, v => innT rec ds t v
end
theorem innT_eq (rec : Ty → Val → Int) (ds : List Decl) (t : Ty) (v : Val) : innT rec ds t v = if 7 ≤ t.kind ∧ ¬ ofK t.kind = (t.of.length : Int) then 8 else if t.kind = 1 ∨ t.kind = 2 ∨ t.kind = 3 ∨ t.kind = 4 ∨ t.kind = 5 then (if v.kind = t.kind then 0 else 4) else if t.kind = 6 then namedR rec ds t.name v
    else if t.kind = 7 ∨ t.kind = 8 then (if v.kind = t.kind then itemsE rec t.of 0 v.items else 4) else if t.kind = 9 then innTL rec ds t.of v else 8 := by cases t; rw [innT]; rfl
def innV (ds : List Decl) : Nat → Ty → Val → Int
  | 0 => fun _ _ => 0
  | n + 1 => innT (innV ds n) ds
end Go.Proofs.YtjljhmeadfejhaaGreat
