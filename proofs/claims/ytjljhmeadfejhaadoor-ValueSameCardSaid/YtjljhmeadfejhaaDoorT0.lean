/- Great, Size, Same and Cmp of values, about the engine. -/
import Derived.Test.YtjljhmeadfejhaaDoorP0
import Derived.Test.YtjljhmeadfejhaaDoorD0
set_option maxRecDepth 100000
set_option linter.unusedVariables false
set_option linter.unusedSimpArgs false
namespace Go.Proofs.YtjljhmeadfejhaaDoor
open Go.Eng
theorem ret_pure {h l : List AO} {K : ARes → List AO → Prop} {x : AV} (hx : out h.length (h ++ l) 3 x = some x) (k : K (.ok x) h) : retK h K x (h ++ l) :=
  .inr ⟨h.length, 3, x, DropOk.app h l, hx, by rw [List.take_left]; exact k⟩
abbrev vcells (v : Val) : List AV := [.int .i64 v.kind, .int .i64 v.num, .str v.text, .rsl (v.tags.map intA), .rsl (v.items.map Val.av)]

mutual
def sizeM : Val → Int
  | .mk _ _ s _ vs => sizeL (IntKind.i64.wrap (8 + (s.size : Int))) vs
def sizeL : Int → List Val → Int
  | m, [] => m
  | m, v :: l => sizeL (IntKind.i64.wrap (m + sizeM v)) l
end
theorem sizeM_eq (v : Val) : sizeM v = sizeL (IntKind.i64.wrap (8 + (v.text.size : Int))) v.items := by cases v; rfl
def deepN (deep : Int) (n : Nat) : Int := IntKind.i64.wrap (IntKind.i64.wrap (deep + 1) + IntKind.i64.wrap ((n : Int) / 4))
def cap (m : Int) : Int := if 100000 < m then 100000 else m
mutual
def greatM : Val → Int → Bool
  | .mk _ _ s l vs, deep => if 40 < deep ∨ (60 : Int) < (vs.length : Int) ∨ (300 : Int) < (l.length : Int) ∨ (2000 : Int) < (s.size : Int) then true else greatL (deepN deep vs.length) 0 vs
def greatL : Int → Int → List Val → Bool
  | _, m, [] => decide (20000 < m)
  | d, m, v :: l => if greatM v d = true then true else greatL d (cap (IntKind.i64.wrap (m + sizeM v))) l
end
theorem greatM_eq (v : Val) (deep : Int) : greatM v deep = if 40 < deep ∨ (60 : Int) < (v.items.length : Int) ∨ (300 : Int) < (v.tags.length : Int) ∨ (2000 : Int) < (v.text.size : Int) then true else greatL (deepN deep v.items.length) 0 v.items := by cases v; rfl

theorem w18 : ∀ (n : Nat) (v : Val), SizeOf.sizeOf v ≤ n → v.ok → ∀ (h : List AO) (K : ARes → List AO → Prop), K (.ok (.int .i64 (sizeM v))) h → W 18 [.agg (vcells v)] h K := by
  intro n
  induction n with
  | zero => intro v hv; cases v; simp at hv
  | succ n IH =>
    intro v hv hok h K k
    obtain ⟨_, _, _, _, _, hl, hvs⟩ := Val.parts hok
    simp only [most] at hl
    have IHm : ∀ u ∈ v.items, SizeOf.sizeOf u ≤ n := fun u hu => by have := Val.lt_of_mem hu; omega
    rw [sizeM_eq] at k
    refine W_of mixed c18 (by simp [A18]) ?_
    simp [A18]
    refine lp_indE (ι := Nat × Int) (fun p => p.1 ≤ v.items.length ∧ sizeL (IntKind.i64.wrap (8 + (v.text.size : Int))) v.items = sizeL p.2 (v.items.drop p.1)) (fun p => v.items.length - p.1)
      (fun p => [(1, .ptr h.length 0), (3, .int .i64 p.2), (4, .int .i64 (p.1 : Int))]) (fun _ => h ++ [.box (vcells v)]) ?_ (0, _) ⟨by simp, by simp; rfl⟩ rfl rfl
    rintro ⟨i, m⟩ ⟨hi, hs⟩ ih
    simp only at hi hs
    have hw := wrap_succ (i := i) (by omega)
    by_cases hlt : i < v.items.length
    · rw [List.drop_eq_getElem_cons hlt, sizeL] at hs
      simp [uf A18_l0.eq_1, hlt, Val.av, Val.cells_eq]
      refine IH v.items[i] (IHm _ (List.getElem_mem hlt)) (hvs _ (List.getElem_mem hlt)) _ _ ?_
      have := ih (i + 1, _) ⟨by simp only; omega, hs⟩ (by simp only; omega)
      simp at this
      simp [hw]
      exact this
    · have : v.items.drop i = [] := List.drop_eq_nil_of_le (by omega)
      rw [this, sizeL] at hs
      simp [uf A18_l0.eq_1, uf A18_r0.eq_1, hlt]
      rw [hs] at k
      exact ret_pure (by simp) k

theorem w9 : ∀ (n : Nat) (v : Val), SizeOf.sizeOf v ≤ n → v.ok → ∀ (h : List AO) (deep : Int) (K : ARes → List AO → Prop), K (.ok (.bool (greatM v deep))) h → W 9 [.agg (vcells v), .int .i64 deep] h K := by
  intro n
  induction n with
  | zero => intro v hv; cases v; simp at hv
  | succ n IH =>
    intro v hv hok h deep K k
    obtain ⟨_, _, _, _, _, hl, hvs⟩ := Val.parts hok
    simp only [most] at hl
    have IHm : ∀ u ∈ v.items, SizeOf.sizeOf u ≤ n := fun u hu => by have := Val.lt_of_mem hu; omega
    rw [greatM_eq] at k
    refine W_of mixed c9 (by simp [A9]) ?_
    by_cases c1 : 40 < deep
    · simp [c1] at k; simp [A9, c1]; exact ret_pure (by simp) k
    by_cases c2 : (60 : Int) < (v.items.length : Int)
    · simp [c2] at k; simp [A9, c1, c2]; exact ret_pure (by simp) k
    by_cases c3 : (300 : Int) < (v.tags.length : Int)
    · simp [c3] at k; simp [A9, c1, c2, c3]; exact ret_pure (by simp) k
    by_cases c4 : (2000 : Int) < (v.text.size : Int)
    · simp [c4] at k; simp [A9, c1, c2, c3, c4]; exact ret_pure (by simp) k
    rw [if_neg (by simp [c1, c2, c3, c4])] at k
    simp [A9, c1, c2, c3, c4]
    refine lp_indE (ι := Nat × Int) (fun p => p.1 ≤ v.items.length ∧ greatL (deepN deep v.items.length) 0 v.items = greatL (deepN deep v.items.length) p.2 (v.items.drop p.1)) (fun p => v.items.length - p.1)
      (fun p => [(1, .int .i64 deep), (2, .ptr h.length 0), (5, .int .i64 p.2), (6, .int .i64 (p.1 : Int))]) (fun _ => h ++ [.box (vcells v)]) ?_ (0, 0) ⟨by simp, by simp⟩ rfl rfl
    rintro ⟨i, m⟩ ⟨hi, hs⟩ ih
    simp only at hi hs
    have hw := wrap_succ (i := i) (by omega)
    by_cases hlt : i < v.items.length
    · rw [List.drop_eq_getElem_cons hlt, greatL] at hs
      simp [uf A9_l0.eq_1, hlt, Val.av, Val.cells_eq]
      refine ⟨_, _, IH v.items[i] (IHm _ (List.getElem_mem hlt)) (hvs _ (List.getElem_mem hlt)) _ _ _ ⟨rfl, rfl⟩, ?_⟩
      rw [show IntKind.i64.wrap (IntKind.i64.wrap (deep + 1) + IntKind.i64.wrap ((v.items.length : Int) / 4)) = deepN deep v.items.length from rfl]
      cases hb : greatM v.items[i] (deepN deep v.items.length) with
      | true =>
        rw [hb, if_pos rfl] at hs
        simp
        rw [hs] at k
        exact ret_pure (by simp) k
      | false =>
        rw [hb, if_neg (by simp)] at hs
        simp [hlt, Val.av, Val.cells_eq]
        refine w18 _ v.items[i] (Nat.le_refl _) (hvs _ (List.getElem_mem hlt)) _ _ ?_
        have := ih (i + 1, _) ⟨by simp only; omega, hs⟩ (by simp only; omega)
        simp at this
        simp [hw]
        exact this
    · have : v.items.drop i = [] := List.drop_eq_nil_of_le (by omega)
      rw [this, greatL] at hs
      simp [uf A9_l0.eq_1, uf A9_r0.eq_1, hlt]
      rw [hs] at k
      exact ret_pure (by simp) k
end Go.Proofs.YtjljhmeadfejhaaDoor
