/- Values, plain. -/
import Derived.Test.YtjljhmeadfejhaaGreatD0
set_option linter.unusedVariables false
namespace Go.Proofs.YtjljhmeadfejhaaGreat
open Go.Eng
inductive Val where
  | mk (kind num : Int) (text : ByteArray) (tags : List Int) (items : List Val)
  deriving Inhabited
def Val.kind : Val → Int
  | .mk k _ _ _ _ => k
def Val.num : Val → Int
  | .mk _ n _ _ _ => n
def Val.text : Val → ByteArray
  | .mk _ _ s _ _ => s
def Val.tags : Val → List Int
  | .mk _ _ _ l _ => l
def Val.items : Val → List Val
  | .mk _ _ _ _ l => l
def intA (n : Int) : AV := .int .i64 n
mutual
def Val.cells : Val → List AV
  | .mk k n s l vs => [.int .i64 k, .int .i64 n, .str s, .rsl (l.map intA), .rsl (Val.avs vs)]
def Val.avs : List Val → List AV
  | [] => []
  | v :: l => .agg v.cells :: Val.avs l
end
def Val.av (v : Val) : AV := .agg v.cells
theorem Val.avs_map : ∀ l : List Val, Val.avs l = l.map Val.av
  | [] => rfl
  | v :: l => by rw [Val.avs, Val.avs_map l]; rfl
theorem Val.cells_eq (v : Val) : v.cells = [.int .i64 v.kind, .int .i64 v.num, .str v.text, .rsl (v.tags.map intA), .rsl (v.items.map Val.av)] := by
  cases v; simp only [Val.cells, Val.avs_map]; rfl
mutual
def Val.ok : Val → Prop
  | .mk k n s l vs => I64 k ∧ I64 n ∧ s.size ≤ reachBytes ∧ l.length < most ∧ (∀ t ∈ l, I64 t) ∧ vs.length < most ∧ Val.okL vs
def Val.okL : List Val → Prop
  | [] => True
  | v :: l => v.ok ∧ Val.okL l
end
theorem Val.okL_iff : ∀ l : List Val, Val.okL l ↔ ∀ t ∈ l, t.ok
  | [] => by simp [Val.okL]
  | t :: l => by simp [Val.okL, Val.okL_iff l]
theorem Val.lt_of_mem {t u : Val} (h : u ∈ t.items) : SizeOf.sizeOf u < SizeOf.sizeOf t := by
  cases t with
  | mk k n s l vs =>
    have := List.sizeOf_lt_of_mem h
    simp only [Val.items, Val.mk.sizeOf_spec] at this ⊢
    omega
theorem Val.parts {v : Val} (h : v.ok) : I64 v.kind ∧ I64 v.num ∧ v.text.size ≤ reachBytes ∧ v.tags.length < most ∧ (∀ t ∈ v.tags, I64 t) ∧ v.items.length < most ∧ ∀ u ∈ v.items, u.ok := by
  cases v with
  | mk k n s l vs =>
    obtain ⟨h1, h2, h3, h4, h5, h6, h7⟩ := h
    exact ⟨h1, h2, h3, h4, h5, h6, (Val.okL_iff vs).1 h7⟩
end Go.Proofs.YtjljhmeadfejhaaGreat
