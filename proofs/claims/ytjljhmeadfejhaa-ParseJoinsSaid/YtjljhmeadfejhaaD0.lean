/- Declarations, plain. -/
import Derived.Test.YtjljhmeadfejhaaE23
set_option linter.unusedVariables false
namespace Go.Proofs.Ytjljhmeadfejhaa
open Go.Eng

inductive Ty where
  | mk (kind : Int) (name : ByteArray) (of : List Ty)
  deriving Inhabited
def Ty.kind : Ty → Int
  | .mk k _ _ => k
def Ty.name : Ty → ByteArray
  | .mk _ s _ => s
def Ty.of : Ty → List Ty
  | .mk _ _ l => l
mutual
def Ty.cells : Ty → List AV
  | .mk k s l => [.int .i64 k, .str s, .rsl (Ty.avs l)]
def Ty.avs : List Ty → List AV
  | [] => []
  | t :: l => .agg t.cells :: Ty.avs l
end
def Ty.av (t : Ty) : AV := .agg t.cells
theorem Ty.avs_map : ∀ l : List Ty, Ty.avs l = l.map Ty.av
  | [] => rfl
  | t :: l => by rw [Ty.avs, Ty.avs_map l]; rfl
theorem Ty.cells_eq (t : Ty) : t.cells = [.int .i64 t.kind, .str t.name, .rsl (t.of.map Ty.av)] := by
  cases t; simp only [Ty.cells, Ty.avs_map]; rfl
structure Fld where
  tag : Int
  name : ByteArray
  ty : Ty
  deriving Inhabited
def Fld.av (f : Fld) : AV := .agg [.int .i64 f.tag, .str f.name, .int .i64 f.ty.kind, .str f.ty.name, .rsl (f.ty.of.map Ty.av)]
structure Mth where
  tag : Int
  name : ByteArray
  inn : ByteArray
  out : ByteArray
  oneWay : Bool
  deriving Inhabited
def Mth.av (m : Mth) : AV := .agg [.int .i64 m.tag, .str m.name, .str m.inn, .str m.out, .bool m.oneWay]
structure Decl where
  kind : Int
  name : ByteArray
  fields : List Fld
  methods : List Mth
  e : Int
  deriving Inhabited
def Decl.av (d : Decl) : AV := .agg [.int .i64 d.kind, .str d.name, .rsl (d.fields.map Fld.av), .rsl (d.methods.map Mth.av), .int .i64 d.e]
/-! ### what came in is not too great -/
def I64 (n : Int) : Prop := -9223372036854775808 ≤ n ∧ n ≤ 9223372036854775807
def most : Nat := 17592186044416
mutual
def Ty.ok : Ty → Prop
  | .mk k s l => I64 k ∧ s.size ≤ reachBytes ∧ l.length < most ∧ Ty.okL l
def Ty.okL : List Ty → Prop
  | [] => True
  | t :: l => t.ok ∧ Ty.okL l
end
theorem Ty.okL_iff : ∀ l : List Ty, Ty.okL l ↔ ∀ t ∈ l, t.ok
  | [] => by simp [Ty.okL]
  | t :: l => by simp [Ty.okL, Ty.okL_iff l]
def Fld.ok (f : Fld) : Prop := I64 f.tag ∧ f.name.size ≤ reachBytes ∧ f.ty.ok
def Mth.ok (m : Mth) : Prop := I64 m.tag ∧ m.name.size ≤ reachBytes ∧ m.inn.size ≤ reachBytes ∧ m.out.size ≤ reachBytes
def Decl.ok (d : Decl) : Prop := I64 d.kind ∧ d.name.size ≤ reachBytes ∧ d.fields.length < most ∧ d.methods.length < most ∧ I64 d.e ∧ (∀ f ∈ d.fields, f.ok) ∧ ∀ m ∈ d.methods, m.ok
end Go.Proofs.Ytjljhmeadfejhaa
