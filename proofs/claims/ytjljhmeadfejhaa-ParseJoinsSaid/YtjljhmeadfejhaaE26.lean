/- The engine, part 26: what is known of a variable; functions that are known by a contract. -/
import Derived.Test.YtjljhmeadfejhaaE25
import Derived.Test.YtjljhmeadfejhaaE23
set_option linter.unusedVariables false
set_option linter.unusedSimpArgs false
namespace Go.Eng
/-- A variable that holds some number of a kind. -/
def intEnv (g : Nat) (k : IntKind) (w : World) (S : Nat → Nat → Prop) : Prop := S g 0 ∧ ∃ m, w.cell? ⟨g, 0, none⟩ = some (.int k m)
theorem intEnv_stable {g : Nat} {k : IntKind} {h : List AO} {φ : Nat → Loc} {w : World} {S : Nat → Nat → Prop} {h' : List AO} {φ' : Nat → Loc} {w' : World} {S' : Nat → Nat → Prop} (E : Ext h φ w S h' φ' w' S') (V : intEnv g k w S) : intEnv g k w' S' :=
  ⟨E.stab _ _ V.1, V.2.elim fun m hm => ⟨m, by rw [E.cell _ _ V.1]; exact hm⟩⟩
abbrev intPg (P : Program) (g : Nat) (k : IntKind) : Pg := ⟨P, intEnv g k, intEnv_stable⟩
theorem intEnv_old {g : Nat} {k : IntKind} {w : World} {m : Int} (h : w.cell? ⟨g, 0, none⟩ = some (.int k m)) : intEnv g k w (Old w) := ⟨cell?_lt h, m, h⟩

section
variable {P : Pg} {g : FuncId} {h : List AO} {K : ARes → List AO → Prop}
theorem WC_same {args : List AV} {v : AV} (H : ∀ φ w S (vs : Array Value), P.env w S → Rels h φ w S args vs → ∃ u, ((callFunc g vs).run P.prog w = .ok (.enter g vs) w ∧ Calls P.prog g vs w fun e w' => e = .returned u ∧ w' = w) ∧ Rel h φ w S true v u)
    (k : K (.ok v) h) : WC P g args h K := by
  intro φ w S vs V M R
  obtain ⟨u, ⟨e1, e2⟩, r⟩ := H φ w S vs V R
  refine .inl ⟨e1, e2.mono ?_⟩
  rintro e w' ⟨rfl, rfl⟩
  exact ⟨v, h, φ, S, k, M, Ext.refl _ _ _ _, r⟩
theorem rels_str2 {φ : Nat → Loc} {w : World} {S : Nat → Nat → Prop} {a b : ByteArray} {vs : Array Value} (R : Rels h φ w S [.str a, .str b] vs) : vs = #[.string a, .string b] := by
  obtain ⟨h1, h2⟩ := R
  match vs, h1, h2 with
  | ⟨[x, y]⟩, _, h2 =>
    have k1 := h2 0 _ x rfl rfl
    have k2 := h2 1 _ y rfl rfl
    cases k1; cases k2; rfl
theorem rels_strint {φ : Nat → Loc} {w : World} {S : Nat → Nat → Prop} {a : ByteArray} {k : IntKind} {n : Int} {vs : Array Value} (R : Rels h φ w S [.str a, .int k n] vs) : vs = #[.string a, .int k n] := by
  obtain ⟨h1, h2⟩ := R
  match vs, h1, h2 with
  | ⟨[x, y]⟩, _, h2 =>
    have k1 := h2 0 _ x rfl rfl
    have k2 := h2 1 _ y rfl rfl
    cases k1; cases k2; rfl
end
end Go.Eng
