/- The engine, part 27: functions that are known by a contract, and make things of their own. -/
import Derived.Test.YtjljhmeadfejhaaE26
set_option linter.unusedVariables false
set_option linter.unusedSimpArgs false
namespace Go.Eng
open Go.WideShapes Go.RowKit
/-- Nothing is known of variables. -/
theorem noEnv_stable {h : List AO} {φ : Nat → Loc} {w : World} {S : Nat → Nat → Prop} {h' : List AO} {φ' : Nat → Loc} {w' : World} {S' : Nat → Nat → Prop} (E : Ext h φ w S h' φ' w' S') (V : True) : True := trivial
abbrev noPg (P : Program) : Pg := ⟨P, fun _ _ => True, noEnv_stable⟩
section
variable {P : Pg} {g : FuncId} {h : List AO} {K : ARes → List AO → Prop}
theorem below_cell {w w' : World} (B : Below w.heap.size w w') {b : Nat} (hb : b < w.heap.size) (o : Nat) : w'.cell? ⟨b, o, none⟩ = w.cell? ⟨b, o, none⟩ := by
  exact Below.cell B hb
theorem ext_below {φ : Nat → Loc} {w w' : World} {S : Nat → Nat → Prop} (M : Sim h φ w S) (B : Below w.heap.size w w') : Ext h φ w S h φ w' S :=
  { len := Nat.le_refl _, stab := fun _ _ x => x, cell := fun b o hs => below_cell B (M.stab b o hs) o, same := fun i hi => ⟨hi, rfl⟩, tok := fun i e sz n hi _ => .inl ⟨hi, rfl⟩, live := fun i o ho hd => .inl ⟨o, ho, hd, rfl⟩,
    frame := fun c hc _ => B.block c hc, os := B.os, tape := B.tape, output := B.output, size := B.size, news := fun _ _ k => .inl k }
theorem sim_below {φ : Nat → Loc} {w w' : World} {S : Nat → Nat → Prop} (M : Sim h φ w S) (B : Below w.heap.size w w') : Sim h φ w' S := by
  refine ⟨fun i o ho => ?_, M.inj, fun c o hs => Nat.lt_of_lt_of_le (M.stab c o hs) B.size⟩
  cases hd : o.isDead with
  | true => cases o <;> simp [AO.isDead] at hd; trivial
  | false => exact (M.obj i o ho).mono (ext_below M B) (B.block _ ((M.obj i o ho).lt hd)) (fun j x => x)
theorem WC_below {args : List AV} {v : AV} (H : ∀ φ w S (vs : Array Value), P.env w S → Sim h φ w S → Rels h φ w S args vs →
      ∃ u, ((callFunc g vs).run P.prog w = .ok (.enter g vs) w ∧ Calls P.prog g vs w fun e w' => e = .returned u ∧ Below w.heap.size w w') ∧ ∀ w', Rel h φ w' S true v u)
    (k : K (.ok v) h) : WC P g args h K := by
  intro φ w S vs V M R
  obtain ⟨u, ⟨e1, e2⟩, r⟩ := H φ w S vs V M R
  refine .inl ⟨e1, e2.mono ?_⟩
  rintro e w' ⟨rfl, B⟩
  exact ⟨v, h, φ, S, k, sim_below M B, ext_below M B, r w'⟩
theorem below_refl (w : World) : Below w.heap.size w w := Below.refl _ _
/-- A row of texts, and a text. -/
theorem rels_strs {φ : Nat → Loc} {w : World} {S : Nat → Nat → Prop} {xs : List ByteArray} {sep : ByteArray} {vs : Array Value} (R : Rels h φ w S [.rsl (xs.map .str), .str sep] vs) :
    ∃ A c, vs = #[.slice A xs.length c, .string sep] ∧ xs.length ≤ c ∧ (xs ≠ [] → ∃ bk o, A = some ⟨bk, o, none⟩ ∧ bk < w.heap.size ∧ ∀ (j : Nat) (x : ByteArray), xs[j]? = some x → w.cell? ⟨bk, o + j, none⟩ = some (.string x)) := by
  obtain ⟨h1, h2⟩ := R
  match vs, h1, h2 with
  | ⟨[x, y]⟩, _, h2 =>
    have k1 := h2 0 _ x rfl rfl
    have k2 := h2 1 _ y rfl rfl
    cases k2
    cases k1 with
    | rsl _ _ A c sz f hl hz hs hc hr =>
      refine ⟨A, c, by simp, by simpa using hl, fun hne => ?_⟩
      obtain ⟨x0, r, rfl⟩ : ∃ x0 r, xs = x0 :: r := by
        cases xs with
        | nil => exact absurd rfl hne
        | cons a l => exact ⟨a, l, rfl⟩
      have hsz : sz = 1 := by rw [← hs (.str x0) (by simp)]; rfl
      subst hsz
      have get : ∀ (j : Nat) (x : ByteArray), (x0 :: r)[j]? = some x → ∃ a, A = some a ∧ w.cell? (a.add j) = some (.string x) := by
        intro j x hx
        have hx' : (List.map AV.str (x0 :: r))[j]? = some (.str x) := by rw [List.getElem?_map, hx]; rfl
        obtain ⟨a, e1, e2, e3, e4⟩ := hc j 0 _ (.str x) hx' rfl
        have e5 := hr j 0 _ (.str x) hx' rfl
        refine ⟨a, e1, ?_⟩
        rw [show j * 1 + 0 = j by omega] at e3
        rw [e3]
        rw [rel_str_inv e5]
      obtain ⟨a, e1, e2⟩ := get 0 x0 rfl
      have hsp := World.cell?_spot e2
      have hlt := cell?_lt e2
      rw [add_block] at hlt
      obtain ⟨b, o, s⟩ := a
      have hs0 : s = none := by
        have := hsp
        unfold Addr.add at this
        cases s with
        | none => rfl
        | some s => simp at this
      subst hs0
      refine ⟨b, o, e1, hlt, fun j x hx => ?_⟩
      obtain ⟨a', e3, e4⟩ := get j x hx
      rw [e1] at e3
      injection e3 with e3
      subst e3
      have e6 : (Addr.add ⟨b, o, none⟩ j) = ⟨b, o + j, none⟩ := by
        unfold Addr.add
        split
        · simp_all
        · rfl
      rw [e6] at e4; exact e4
end
end Go.Eng
