/- The engine, part 23: a law's row. -/
import Derived.Test.YtjljhmeadfejhaaE22
set_option linter.unusedVariables false
set_option linter.unusedSimpArgs false
namespace Go.Eng
open Go.WideShapes Go.RowKit

section
variable {H : Type} {enc : TypeId × Value → H} {P : Program} {w : World} {sp : Nat → Bool} {held : Bool} {φ : Nat → Loc}

theorem sim_nil (φ : Nat → Loc) (w : World) : Sim [] φ w (Old w) where
  obj := fun i o h => by simp at h
  inj := fun i j oi oj h => by simp at h
  stab := fun b o h => h

theorem below_of_ext {h' : List AO} {φ' : Nat → Loc} {w' : World} {S S' : Nat → Nat → Prop} (E : Ext [] φ w S h' φ' w' S') : Below w.heap.size w w' :=
  ⟨E.os, E.tape, E.output, E.size, fun k hk => E.frame k hk (fun i o ho => by simp at ho)⟩

/-- A law that gives true. -/
theorem calls_law {P : Pg} {f : FuncId} {args : Array Value} {xs : List AV} (V : P.env w (Old w)) (hR : Rels [] φ w (Old w) xs args) (hcall : ∀ w, (callFunc f args).run P.prog w = .ok (.enter f args) w)
    (k : WC P f xs [] (fun r _ => r = .ok (.bool true))) : Calls P.prog f args w fun e w' => e = .returned (.bool true) ∧ Below w.heap.size w w' := by
  rcases k φ w (Old w) args V (sim_nil φ w) hR with ⟨_, k⟩ | ⟨v, w', k, _⟩
  · refine k.mono fun e w' p => ?_
    cases e with
    | returned v =>
      obtain ⟨x, h', φ', S', q, M, E, R⟩ := p
      injection q with q
      subst q
      cases R
      exact ⟨rfl, below_of_ext E⟩
    | panicked c => obtain ⟨x, v, h', φ', S', _, q, _⟩ := p; cases q
    | outgrown => exact p.elim
  · rw [hcall] at k; cases k

theorem arg_reads {T : List TypeId} (hT : okS P T = true) {t : TypeId} {v : Value} {d : DataW H} {p : List MemPlace} {base : Nat} (ht : T.contains t = true) (hv : Value.okWide P w .any base t v) (h : DataW.Trod enc P w 0 sp held t v d p) (hw : ∀ x ∈ d.weights P t, x ≤ reachBytes) :
    ∃ n xs, Shp P n t xs ∧ Rel [] φ w (Old w) false (packT P t xs) v := by
  obtain ⟨fuel, hf⟩ := h
  obtain ⟨xs, x1, x2, x3, x4⟩ := trod_reads (φ := φ) hT fuel t ht _ d p hf hw
  refine ⟨fuel, xs, x4, ?_⟩
  have one : aggT P t = false → v.cells = #[v] → Rel [] φ w (Old w) false (packT P t xs) v := by
    intro ha hc
    rw [hc] at x1 x3
    match xs, x1, x3 with
    | [x], _, x3 => simp only [packT, ha]; exact x3 0 x v rfl rfl
  have ok : okT1 P T t = true := (List.all_eq_true.1 hT) t (by simpa using ht)
  simp only [okT1] at ok
  split at ok
  · rename_i hu
    obtain ⟨b, rfl⟩ : ∃ b, v = .bool b := by
      simp only [Value.okWide, hu, Cell.okWide] at hv
      cases v <;> simp_all [Cell.ok]
    exact one (by simp [aggT, hu]) rfl
  · rename_i k hu
    obtain ⟨z, rfl⟩ := okWide_int hu hv
    exact one (by simp [aggT, hu]) rfl
  · rename_i hu
    obtain ⟨z, rfl⟩ := okWide_string hu hv
    exact one (by simp [aggT, hu]) rfl
  · rename_i e hu
    obtain ⟨a, l, c, rfl⟩ := okWide_slice hu hv
    exact one (by simp [aggT, hu]) rfl
  · rename_i fs hu
    obtain ⟨cs, rfl, hs⟩ := okWide_struct hu hv
    simp only [packT, show aggT P t = true by simp [aggT, hu], if_true]
    refine .agg false xs cs ?_ x2 (fun j x v hx hv => x3 j x v hx ?_)
    · simpa [Value.cells] using x1
    · simpa [Value.cells] using hv
  · cases ok
theorem rels_nil : Rels [] φ w (Old w) [] #[] := ⟨rfl, fun j x v h => by simp at h⟩
theorem rels1 {x : AV} {v : Value} (r : Rel [] φ w (Old w) false x v) : Rels [] φ w (Old w) [x] #[v] :=
  ⟨rfl, fun j y u hy hu => by cases j <;> simp at hy hu; subst hy hu; exact r.up⟩
theorem rels2 {x y : AV} {v u : Value} (r : Rel [] φ w (Old w) false x v) (r' : Rel [] φ w (Old w) false y u) : Rels [] φ w (Old w) [x, y] #[v, u] :=
  ⟨rfl, fun j z q hz hq => by
    match j with
    | 0 => simp at hz hq; subst hz hq; exact r.up
    | 1 => simp at hz hq; subst hz hq; exact r'.up
    | j + 2 => simp at hz⟩
end
end Go.Eng
