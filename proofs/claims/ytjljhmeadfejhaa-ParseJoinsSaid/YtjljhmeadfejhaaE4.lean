/- The engine, part 4: what relates constants, cells, addresses. -/
import Derived.Test.YtjljhmeadfejhaaE3
set_option linter.unusedVariables false
set_option linter.unusedSimpArgs false
namespace Go.Eng

section
variable {h : List AO} {φ : Nat → Loc} {w : World} {S : Nat → Nat → Prop}

theorem rel_cv1 {v : Value} {x : AV} (e : cv1 v = some x) (m : Bool) : Rel h φ w S m x v ∧ x.one = true := by
  unfold cv1 at e
  split at e <;> first | (cases e; done) | (injection e with e; subst e)
  · exact ⟨.bool m _, rfl⟩
  · exact ⟨.int m _ _, rfl⟩
  · exact ⟨.str m _, rfl⟩
  · exact ⟨.nilp m, rfl⟩
  · exact ⟨.esl m _, rfl⟩
  · exact ⟨.nilmap m, rfl⟩
  · exact ⟨.nilfn m, rfl⟩
  · exact ⟨.nilif m, rfl⟩
theorem rel_cvL : ∀ {vs : List Value} {xs : List AV}, cvL vs = some xs → ∀ m : Bool, xs.length = vs.length ∧ (∀ (j : Nat) (x : AV), xs[j]? = some x → x.one = true) ∧ ∀ (j : Nat) (x : AV) (v : Value), xs[j]? = some x → vs[j]? = some v → Rel h φ w S m x v
  | [], xs, e, m => by
    injection e with e
    subst e
    exact ⟨rfl, fun j x hx => by simp at hx, fun j x v hx => by simp at hx⟩
  | v :: vs, xs, e, m => by
    simp only [cvL, Option.bind_eq_some_iff, Option.map_eq_some_iff] at e
    obtain ⟨y, hy, ys, hys, rfl⟩ := e
    obtain ⟨k1, k2, k3⟩ := rel_cvL hys m
    obtain ⟨k4, k5⟩ := rel_cv1 (h := h) (φ := φ) (w := w) (S := S) hy m
    refine ⟨by simp [k1], fun j x hx => ?_, fun j x u hx hu => ?_⟩
    · cases j with
      | zero => simp at hx; subst hx; exact k5
      | succ j => exact k2 j x (by simpa using hx)
    · cases j with
      | zero => simp at hx hu; subst hx hu; exact k4
      | succ j => exact k3 j x u (by simpa using hx) (by simpa using hu)
theorem rel_cv {v : Value} {x : AV} (e : cv v = some x) (m : Bool) : Rel h φ w S m x v := by
  unfold cv at e
  split at e
  · rename_i cs
    simp only [Option.map_eq_some_iff] at e
    obtain ⟨ys, hys, rfl⟩ := e
    obtain ⟨k1, k2, k3⟩ := rel_cvL (h := h) (φ := φ) (w := w) (S := S) hys m
    exact .agg m _ _ (by simpa using k1) k2 (fun j x u hx hu => k3 j x u hx (by simpa using hu))
  · exact (rel_cv1 e m).1

/-- The frame stands for the temporaries. -/
def FRel (h : List AO) (φ : Nat → Loc) (w : World) (S : Nat → Nat → Prop) (f : Fr) (a : Act) : Prop :=
  ∀ (i : Nat) (x : AV), lk f i = some x → ∃ v, a.tmps[i]? = some v ∧ Rel h φ w S true x v

theorem FRel.mono {h1 : List AO} {φ1 : Nat → Loc} {w1 : World} {S1 : Nat → Nat → Prop} {f : Fr} {a : Act} (F : FRel h φ w S f a) (E : Ext h φ w S h1 φ1 w1 S1) : FRel h1 φ1 w1 S1 f a := by
  intro i x hx
  obtain ⟨v, k1, k2⟩ := F i x hx
  exact ⟨v, k1, k2.mono E⟩

theorem rel_ev {f : Fr} {a : Act} (F : FRel h φ w S f a) {x : Operand} {y : Opnd} (e : cO x = some y) : Rel h φ w S true (ev f y) (a.eval x) := by
  cases x with
  | tmp t =>
    injection e with e
    subst e
    show Rel h φ w S true ((lk f t).getD .undef) (a.tmps.getD t undef)
    cases hl : lk f t with
    | none => exact .undef _ _
    | some z =>
      obtain ⟨v, k1, k2⟩ := F t z hl
      rw [show a.tmps.getD t undef = v by simp [Array.getD_eq_getD_getElem?, k1]]
      exact k2
  | const v =>
    simp only [cO, Option.map_eq_some_iff] at e
    obtain ⟨z, hz, rfl⟩ := e
    exact rel_cv hz true
  | global g => cases e
  | func g =>
    injection e with e
    subst e
    exact .fn true g [] [] #[] #[] rfl rfl (fun j x v hx => by simp at hx) (fun j x v hx => by simp at hx)

theorem FRel.put {f : Fr} {a : Act} (F : FRel h φ w S f a) (d : Option Nat) (x : AV) (v : Value) (r : Rel h φ w S true x v) (hd : ∀ i, d = some i → i < a.tmps.size) : FRel h φ w S (put f d x) (a.put d v) := by
  cases d with
  | none => exact F
  | some i =>
    intro j y hy
    simp only [Eng.put, lk] at hy
    have hi := hd i rfl
    split at hy
    · rename_i e
      subst e
      injection hy with hy
      subst hy
      exact ⟨v, by simp [Act.put, hi], r⟩
    · rename_i e
      obtain ⟨u, k1, k2⟩ := F j y hy
      exact ⟨u, by simp only [Act.put, Array.getElem?_setIfInBounds]; rw [if_neg (fun e' => e e'.symm)]; exact k1, k2⟩

/-! ### cells -/
theorem one_rel {m : Bool} {x : AV} {v : Value} (r : Rel h φ w S m x v) (h1 : x.one = true) : v.oneCell' = true ∧ v.cells = #[v] ∧ x.cells = [x] := by
  cases r <;> first | (cases h1; done) | exact ⟨rfl, rfl, rfl⟩ | skip
  rename_i hr hk
  cases hr
  exact ⟨rfl, rfl, rfl⟩
/-- Cell by cell. -/
theorem cells_rel {m : Bool} {x : AV} {v : Value} (r : Rel h φ w S m x v) (h1 : x.cells.all AV.one = true) : x.cells.length = v.cells.size ∧ (∀ (j : Nat) (y : AV), x.cells[j]? = some y → y.one = true) ∧
    (∀ u, u ∈ v.cells.toList → u.oneCell' = true) ∧
    ∀ (j : Nat) (y : AV) (u : Value), x.cells[j]? = some y → v.cells[j]? = some u → Rel h φ w S m y u := by
  have hone : ∀ (j : Nat) (y : AV), x.cells[j]? = some y → y.one = true := fun j y hy => List.all_eq_true.1 h1 y (List.mem_of_getElem? hy)
  by_cases hx : x.one = true
  · obtain ⟨k1, k2, k3⟩ := one_rel r hx
    rw [k2, k3]
    refine ⟨rfl, fun j y hy => hone j y (by rw [k3]; exact hy), fun u hu => ?_, fun j y u hy hu => ?_⟩
    · simp at hu; rw [hu]; exact k1
    · cases j with
      | zero => simp at hy hu; subst hy hu; exact r
      | succ j => simp at hy
  · cases r with
    | agg _ cs vs hl ho hr =>
      refine ⟨hl, hone, fun u hu => ?_, hr⟩
      obtain ⟨j, hj⟩ := List.getElem?_of_mem hu
      have hj' : vs[j]? = some u := by simpa [Value.cells] using hj
      have hlt : j < cs.length := by rw [hl]; exact (Array.getElem?_eq_some_iff.1 hj').1
      exact (one_rel (hr j _ u (List.getElem?_eq_getElem hlt) hj') (ho j _ (List.getElem?_eq_getElem hlt))).1
    | undef _ v => simp [AV.cells, AV.one] at h1
    | tup _ cs vs => simp [AV.cells, AV.one] at h1
    | _ => simp [AV.one] at hx

theorem add_add (a : Addr) (i j : Nat) : (a.add i).add j = a.add (i + j) := by
  unfold Addr.add
  by_cases h1 : i = 0 <;> by_cases h2 : j = 0 <;> simp [h1, h2, Nat.add_assoc]

/-- The cells that begin at an address. -/
theorem rel_cellsAt (M : Sim h φ w S) {x : AV} {v : Value} {cs : List AV} (e : cellsAt h x = some cs) (r : Rel h φ w S true x v) :
    ∃ a : Addr, v = .pointer (some a) ∧ ∀ (j : Nat) (y : AV), cs[j]? = some y → y.one = true ∧ ∃ u, w.cell? (a.add j) = some u ∧ Rel h φ w S true y u := by
  cases r with
  | ptr i o hi =>
    refine ⟨_, rfl, fun j y hy => ?_⟩
    simp only [cellsAt] at e
    split at e
    case h_2 => cases e
    rename_i cs0 hb
    split at e
    case isFalse => cases e
    injection e with e
    subst e
    obtain ⟨arr, T, k1, k2, k3, k4, k5⟩ := M.obj i _ hb
    rw [List.getElem?_drop] at hy
    have hlt : o + j < arr.size := Nat.lt_of_lt_of_le (List.getElem?_eq_some_iff.1 hy).1 k2
    refine ⟨k3 _ y hy, arr[o + j], ?_, k4 _ _ _ hy (by simp [hlt])⟩
    rw [Addr.add_lit]
    simp [World.cell?, k1, hlt]
  | rptr _ cs0 a f hc hr =>
    injection e with e
    subst e
    exact ⟨a, rfl, fun j y hy => ⟨(hc j y hy).1, f j, (hc j y hy).2.1, (hr j y hy).up⟩⟩
  | _ => cases e

theorem run_isAgg {P : Program} {t : TypeId} {k : Option Nat} (e : aggK P t = some k) (w : World) : ∃ i, P.info? t = some i ∧ (isAgg t).run P w = .ok k.isSome w ∧ ∀ n, k = some n → n = i.size := by
  unfold aggK at e
  split at e
  case h_2 => cases e
  rename_i d i hu hi
  injection e with e
  subst e
  refine ⟨i, hi, ?_, fun n hn => ?_⟩
  · simp only [isAgg, Sem.run_bind, run_underlying hu, Result.andThen_ok]
    cases d <;> rfl
  · split at hn
    · injection hn with hn; exact hn.symm
    · cases hn
end
end Go.Eng
