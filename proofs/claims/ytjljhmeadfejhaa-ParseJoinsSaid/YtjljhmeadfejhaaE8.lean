/- The engine, part 8: plain operations: addresses, maps, rows. -/
import Derived.Test.YtjljhmeadfejhaaE7
set_option linter.unusedVariables false
set_option linter.unusedSimpArgs false
namespace Go.Eng
section
variable {P : Program} {o : Oper} {a : Act} {h : List AO} {φ : Nat → Loc} {w : World} {S : Nat → Nat → Prop} {f : Fr} {x : AV} {h' : List AO}

theorem fine_un (M : Sim h φ w S) (F : FRel h φ w S f a) {op : UnOp} {t : TypeId} {y : Operand} {p : Opnd} (ho : o.op = .unOp op t y) (e : cO y = some p) (he : unA op (ev f p) = some x) : Fine P o a h φ w S x h := by
  have r := rel_ev F e
  unfold unA at he
  split at he
  · rename_i hx
    rw [hx] at r
    have u := rel_bool_inv r
    injection he with he; subst he
    exact fine_pure M (by simp [execOp, ho, u, Op.unary]) (.bool _ _)
  · rename_i hx
    rw [hx] at r
    have u := rel_int_inv r
    injection he with he; subst he
    exact fine_pure M (by simp [execOp, ho, u, Op.unary, Op.intArith]) (.int _ _ _)
  · cases he

/-- A part of a struct's value. -/
theorem run_part {t : TypeId} {k : Option Nat} (ek : aggK P t = some k) {cs : List AV} {vs : Array Value} {off : Nat} (hl : cs.length = vs.size) (h1 : ∀ (j : Nat) (y : AV), cs[j]? = some y → y.one = true)
    (hr : ∀ (j : Nat) (y : AV) (v : Value), cs[j]? = some y → vs[j]? = some v → Rel h φ w S true y v) (ho : off ≤ cs.length) (he : loadA k (cs.drop off) = some x) :
    ∃ v, (part t vs off).run P w = .ok v w ∧ Rel h φ w S true x v := by
  obtain ⟨i, hi, hagg, hsz⟩ := run_isAgg ek w
  cases k with
  | none =>
    simp only [loadA, List.getElem?_drop, Nat.add_zero] at he
    have hlt : off < vs.size := by rw [← hl]; exact (List.getElem?_eq_some_iff.1 he).1
    exact ⟨vs[off], by simp [part, hagg, hlt], hr off x _ he (by simp [hlt])⟩
  | some n =>
    obtain rfl := hsz n rfl
    simp only [loadA] at he
    split at he
    case isFalse => cases he
    rename_i hn
    injection he with he
    subst he
    simp only [List.length_drop] at hn
    refine ⟨.agg (vs.extract off (off + i.size)), by simp [part, hagg, Go.sizeOf, typeInfo, hi], .agg true _ _ (by simp; omega) (fun j y hy => ?_) (fun j y v hy hv => ?_)⟩
    · rw [List.getElem?_take] at hy
      split at hy
      · rw [List.getElem?_drop] at hy; exact h1 _ y hy
      · cases hy
    · rw [List.getElem?_take] at hy
      split at hy
      case isFalse => cases hy
      rename_i hj
      rw [List.getElem?_drop] at hy
      rw [Array.getElem?_extract] at hv
      split at hv
      · exact hr _ y v hy hv
      · cases hv

theorem fine_fld (M : Sim h φ w S) (F : FRel h φ w S f a) {t : TypeId} {y : Operand} {p : Opnd} {i : Nat} {fs : Array Field} {fl : Field} {k : Option Nat} (ho : o.op = .field t y i) (hu : P.underlying t = some (.struct fs)) (hf : fs[i]? = some fl)
    (ek : aggK P fl.type = some k) (e : cO y = some p) (he : evP f h (.fld fl.offset k p) = some (x, h')) : Fine P o a h φ w S x h' := by
  have r := rel_ev F e
  simp only [evP] at he
  split at he
  case h_2 => cases he
  rename_i cs hx
  rw [hx] at r
  split at he
  case isFalse => cases he
  rename_i hoff
  have hp0 := p0_some he; clear he; obtain ⟨he, rfl⟩ := hp0
  generalize hv : a.eval y = v at r
  cases r with
  | agg _ _ vs l h1 q =>
    obtain ⟨u, k1, k2⟩ := run_part ek l h1 q hoff he
    exact fine_pure M (by simp [execOp, ho, Instr.field, run_underlying hu, hf, hv, asAgg, k1]) k2

theorem fine_fa (M : Sim h φ w S) (F : FRel h φ w S f a) {t : TypeId} {y : Operand} {p : Opnd} {i n : Nat} {fs : Array Field} {fl : Field} (ho : o.op = .fieldAddr t y i) (hu : P.underlying t = some (.struct fs)) (hf : fs[i]? = some fl)
    (es : szOf P fl.type = some (n + 1)) (e : cO y = some p) (he : evP f h (.fa fl.offset p) = some (x, h')) : Fine P o a h φ w S x h' := by
  have r := rel_ev F e
  have hi : ∃ ti, P.info? fl.type = some ti ∧ ti.size = n + 1 := by
    cases hi : P.info? fl.type with
    | none => simp [szOf, hi] at es
    | some ti => exact ⟨ti, rfl, by simpa [szOf, hi] using es⟩
  obtain ⟨ti, hti, hsz⟩ := hi
  have hrun : ∀ ad, a.eval y = .pointer (some ad) → (execOp a.eval o).run P w = .ok (.value (.pointer (some (ad.add fl.offset)))) w := by
    intro ad hv
    simp [execOp, ho, Instr.fieldAt, run_underlying hu, hf, hv, Instr.sureAddr, fieldPlace, Go.sizeOf, typeInfo, hti, hsz]
  simp only [evP] at he
  split at he
  · rename_i j off hx
    rw [hx] at r
    injection he with he; injection he with h1 h2; subst h1 h2
    generalize hv : a.eval y = v at r
    cases r with
    | ptr _ _ hi =>
      refine fine_pure M (hrun _ hv) ?_
      rw [Addr.add_lit]
      exact .ptr _ _ hi
  · rename_i cs hx
    rw [hx] at r
    injection he with he; injection he with h1 h2; subst h1 h2
    generalize hv : a.eval y = v at r
    cases r with
    | rptr _ _ ad g hc hr =>
      refine fine_pure M (hrun _ hv) (.rptr _ _ _ (fun j => g (fl.offset + j)) (fun j y hy => ?_) (fun j y hy => ?_))
      · rw [List.getElem?_drop] at hy
        obtain ⟨k1, k2, k3⟩ := hc _ y hy
        rw [add_add, add_block, add_off]
        exact ⟨k1, k2, by rw [Nat.add_assoc]; exact k3⟩
      · rw [List.getElem?_drop] at hy
        exact hr _ y hy
  · cases he

theorem szOf_inv {t : TypeId} {n : Nat} (es : szOf P t = some n) : ∃ ti, P.info? t = some ti ∧ ti.size = n := by
  cases hi : P.info? t with
  | none => simp [szOf, hi] at es
  | some ti => exact ⟨ti, rfl, by simpa [szOf, hi] using es⟩

/-- A slice that can be read. -/
theorem rel_elems {x : AV} {v : Value} {es : List AV} (e : elems x = some es) (r : Rel h φ w S true x v) : ∃ A c, v = .slice A es.length c ∧ es.length ≤ c ∧ Rel h φ w S false (.rsl es) v := by
  cases r <;> simp only [elems] at e <;> first | (cases e; done) | (injection e with e; subst e)
  · exact ⟨_, 0, rfl, Nat.le_refl _, rel_rsl_nil _ _⟩
  · rename_i A c sz g hl hz hs hc hr
    exact ⟨A, c, rfl, hl, .rsl _ _ A c sz g hl hz hs hc hr⟩
  · rename_i t ht hr hk
    cases hr with
    | rsl _ _ A c sz g hl hz hs hc hr => exact ⟨A, c, rfl, hl, .rsl _ _ A c sz g hl hz hs hc hr⟩

theorem fine_ia (M : Sim h φ w S) (F : FRel h φ w S f a) {t e : TypeId} {y z : Operand} {p q : Opnd} {sz : Nat} (ho : o.op = .indexAddr t y z) (hu : P.underlying t = some (.slice e)) (es : szOf P e = some sz) (e1 : cO y = some p) (e2 : cO z = some q)
    (he : evP f h (.ia sz p q) = some (x, h')) : Fine P o a h φ w S x h' := by
  have r := rel_ev F e1
  have r2 := rel_ev F e2
  obtain ⟨ti, hti, hsz⟩ := szOf_inv es
  simp only [evP] at he
  split at he
  case h_2 => cases he
  rename_i k n hq
  rw [hq] at r2
  have u2 := rel_int_inv r2
  have hp0 := p0_some he; clear he; obtain ⟨he, rfl⟩ := hp0
  unfold iaA_ at he
  split at he
  · cases he
  rename_i hn
  have hrun : ∀ ad len cap, a.eval y = .slice (some ad) len cap → n.toNat < len → (execOp a.eval o).run P w = .ok (.value (.pointer (some (ad.add (n.toNat * sz))))) w := by
    intro ad len cap hv hlt
    have h0 : 0 ≤ n ∧ n < (len : Int) := by omega
    simp [execOp, ho, Instr.indexAt, u2, asIntOf, run_underlying hu, hv, h0, Go.sizeOf, typeInfo, hti, hsz]
  split at he
  · rename_i b off len cap hx
    rw [hx] at r
    split at he
    case isFalse => cases he
    rename_i hlt
    injection he with he; subst he
    generalize hv : a.eval y = v at r
    cases r with
    | msl _ _ _ _ _ hi _ =>
      refine fine_pure M (hrun _ _ _ hv hlt) ?_
      rw [Addr.add_lit]
      exact .ptr _ _ hi
  · split at he
    case h_2 => cases he
    rename_i es' hes
    obtain ⟨A, c, hv, hl, rr⟩ := rel_elems hes r
    split at he
    case h_2 => cases he
    rename_i ye hy
    split at he
    case isFalse => cases he
    rename_i hcond
    injection he with he; subst he
    rw [hv] at rr
    have hlt : n.toNat < es'.length := (List.getElem?_eq_some_iff.1 hy).1
    cases rr with
    | rsl _ _ _ _ sz' g _ hz hs hc hr =>
      have hsz' : sz' = sz := by rw [← hs ye (List.mem_of_getElem? hy)]; exact hcond.1
      subst hsz'
      have h0 : ∃ y0, ye.cells[0]? = some y0 := ⟨_, List.getElem?_eq_getElem (by omega)⟩
      obtain ⟨y0, hy0⟩ := h0
      obtain ⟨ad, rfl, _⟩ := hc _ 0 ye y0 hy hy0
      refine fine_pure M (hrun _ _ _ hv hlt) (.rptr _ _ _ (fun j => g n.toNat j) (fun j z hz' => ?_) (fun j z hz' => hr _ j ye z hy hz'))
      obtain ⟨ad', e', k1, k2, k3⟩ := hc _ j ye z hy hz'
      injection e' with e'
      subst e'
      rw [add_add, add_block, add_off]
      exact ⟨k1, k2, by rw [Nat.add_assoc]; exact k3⟩
end
end Go.Eng
