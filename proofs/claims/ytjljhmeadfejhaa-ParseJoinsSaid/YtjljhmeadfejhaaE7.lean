/- The engine, part 7: plain operations: numbers, texts, addresses, maps, rows. -/
import Derived.Test.YtjljhmeadfejhaaE6
set_option linter.unusedVariables false
set_option linter.unusedSimpArgs false
namespace Go.Eng
section
variable {P : Program} {o : Oper} {a : Act} {h : List AO} {φ : Nat → Loc} {w : World} {S : Nat → Nat → Prop} {f : Fr} {x : AV} {h' : List AO}

theorem p0_some {y : Option AV} (e : P0 y h = some (x, h')) : y = some x ∧ h' = h := by
  unfold P0 at e
  rw [Option.map_eq_some_iff] at e
  obtain ⟨z, hz, e⟩ := e
  injection e with e1 e2
  exact ⟨by rw [hz, e1], e2.symm⟩

theorem fine_nilck (M : Sim h φ w S) (F : FRel h φ w S f a) {y : Operand} {p : Opnd} (ho : o.op = .nilCheck y) (e : cO y = some p) (he : evP f h (.nilck p) = some (x, h')) : Fine P o a h φ w S x h' := by
  have r := rel_ev F e
  simp only [evP] at he
  generalize hx : ev f p = X at r he
  generalize hv : a.eval y = v at r
  cases r <;> simp only at he <;> first | (cases he; done) | (injection he with he; injection he with h1 h2; subst h1 h2)
  · exact fine_pure M (by simp [execOp, ho, hv]) (.ptr _ _ (by assumption))
  · rename_i cs ad fv hc hr
    exact fine_pure M (v := .pointer (some ad)) (by simp [execOp, ho, hv]) (.rptr _ _ ad fv hc hr)
  · rename_i g fs cs us vs hl' hl hr' hr
    exact fine_pure M (by simp [execOp, ho, hv]) (.fn _ g fs cs us vs hl' hl hr' hr)
  · rename_i t x v hr
    exact fine_pure M (by simp [execOp, ho, hv]) (.iface _ t x v hr)

theorem run_binI {op : BinOp} {k : IntKind} {n m : Int} {y : AV} (e : binI op k n m = some y) (t : TypeId) : ∃ v, (binOp op t (.int k n) (.int k m)).run P w = .ok v w ∧ Rel h φ w S true y v := by
  have hi : ∀ q : Int, AV.int k q = y → ∀ r : Result Value, r = .ok (.int k q) w → ∃ v, r = .ok v w ∧ Rel h φ w S true y v := fun q hy r hr => ⟨_, hr, hy ▸ .int _ _ _⟩
  have hb : ∀ q : Bool, AV.bool q = y → ∀ r : Result Value, r = .ok (.bool q) w → ∃ v, r = .ok v w ∧ Rel h φ w S true y v := fun q hy r hr => ⟨_, hr, hy ▸ .bool _ _⟩
  cases op
  case quo =>
    simp only [binI] at e
    split at e
    · cases e
    · rename_i h0
      exact hi _ (Option.some.inj e) _ (by simp [binOp, Op.intDiv, h0])
  case rem =>
    simp only [binI] at e
    split at e
    · cases e
    · rename_i h0
      exact hi _ (Option.some.inj e) _ (by simp [binOp, Op.intDiv, h0])
  case shl => cases e
  case shr => cases e
  case add => exact hi _ (Option.some.inj e) _ (by simp [binOp, Op.intArith])
  case sub => exact hi _ (Option.some.inj e) _ (by simp [binOp, Op.intArith])
  case mul => exact hi _ (Option.some.inj e) _ (by simp [binOp, Op.intArith])
  case and => exact hi _ (Option.some.inj e) _ (by simp [binOp, Op.intBits])
  case or => exact hi _ (Option.some.inj e) _ (by simp [binOp, Op.intBits])
  case xor => exact hi _ (Option.some.inj e) _ (by simp [binOp, Op.intBits])
  case andNot => exact hi _ (Option.some.inj e) _ (by simp [binOp, Op.intBits])
  case eql => exact hb _ (Option.some.inj e) _ (by simp [binOp, Op.intCmp]; rfl)
  case neq => exact hb _ (Option.some.inj e) _ (by simp [binOp, Op.intCmp]; rfl)
  case lss => exact hb _ (Option.some.inj e) _ (by simp [binOp, Op.intCmp])
  case leq => exact hb _ (Option.some.inj e) _ (by simp [binOp, Op.intCmp])
  case gtr => exact hb _ (Option.some.inj e) _ (by simp [binOp, Op.intCmp])
  case geq => exact hb _ (Option.some.inj e) _ (by simp [binOp, Op.intCmp])
theorem run_shI {op : BinOp} {k k' : IntKind} {n m : Int} {y : AV} (e : shI op k n m = some y) (t : TypeId) : ∃ v, (binOp op t (.int k n) (.int k' m)).run P w = .ok v w ∧ Rel h φ w S true y v := by
  unfold shI at e
  split at e
  · cases e
  rename_i h0
  split at e
  · injection e with e; subst e
    exact ⟨_, by simp [binOp, Op.shift, h0], .int _ _ _⟩
  · injection e with e; subst e
    exact ⟨_, by simp [binOp, Op.shift, h0], .int _ _ _⟩
  · cases e
theorem toList_beq (a b : ByteArray) : (a.toList == b.toList) = decide (a = b) := by
  rw [ByteArray.toList_eq, ByteArray.toList_eq]
  by_cases e : a = b
  · subst e; simp
  · have : a.data.toList ≠ b.data.toList := fun h => e (by cases a; cases b; simp only [ByteArray.mk.injEq]; exact Array.toList_inj.1 h)
    rw [decide_eq_false e]; simpa using this
theorem run_binS {op : BinOp} {n m : ByteArray} {y : AV} (e : binS op n m = some y) (t : TypeId) : ∃ v, (binOp op t (.string n) (.string m)).run P w = .ok v w ∧ Rel h φ w S true y v := by
  have hb : ∀ q : Bool, AV.bool q = y → ∀ r : Result Value, r = .ok (.bool q) w → ∃ v, r = .ok v w ∧ Rel h φ w S true y v := fun q hy r hr => ⟨_, hr, hy ▸ .bool _ _⟩
  cases op
  case add =>
    simp only [binS] at e
    split at e
    · rename_i h0
      injection e with e; subst e
      refine ⟨.string (n ++ m), ?_, .str _ _⟩
      simp only [binOp, Op.stringOp]
      rw [if_neg (by simp only [show IntKind.i64.max = 9223372036854775807 from rfl]; omega)]
      rfl
    · cases e
  case eql => exact hb _ (Option.some.inj e) _ (by simp [binOp, Op.stringOp, toList_beq])
  case neq => exact hb _ (Option.some.inj e) _ (by simp [binOp, Op.stringOp, toList_beq])
  case lss => exact hb _ (Option.some.inj e) _ (by simp [binOp, Op.stringOp, toList_beq])
  case leq => exact hb _ (Option.some.inj e) _ (by simp [binOp, Op.stringOp, toList_beq])
  case gtr => exact hb _ (Option.some.inj e) _ (by simp [binOp, Op.stringOp, toList_beq])
  case geq => exact hb _ (Option.some.inj e) _ (by simp [binOp, Op.stringOp, toList_beq])
  all_goals cases e

/-! ### equality -/
theorem eqGuard_plain {op : BinOp} {t : TypeId} {x y : Operand} {u v : Value} (h1 : ∀ p q, u = .agg p → v = .agg q → False) (h2 : u = .nilIface → v = .nilIface → False) (w : World) :
    (eqGuard op t x y u v).run P w = .ok () w := by
  cases u <;> cases v <;> first | exact (h1 _ _ rfl rfl).elim | exact (h2 rfl rfl).elim | (cases op <;> rfl)

theorem rel_int_inv {m : Bool} {k : IntKind} {n : Int} {v : Value} (r : Rel h φ w S m (.int k n) v) : v = .int k n := by cases r; rfl
theorem rel_bool_inv {m : Bool} {b : Bool} {v : Value} (r : Rel h φ w S m (.bool b) v) : v = .bool b := by cases r; rfl
theorem rel_str_inv {m : Bool} {b : ByteArray} {v : Value} (r : Rel h φ w S m (.str b) v) : v = .string b := by cases r; rfl

def KindIs (P : Program) (t : TypeId) : Nat → Prop
  | 0 => ∃ k, P.underlying t = some (.int k)
  | 1 => P.underlying t = some .string
  | 2 => P.underlying t = some .bool
  | _ => False
theorem cellEq_run {P : Program} {t : TypeId} {k : Nat} (ht : KindIs P t k) {x y : AV} {b : Bool} (e : cellEq k x y = some b) {u v : Value} {m : Bool}
    (r1 : Rel h φ w S m x u) (r2 : Rel h φ w S m y v) (d : Nat) (w' : World) : (Op.equalIn (d + 1) t u v).run P w' = .ok b w' := by
  unfold cellEq at e
  split at e
  · split at e
    case isFalse => cases e
    rename_i hk
    subst hk
    injection e with e
    subst e
    obtain rfl := rel_int_inv r1
    obtain rfl := rel_int_inv r2
    obtain ⟨k', ht⟩ := ht
    rw [run_equalIn_int w' d t _ k' _ _ ht]; rfl
  · injection e with e
    subst e
    obtain rfl := rel_str_inv r1
    obtain rfl := rel_str_inv r2
    rw [run_equalIn_string w' d t _ _ ht, toList_beq]
  · injection e with e
    subst e
    rename_i a b
    obtain rfl := rel_bool_inv r1
    obtain rfl := rel_bool_inv r2
    rw [run_equalIn_bool' w' d t _ _ ht]
    cases a <;> cases b <;> rfl
  · cases e
theorem part_plain {P : Program} {t : TypeId} {k : Nat} (ht : KindIs P t k) {vs : Array Value} {off : Nat} {u : Value} (hu : vs[off]? = some u) (w' : World) : (part t vs off).run P w' = .ok u w' := by
  unfold KindIs at ht
  split at ht
  · obtain ⟨k', ht⟩ := ht
    simp [part, isAgg, run_underlying ht, hu]
  · simp [part, isAgg, run_underlying ht, hu]
  · simp [part, isAgg, run_underlying ht, hu]
  · exact ht.elim
theorem cellsEq_run {P : Program} (d : Nat) {xs ys : List AV} {us vs : Array Value} {m : Bool} (l1 : xs.length = us.size) (l2 : ys.length = vs.size)
    (r1 : ∀ (j : Nat) (x : AV) (v : Value), xs[j]? = some x → us[j]? = some v → Rel h φ w S m x v) (r2 : ∀ (j : Nat) (x : AV) (v : Value), ys[j]? = some x → vs[j]? = some v → Rel h φ w S m x v) :
    ∀ (fs : List Field) (l : List (Nat × Nat)) (b : Bool), plainFields P fs = some l → cellsEq xs ys l = some b → ∀ w', (Op.eqFields (d + 1) us vs fs).run P w' = .ok b w'
  | [], l, b, hl, he, w' => by
    injection hl with hl
    subst hl
    injection he with he
    subst he
    rfl
  | f :: fs, l, b, hl, he, w' => by
    simp only [plainFields] at hl
    split at hl
    · cases hl
    rename_i hname
    have key : ∃ k l', KindIs P f.type k ∧ plainFields P fs = some l' ∧ l = (f.offset, k) :: l' := by
      split at hl
      · rename_i k hk; obtain ⟨l', h1, h2⟩ := Option.map_eq_some_iff.1 hl; exact ⟨0, l', ⟨k, hk⟩, h1, h2.symm⟩
      · rename_i hk; obtain ⟨l', h1, h2⟩ := Option.map_eq_some_iff.1 hl; exact ⟨1, l', hk, h1, h2.symm⟩
      · rename_i hk; obtain ⟨l', h1, h2⟩ := Option.map_eq_some_iff.1 hl; exact ⟨2, l', hk, h1, h2.symm⟩
      · cases hl
    obtain ⟨k, l', hk, hl', rfl⟩ := key
    simp only [cellsEq] at he
    split at he
    case h_2 => cases he
    rename_i x y hx hy
    obtain ⟨b0, e1, e2⟩ := Option.bind_eq_some_iff.1 he
    have hlx : f.offset < us.size := by rw [← l1]; exact (List.getElem?_eq_some_iff.1 hx).1
    have hly : f.offset < vs.size := by rw [← l2]; exact (List.getElem?_eq_some_iff.1 hy).1
    have hu : us[f.offset]? = some us[f.offset] := by simp [hlx]
    have hv : vs[f.offset]? = some vs[f.offset] := by simp [hly]
    have hc := cellEq_run (P := P) hk e1 (r1 _ x _ hx hu) (r2 _ y _ hy hv) d w'
    simp only [Op.eqFields, ne_eq, hname, not_false_eq_true, if_true, Sem.run_bind, part_plain hk hu, part_plain hk hv, Result.andThen_ok, hc]
    cases b0 with
    | true =>
      simp only [if_true] at e2
      simpa using cellsEq_run d l1 l2 r1 r2 fs l' b hl' e2 w'
    | false =>
      simp at e2
      subst e2
      simp

def EqSays (P : Program) (t : TypeId) (p q : Operand) : EqK → Prop
  | .no => True
  | .bool => P.underlying t = some .bool
  | .ptr => ∃ q, P.underlying t = some (.pointer q)
  | .fnc => ∃ q r s, P.underlying t = some (.func q r s)
  | .ifc => (∃ q, P.underlying t = some (.interface q)) ∧ (isC p || isC q) = true
  | .mp => ∃ q r, P.underlying t = some (.map q r)
  | .strct l => ∃ fs, P.underlying t = some (.struct fs) ∧ plainFields P fs.toList = some l ∧ P.stoodInHeld t = false ∧ P.eqGuardType P.depth t = false
theorem cEq_inv {t : TypeId} {p q : Operand} {k : EqK} (e : cEq P t p q = k) : EqSays P t p q k := by
  unfold cEq at e
  split at e
  · subst e; assumption
  · subst e; exact ⟨_, by assumption⟩
  · split at e
    · subst e; exact ⟨⟨_, by assumption⟩, by assumption⟩
    · subst e; trivial
  · subst e; exact ⟨_, _, _, by assumption⟩
  · subst e; exact ⟨_, _, by assumption⟩
  · split at e
    · split at e
      · subst e; trivial
      · rename_i hh; subst e; exact ⟨_, by assumption, by assumption, by simpa using hh⟩
    · subst e; trivial
  · subst e; trivial

theorem eqGuard_nilif {op : BinOp} {t : TypeId} {p q : Operand} (hc : (isC p || isC q) = true) (w : World) : (eqGuard op t p q .nilIface .nilIface).run P w = .ok () w := by
  cases p <;> cases q <;> first | (simp [isC] at hc; done) | (cases op <;> rfl)

theorem eqIn_nil {t : TypeId} {p q : Operand} {K : EqK} {x y : AV} {b : Bool} {u v : Value} (hE : EqSays P t p q K) (e : nilEq K x y = some b) (r1 : Rel h φ w S true x u) (r2 : Rel h φ w S true y v) (d : Nat) (w' : World) :
    (Op.equalIn (d + 1) t u v).run P w' = .ok b w' := by
  unfold nilEq at e
  split at e <;> first | (cases e; done) | skip
  all_goals (injection e with e; subst e; cases r1; cases r2)
  all_goals first
    | (obtain ⟨el, hu⟩ := hE; simp [Op.equalIn, run_underlying hu]; done)
    | (obtain ⟨el, el2, hu⟩ := hE; simp [Op.equalIn, run_underlying hu]; done)
    | (obtain ⟨el, el2, el3, hu⟩ := hE; simp [Op.equalIn, run_underlying hu]; done)
    | (obtain ⟨⟨el, hu⟩, hc⟩ := hE; simp [Op.equalIn, run_underlying hu]; done)

/-- What an (in)equality comes to, kind by kind. -/
theorem run_eqA {t : TypeId} {p q : Operand} {x y : AV} {b : Bool} {u v : Value} (e : eqA (cEq P t p q) x y = some b) (r1 : Rel h φ w S true x u) (r2 : Rel h φ w S true y v) :
    (Op.equal t u v).run P w = .ok b w ∧ (∀ op, (eqGuard op t p q u v).run P w = .ok () w) ∧ binOp .eql t u v = (do pure (.bool (← Op.equal t u v))) ∧ binOp .neq t u v = (do pure (.bool (!(← Op.equal t u v)))) := by
  have hE := cEq_inv (P := P) (t := t) (p := p) (q := q) rfl
  generalize hk : cEq P t p q = K at e hE
  cases K with
  | no => simp [eqA, nilEq] at e
  | bool =>
    cases x <;> cases y <;> simp only [eqA, nilEq] at e <;> first | (cases e; done) | skip
    injection e with e; subst e
    rename_i a b
    obtain rfl := rel_bool_inv r1
    obtain rfl := rel_bool_inv r2
    refine ⟨?_, fun op => eqGuard_plain (by intro p q h; cases h) (by intro h; cases h) w, rfl, rfl⟩
    have := run_equalIn_bool' (P := P) w 9999 t a b hE
    unfold Op.equal Op.maxDepth
    rw [this]
    cases a <;> cases b <;> rfl
  | strct l =>
    obtain ⟨fs, hu, hl, k1, k2⟩ := hE
    cases x <;> cases y <;> simp only [eqA, nilEq] at e <;> first | (cases e; done) | skip
    cases r1 with
    | agg _ _ us l1 _ q1 =>
      cases r2 with
      | agg _ _ vs l2 _ q2 =>
        have hf : P.fieldsOf t = fs := by simp [Program.fieldsOf, hu]
        refine ⟨?_, fun op => run_eqGuard_agg w op t p q us vs k2, rfl, rfl⟩
        unfold Op.equal Op.maxDepth
        rw [run_equalIn_struct w 9999 t us vs (by rw [hf]; exact hu) k1, hf]
        exact cellsEq_run 9998 l1 l2 q1 q2 _ _ _ hl e w
  | ptr =>
    refine ⟨eqIn_nil hE (by cases x <;> cases y <;> simpa [eqA] using e) r1 r2 9999 w, fun op => ?_, ?_, ?_⟩
    all_goals (cases x <;> cases y <;> simp only [eqA, nilEq] at e <;> first | (cases e; done) | (cases r1; cases r2; first | rfl | (exact eqGuard_plain (by intro p q h; cases h) (by intro h; cases h) w)))
  | fnc =>
    refine ⟨eqIn_nil hE (by cases x <;> cases y <;> simpa [eqA] using e) r1 r2 9999 w, fun op => ?_, ?_, ?_⟩
    all_goals (cases x <;> cases y <;> simp only [eqA, nilEq] at e <;> first | (cases e; done) | (cases r1; cases r2; first | rfl | (exact eqGuard_plain (by intro p q h; cases h) (by intro h; cases h) w)))
  | mp =>
    refine ⟨eqIn_nil hE (by cases x <;> cases y <;> simpa [eqA] using e) r1 r2 9999 w, fun op => ?_, ?_, ?_⟩
    all_goals (cases x <;> cases y <;> simp only [eqA, nilEq] at e <;> first | (cases e; done) | (cases r1; cases r2; first | rfl | (exact eqGuard_plain (by intro p q h; cases h) (by intro h; cases h) w)))
  | ifc =>
    refine ⟨eqIn_nil hE (by cases x <;> cases y <;> simpa [eqA] using e) r1 r2 9999 w, fun op => ?_, ?_, ?_⟩
    all_goals (cases x <;> cases y <;> simp only [eqA, nilEq] at e <;> first | (cases e; done) | (cases r1; cases r2; first | rfl | exact eqGuard_nilif hE.2 w | (exact eqGuard_plain (by intro p q h; cases h) (by intro h h'; first | (cases h; done) | (cases h'; done)) w)))

theorem fine_bin (M : Sim h φ w S) (F : FRel h φ w S f a) {op : BinOp} {t t' : TypeId} {p q : Operand} {p' q' : Opnd} (ho : o.op = .binOp op t p q t') (e1 : cO p = some p') (e2 : cO q = some q') (he : binA op (cEq P t p q) (ev f p') (ev f q') = some x) : Fine P o a h φ w S x h := by
  have r1 := rel_ev F e1
  have r2 := rel_ev F e2
  have hplain : ∀ v, (∀ P' Q', a.eval p = .agg P' → a.eval q = .agg Q' → False) → (a.eval p = .nilIface → a.eval q = .nilIface → False) → (binOp op t (a.eval p) (a.eval q)).run P w = .ok v w → (execOp a.eval o).run P w = .ok (.value v) w := by
    intro v h1 h2 hr
    simp [execOp, ho, eqGuard_plain h1 h2 w, hr]
  unfold binA at he
  split at he
  · rename_i k n k' m hx hy
    rw [hx] at r1; rw [hy] at r2
    have u1 := rel_int_inv r1
    have u2 := rel_int_inv r2
    have fin : ∀ v, (binOp op t (.int k n) (.int k' m)).run P w = .ok v w → Rel h φ w S true x v → Fine P o a h φ w S x h := fun v hr r => fine_pure M (hplain v (by rw [u1]; intro _ _ h; cases h) (by rw [u1]; intro h; cases h) (by rw [u1, u2]; exact hr)) r
    split at he
    · obtain ⟨v, hr, r⟩ := run_shI (h := h) (φ := φ) (S := S) (P := P) (w := w) (k' := k') he t; exact fin v hr r
    · obtain ⟨v, hr, r⟩ := run_shI (h := h) (φ := φ) (S := S) (P := P) (w := w) (k' := k') he t; exact fin v hr r
    · split at he
      case isFalse => cases he
      rename_i hk
      subst hk
      obtain ⟨v, hr, r⟩ := run_binI (h := h) (φ := φ) (S := S) (P := P) (w := w) he t
      exact fin v hr r
  · rename_i n m hx hy
    rw [hx] at r1; rw [hy] at r2
    have u1 := rel_str_inv r1
    have u2 := rel_str_inv r2
    obtain ⟨v, hr, r⟩ := run_binS (h := h) (φ := φ) (S := S) (P := P) (w := w) he t
    exact fine_pure M (hplain v (by rw [u1]; intro _ _ h; cases h) (by rw [u1]; intro h; cases h) (by rw [u1, u2]; exact hr)) r
  · split at he
    · obtain ⟨b, hb, rfl⟩ := Option.map_eq_some_iff.1 he
      obtain ⟨k1, k2, k3, k4⟩ := run_eqA hb r1 r2
      exact fine_pure M (v := .bool b) (by simp [execOp, ho, k2, k3, k1]) (.bool _ _)
    · obtain ⟨b, hb, rfl⟩ := Option.map_eq_some_iff.1 he
      obtain ⟨k1, k2, k3, k4⟩ := run_eqA hb r1 r2
      exact fine_pure M (v := .bool !b) (by simp [execOp, ho, k2, k4, k1]) (.bool _ _)
    · cases he
end
end Go.Eng
