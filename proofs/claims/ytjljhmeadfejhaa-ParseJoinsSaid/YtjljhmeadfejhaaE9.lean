/- The engine, part 9: plain operations: texts, maps, interfaces, functions, tuples. -/
import Derived.Test.YtjljhmeadfejhaaE8
set_option linter.unusedVariables false
set_option linter.unusedSimpArgs false
namespace Go.Eng
section
variable {P : Program} {o : Oper} {a : Act} {h : List AO} {φ : Nat → Loc} {w : World} {S : Nat → Nat → Prop} {f : Fr} {x : AV} {h' : List AO}

theorem fine_iaA (M : Sim h φ w S) (F : FRel h φ w S f a) {t e : TypeId} {y z : Operand} {p q : Opnd} {sz len : Nat} (ho : o.op = .indexAddr t y z) (hu : P.underlying t = some (.array len e)) (es : szOf P e = some sz) (e1 : cO y = some p) (e2 : cO z = some q)
    (he : evP f h (.iaA len sz p q) = some (x, h')) : Fine P o a h φ w S x h' := by
  have r := rel_ev F e1
  have r2 := rel_ev F e2
  obtain ⟨ti, hti, hsz⟩ := szOf_inv es
  have hrun : ∀ ad k (n : Int), a.eval y = .pointer (some ad) → a.eval z = .int k n → 0 ≤ n ∧ n < len → (execOp a.eval o).run P w = .ok (.value (.pointer (some (ad.add (n.toNat * sz))))) w := by
    intro ad k n hv hz h0
    simp [execOp, ho, Instr.indexAt, hz, asIntOf, run_underlying hu, hv, Instr.sureAddr, h0, Go.sizeOf, typeInfo, hti, hsz]
  simp only [evP] at he
  split at he
  · rename_i b off k n hx hq
    rw [hx] at r; rw [hq] at r2
    have u2 := rel_int_inv r2
    split at he
    case isFalse => cases he
    rename_i h0
    injection he with he; injection he with h1 h2; subst h1 h2
    generalize hv : a.eval y = v at r
    cases r with
    | ptr _ _ hi =>
      refine fine_pure M (hrun _ _ _ hv u2 h0) ?_
      rw [Addr.add_lit]
      exact .ptr _ _ hi
  · rename_i cs k n hx hq
    rw [hx] at r; rw [hq] at r2
    have u2 := rel_int_inv r2
    split at he
    case isFalse => cases he
    rename_i h0
    injection he with he; injection he with h1 h2; subst h1 h2
    generalize hv : a.eval y = v at r
    cases r with
    | rptr _ _ ad g hc hr =>
      refine fine_pure M (hrun _ _ _ hv u2 h0) (.rptr _ _ _ (fun j => g (n.toNat * sz + j)) (fun j y hy => ?_) (fun j y hy => ?_))
      · rw [List.getElem?_drop] at hy
        obtain ⟨k1, k2, k3⟩ := hc _ y hy
        rw [add_add, add_block, add_off]
        exact ⟨k1, k2, by rw [Nat.add_assoc]; exact k3⟩
      · rw [List.getElem?_drop] at hy
        exact hr _ y hy
  · cases he

theorem fine_ixS (M : Sim h φ w S) (F : FRel h φ w S f a) {t : TypeId} {y z : Operand} {p q : Opnd} (ho : o.op = .index t y z) (hu : P.underlying t = some .string) (e1 : cO y = some p) (e2 : cO z = some q)
    (he : evP f h (.ixS p q) = some (x, h')) : Fine P o a h φ w S x h' := by
  have r := rel_ev F e1
  have r2 := rel_ev F e2
  simp only [evP] at he
  split at he
  case h_2 => cases he
  rename_i s k n hx hq
  rw [hx] at r; rw [hq] at r2
  have u1 := rel_str_inv r
  have u2 := rel_int_inv r2
  split at he
  case isFalse => cases he
  rename_i h0
  obtain ⟨b, hb, he⟩ := Option.map_eq_some_iff.1 he
  injection he with h1 h2; subst h1 h2
  have hlt : n.toNat < s.size := by
    have := (List.getElem?_eq_some_iff.1 hb).1
    rw [Array.length_toList] at this
    exact this
  have hb' : s[n.toNat]? = some b := by
    rw [getElem?_pos s n.toNat hlt]
    have := (List.getElem?_eq_some_iff.1 hb).2
    rw [← this]
    simp [ByteArray.getElem_eq_getElem_data]
  exact fine_pure M (by simp [execOp, ho, Instr.index, u2, asIntOf, run_underlying hu, u1, h0, hb']) (.int _ _ _)

theorem fine_ixA (M : Sim h φ w S) (F : FRel h φ w S f a) {t e : TypeId} {len : Nat} {y z : Operand} {p q : Opnd} (ho : o.op = .index t y z) (hu : P.underlying t = some (.array len e)) (ek : aggK P e = some none) (es : szOf P e = some 1) (e1 : cO y = some p) (e2 : cO z = some q)
    (he : evP f h (.ixA len p q) = some (x, h')) : Fine P o a h φ w S x h' := by
  have r := rel_ev F e1
  have r2 := rel_ev F e2
  obtain ⟨ti, hti, hsz⟩ := szOf_inv es
  simp only [evP] at he
  split at he
  case h_2 => cases he
  rename_i cs k n hx hq
  rw [hx] at r; rw [hq] at r2
  have u2 := rel_int_inv r2
  split at he
  case isFalse => cases he
  rename_i h0
  obtain ⟨b, hb, he⟩ := Option.map_eq_some_iff.1 he
  injection he with h1 h2; subst h1 h2
  generalize hv : a.eval y = v at r
  cases r with
  | agg _ _ vs l h1 g =>
    have hlt : n.toNat < cs.length := (List.getElem?_eq_some_iff.1 hb).1
    obtain ⟨u, k1, k2⟩ := run_part (P := P) (w := w) (off := n.toNat) ek l h1 g (by omega) (show loadA none (cs.drop n.toNat) = some b by simp [loadA, hb])
    exact fine_pure M (by simp [execOp, ho, Instr.index, u2, asIntOf, run_underlying hu, hv, h0, Go.sizeOf, typeInfo, hti, hsz, k1]) k2

theorem fine_mkif (M : Sim h φ w S) (F : FRel h φ w S f a) {t : TypeId} {y : Operand} {p : Opnd} {d : TypeDesc} (ho : o.op = .makeInterface t y) (hu : P.underlying t = some d) (hd : ∀ q, d ≠ .interface q) (e : cO y = some p) : Fine P o a h φ w S (.iface t (ev f p)) h := by
  refine fine_pure M (v := .iface t (a.eval y)) ?_ (.iface _ _ _ _ (rel_ev F e))
  simp only [execOp, ho, Instr.makeInterface, Sem.run_bind, run_underlying hu, Result.andThen_ok]
  cases d <;> first | rfl | exact absurd rfl (hd _)

theorem rel_evL (F : FRel h φ w S f a) : ∀ {ys : List Operand} {ps : List Opnd}, cOL ys = some ps → ps.length = ys.length ∧ ∀ (j : Nat) (x : AV) (v : Value), (ps.map (ev f))[j]? = some x → (ys.map a.eval)[j]? = some v → Rel h φ w S true x v
  | [], ps, e => by
    injection e with e
    subst e
    exact ⟨rfl, fun j x v hx => by simp at hx⟩
  | y :: ys, ps, e => by
    simp only [cOL, Option.bind_eq_some_iff, Option.map_eq_some_iff] at e
    obtain ⟨p, hp, ps', hps, rfl⟩ := e
    obtain ⟨k1, k2⟩ := rel_evL F hps
    refine ⟨by simp [k1], fun j x v hx hv => ?_⟩
    cases j with
    | zero => simp at hx hv; subst hx hv; exact rel_ev F hp
    | succ j => exact k2 j x v (by simpa using hx) (by simpa using hv)

theorem fine_mkfn (M : Sim h φ w S) (F : FRel h φ w S f a) {g : FuncId} {fs cs : Array Operand} {ps qs : List Opnd} (ho : o.op = .makeFunc (.func g) fs cs) (e1 : cOL fs.toList = some ps) (e2 : cOL cs.toList = some qs) : Fine P o a h φ w S (.fn g (ps.map (ev f)) (qs.map (ev f))) h := by
  obtain ⟨k1, k2⟩ := rel_evL F e1
  obtain ⟨k3, k4⟩ := rel_evL F e2
  refine fine_pure M (v := .func (.func g) (fs.map a.eval) (cs.map a.eval)) (by simp [execOp, ho, Instr.makeFunc]) (.fn _ _ _ _ _ _ (by simpa using k1) (by simpa using k3) (fun j x v hx hv => k2 j x v hx (by simpa using hv)) (fun j x v hx hv => k4 j x v hx (by simpa using hv)))

theorem fine_ext (M : Sim h φ w S) (F : FRel h φ w S f a) {y : Operand} {p : Opnd} {i : Nat} (ho : o.op = .extract y i) (e : cO y = some p) (he : evP f h (.ext i p) = some (x, h')) : Fine P o a h φ w S x h' := by
  have r := rel_ev F e
  simp only [evP] at he
  split at he
  case h_2 => cases he
  rename_i xs hx
  rw [hx] at r
  obtain ⟨b, hb, he⟩ := Option.map_eq_some_iff.1 he
  injection he with h1 h2; subst h1 h2
  generalize hv : a.eval y = v at r
  cases r with
  | tup _ _ vs l g =>
    have hlt : i < vs.size := by rw [← l]; exact (List.getElem?_eq_some_iff.1 hb).1
    exact fine_pure M (v := vs[i]) (by simp [execOp, ho, Instr.extract, hv, hlt]) (g i b _ hb (by simp [hlt]))

theorem fine_lenS (M : Sim h φ w S) (F : FRel h φ w S f a) {c : Call} {t : TypeId} {y : Operand} {p : Opnd} (ho : o.op = .call c) (hc : c.callee = .builtin .len) (ht : c.argTypes[0]? = some t) (ha : c.args[0]? = some y) (hu : P.underlying t = some .string) (e : cO y = some p) (he : evP f h (.lenS p) = some (x, h')) :
    Fine P o a h φ w S x h' := by
  have r := rel_ev F e
  simp only [evP] at he
  split at he
  case h_2 => cases he
  rename_i s hx
  rw [hx] at r
  have u := rel_str_inv r
  injection he with he; injection he with h1 h2; subst h1 h2
  exact fine_pure M (by simp [execOp, ho, resolve, hc, invoke, builtin, Builtin.len_, ht, ha, run_underlying hu, u, goInt]) (.int _ _ _)

theorem fine_lenL (M : Sim h φ w S) (F : FRel h φ w S f a) {c : Call} {t e : TypeId} {y : Operand} {p : Opnd} (ho : o.op = .call c) (hc : c.callee = .builtin .len) (ht : c.argTypes[0]? = some t) (ha : c.args[0]? = some y) (hu : P.underlying t = some (.slice e)) (e1 : cO y = some p) (he : evP f h (.lenL p) = some (x, h')) :
    Fine P o a h φ w S x h' := by
  have r := rel_ev F e1
  simp only [evP] at he
  obtain ⟨n, hn, he⟩ := Option.map_eq_some_iff.1 he
  injection he with h1 h2; subst h1 h2
  have key : ∃ A c, a.eval y = .slice A n c := by
    unfold lenA at hn
    split at hn
    · rename_i hx
      rw [hx] at r
      injection hn with hn
      subst hn
      generalize hv : a.eval y = v at r
      cases r
      exact ⟨_, _, rfl⟩
    · obtain ⟨es, hes, rfl⟩ := Option.map_eq_some_iff.1 hn
      obtain ⟨A, c, hv, _⟩ := rel_elems hes r
      exact ⟨A, c, hv⟩
  obtain ⟨A, cp, hv⟩ := key
  exact fine_pure M (by simp [execOp, ho, resolve, hc, invoke, builtin, Builtin.len_, ht, ha, run_underlying hu, hv, goInt]) (.int _ _ _)

theorem fine_conv (M : Sim h φ w S) (F : FRel h φ w S f a) {s d : TypeId} {k k' : IntKind} {y : Operand} {p : Opnd} (ho : o.op = .convert s d y) (hu : P.underlying s = some (.int k')) (hu2 : P.underlying d = some (.int k)) (e : cO y = some p) (he : evP f h (.conv k p) = some (x, h')) : Fine P o a h φ w S x h' := by
  have r := rel_ev F e
  simp only [evP] at he
  split at he
  case h_2 => cases he
  rename_i q n hx
  rw [hx] at r
  have u := rel_int_inv r
  injection he with he; injection he with h1 h2; subst h1 h2
  exact fine_pure M (by simp [execOp, ho, convert, run_underlying hu, run_underlying hu2, u, Conv.intToInt]) (.int _ _ _)

theorem fine_nop (M : Sim h φ w S) (F : FRel h φ w S f a) {s d : TypeId} {y : Operand} {p : Opnd} (ho : o.op = .convert s d y) (hu : P.underlying s = some .string) (hu2 : P.underlying d = some .string) (e : cO y = some p) (he : evP f h (.nop p) = some (x, h')) : Fine P o a h φ w S x h' := by
  have r := rel_ev F e
  simp only [evP] at he
  split at he
  case h_2 => cases he
  rename_i n hx
  rw [hx] at r
  have u := rel_str_inv r
  injection he with he; injection he with h1 h2; subst h1 h2
  exact fine_pure M (by simp [execOp, ho, convert, run_underlying hu, run_underlying hu2, u]) (.str _ _)

theorem zeroV_inv {t : TypeId} {z : AV} (e : zeroV P t = some z) : ∃ v, (∀ w', (zeroValue t).run P w' = .ok v w') ∧ ∀ m : Bool, ∀ (h : List AO) (φ : Nat → Loc) (w : World) (S : Nat → Nat → Prop), Rel h φ w S m z v := by
  unfold zeroV at e
  split at e
  case h_2 => cases e
  rename_i i hi
  split at e
  case h_2 => cases e
  rename_i v hv
  exact ⟨v, fun w' => by simp [zeroValue, typeInfo, hi, hv], fun m h φ w S => rel_cv e m⟩

theorem rel_tup2 {x y : AV} {u v : Value} (r1 : Rel h φ w S true x u) (r2 : Rel h φ w S true y v) : Rel h φ w S true (.tup [x, y]) (.tuple #[u, v]) := by
  refine .tup _ _ _ rfl (fun j z q hz hq => ?_)
  match j with
  | 0 => simp at hz hq; subst hz hq; exact r1
  | 1 => simp at hz hq; subst hz hq; exact r2
  | j + 2 => simp at hz

theorem fine_tas (M : Sim h φ w S) (F : FRel h φ w S f a) {t t0 : TypeId} {y : Operand} {p : Opnd} {z : AV} {d : TypeDesc} (ho : o.op = .typeAssert y t0 t true) (hu : P.underlying t = some d) (hd : ∀ q, d ≠ .interface q) (hz : zeroV P t = some z) (e : cO y = some p) (he : evP f h (.tas t z p) = some (x, h')) : Fine P o a h φ w S x h' := by
  have r := rel_ev F e
  obtain ⟨zv, hz1, hz2⟩ := zeroV_inv hz
  simp only [evP] at he
  split at he
  · rename_i t1 y1 hx
    rw [hx] at r
    injection he with he; injection he with h1 h2; subst h1 h2
    generalize hv : a.eval y = v at r
    cases r with
    | iface _ _ _ v' r' =>
      by_cases ht : t1 = t
      · subst ht
        refine fine_pure M (v := .tuple #[v', .bool true]) ?_ (by rw [if_pos rfl]; exact rel_tup2 r' (.bool _ _))
        simp only [execOp, ho, Instr.typeAssert, hv, Sem.run_bind, run_underlying hu, Result.andThen_ok]
        cases d <;> first | exact absurd rfl (hd _) | simp
      · refine fine_pure M (v := .tuple #[zv, .bool false]) ?_ (by rw [if_neg ht]; exact rel_tup2 (hz2 _ _ _ _ _) (.bool _ _))
        simp only [execOp, ho, Instr.typeAssert, hv, Sem.run_bind, run_underlying hu, Result.andThen_ok]
        cases d <;> first | exact absurd rfl (hd _) | simp [ht, hz1]
  · rename_i hx
    rw [hx] at r
    injection he with he; injection he with h1 h2; subst h1 h2
    generalize hv : a.eval y = v at r
    cases r
    refine fine_pure M (v := .tuple #[zv, .bool false]) ?_ (rel_tup2 (hz2 _ _ _ _ _) (.bool _ _))
    simp only [execOp, ho, Instr.typeAssert, hv, Sem.run_bind, run_underlying hu, Result.andThen_ok]
    cases d <;> first | exact absurd rfl (hd _) | simp [hz1]
  · cases he
end
end Go.Eng
