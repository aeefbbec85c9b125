/- The engine, part 10: plain operations: maps. -/
import Derived.Test.YtjljhmeadfejhaaE9
set_option linter.unusedVariables false
set_option linter.unusedSimpArgs false
namespace Go.Eng
section
variable {P : Program} {o : Oper} {a : Act} {h : List AO} {φ : Nat → Loc} {w : World} {S : Nat → Nat → Prop} {f : Fr} {x : AV} {h' : List AO}

/-- The kind of a map's keys. -/
def KeyIs (P : Program) (kt : TypeId) : Bool → Prop
  | false => ∃ k, P.underlying kt = some (.int k)
  | true => P.underlying kt = some .string

theorem run_checkKey' {kt : TypeId} {ks : Bool} (hk : KeyIs P kt ks) {k : AV} {v : Value} {m : Bool} (hi : isKey ks k = true) (r : Rel h φ w S m k v) (b : Bool) (n : Nat) (w' : World) : (Instr.checkKey b (n + 1) kt v).run P w' = .ok () w' := by
  cases k <;> cases ks <;> simp only [isKey] at hi <;> first | (cases hi; done) | skip
  · obtain ⟨q, hk⟩ := hk
    have u := rel_int_inv r
    subst u
    simp [Instr.checkKey, run_underlying hk]
  · have u := rel_str_inv r
    subst u
    have hk : P.underlying kt = some .string := hk
    simp [Instr.checkKey, run_underlying hk]

theorem sameNow_eq {kt : TypeId} {ks : Bool} {d : TypeDesc} (hk : KeyIs P kt ks) (hd : P.underlying kt = some d) {k a : AV} {v u : Value} {m m' : Bool} {b : Bool} (hi : isKey ks k = true) (r : Rel h φ w S m k v) (r' : Rel h φ w S m' a u) (e : keyEq k a = some b) :
    Instr.sameNow d v u = some b := by
  cases k <;> cases ks <;> simp only [isKey] at hi <;> first | (cases hi; done) | skip
  · obtain ⟨q, hk⟩ := hk
    rw [hd] at hk; injection hk with hk; subst hk
    have u1 := rel_int_inv r
    subst u1
    cases a <;> simp only [keyEq] at e <;> first | (cases e; done) | skip
    split at e
    case isFalse => cases e
    rename_i hkk
    subst hkk
    injection e with e; subst e
    have u2 := rel_int_inv r'
    subst u2
    simp [Instr.sameNow]
    rfl
  · have hk : P.underlying kt = some .string := hk
    rw [hd] at hk; injection hk with hk; subst hk
    have u1 := rel_str_inv r
    subst u1
    cases a <;> simp only [keyEq] at e <;> first | (cases e; done) | skip
    injection e with e; subst e
    have u2 := rel_str_inv r'
    subst u2
    simp [Instr.sameNow, beq_toListBytes, toList_beq]

/-- What was found. -/
def Found (h : List AO) (φ : Nat → Loc) (w : World) (S : Nat → Nat → Prop) : Option AV → Option (Nat × Value) → Prop
  | some v, some (_, u) => Rel h φ w S true v u
  | none, none => True
  | _, _ => False
theorem findA_run {kt : TypeId} {ks : Bool} {d : TypeDesc} (hk : KeyIs P kt ks) (hd : P.underlying kt = some d) {k : AV} {kv : Value} {m : Bool} (hi : isKey ks k = true) (r : Rel h φ w S m k kv) :
    ∀ (es : List (AV × AV)) (arr : List MapEntry) (i : Nat) (res : Option AV), es.length = arr.length → (∀ (j : Nat) x e, es[j]? = some x → arr[j]? = some e → Rel h φ w S false x.1 e.key ∧ Rel h φ w S true x.2 e.val) → findA k es = some res →
      ∃ res', Instr.findNow d kv arr i = some res' ∧ Found h φ w S res res'
  | [], arr, i, res, hl, hr, e => by
    injection e with e; subst e
    obtain rfl : arr = [] := List.eq_nil_of_length_eq_zero hl.symm
    exact ⟨none, rfl, trivial⟩
  | (a, v) :: es, arr, i, res, hl, hr, e => by
    cases arr with
    | nil => simp at hl
    | cons e0 arr =>
      have h0 := hr 0 (a, v) e0 rfl rfl
      simp only [findA] at e
      split at e
      · rename_i hke
        injection e with e; subst e
        exact ⟨some (i, e0.val), by simp [Instr.findNow, sameNow_eq hk hd hi r h0.1 hke], h0.2⟩
      · rename_i hke
        obtain ⟨res', k1, k2⟩ := findA_run hk hd hi r es arr (i + 1) res (by simpa using hl) (fun j x e hx he => hr (j + 1) x e (by simpa using hx) (by simpa using he)) e
        exact ⟨res', by simp [Instr.findNow, sameNow_eq hk hd hi r h0.1 hke, k1], k2⟩
      · cases e

theorem run_findKey' {kt : TypeId} {ks : Bool} (hk : KeyIs P kt ks) {k : AV} {kv : Value} {m : Bool} (hi : isKey ks k = true) (r : Rel h φ w S m k kv) {es : List (AV × AV)} {arr : List MapEntry} {res : Option AV} (hl : es.length = arr.length)
    (hr : ∀ (j : Nat) x e, es[j]? = some x → arr[j]? = some e → Rel h φ w S false x.1 e.key ∧ Rel h φ w S true x.2 e.val) (e : findA k es = some res) (w' : World) :
    ∃ res', (Instr.findKey kt kv arr).run P w' = .ok res' w' ∧ Found h φ w S res res' := by
  obtain ⟨d, hd⟩ : ∃ d, P.underlying kt = some d := by
    cases ks with
    | false => obtain ⟨q, hk⟩ := hk; exact ⟨_, hk⟩
    | true => exact ⟨_, hk⟩
  obtain ⟨res', k1, k2⟩ := findA_run hk hd hi r es arr 0 res hl hr e
  exact ⟨res', by simp [Instr.findKey, run_underlying hd, k1], k2⟩

theorem fine_lookup (M : Sim h φ w S) (F : FRel h φ w S f a) {t kt e : TypeId} {ks ok : Bool} {y q : Operand} {p k : Opnd} {z : AV} (ho : o.op = .lookup t y q ok) (hu : P.underlying t = some (.map kt e)) (hk : KeyIs P kt ks) (hz : zeroV P e = some z) (e1 : cO y = some p) (e2 : cO q = some k)
    (he : evP f h (.lookup ks z ok p k) = some (x, h')) : Fine P o a h φ w S x h' := by
  have r := rel_ev F e1
  have r2 := rel_ev F e2
  obtain ⟨zv, hz1, hz2⟩ := zeroV_inv hz
  simp only [evP] at he
  split at he
  case isFalse => cases he
  rename_i hi
  have fin : ∀ (u : Value) (y' : AV) (b : Bool), Rel h φ w S true y' u → (Instr.lookup t (a.eval y) (a.eval q) ok).run P w = .ok (if ok then .tuple #[u, .bool b] else u) w → Fine P o a h φ w S (if ok then .tup [y', .bool b] else y') h := by
    intro u y' b hr hrun
    refine fine_pure M (v := if ok then .tuple #[u, .bool b] else u) (by simp [execOp, ho, hrun]) ?_
    cases ok
    · exact hr
    · exact rel_tup2 hr (.bool _ _)
  split at he
  · rename_i hx
    rw [hx] at r
    injection he with he; injection he with h1 h2; subst h1 h2
    generalize hv : a.eval y = v at r
    cases r
    refine fin zv z false (hz2 _ _ _ _ _) ?_
    have hc := run_checkKey' (P := P) hk hi r2 true 9999 w
    obtain ⟨res', k1, k2⟩ := run_findKey' (P := P) (arr := []) hk hi r2 (es := []) (res := none) rfl (fun j x e hx => by simp at hx) rfl w
    cases res' with
    | none => simp [Instr.lookup, run_underlying hu, hv, hc, k1, hz1]
    | some pr => exact k2.elim
  · rename_i i hx
    rw [hx] at r
    split at he
    case h_2 => cases he
    rename_i es hes
    generalize hv : a.eval y = v at r
    cases r with
    | map _ hi' =>
      obtain ⟨arr, clock, k1, k2, k3, k4⟩ := M.obj i _ hes
      have hc := fun b => run_checkKey' (P := P) hk hi r2 b 9999 w
      have hg := MapKept.run_getObj_map (P := P) k1
      have hl : es.length = arr.toList.length := by simpa using k2
      have hr : ∀ (j : Nat) x e, es[j]? = some x → arr.toList[j]? = some e → Rel h φ w S false x.1 e.key ∧ Rel h φ w S true x.2 e.val := fun j x e hx he => k3 j x e hx (by simpa using he)
      split at he
      · rename_i v' hf
        injection he with he; injection he with h1 h2; subst h1 h2
        obtain ⟨res', q1, q2⟩ := run_findKey' (P := P) hk hi r2 hl hr hf w
        cases res' with
        | none => exact q2.elim
        | some pr =>
          refine fin pr.2 v' true q2 ?_
          simp [Instr.lookup, run_underlying hu, hv, hg, hc, q1]
      · rename_i hf
        injection he with he; injection he with h1 h2; subst h1 h2
        obtain ⟨res', q1, q2⟩ := run_findKey' (P := P) hk hi r2 hl hr hf w
        cases res' with
        | some pr => exact q2.elim
        | none =>
          refine fin zv z false (hz2 _ _ _ _ _) ?_
          simp [Instr.lookup, run_underlying hu, hv, hg, hc, q1, hz1]
      · cases he
  · cases he

theorem fine_mkmap (M : Sim h φ w S) {t : TypeId} (ho : o.op = .makeMap t none) : Fine P o a h φ w S (.map h.length) (h ++ [.map []]) := by
  have st := push_step M (.map []) (.map #[] 0) 0 S (fun _ _ k => k) (fun _ _ k => .inl k)
  have E := st.ext M (by simp)
  refine ⟨.map (some w.heap.size), w.alloc (.map #[] 0), _, _, .inl ?_, st.sim M (by simp) ⟨#[], 0, ?_, rfl, fun j x e hx => by simp at hx, fun j hj => ?_⟩, E, ?_⟩
  · simp [execOp, ho, Instr.makeMap]
  · simp only [updφ_same]; show (w.heap.push _)[w.heap.size]? = _; simp
  · simp only [updφ_same] at hj
    exact absurd (M.stab _ _ hj) (Nat.lt_irrefl _)
  · have := Rel.map (h := h ++ [.map []]) (φ := updφ φ h.length ⟨w.heap.size, 0⟩) (w := w.alloc (.map #[] 0)) (S := S) h.length ⟨.map [], by simp, rfl⟩
    simpa using this

theorem key_false {ks : Bool} {k : AV} {v : Value} (hi : isKey ks k = true) (r : Rel h φ w S true k v) : Rel h φ w S false k v := by
  cases k <;> cases ks <;> simp only [isKey] at hi <;> first | (cases hi; done) | skip
  · rw [rel_int_inv r]; exact .int _ _ _
  · rw [rel_str_inv r]; exact .str _ _
theorem keyEq_true {ks : Bool} {k a : AV} {u v : Value} {m m' : Bool} (hi : isKey ks k = true) (e : keyEq k a = some true) (r : Rel h φ w S m k v) (r' : Rel h φ w S m' a u) : a = k ∧ u = v ∧ Instr.sameBits 10000 u v = true := by
  cases k <;> cases ks <;> simp only [isKey] at hi <;> first | (cases hi; done) | skip
  · cases a <;> simp only [keyEq] at e <;> first | (cases e; done) | skip
    split at e
    case isFalse => cases e
    rename_i hkk
    subst hkk
    simp only [Option.some.injEq, decide_eq_true_eq] at e
    subst e
    rw [rel_int_inv r, rel_int_inv r']
    exact ⟨rfl, rfl, by simp [Instr.sameBits]⟩
  · cases a <;> simp only [keyEq] at e <;> first | (cases e; done) | skip
    simp only [Option.some.injEq, decide_eq_true_eq] at e
    subst e
    rw [rel_str_inv r, rel_str_inv r']
    exact ⟨rfl, rfl, by simp [Instr.sameBits, beq_toListBytes]⟩

theorem updA_run {kt : TypeId} {ks : Bool} {d : TypeDesc} (hk : KeyIs P kt ks) (hd : P.underlying kt = some d) {k v : AV} {kv vv : Value} (hi : isKey ks k = true) (r : Rel h φ w S true k kv) (rv : Rel h φ w S true v vv) :
    ∀ (es : List (AV × AV)) (arr : List MapEntry) (i : Nat) (es' : List (AV × AV)), es.length = arr.length → (∀ (j : Nat) x e, es[j]? = some x → arr[j]? = some e → Rel h φ w S false x.1 e.key ∧ Rel h φ w S true x.2 e.val) → updA k v es = some es' →
      (∃ j u, Instr.findNow d kv arr i = some (some (i + j, u)) ∧ (∃ e0, arr[j]? = some e0 ∧ Instr.sameBits 10000 e0.key kv = true ∧ es'.length = arr.length ∧
        ∀ (n : Nat) x e, es'[n]? = some x → (arr.modify j fun e => { e with key := kv, val := vv })[n]? = some e → Rel h φ w S false x.1 e.key ∧ Rel h φ w S true x.2 e.val)) ∨
      (Instr.findNow d kv arr i = some none ∧ es' = es ++ [(k, v)])
  | [], arr, i, es', hl, hr, e => by
    injection e with e; subst e
    obtain rfl : arr = [] := List.eq_nil_of_length_eq_zero hl.symm
    exact .inr ⟨rfl, rfl⟩
  | (a, u) :: es, arr, i, es', hl, hr, e => by
    cases arr with
    | nil => simp at hl
    | cons e0 arr =>
      have h0 := hr 0 (a, u) e0 rfl rfl
      simp only [updA] at e
      split at e
      · rename_i hke
        injection e with e; subst e
        obtain ⟨ha, hu, hs⟩ := keyEq_true hi hke r h0.1
        refine .inl ⟨0, e0.val, by simp [Instr.findNow, sameNow_eq hk hd hi r h0.1 hke], e0, rfl, hs, by simpa using hl, fun n x e hx he => ?_⟩
        cases n with
        | zero =>
          simp at hx he
          subst hx he
          exact ⟨key_false hi r, rv⟩
        | succ n =>
          simp at hx he
          exact hr (n + 1) x e (by simpa using hx) (by simpa using he)
      · rename_i hke
        obtain ⟨es1, he1, rfl⟩ := Option.map_eq_some_iff.1 e
        rcases updA_run hk hd hi r rv es arr (i + 1) es1 (by simpa using hl) (fun j x e hx he => hr (j + 1) x e (by simpa using hx) (by simpa using he)) he1 with ⟨j, u', k1, e1, k2, k3, k4, k5⟩ | ⟨k1, k2⟩
        · refine .inl ⟨j + 1, u', by simp [Instr.findNow, sameNow_eq hk hd hi r h0.1 hke, k1]; omega, e1, by simpa using k2, k3, by simp [k4], fun n x e hx he => ?_⟩
          cases n with
          | zero =>
            simp at hx he
            subst hx he
            exact h0
          | succ n =>
            simp at hx he
            exact k5 n x e (by simpa using hx) (by simpa using he)
        · exact .inr ⟨by simp [Instr.findNow, sameNow_eq hk hd hi r h0.1 hke, k1], by simp [k2]⟩
      · cases e

theorem fine_mupd (M : Sim h φ w S) (F : FRel h φ w S f a) {t kt e : TypeId} {ks : Bool} {y q r : Operand} {p k v : Opnd} (ho : o.op = .mapUpdate t y q r ∨ o.op = .insert t y q r) (hu : P.underlying t = some (.map kt e)) (hk : KeyIs P kt ks) (e1 : cO y = some p) (e2 : cO q = some k) (e3 : cO r = some v)
    (he : evP f h (.mupd ks p k v) = some (x, h')) : Fine P o a h φ w S x h' := by
  have r1 := rel_ev F e1
  have r2 := rel_ev F e2
  have r3 := rel_ev F e3
  simp only [evP] at he
  split at he
  case isFalse => cases he
  rename_i hi
  split at he
  case h_2 => cases he
  rename_i i hx
  rw [hx] at r1
  split at he
  case h_2 => cases he
  rename_i es hes
  obtain ⟨es', hes', he⟩ := Option.map_eq_some_iff.1 he
  injection he with h1 h2; subst h1 h2
  generalize hv : a.eval y = vm at r1
  cases r1 with
  | map _ hi' =>
    obtain ⟨arr, clock, k1, k2, k3, k4⟩ := M.obj i _ hes
    obtain ⟨d, hd⟩ : ∃ d, P.underlying kt = some d := by
      cases ks with
      | false => obtain ⟨q, hk⟩ := hk; exact ⟨_, hk⟩
      | true => exact ⟨_, hk⟩
    have hc := fun b => run_checkKey' (P := P) hk hi r2 b 9999 w
    have hg := MapKept.run_getObj_map (P := P) k1
    have hset := fun o => MapKept.run_setObj_map (P := P) o k1
    have hrel : ∀ (j : Nat) x e, es[j]? = some x → arr.toList[j]? = some e → Rel h φ w S false x.1 e.key ∧ Rel h φ w S true x.2 e.val := fun j x e hx he => k3 j x e hx (by simpa using he)
    have hup := updA_run (P := P) hk hd hi r2 r3 es arr.toList 0 es' (by simpa using k2) hrel hes'
    have fin : ∀ (arr' : Array MapEntry) (clock' : Nat), es'.length = arr'.size → (∀ (n : Nat) x e, es'[n]? = some x → arr'[n]? = some e → Rel h φ w S false x.1 e.key ∧ Rel h φ w S true x.2 e.val) →
        (Instr.mapUpdate t (a.eval y) (a.eval q) (a.eval r)).run P w = .ok () { w with heap := w.heap.setIfInBounds (φ i).blk (.map arr' clock') } → Fine P o a h φ w S .undef (h.set i (.map es')) := by
      intro arr' clock' l1 l2 hrun
      have st := turn_step M (o' := .map es') hes rfl rfl rfl k4 (w' := { w with heap := w.heap.setIfInBounds (φ i).blk (.map arr' clock') })
        (fun b hb' => by simp only [Array.getElem?_setIfInBounds]; rw [if_neg (fun e => hb' e.symm)]) (by simp) rfl rfl rfl
      have E := st.ext M (by simp)
      refine ⟨undef, _, _, _, .inr ⟨?_, rfl⟩, st.sim M (by simp) ⟨arr', clock', ?_, l1, fun n x e hx he => ⟨(l2 n x e hx he).1.mono E, (l2 n x e hx he).2.mono E⟩, k4⟩, E, .undef _ _⟩
      · rcases ho with ho | ho <;> simp [execOp, ho, hrun]
      · have hlt := (Array.getElem?_eq_some_iff.1 k1).1
        simp [Array.getElem?_setIfInBounds, hlt]
    rcases hup with ⟨j, u, q1, e0, q2, q3, q4, q5⟩ | ⟨q1, q2⟩
    · rw [Nat.zero_add] at q1
      have hkey : (((arr[j]?).map (·.key)).getD (a.eval q)) = e0.key := by
        have : arr[j]? = some e0 := by simpa using q2
        simp [this]
      refine fin (arr.modify j fun e => { e with key := a.eval q, val := a.eval r }) clock (by simpa using q4) (fun n x e hx he1 => q5 n x e hx (by rw [← Array.getElem?_toList, Array.toList_modify] at he1; exact he1)) ?_
      simp only [Instr.mapUpdate, Sem.run_bind, run_underlying hu, Result.andThen_ok, hv, hg, hc, Instr.findKey, run_underlying hd, q1, Sem.run_pure, hkey, Instr.keyThatStays, q3, if_true, hset]
    · refine fin (arr.push { key := a.eval q, val := a.eval r, born := clock }) (clock + 1) (by rw [q2]; simp [k2]) (fun n x e hx he1 => ?_) ?_
      · subst q2
        rw [List.getElem?_append] at hx
        rw [Array.getElem?_push] at he1
        split at hx
        · rename_i hlt
          rw [if_neg (by omega)] at he1
          exact k3 n x e hx he1
        · rename_i hge
          have hn : n = es.length := by
            have := (List.getElem?_eq_some_iff.1 hx).1
            simp at this; omega
          subst hn
          rw [if_pos k2] at he1
          simp at hx he1
          subst hx he1
          exact ⟨key_false hi r2, r3⟩
      · simp only [Instr.mapUpdate, Sem.run_bind, run_underlying hu, Result.andThen_ok, hv, hg, hc, Instr.findKey, run_underlying hd, q1, Sem.run_pure, hset]
end
end Go.Eng
