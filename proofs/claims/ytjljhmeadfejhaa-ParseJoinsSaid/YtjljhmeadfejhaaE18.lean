/- The engine, part 18: regions whose order is drawn. -/
import Derived.Test.YtjljhmeadfejhaaE17
set_option linter.unusedVariables false
set_option linter.unusedSimpArgs false
namespace Go.Eng

/-- What the checker of a drawn region has seen. -/
structure Drawn (P : Program) (N : Nat) (ops : Array Oper) (aops : List AOper) (re : List (Nat × Nat)) (pre : Nat → Nat → Prop) : Prop where
  size : aops.length = ops.size
  opc : ∀ (j : Nat) (ao : AOper) (o : Oper), aops[j]? = some ao → ops[j]? = some o → OpC P N ops o ao
  back : ∀ (i : Nat) (o : Oper), ops[i]? = some o → ∀ e ∈ o.after, Region.binds .any e = true → e.on < i
  pre_ok : ∀ (listed : Nat → Bool), (∀ (i : Nat) (o : Oper), ops[i]? = some o → listed i = true → ∀ e ∈ o.after, Region.binds .any e = true → listed e.on = true) → ∀ i j, pre i j → listed i = true → listed j = true
  pre_ready : ∀ (listed : Nat → Bool), (∀ (i : Nat) (o : Oper), ops[i]? = some o → listed i = true → ∀ e ∈ o.after, Region.binds .any e = true → listed e.on = true) → ∀ i o, ops[i]? = some o → (∀ e ∈ o.after, Region.binds .any e = true → listed e.on = true) → ∀ j, pre i j → listed j = true
  dist : ∀ (i j : Nat) (x y : AOper) (t : Nat), aops[i]? = some x → aops[j]? = some y → x.dst = some t → y.dst = some t → i = j
  reads : ∀ (i p : Nat) (x y : AOper) (t : Nat), aops[i]? = some x → aops[p]? = some y → t ∈ x.uses → y.dst = some t → p = i ∨ (p < i ∧ pre i p) ∨ (i < p ∧ pre p i)
  effs : ∀ (i j : Nat) (x y : AOper), i < j → aops[i]? = some x → aops[j]? = some y → x.op.eff = true → y.op.eff = true → pre j i ∨ ∃ zs, y.op = .pl (.alloc zs) ∧ y.guard = none
  ear : ∀ (i p k : Nat) (x y z : AOper) (t : Nat), aops[i]? = some x → aops[p]? = some y → aops[k]? = some z → k < p → t ∈ x.uses → y.dst = some t → y.op.eff = true → z.op.eff = true → pre p k ∨ x.op.eff = true ∨ pre i k
  pairs : ∀ (i k : Nat) (x y : AOper), aops[i]? = some x → aops[k]? = some y → x.op.eff = false → x.op.rd = true → y.op.eff = true → (i, k) ∈ re ∨ (k < i ∧ pre i k) ∨ (i < k ∧ pre k i)

/-- A box that was made ahead of its turn. -/
def Early (w0 : World) (h : List AO) (φ : Nat → Loc) (w : World) (S : Nat → Nat → Prop) (zs : List AV) (b : Nat) : Prop :=
  w0.heap.size ≤ b ∧ (∃ (arr : Array Value) (T : TypeId), w.heap[b]? = some (.cells arr T (0, 0)) ∧ zs.length = arr.size ∧ (∀ (j : Nat) (y : AV), zs[j]? = some y → y.one = true) ∧
    ∀ h φ w S (j : Nat) (y : AV) (u : Value), zs[j]? = some y → arr[j]? = some u → Rel h φ w S true y u) ∧ (∀ j, ¬ S b j) ∧ ∀ (i : Nat) (o : AO), h[i]? = some o → o.isDead = false → (φ i).blk ≠ b
theorem Early.lt {w0 : World} {h : List AO} {φ : Nat → Loc} {w : World} {S : Nat → Nat → Prop} {zs : List AV} {b : Nat} (e : Early w0 h φ w S zs b) : b < w.heap.size := by
  obtain ⟨_, ⟨arr, T, k, _⟩, _⟩ := e
  exact (Array.getElem?_eq_some_iff.1 k).1
theorem Early.mono {w0 : World} {h h' : List AO} {φ φ' : Nat → Loc} {w w' : World} {S S' : Nat → Nat → Prop} {zs : List AV} {b : Nat} (E : Ext h φ w S h' φ' w' S') (e : Early w0 h φ w S zs b) : Early w0 h' φ' w' S' zs b := by
  have hlt := e.lt
  obtain ⟨e1, ⟨arr, T, k1, k2⟩, e3, e4⟩ := e
  refine ⟨e1, ⟨arr, T, (E.frame b hlt e4).trans k1, k2⟩, fun j hj => ?_, fun i o ho hd => ?_⟩
  · rcases E.news b j hj with k | k | ⟨i, x, q1, q2, q3⟩
    · exact e3 j k
    · omega
    · exact e4 i x q1 q2 q3
  · rcases E.live i o ho hd with ⟨o0, q1, q2, q3⟩ | k
    · rw [q3]; exact e4 i o0 q1 q2
    · omega
theorem Early.absorb {w0 : World} {h : List AO} {φ : Nat → Loc} {w : World} {S : Nat → Nat → Prop} {zs : List AV} {b : Nat} (e : Early w0 h φ w S zs b) (M : Sim h φ w S) :
    Sim (h ++ [.box zs]) (updφ φ h.length ⟨b, 0⟩) w S ∧ RExt h φ w S (h ++ [.box zs]) (updφ φ h.length ⟨b, 0⟩) w S ∧
    ∀ {h0 : List AO} {φ0 : Nat → Loc} {S0 : Nat → Nat → Prop}, Ext h0 φ0 w0 S0 h φ w S → Ext h0 φ0 w0 S0 (h ++ [.box zs]) (updφ φ h.length ⟨b, 0⟩) w S := by
  obtain ⟨e1, ⟨arr, T, k1, k2, k3, k4⟩, e3, e4⟩ := e
  have old : ∀ (i : Nat) (o : AO), i < h.length → ((h ++ [AO.box zs])[i]? = some o ↔ h[i]? = some o) := fun i o hi => by rw [List.getElem?_append_left hi]
  have cases_ : ∀ (i : Nat) (o : AO), (h ++ [AO.box zs])[i]? = some o → (i < h.length ∧ h[i]? = some o) ∨ (i = h.length ∧ o = .box zs) := by
    intro i o ho
    rcases Nat.lt_trichotomy i h.length with hi | hi | hi
    · exact .inl ⟨hi, (old i o hi).1 ho⟩
    · subst hi
      simp at ho
      exact .inr ⟨rfl, ho.symm⟩
    · rw [List.getElem?_eq_none (by simp; omega)] at ho; cases ho
  have hφ : ∀ i, i < h.length → updφ φ h.length ⟨b, 0⟩ i = φ i := fun i hi => updφ_other _ _ _ (by omega)
  have R : RExt h φ w S (h ++ [.box zs]) (updφ φ h.length ⟨b, 0⟩) w S :=
    { len := by simp
      stab := fun _ _ k => k
      cell := fun _ _ _ => rfl
      same := fun i ⟨o, q1, q2⟩ => by
        have hi := (List.getElem?_eq_some_iff.1 q1).1
        exact ⟨⟨o, (old i o hi).2 q1, q2⟩, by rw [hφ i hi]⟩
      tok := fun i e sz n hn hi => .inl ⟨(old i _ hi).1 hn, hφ i hi⟩ }
  refine ⟨⟨fun i o ho => ?_, fun i j oi oj hi hj di dj ee => ?_, M.stab⟩, R, fun {h0 φ0 S0} E => ?_⟩
  · rcases cases_ i o ho with ⟨hi, ho⟩ | ⟨rfl, rfl⟩
    · rw [hφ i hi]
      exact (M.obj i o ho).rmono R rfl (fun _ k => k)
    · simp only [updφ_same]
      exact ⟨arr, T, k1, Nat.le_of_eq k2, k3, fun j x v hx hv => k4 _ _ _ _ j x v hx hv, e3⟩
  · rcases cases_ i oi hi with ⟨hi', hi⟩ | ⟨rfl, rfl⟩ <;> rcases cases_ j oj hj with ⟨hj', hj⟩ | ⟨rfl, rfl⟩
    · rw [hφ i hi', hφ j hj'] at ee
      exact M.inj i j oi oj hi hj di dj ee
    · rw [hφ i hi', updφ_same] at ee
      exact absurd ee (e4 i oi hi di)
    · rw [hφ j hj', updφ_same] at ee
      exact absurd ee.symm (e4 j oj hj dj)
    · rfl
  · exact
    { len := Nat.le_trans E.len (by simp)
      stab := E.stab
      cell := E.cell
      same := fun i hi => by
        obtain ⟨q1, q2⟩ := E.same i hi
        obtain ⟨r1, r2⟩ := R.same i q1
        exact ⟨r1, r2.trans q2⟩
      tok := fun i e sz n hn hi => by
        have hi' : i < h.length := Nat.lt_of_lt_of_le hi E.len
        rw [hφ i hi']
        exact E.tok i e sz n ((old i _ hi').1 hn) hi
      live := fun i o ho hd => by
        rcases cases_ i o ho with ⟨hi, ho⟩ | ⟨rfl, rfl⟩
        · rw [hφ i hi]; exact E.live i o ho hd
        · rw [updφ_same]; exact .inr e1
      frame := E.frame
      os := E.os
      tape := E.tape
      output := E.output
      size := E.size
      news := E.news }

theorem cOp_alloc {P : Program} {o : Oper} {zs : List AV} (e : cOp P o = some (.alloc zs)) : ∃ t, o.op = .alloc t ∧ zeroL P t = some zs := by
  unfold cOp at e
  split at e
  all_goals repeat' split at e
  all_goals first
    | (cases e; done)
    | (obtain ⟨_, h, e'⟩ := Option.map_eq_some_iff.1 e; cases e'; exact ⟨_, by assumption, h⟩)
    | (obtain ⟨_, _, e'⟩ := Option.map_eq_some_iff.1 e; cases e'; done)
theorem run_alloc {P : Program} {o : Oper} {a : Act} {w : World} {zs : List AV} (e : cOp P o = some (.alloc zs)) :
    ∃ (arr : Array Value) (T : TypeId), (execOp a.eval o).run P w = .ok (.value (.pointer (some ⟨w.heap.size, 0, none⟩))) (w.alloc (.cells arr T)) ∧ zs.length = arr.size ∧ (∀ (j : Nat) (y : AV), zs[j]? = some y → y.one = true) ∧
    ∀ h φ w S (j : Nat) (y : AV) (u : Value), zs[j]? = some y → arr[j]? = some u → Rel h φ w S true y u := by
  obtain ⟨t, ho, hz⟩ := cOp_alloc e
  unfold zeroL at hz
  split at hz
  case h_2 => cases hz
  rename_i i hi
  split at hz
  case h_2 => cases hz
  rename_i z hzz
  obtain ⟨k1, k2, _⟩ := rel_cvL (h := []) (φ := fun _ => ⟨0, 0⟩) (w := w) (S := fun _ _ => False) hz true
  refine ⟨z.cells, t, by simp [execOp, ho, Instr.alloc, zeroValue, typeInfo, hi, hzz, newVar, newRow], by simpa using k1, k2, fun h φ w S j y u hy hu => ?_⟩
  exact (rel_cvL (h := h) (φ := φ) (w := w) (S := S) hz true).2.2 j y u hy (by simpa using hu)

def rmF (d : Option Nat) (f : Fr) : Fr := match d with
  | none => f
  | some t => f.filter fun q => !(q.1 == t)
theorem lk_rmF (d : Option Nat) (f : Fr) (i : Nat) : lk (rmF d f) i = if d = some i then none else lk f i := by
  cases d with
  | none => simp [rmF]
  | some t =>
    simp only [rmF, Option.some.injEq]
    induction f with
    | nil => simp [lk]
    | cons q f ih =>
      obtain ⟨j, x⟩ := q
      simp only [List.filter_cons]
      by_cases hj : j = t
      · subst hj
        simp only [beq_self_eq_true, Bool.not_true, Bool.false_eq_true, if_false, ih, lk]
        by_cases hi : j = i
        · simp [hi]
        · simp [hi, Ne.symm hi]
      · simp only [beq_iff_eq, hj, Bool.not_eq_true', beq_eq_false_iff_ne, ne_eq, not_false_eq_true, if_true, lk, ih]
        by_cases hi : t = i
        · subst hi; simp [Ne.symm hj]
        · simp [hi]

/-- Where a drawn region stands: effects ahead of m are done in the order of the text; later ones that are done are boxes made ahead of their turn. -/
structure DInv (N : Nat) (D' : List Deferred) (h0 : List AO) (φ0 : Nat → Loc) (w0 : World) (S0 : Nat → Nat → Prop) (aops : List AOper) (f : Fr) (H : Nat → List AO) (X : Nat → AV)
    (m : Nat) (listed : Array Bool) (a : Act) (w : World) (g : Fr) (φ : Nat → Loc) (S : Nat → Nat → Prop) (B : Nat → Nat) : Prop where
  below : ∀ i (o : AOper), i < m → aops[i]? = some o → o.op.eff = true → listed.getD i false = true
  sim : Sim (H m) φ w S
  ext : Ext h0 φ0 w0 S0 (H m) φ w S
  frel : FRel (H m) φ w S g a
  defs : a.defers = D'
  size : a.tmps.size = N
  vals : ∀ i (o : AOper) t, listed.getD i false = true → aops[i]? = some o → (o.op.eff = true → i < m) → o.dst = some t → lk g t = some (X i)
  rest : ∀ t, (∀ i (o : AOper), listed.getD i false = true → aops[i]? = some o → o.dst ≠ some t) → lk g t = lk f t
  early : ∀ i (o : AOper), m ≤ i → listed.getD i false = true → aops[i]? = some o → o.op.eff = true → ∃ zs, o.op = .pl (.alloc zs) ∧ o.guard = none ∧ (∀ t, o.dst = some t → a.tmps[t]? = some (.pointer (some ⟨B i, 0, none⟩))) ∧ Early w0 (H m) φ w S zs (B i)
  inj : ∀ i j (o o' : AOper), m ≤ i → m ≤ j → listed.getD i false = true → listed.getD j false = true → aops[i]? = some o → aops[j]? = some o' → o.op.eff = true → o'.op.eff = true → B i = B j → i = j

theorem Tr_get {P : Pg} : ∀ (l : List AOper) (f : Fr) (h : List AO) (tr : List (Fr × List AO)) (f' : Fr) (h' : List AO), Tr P l f h tr f' h' →
    ∃ (F : Nat → Fr) (H : Nat → List AO) (X : Nat → AV), (∀ i, i ≤ l.length → tr[i]? = some (F i, H i)) ∧ F 0 = f ∧ H 0 = h ∧ F l.length = f' ∧ H l.length = h' ∧
      ∀ (i : Nat) (op : AOper), l[i]? = some op → op1 P (F i) (H i) op (fun r h2 => r = .ok (X i) ∧ h2 = H (i + 1)) ∧ F (i + 1) = put (F i) op.dst (X i)
  | [], f, h, tr, f', h', T => by
    obtain ⟨rfl, rfl, rfl⟩ := T
    exact ⟨fun _ => f', fun _ => h', fun _ => .undef, fun i hi => by simp at hi; subst hi; rfl, rfl, rfl, rfl, rfl, fun i op e => by simp at e⟩
  | op :: l, f, h, tr, f', h', T => by
    obtain ⟨x, h1, tr', k1, rfl, k2⟩ := T
    obtain ⟨F, H, X, a1, a2, a3, a4, a5, a6⟩ := Tr_get l _ _ _ _ _ k2
    refine ⟨fun i => match i with | 0 => f | i + 1 => F i, fun i => match i with | 0 => h | i + 1 => H i, fun i => match i with | 0 => x | i + 1 => X i, fun i hi => ?_, rfl, rfl, a4, a5, fun i o e => ?_⟩
    · cases i with
      | zero => rfl
      | succ i => simpa using a1 i (by simpa using hi)
    · cases i with
      | zero => simp at e; subst e; simp only [a2, a3]; exact ⟨k1, trivial⟩
      | succ i => exact a6 i o (by simpa using e)

section
variable {P : Pg} {N : Nat}

theorem drawn_ok {ops : Array Oper} {aops : List AOper} {re : List (Nat × Nat)} {pre : Nat → Nat → Prop} (D : Drawn P N ops aops re pre) : DrawnOk P N ops aops re := by
  intro D' h0 φ0 w0 S0 V0 Kf Q' hQn a w ⟨f, h, φ, S, ⟨tr, f', h', T, DO, hK⟩, M, E, F0, hd, hN⟩
  obtain ⟨F, H, X, t1, t2, t3, t4, t5, t6⟩ := Tr_get aops f h tr f' h' T
  have hn : aops.length = ops.size := D.size
  -- the sequential frames
  have seqF : ∀ m, m ≤ aops.length → (∀ i (o : AOper) t, i < m → aops[i]? = some o → o.dst = some t → lk (F m) t = some (X i)) ∧
      ∀ t, (∀ i (o : AOper), i < m → aops[i]? = some o → o.dst ≠ some t) → lk (F m) t = lk f t := by
    intro m
    induction m with
    | zero => intro _; exact ⟨fun i o t hi => absurd hi (Nat.not_lt_zero _), fun t _ => by rw [t2]⟩
    | succ m ih =>
      intro hm
      obtain ⟨i1, i2⟩ := ih (by omega)
      have ho : aops[m]? = some aops[m] := List.getElem?_eq_getElem (by omega)
      have e := (t6 m _ ho).2
      constructor
      · intro i o t hi hio hdt
        rw [e]
        by_cases him : i = m
        · subst him
          rw [ho] at hio; injection hio with hio
          rw [hio, hdt]; simp [put, lk]
        · cases hdm : aops[m].dst with
          | none => simp only [put]; exact i1 i o t (by omega) hio hdt
          | some u =>
            simp only [put, lk]
            rw [if_neg (fun e' => him (D.dist i m o _ t hio ho hdt (by rw [hdm, e'])))]
            exact i1 i o t (by omega) hio hdt
      · intro t ht
        rw [e]
        cases hdm : aops[m].dst with
        | none => simp only [put]; exact i2 t (fun i o hi => ht i o (by omega))
        | some u =>
          simp only [put, lk]
          rw [if_neg (fun e' => ht m _ (by omega) ho (by rw [hdm, e']))]
          exact i2 t (fun i o hi => ht i o (by omega))
  -- the heap between effects
  have heapS : ∀ i (o : AOper), aops[i]? = some o → o.op.eff = false → H (i + 1) = H i := by
    intro i o ho he
    rcases (t6 i o ho).1 with ⟨_, k⟩ | ⟨_, k⟩
    · cases hs : o.op with
      | call c l => rw [hs] at he; cases he
      | pl b =>
        rw [hs] at k he
        obtain ⟨x, h2, k1, _, k3⟩ := k
        rw [← k3]; exact evP_noeff he k1
    · exact k.2.symm
  have heapR : ∀ j i, i ≤ j → j ≤ aops.length → (∀ k (o : AOper), i ≤ k → k < j → aops[k]? = some o → o.op.eff = false) → H j = H i := by
    intro j
    induction j with
    | zero => intro i hi _ _; rw [show i = 0 by omega]
    | succ j ih =>
      intro i hi hj hno
      by_cases e : i = j + 1
      · rw [e]
      · have ho : aops[j]? = some aops[j] := List.getElem?_eq_getElem (by omega)
        rw [heapS j _ ho (hno j _ (by omega) (by omega) ho)]
        exact ih i (by omega) (by omega) (fun k o h1 h2 => hno k o h1 (by omega))
  -- boxes that were made ahead are taken in when their turn comes
  have absorb : ∀ (n m : Nat) (listed : Array Bool) (a : Act) (w : World) (g : Fr) (φ : Nat → Loc) (S : Nat → Nat → Prop) (B : Nat → Nat), m + n = ops.size → DInv N D' h0 φ0 w0 S0 aops f H X m listed a w g φ S B →
      ∃ cur, m ≤ cur ∧ cur ≤ ops.size ∧ (∀ o : AOper, aops[cur]? = some o → o.op.eff = true ∧ listed.getD cur false = false) ∧ ∃ g φ S, DInv N D' h0 φ0 w0 S0 aops f H X cur listed a w g φ S B := by
    intro n
    induction n with
    | zero =>
      intro m listed a w g φ S B hm I
      exact ⟨m, Nat.le_refl _, by omega, fun o ho => by have := (List.getElem?_eq_some_iff.1 ho).1; omega, g, φ, S, I⟩
    | succ n ihn =>
      intro m listed a w g φ S B hm I
      have ho : aops[m]? = some aops[m] := List.getElem?_eq_getElem (by omega)
      cases he : aops[m].op.eff with
      | false =>
        have hH := heapS m _ ho he
        have ne : ∀ i (o : AOper), aops[i]? = some o → o.op.eff = true → i ≠ m := fun i o hi hoe e => by
          subst e; rw [ho] at hi; injection hi with hi; subst hi; rw [he] at hoe; cases hoe
        obtain ⟨cur, q1, q2⟩ := ihn (m + 1) listed a w g φ S B (by omega)
          { below := fun i o hi hio hie => I.below i o (by have := ne i o hio hie; omega) hio hie
            sim := by rw [hH]; exact I.sim
            ext := by rw [hH]; exact I.ext
            frel := by rw [hH]; exact I.frel
            defs := I.defs
            size := I.size
            vals := fun i o t hl hio hlt hdt => I.vals i o t hl hio (fun hie => by have := hlt hie; have := ne i o hio hie; omega) hdt
            rest := I.rest
            early := fun i o hi hl hio hie => by rw [hH]; exact I.early i o (by omega) hl hio hie
            inj := fun i j o o' hi hj => I.inj i j o o' (by omega) (by omega) }
        exact ⟨cur, by omega, q2⟩
      | true =>
        cases hl : listed.getD m false with
        | false => exact ⟨m, Nat.le_refl _, by omega, fun o ho' => by rw [ho] at ho'; injection ho' with ho'; subst ho'; exact ⟨he, hl⟩, g, φ, S, I⟩
        | true =>
          obtain ⟨zs, z1, z2, z3, z4⟩ := I.early m _ (Nat.le_refl _) hl ho he
          obtain ⟨a1, a2, a3⟩ := z4.absorb I.sim
          -- what the text's order gives
          obtain ⟨hX, hH⟩ : X m = .ptr (H m).length 0 ∧ H (m + 1) = H m ++ [.box zs] := by
            rcases (t6 m _ ho).1 with ⟨_, k⟩ | ⟨k, _⟩
            · rw [z1] at k
              obtain ⟨x, h2, k1, k2, k3⟩ := k
              simp only [evP] at k1
              injection k1 with k1; injection k1 with k1 k4
              injection k2 with k2
              exact ⟨by rw [← k2, k1], by rw [← k3, k4]⟩
            · rw [z2] at k; cases k
          have hlt : ∀ d, aops[m].dst = some d → d < a.tmps.size := fun d hd' => by
            have C := D.opc m _ ops[m] ho (Array.getElem?_eq_getElem (by omega))
            rw [I.size]; exact C.lt d (by rw [← C.dst]; exact hd')
          obtain ⟨cur, q1, q2⟩ := ihn (m + 1) listed a w (put g aops[m].dst (X m)) (updφ φ (H m).length ⟨B m, 0⟩) S B (by omega)
            { below := fun i o hi hio hie => by
                by_cases e : i = m
                · subst e; exact hl
                · exact I.below i o (by omega) hio hie
              sim := by rw [hH]; exact a1
              ext := by rw [hH]; exact a3 I.ext
              frel := by
                rw [hH]
                intro t x hx
                cases hd' : aops[m].dst with
                | none =>
                  rw [hd'] at hx
                  obtain ⟨v, v1, v2⟩ := I.frel t x hx
                  exact ⟨v, v1, v2.rmono a2⟩
                | some u =>
                  rw [hd'] at hx
                  simp only [put, lk] at hx
                  split at hx
                  · rename_i e
                    subst e
                    injection hx with hx
                    subst hx
                    exact ⟨_, z3 t hd', by rw [hX]; exact rel_newptr _ _ _ _ _ _⟩
                  · obtain ⟨v, v1, v2⟩ := I.frel t x hx
                    exact ⟨v, v1, v2.rmono a2⟩
              defs := I.defs
              size := I.size
              vals := fun i o t hli hio hltm hdt => by
                by_cases e : i = m
                · subst e
                  rw [ho] at hio; injection hio with hio
                  subst hio
                  rw [hdt]; simp [put, lk]
                · have := I.vals i o t hli hio (fun hie => by have := hltm hie; omega) hdt
                  cases hd' : aops[m].dst with
                  | none => exact this
                  | some u =>
                    simp only [put, lk]
                    rw [if_neg (fun e' => e (D.dist i m o _ t hio ho hdt (by rw [hd', e'])))]
                    exact this
              rest := fun t ht => by
                have := ht m _ hl ho
                cases hd' : aops[m].dst with
                | none => exact I.rest t ht
                | some u =>
                  simp only [put, lk]
                  rw [if_neg (fun e' => this (by rw [hd', e']))]
                  exact I.rest t ht
              early := fun i o hi hli hio hie => by
                obtain ⟨zs', y1, y2, y3, y4⟩ := I.early i o (by omega) hli hio hie
                refine ⟨zs', y1, y2, y3, y4.1, y4.2.1, y4.2.2.1, fun j oj hj hdj => ?_⟩
                rw [hH] at hj
                rcases Nat.lt_trichotomy j (H m).length with hjl | hjl | hjl
                · rw [updφ_other _ _ _ (by omega)]
                  rw [List.getElem?_append_left hjl] at hj
                  exact y4.2.2.2 j oj hj hdj
                · subst hjl
                  rw [updφ_same]
                  intro e
                  have := I.inj m i _ o (Nat.le_refl _) (by omega) hl hli ho hio he hie e
                  omega
                · rw [List.getElem?_eq_none (by simp; omega)] at hj; cases hj
              inj := fun i j o o' hi hj => I.inj i j o o' (by omega) (by omega) }
          exact ⟨cur, by omega, q2⟩
  -- the step
  have main : ∀ (fuel : Nat) (U : List Nat) (listed : Array Bool) (a : Act) (w : World), listed.size = ops.size → U.length ≤ fuel → (∀ i, i < ops.size → listed.getD i false = false → i ∈ U) →
      (∀ (i : Nat) (o : Oper), ops[i]? = some o → listed.getD i false = true → ∀ e ∈ o.after, Region.binds .any e = true → listed.getD e.on false = true) →
      (∃ cur, cur ≤ ops.size ∧ (∀ o : AOper, aops[cur]? = some o → o.op.eff = true ∧ listed.getD cur false = false) ∧ ∃ g φ S B, DInv N D' h0 φ0 w0 S0 aops f H X cur listed a w g φ S B) →
      wpAny P .any ops Q' fuel listed a w := by
    intro fuel
    have done : ∀ (listed : Array Bool) (a : Act) (w : World), listed.size = ops.size → (∀ i, i < ops.size → listed.getD i false = true) →
      (∃ cur, cur ≤ ops.size ∧ (∀ o : AOper, aops[cur]? = some o → o.op.eff = true ∧ listed.getD cur false = false) ∧ ∃ g φ S B, DInv N D' h0 φ0 w0 S0 aops f H X cur listed a w g φ S B) → Q' .normal a w := by
      intro listed a w hs hall ⟨cur, c1, c3, g, φ, S, B, I⟩
      have hc : cur = aops.length := by
        rcases Nat.lt_or_ge cur aops.length with hlt | hge
        · have := (c3 _ (List.getElem?_eq_getElem hlt)).2
          rw [hall cur (by omega)] at this
          cases this
        · omega
      subst hc
      refine hQn a w ⟨f', h', φ, S, hK, by rw [← t5]; exact I.sim, by rw [← t5]; exact I.ext, ?_, I.defs, I.size⟩
      rw [← t5, ← t4]
      obtain ⟨s1, s2⟩ := seqF aops.length (Nat.le_refl _)
      intro t x hx
      refine I.frel t x ?_
      rw [← hx]
      rcases Classical.em (∃ (i : Nat) (o : AOper), aops[i]? = some o ∧ o.dst = some t) with ⟨i, o, hio, hdt⟩ | hno
      · have hi := (List.getElem?_eq_some_iff.1 hio).1
        rw [I.vals i o t (hall i (by omega)) hio (fun _ => hi) hdt, s1 i o t hi hio hdt]
      · rw [I.rest t (fun i o _ hio e => hno ⟨i, o, hio, e⟩), s2 t (fun i o _ hio e => hno ⟨i, o, hio, e⟩)]
    have getD_eq : ∀ (listed : Array Bool) (i : Nat), listed.size = ops.size → i < ops.size → listed.getD i true = listed.getD i false := by
      intro listed i hs hi
      simp [Array.getD_eq_getD_getElem?, Array.getElem?_eq_getElem (show i < listed.size by omega)]
    have readyNil : ∀ (listed : Array Bool), listed.size = ops.size → Region.ready .any ops listed = [] → ∀ i, i < ops.size → listed.getD i false = true := by
      intro listed hs hr i
      induction i using Nat.strongRecOn with
      | _ i ih =>
        intro hi
        cases hl : listed.getD i false with
        | true => rfl
        | false =>
          have : i ∈ Region.ready .any ops listed := by
            refine mem_ready.2 ⟨by rw [getD_eq listed i hs hi]; exact hl, ops[i], Array.getElem?_eq_getElem hi, fun e he hb => ?_⟩
            have := D.back i _ (Array.getElem?_eq_getElem hi) e he hb
            exact ih e.on this (by omega)
          rw [hr] at this
          cases this
    induction fuel with
    | zero =>
      intro U listed a w hs hU hUall hcl hI
      have hall : ∀ i, i < ops.size → listed.getD i false = true := by
        intro i hi
        cases hl : listed.getD i false with
        | true => rfl
        | false => have := hUall i hi hl; rw [List.eq_nil_of_length_eq_zero (Nat.le_zero.1 hU)] at this; cases this
      refine ⟨?_, done listed a w hs hall hI⟩
      refine List.eq_nil_iff_forall_not_mem.2 fun i hi => ?_
      obtain ⟨h1, o, h2, _⟩ := mem_ready.1 hi
      have hlt := (Array.getElem?_eq_some_iff.1 h2).1
      rw [getD_eq listed i hs hlt, hall i hlt] at h1
      cases h1
    | succ fuel ih =>
      intro U listed a w hs hU hUall hcl hI
      refine ⟨fun hr => done listed a w hs (readyNil listed hs hr) hI, fun p hp => ?_⟩
      obtain ⟨hpl, o, hpo, hafter⟩ := mem_ready.1 hp
      have hplt : p < ops.size := (Array.getElem?_eq_some_iff.1 hpo).1
      rw [getD_eq listed p hs hplt] at hpl
      obtain ⟨cur, c1, c3, g, φ, S, B, I⟩ := hI
      have c2 := I.below
      have M := I.sim
      have E := I.ext
      have FR := I.frel
      have hd := I.defs
      have hN := I.size
      have g1 := I.vals
      have g2 := I.rest
      obtain ⟨ap, hpa⟩ : ∃ ap, aops[p]? = some ap := ⟨_, List.getElem?_eq_getElem (by omega : p < aops.length)⟩
      have C := D.opc p _ o hpa hpo
      have preP : ∀ j, pre p j → listed.getD j false = true := D.pre_ready (fun i => listed.getD i false) hcl p o hpo hafter
      have preL : ∀ i j, pre i j → listed.getD i false = true → listed.getD j false = true := D.pre_ok (fun i => listed.getD i false) hcl
      obtain ⟨s1, s2⟩ := seqF p (by omega)
      -- what the operation looks at is what it looked at in the order of the text
      have same : (ap.op.eff = true → cur = p) → ∀ t ∈ ap.uses, lk (F p) t = lk g t := by
        intro hcur t ht
        rcases Classical.em (∃ (i : Nat) (o : AOper), aops[i]? = some o ∧ o.dst = some t) with ⟨i, oi, hio, hdt⟩ | hno
        · have uniq : ∀ k (ok : AOper), aops[k]? = some ok → ok.dst = some t → k = i := fun k ok hk hkd => D.dist k i ok oi t hk hio hkd hdt
          rcases D.reads p i _ oi t hpa hio ht hdt with e | ⟨e1, e2⟩ | ⟨e1, e2⟩
          · rw [s2 t (fun k ok hk hko hkd => by have := uniq k ok hko hkd; omega), g2 t (fun k ok hk hko hkd => by
              have := uniq k ok hko hkd
              subst this; subst e; rw [hpl] at hk; cases hk)]
          · refine (s1 i oi t e1 hio hdt).trans (g1 i oi t (preP i e2) hio (fun hoe => ?_) hdt).symm
            rcases Nat.lt_or_ge i cur with hic | hic
            · exact hic
            · have hcp : cur ≤ p := by omega
              have hco : aops[cur]? = some aops[cur] := List.getElem?_eq_getElem (by omega)
              obtain ⟨q1, q2⟩ := c3 _ hco
              have hne : cur ≠ i := fun e => by subst e; rw [preP _ e2] at q2; cases q2
              rcases D.ear p i cur ap oi _ t hpa hio hco (by omega) ht hdt hoe q1 with h | h | h
              · have := preL i cur h (preP i e2); rw [q2] at this; cases this
              · have := hcur h; omega
              · have := preP cur h; rw [q2] at this; cases this
          · rw [s2 t (fun k ok hk hko hkd => by have := uniq k ok hko hkd; omega), g2 t (fun k ok hk hko hkd => by
              have := uniq k ok hko hkd
              subst this
              have := preL _ _ e2 hk
              rw [hpl] at this; cases this)]
        · rw [s2 t (fun i o _ hio e => hno ⟨i, o, hio, e⟩), g2 t (fun i o _ hio e => hno ⟨i, o, hio, e⟩)]
      -- the listed set behind it
      have hsz : (listed.setIfInBounds p true).size = ops.size := by simp [hs]
      have hU' : (U.erase p).length ≤ fuel := by
        have hm := hUall p hplt hpl
        rw [List.length_erase_of_mem hm]
        omega
      have getp : (listed.setIfInBounds p true).getD p false = true := by
        simp [Array.getD_eq_getD_getElem?, show p < listed.size by omega]
      have geto : ∀ i, i ≠ p → (listed.setIfInBounds p true).getD i false = listed.getD i false := fun i hi => getD_set_ne false (Ne.symm hi)
      have hUall' : ∀ i, i < ops.size → (listed.setIfInBounds p true).getD i false = false → i ∈ U.erase p := by
        intro i hi hl
        by_cases hip : i = p
        · subst hip; rw [getp] at hl; cases hl
        · rw [geto i hip] at hl
          exact (List.mem_erase_of_ne hip).2 (hUall i hi hl)
      have hcl' : ∀ (i : Nat) (o : Oper), ops[i]? = some o → (listed.setIfInBounds p true).getD i false = true → ∀ e ∈ o.after, Region.binds .any e = true → (listed.setIfInBounds p true).getD e.on false = true := by
        intro i oi hio hl e he hb
        refine getD_set_true ?_
        by_cases hip : i = p
        · subst hip
          rw [hpo] at hio; injection hio with hio; subst hio
          exact hafter e he hb
        · rw [geto i hip] at hl
          exact hcl i oi hio hl e he hb
      -- the state behind it, in order
      have nextG : ∀ (v : Value) (x : AV) (m : Nat) (φ' : Nat → Loc) (w' : World) (S' : Nat → Nat → Prop), x = X p → (ap.op.eff = true → p < m) → cur ≤ m → (∀ i (oi : AOper), i < m → aops[i]? = some oi → oi.op.eff = true → i = p ∨ i < cur) →
          Sim (H m) φ' w' S' → Ext (H cur) φ w S (H m) φ' w' S' → Rel (H m) φ' w' S' true x v → DInv N D' h0 φ0 w0 S0 aops f H X m (listed.setIfInBounds p true) (a.put o.dst v) w' (put g ap.dst x) φ' S' B := by
        intro v x m φ' w' S' hx hpm hcm hbel M' E' R'
        subst hx
        refine ⟨fun i oi hi hio hie => ?_, M', E.trans E', ?_, by rw [put_defers']; exact hd, by rw [put_size]; exact hN, ?_, ?_, ?_, ?_⟩
        · rcases hbel i oi hi hio hie with h | h
          · rw [h]; exact getp
          · exact getD_set_true (c2 i oi h hio hie)
        · rw [C.dst]
          exact (FR.mono E').put _ _ _ R' (fun d hd' => by rw [hN]; exact C.lt d hd')
        · intro i oi t hl hio hlt hdt
          by_cases hip : i = p
          · subst hip
            rw [hpa] at hio; injection hio with hio; subst hio
            rw [hdt]; simp [put, lk]
          · rw [geto i hip] at hl
            have hv := g1 i oi t hl hio (fun hie => (hbel i oi (hlt hie) hio hie).resolve_left hip) hdt
            cases hdp : ap.dst with
            | none => exact hv
            | some u =>
              simp only [put, lk]
              rw [if_neg (fun e' => hip (D.dist i p oi _ t hio hpa hdt (by rw [hdp, e'])))]
              exact hv
        · intro t ht
          have hne := ht p _ getp hpa
          have : lk (put g ap.dst (X p)) t = lk g t := by
            cases hdp : ap.dst with
            | none => rfl
            | some u => simp only [put, lk]; rw [if_neg (fun e' => hne (by rw [hdp, e']))]
          rw [this]
          exact g2 t (fun i oi hl hio => ht i oi (getD_set_true hl) hio)
        · intro i oi hi hl hio hie
          have hip : i ≠ p := fun e => by
            subst e
            rw [hpa] at hio; injection hio with hio; subst hio
            have := hpm hie; omega
          rw [geto i hip] at hl
          obtain ⟨zs, y1, y2, y3, y4⟩ := I.early i oi (by omega) hl hio hie
          refine ⟨zs, y1, y2, fun t hdt => ?_, y4.mono E'⟩
          have hne : o.dst ≠ some t := fun e' => hip (D.dist i p oi _ t hio hpa hdt (by rw [C.dst]; exact e'))
          have := y3 t hdt
          cases hod : o.dst with
          | none => exact this
          | some u =>
            simp only [Act.put]
            rw [Array.getElem?_setIfInBounds_ne (fun e' => hne (by rw [hod, e']))]
            exact this
        · intro i j oi oj hi hj hli hlj hio hjo hie hje
          have key : ∀ i (oi : AOper), m ≤ i → aops[i]? = some oi → oi.op.eff = true → i ≠ p := fun i oi hi hio hie e => by
            subst e
            rw [hpa] at hio; injection hio with hio; subst hio
            have := hpm hie; omega
          rw [geto i (key i oi hi hio hie)] at hli
          rw [geto j (key j oj hj hjo hje)] at hlj
          exact I.inj i j oi oj (by omega) (by omega) hli hlj hio hjo hie hje
      have hop := (t6 p _ hpa).1
      cases hef : ap.op.eff with
      | true =>
        have hcp : cur = p ∨ (cur < p ∧ ∃ zs, ap.op = .pl (.alloc zs) ∧ ap.guard = none) := by
          rcases Nat.lt_trichotomy cur p with hlt | heq | hgt
          · have hco : aops[cur]? = some aops[cur] := List.getElem?_eq_getElem (by omega)
            obtain ⟨q1, q2⟩ := c3 _ hco
            rcases D.effs cur p _ _ hlt hco hpa q1 hef with h | h
            · have := preP cur h; rw [q2] at this; cases this
            · exact .inr ⟨hlt, h⟩
          · exact .inl heq
          · have := c2 p _ hgt hpa hef
            rw [hpl] at this; cases this
        rcases hcp with hcp | ⟨hlt, zs, hza, hzg⟩
        · subst hcp
          refine op1_sound (Q := Q') C hpo (P.stable E V0) M FR hN (op1_congr (same (fun _ => rfl)) hop) ?_ ?_
          · intro x h1 φ' w' S' v hx M' E' R'
            obtain ⟨hx1, hx2⟩ := hx
            injection hx1 with hx1
            rw [hx2] at M' E' R'
            have I' := nextG v x (cur + 1) φ' w' S' hx1 (fun _ => by omega) (by omega) (fun i oi hi _ _ => by omega) M' E' R'
            obtain ⟨cur', l1, l2, l3, g', φ'', S'', I''⟩ := absorb (ops.size - (cur + 1)) (cur + 1) _ _ _ _ _ _ _ (by omega) I'
            exact ih (U.erase cur) _ _ w' hsz hU' hUall' hcl' ⟨cur', l2, l3, g', φ'', S'', B, I''⟩
          · intro x h1 φ' w' S' v hx
            cases hx.1
        · -- a box made ahead of its turn
          obtain ⟨b, cb1, cb2⟩ := C.op
          have hb : b = .alloc zs := toSt_pl (by rw [cb2]; exact hza)
          subst hb
          obtain ⟨arr, T, r1, r2, r3, r4⟩ := run_alloc (a := a) (w := w) cb1
          have hgo : o.guard = none := by
            have := C.guard
            cases hg : o.guard with
            | none => rfl
            | some q =>
              obtain ⟨j, want⟩ := q
              rw [hg] at this
              obtain ⟨t, _, k2⟩ := this
              rw [hzg] at k2; cases k2
          have hnew : (w.alloc (.cells arr T)).heap[w.heap.size]? = some (.cells arr T (0, 0)) := by show (w.heap.push _)[w.heap.size]? = _; simp
          have hold : ∀ k, k < w.heap.size → (w.alloc (.cells arr T)).heap[k]? = w.heap[k]? := fun k hk => by show (w.heap.push _)[k]? = _; rw [Array.getElem?_push, if_neg (by omega)]
          have E' : Ext (H cur) φ w S (H cur) φ (w.alloc (.cells arr T)) S :=
            { len := Nat.le_refl _, stab := fun _ _ k => k, cell := fun b o hs => World.cell?_of_block (hold b (M.stab b o hs)), same := fun i hi => ⟨hi, rfl⟩, tok := fun i e sz n hi _ => .inl ⟨hi, rfl⟩,
              live := fun i o ho hd => .inl ⟨o, ho, hd, rfl⟩, frame := fun k hk _ => hold k hk, os := rfl, tape := rfl, output := rfl, size := by simp, news := fun _ _ k => .inl k }
          have M' : Sim (H cur) φ (w.alloc (.cells arr T)) S := by
            refine ⟨fun i o ho => ?_, M.inj, fun b o hs => Nat.lt_of_lt_of_le (M.stab b o hs) (by simp)⟩
            cases hdd : o.isDead with
            | true => cases o <;> first | trivial | cases hdd
            | false => exact (M.obj i o ho).mono E' (hold _ ((M.obj i o ho).lt hdd)) (fun _ k => k)
          show wpOp P ops Q' p _ a w
          unfold wpOp
          simp only [hpo]
          rw [if_pos (by simp [Region.wanted, hgo])]
          refine .inl ?_
          simp only [Oper.wp, r1, Oper.upon_value]
          have hput : ∀ t, o.dst ≠ some t → (a.put o.dst (.pointer (some ⟨w.heap.size, 0, none⟩))).tmps[t]? = a.tmps[t]? := fun t hne => by
            cases hod : o.dst with
            | none => rfl
            | some u => simp only [Act.put]; rw [Array.getElem?_setIfInBounds_ne (fun e' => hne (by rw [hod, e']))]
          refine ih (U.erase p) _ _ _ hsz hU' hUall' hcl' ⟨cur, c1, fun ok hk => ?_, rmF ap.dst g, φ, S, fun i => if i = p then w.heap.size else B i, ?_⟩
          · obtain ⟨q1, q2⟩ := c3 ok hk
            exact ⟨q1, by rw [geto cur (by omega)]; exact q2⟩
          · refine ⟨fun i oi hi hio hie => getD_set_true (c2 i oi hi hio hie), M', E.trans E', ?_, by rw [put_defers']; exact hd, by rw [put_size]; exact hN, ?_, ?_, ?_, ?_⟩
            · intro t x hx
              rw [lk_rmF] at hx
              split at hx
              · cases hx
              · rename_i hne
                obtain ⟨v, v1, v2⟩ := FR.mono E' t x hx
                exact ⟨v, by rw [hput t (by rw [← C.dst]; exact hne)]; exact v1, v2⟩
            · intro i oi t hl hio hlt' hdt
              have hip : i ≠ p := fun e => by
                subst e
                rw [hpa] at hio; injection hio with hio; subst hio
                have := hlt' hef; omega
              rw [geto i hip] at hl
              rw [lk_rmF, if_neg (fun e' => hip (D.dist i p oi _ t hio hpa hdt e'))]
              exact g1 i oi t hl hio hlt' hdt
            · intro t ht
              have hne := ht p _ getp hpa
              rw [lk_rmF, if_neg hne]
              exact g2 t (fun i oi hl hio => ht i oi (getD_set_true hl) hio)
            · intro i oi hi hl hio hie
              by_cases hip : i = p
              · subst hip
                rw [hpa] at hio; injection hio with hio; subst hio
                refine ⟨zs, hza, hzg, fun t hdt => ?_, ?_⟩
                · simp only [if_true]
                  have hot : o.dst = some t := by rw [← C.dst]; exact hdt
                  have := C.lt t hot
                  rw [hot]
                  simp only [Act.put]
                  rw [Array.getElem?_setIfInBounds_self_of_lt (by rw [hN]; exact this)]
                · simp only [if_true]
                  refine ⟨E.size, ⟨arr, T, hnew, r2, r3, fun h φ w S j y u => r4 h φ w S j y u⟩, fun j hj => ?_, fun j oj hj hdj => ?_⟩
                  · exact absurd (M.stab _ _ hj) (Nat.lt_irrefl _)
                  · have := (M.obj j oj hj).lt hdj
                    omega
              · rw [geto i hip] at hl
                obtain ⟨zs', y1, y2, y3, y4⟩ := I.early i oi hi hl hio hie
                refine ⟨zs', y1, y2, fun t hdt => ?_, by simp only [if_neg hip]; exact y4.mono E'⟩
                simp only [if_neg hip]
                rw [hput t (fun e' => hip (D.dist i p oi _ t hio hpa hdt (by rw [C.dst]; exact e')))]
                exact y3 t hdt
            · intro i j oi oj hi hj hli hlj hio hjo hie hje
              have lt : ∀ i (oi : AOper), i ≠ p → cur ≤ i → (listed.setIfInBounds p true).getD i false = true → aops[i]? = some oi → oi.op.eff = true → B i < w.heap.size := by
                intro i oi hip hi hl hio hie
                rw [geto i hip] at hl
                obtain ⟨_, _, _, _, y4⟩ := I.early i oi hi hl hio hie
                exact y4.lt
              by_cases hip : i = p <;> by_cases hjp : j = p
              · intro _; rw [hip, hjp]
              · simp only [if_pos hip, if_neg hjp]
                intro e; have := lt j oj hjp hj hlj hjo hje; omega
              · simp only [if_neg hip, if_pos hjp]
                intro e; have := lt i oi hip hi hli hio hie; omega
              · simp only [if_neg hip, if_neg hjp]
                rw [geto i hip] at hli
                rw [geto j hjp] at hlj
                exact I.inj i j oi oj hi hj hli hlj hio hjo hie hje
      | false =>
        have hpc : cur ≠ p := by
          intro e
          have := (c3 ap (by rw [e]; exact hpa)).1
          rw [hef] at this; cases this
        -- the value at this heap
        have hval : op1 P (F p) (H cur) ap (fun r h2 => r = .ok (X p) ∧ h2 = H cur) := by
          rcases hop with ⟨k1, k2⟩ | ⟨k1, k2⟩
          case inr => exact .inr ⟨k1, k2.1, rfl⟩
          refine .inl ⟨k1, ?_⟩
          cases hsp : ap.op with
          | call c l => rw [hsp] at hef; cases hef
          | pl b =>
            rw [hsp] at k2
            obtain ⟨x, h2, k3, k4, k5⟩ := k2
            injection k4 with k4
            subst k4
            have hbe : b.eff = false := by rw [hsp] at hef; exact hef
            cases hrd : b.rd with
            | false => exact ⟨X p, H cur, evP_pure hbe hrd k3 (H cur), rfl, rfl⟩
            | true =>
              have hv0 : valOf (F p) (H p) ap = some (X p) := by simp only [valOf, k1, hsp, k3, Option.map_some]
              have key : valOf (F p) (H cur) ap = some (X p) := by
                have pairs := fun k (y : AOper) (hk : aops[k]? = some y) (hy : y.op.eff = true) => D.pairs p k _ y hpa hk hef (by rw [hsp]; exact hrd) hy
                rcases Nat.lt_or_ge cur p with hlt | hge
                · have hco : aops[cur]? = some aops[cur] := List.getElem?_eq_getElem (by omega)
                  obtain ⟨q1, q2⟩ := c3 _ hco
                  rcases pairs cur _ hco q1 with hre | ⟨_, hpr⟩ | ⟨hlt', _⟩
                  · rw [(DO (p, cur) hre _ _ _ _ hpa (t1 p (by omega)) (t1 cur (by omega)) (t1 (cur + 1) (by omega))).1]; exact hv0
                  · have := preP cur hpr; rw [q2] at this; cases this
                  · omega
                · -- the last effect in between
                  have lastE : (∀ k (y : AOper), p ≤ k → k < cur → aops[k]? = some y → y.op.eff = false) ∨ ∃ (k : Nat) (y : AOper), p < k ∧ k < cur ∧ aops[k]? = some y ∧ y.op.eff = true ∧ ∀ j (z : AOper), k + 1 ≤ j → j < cur → aops[j]? = some z → z.op.eff = false := by
                    have : ∀ n, n ≤ cur → (∀ j (z : AOper), n ≤ j → j < cur → aops[j]? = some z → z.op.eff = false) → p ≤ n →
                        ((∀ k (y : AOper), p ≤ k → k < cur → aops[k]? = some y → y.op.eff = false) ∨ ∃ (k : Nat) (y : AOper), p < k ∧ k < cur ∧ aops[k]? = some y ∧ y.op.eff = true ∧ ∀ j (z : AOper), k + 1 ≤ j → j < cur → aops[j]? = some z → z.op.eff = false) := by
                      intro n
                      induction n with
                      | zero => intro _ hno hpn; exact .inl (fun k y h1 h2 h3 => hno k y (by omega) h2 h3)
                      | succ n ihn =>
                        intro hn' hno hpn
                        by_cases e : p = n + 1
                        · exact .inl (fun k y h1 h2 h3 => hno k y (by omega) h2 h3)
                        · have hno' : aops[n]? = some aops[n] := List.getElem?_eq_getElem (by omega)
                          cases hne : aops[n].op.eff with
                          | true =>
                            have : p ≠ n := fun e' => by
                              subst e'
                              rw [hpa] at hno'; injection hno' with hno'
                              rw [← hno', hef] at hne; cases hne
                            exact .inr ⟨n, _, by omega, by omega, hno', hne, hno⟩
                          | false =>
                            refine ihn (by omega) (fun j z h1 h2 h3 => ?_) (by omega)
                            by_cases hjn : j = n
                            · subst hjn; rw [hno'] at h3; injection h3 with h3; rw [← h3]; exact hne
                            · exact hno j z (by omega) h2 h3
                    exact this cur (Nat.le_refl _) (fun j z h1 h2 => by omega) hge
                  rcases lastE with hno | ⟨k, y, k1', k2', k3', k4', k5'⟩
                  · rw [heapR cur p hge (by omega) hno]; exact hv0
                  · have hkl := c2 k y k2' k3' k4'
                    rcases pairs k y k3' k4' with hre | ⟨hlt', _⟩ | ⟨_, hpr⟩
                    · have hH : H cur = H (k + 1) := heapR cur (k + 1) (by omega) (by omega) k5'
                      rw [hH, (DO (p, k) hre _ _ _ _ hpa (t1 p (by omega)) (t1 k (by omega)) (t1 (k + 1) (by omega))).2]; exact hv0
                    · omega
                    · have := preL k p hpr hkl; rw [hpl] at this; cases this
              simp only [valOf, k1, hsp] at key
              obtain ⟨r, r1, r2⟩ := Option.map_eq_some_iff.1 key
              obtain ⟨r3, r4⟩ := r
              have := evP_noeff hbe r1
              simp only at r2 this
              subst r2 this
              exact ⟨_, _, r1, rfl, rfl⟩
        refine op1_sound (Q := Q') C hpo (P.stable E V0) M FR hN (op1_congr (same (fun h => by rw [hef] at h; cases h)) hval) ?_ ?_
        · intro x h1 φ' w' S' v hx M' E' R'
          obtain ⟨hx1, hx2⟩ := hx
          injection hx1 with hx1
          rw [hx2] at M' E' R'
          refine ih (U.erase p) _ _ w' hsz hU' hUall' hcl' ⟨cur, c1, ?_, _, φ', S', B, nextG v x cur φ' w' S' hx1 (fun h => by rw [hef] at h; cases h) (Nat.le_refl _) (fun i oi hi _ _ => .inr hi) M' E' R'⟩
          intro ok hk
          obtain ⟨q1, q2⟩ := c3 ok hk
          exact ⟨q1, by rw [geto cur hpc]; exact q2⟩
        · intro x h1 φ' w' S' v hx
          cases hx.1
  -- the start
  have firstE : ∃ cur, cur ≤ ops.size ∧ (∀ k (ok : AOper), k < cur → aops[k]? = some ok → ok.op.eff = false) ∧ ∀ ok : AOper, aops[cur]? = some ok → ok.op.eff = true := by
    have : ∀ n m, m + n = ops.size → (∀ k (ok : AOper), k < m → aops[k]? = some ok → ok.op.eff = false) →
        ∃ cur', cur' ≤ ops.size ∧ (∀ k (ok : AOper), k < cur' → aops[k]? = some ok → ok.op.eff = false) ∧ ∀ ok : AOper, aops[cur']? = some ok → ok.op.eff = true := by
      intro n
      induction n with
      | zero => intro m hmn hno; exact ⟨m, by omega, hno, fun ok hk => by have := (List.getElem?_eq_some_iff.1 hk).1; omega⟩
      | succ n ihn =>
        intro m hmn hno
        have hmo : aops[m]? = some aops[m] := List.getElem?_eq_getElem (by omega)
        cases hme : aops[m].op.eff with
        | true => exact ⟨m, by omega, hno, fun ok hk => by rw [hmo] at hk; injection hk with hk; rw [← hk]; exact hme⟩
        | false =>
          refine ihn (m + 1) (by omega) (fun k ok h2 h3 => ?_)
          by_cases hkm : k = m
          · subst hkm; rw [hmo] at h3; injection h3 with h3; rw [← h3]; exact hme
          · exact hno k ok (by omega) h3
    exact this ops.size 0 (by omega) (fun k ok h => absurd h (Nat.not_lt_zero _))
  obtain ⟨cur, l1, l2, l3⟩ := firstE
  have hH : H cur = h := by rw [heapR cur 0 (by omega) (by omega) (fun k ok _ h2 h3 => l2 k ok h2 h3), t3]
  have rep : ∀ i, (Array.replicate ops.size false).getD i false = false := by
    intro i
    simp only [Array.getD_eq_getD_getElem?, Array.getElem?_replicate]
    split <;> rfl
  refine main ops.size (List.range ops.size) _ a w (by simp) (by simp) (fun i hi _ => List.mem_range.2 hi) (fun i o _ hl => by rw [rep] at hl; cases hl)
    ⟨cur, l1, fun o ho => ⟨l3 o ho, rep _⟩, f, φ, S, fun _ => 0,
      { below := fun i o hi hio he => absurd ((l2 i o hi hio).symm.trans he) (by simp)
        sim := by rw [hH]; exact M
        ext := by rw [hH]; exact E
        frel := by rw [hH]; exact F0
        defs := hd
        size := hN
        vals := fun i o t hl => by rw [rep] at hl; cases hl
        rest := fun t _ => rfl
        early := fun i o _ hl => by rw [rep] at hl; cases hl
        inj := fun i j o o' _ _ hl => by rw [rep] at hl; cases hl }⟩
end
end Go.Eng
