/- YtjljhmeadfejhaaGreatME3: texts of this claim, merged. -/
import Derived.Test.YtjljhmeadfejhaaGreatME2
import Derived.ProofKit
import Derived.OpenShut
import Derived.ShutString
import Derived.ChangeOld
import Derived.Below
import Derived.SizedLaws
/- The engine, part 18: regions whose order is drawn. -/
set_option linter.unusedVariables false
set_option linter.unusedSimpArgs false
namespace Go.Eng

/-- What the checker of a drawn region has seen. -/
structure Drawn (P : Program) (N : Nat) (ops : Array Oper) (aops : List AOper) (re : List (Nat × Nat)) (pre : Nat → Nat → Prop) : Prop where
  size : aops.length = ops.size
  opc : ∀ (j : Nat) (ao : AOper) (o : Oper), aops[j]? = some ao → ops[j]? = some o → OpC P N ops o ao
  back : ∀ (i : Nat) (o : Oper), ops[i]? = some o → ∀ e ∈ o.after, Region.binds .any e = true → e.on < i
  pre_ok : ∀ (listed : Nat → Bool), (∀ (i : Nat) (o : Oper), ops[i]? = some o → listed i = true → ∀ e ∈ o.after, Region.binds .any e = true → listed e.on = true) → ∀ i j, pre i j → listed i = true → listed j = true
  pre_ready : ∀ (listed : Nat → Bool), (∀ (i : Nat) (o : Oper), ops[i]? = some o → listed i = true → ∀ e ∈ o.after, Region.binds .any e = true → listed e.on = true) → ∀ i o, ops[i]? = some o → (∀ e ∈ o.after, Region.binds .any e = true → listed e.on = true) → ∀ j, pre i j → listed j = true
  dist : ∀ (i j : Nat) (x y : AOper) (t : Nat), aops[i]? = some x → aops[j]? = some y → x.dst = some t → y.dst = some t → i = j
  reads : ∀ (i p : Nat) (x y : AOper) (t : Nat), aops[i]? = some x → aops[p]? = some y → t ∈ x.uses → y.dst = some t → p = i ∨ (p < i ∧ pre i p) ∨ (i < p ∧ pre p i)
  effs : ∀ (i j : Nat) (x y : AOper), i < j → aops[i]? = some x → aops[j]? = some y → x.op.eff = true → y.op.eff = true → pre j i ∨ ∃ zs, y.op = .pl (.alloc zs) ∧ y.guard = none
  ear : ∀ (i p k : Nat) (x y z : AOper) (t : Nat), aops[i]? = some x → aops[p]? = some y → aops[k]? = some z → k < p → t ∈ x.uses → y.dst = some t → y.op.eff = true → z.op.eff = true → pre p k ∨ x.op.eff = true ∨ pre i k
  pairs : ∀ (i k : Nat) (x y : AOper), aops[i]? = some x → aops[k]? = some y → x.op.eff = false → x.op.rd = true → y.op.eff = true → (i, k) ∈ re ∨ (k < i ∧ pre i k) ∨ (i < k ∧ pre k i)

/-- A box that was made ahead of its turn. -/
def Early (w0 : World) (h : List AO) (φ : Nat → Loc) (w : World) (S : Nat → Nat → Prop) (zs : List AV) (b : Nat) : Prop :=
  w0.heap.size ≤ b ∧ (∃ (arr : Array Value) (T : TypeId), w.heap[b]? = some (.cells arr T (0, 0)) ∧ zs.length = arr.size ∧ (∀ (j : Nat) (y : AV), zs[j]? = some y → y.one = true) ∧
    ∀ h φ w S (j : Nat) (y : AV) (u : Value), zs[j]? = some y → arr[j]? = some u → Rel h φ w S true y u) ∧ (∀ j, ¬ S b j) ∧ ∀ (i : Nat) (o : AO), h[i]? = some o → o.isDead = false → (φ i).blk ≠ b
theorem Early.lt {w0 : World} {h : List AO} {φ : Nat → Loc} {w : World} {S : Nat → Nat → Prop} {zs : List AV} {b : Nat} (e : Early w0 h φ w S zs b) : b < w.heap.size := by
  obtain ⟨_, ⟨arr, T, k, _⟩, _⟩ := e
  exact (Array.getElem?_eq_some_iff.1 k).1
theorem Early.mono {w0 : World} {h h' : List AO} {φ φ' : Nat → Loc} {w w' : World} {S S' : Nat → Nat → Prop} {zs : List AV} {b : Nat} (E : Ext h φ w S h' φ' w' S') (e : Early w0 h φ w S zs b) : Early w0 h' φ' w' S' zs b := by
  have hlt := e.lt
  obtain ⟨e1, ⟨arr, T, k1, k2⟩, e3, e4⟩ := e
  refine ⟨e1, ⟨arr, T, (E.frame b hlt e4).trans k1, k2⟩, fun j hj => ?_, fun i o ho hd => ?_⟩
  · rcases E.news b j hj with k | k | ⟨i, x, q1, q2, q3⟩
    · exact e3 j k
    · omega
    · exact e4 i x q1 q2 q3
  · rcases E.live i o ho hd with ⟨o0, q1, q2, q3⟩ | k
    · rw [q3]; exact e4 i o0 q1 q2
    · omega
theorem Early.absorb {w0 : World} {h : List AO} {φ : Nat → Loc} {w : World} {S : Nat → Nat → Prop} {zs : List AV} {b : Nat} (e : Early w0 h φ w S zs b) (M : Sim h φ w S) :
    Sim (h ++ [.box zs]) (updφ φ h.length ⟨b, 0⟩) w S ∧ RExt h φ w S (h ++ [.box zs]) (updφ φ h.length ⟨b, 0⟩) w S ∧
    ∀ {h0 : List AO} {φ0 : Nat → Loc} {S0 : Nat → Nat → Prop}, Ext h0 φ0 w0 S0 h φ w S → Ext h0 φ0 w0 S0 (h ++ [.box zs]) (updφ φ h.length ⟨b, 0⟩) w S := by
  obtain ⟨e1, ⟨arr, T, k1, k2, k3, k4⟩, e3, e4⟩ := e
  have old : ∀ (i : Nat) (o : AO), i < h.length → ((h ++ [AO.box zs])[i]? = some o ↔ h[i]? = some o) := fun i o hi => by rw [List.getElem?_append_left hi]
  have cases_ : ∀ (i : Nat) (o : AO), (h ++ [AO.box zs])[i]? = some o → (i < h.length ∧ h[i]? = some o) ∨ (i = h.length ∧ o = .box zs) := by
    intro i o ho
    rcases Nat.lt_trichotomy i h.length with hi | hi | hi
    · exact .inl ⟨hi, (old i o hi).1 ho⟩
    · subst hi
      simp at ho
      exact .inr ⟨rfl, ho.symm⟩
    · rw [List.getElem?_eq_none (by simp; omega)] at ho; cases ho
  have hφ : ∀ i, i < h.length → updφ φ h.length ⟨b, 0⟩ i = φ i := fun i hi => updφ_other _ _ _ (by omega)
  have R : RExt h φ w S (h ++ [.box zs]) (updφ φ h.length ⟨b, 0⟩) w S :=
    { len := by simp
      stab := fun _ _ k => k
      cell := fun _ _ _ => rfl
      same := fun i ⟨o, q1, q2⟩ => by
        have hi := (List.getElem?_eq_some_iff.1 q1).1
        exact ⟨⟨o, (old i o hi).2 q1, q2⟩, by rw [hφ i hi]⟩
      tok := fun i e sz n hn hi => .inl ⟨(old i _ hi).1 hn, hφ i hi⟩ }
  refine ⟨⟨fun i o ho => ?_, fun i j oi oj hi hj di dj ee => ?_, M.stab⟩, R, fun {h0 φ0 S0} E => ?_⟩
  · rcases cases_ i o ho with ⟨hi, ho⟩ | ⟨rfl, rfl⟩
    · rw [hφ i hi]
      exact (M.obj i o ho).rmono R rfl (fun _ k => k)
    · simp only [updφ_same]
      exact ⟨arr, T, k1, Nat.le_of_eq k2, k3, fun j x v hx hv => k4 _ _ _ _ j x v hx hv, e3⟩
  · rcases cases_ i oi hi with ⟨hi', hi⟩ | ⟨rfl, rfl⟩ <;> rcases cases_ j oj hj with ⟨hj', hj⟩ | ⟨rfl, rfl⟩
    · rw [hφ i hi', hφ j hj'] at ee
      exact M.inj i j oi oj hi hj di dj ee
    · rw [hφ i hi', updφ_same] at ee
      exact absurd ee (e4 i oi hi di)
    · rw [hφ j hj', updφ_same] at ee
      exact absurd ee.symm (e4 j oj hj dj)
    · rfl
  · exact
    { len := Nat.le_trans E.len (by simp)
      stab := E.stab
      cell := E.cell
      same := fun i hi => by
        obtain ⟨q1, q2⟩ := E.same i hi
        obtain ⟨r1, r2⟩ := R.same i q1
        exact ⟨r1, r2.trans q2⟩
      tok := fun i e sz n hn hi => by
        have hi' : i < h.length := Nat.lt_of_lt_of_le hi E.len
        rw [hφ i hi']
        exact E.tok i e sz n ((old i _ hi').1 hn) hi
      live := fun i o ho hd => by
        rcases cases_ i o ho with ⟨hi, ho⟩ | ⟨rfl, rfl⟩
        · rw [hφ i hi]; exact E.live i o ho hd
        · rw [updφ_same]; exact .inr e1
      frame := E.frame
      os := E.os
      tape := E.tape
      output := E.output
      size := E.size
      news := E.news }

theorem cOp_alloc {P : Program} {o : Oper} {zs : List AV} (e : cOp P o = some (.alloc zs)) : ∃ t, o.op = .alloc t ∧ zeroL P t = some zs := by
  unfold cOp at e
  split at e
  all_goals repeat' split at e
  all_goals first
    | (cases e; done)
    | (obtain ⟨_, h, e'⟩ := Option.map_eq_some_iff.1 e; cases e'; exact ⟨_, by assumption, h⟩)
    | (obtain ⟨_, _, e'⟩ := Option.map_eq_some_iff.1 e; cases e'; done)
theorem run_alloc {P : Program} {o : Oper} {a : Act} {w : World} {zs : List AV} (e : cOp P o = some (.alloc zs)) :
    ∃ (arr : Array Value) (T : TypeId), (execOp a.eval o).run P w = .ok (.value (.pointer (some ⟨w.heap.size, 0, none⟩))) (w.alloc (.cells arr T)) ∧ zs.length = arr.size ∧ (∀ (j : Nat) (y : AV), zs[j]? = some y → y.one = true) ∧
    ∀ h φ w S (j : Nat) (y : AV) (u : Value), zs[j]? = some y → arr[j]? = some u → Rel h φ w S true y u := by
  obtain ⟨t, ho, hz⟩ := cOp_alloc e
  unfold zeroL at hz
  split at hz
  case h_2 => cases hz
  rename_i i hi
  split at hz
  case h_2 => cases hz
  rename_i z hzz
  obtain ⟨k1, k2, _⟩ := rel_cvL (h := []) (φ := fun _ => ⟨0, 0⟩) (w := w) (S := fun _ _ => False) hz true
  refine ⟨z.cells, t, by simp [execOp, ho, Instr.alloc, zeroValue, typeInfo, hi, hzz, newVar, newRow], by simpa using k1, k2, fun h φ w S j y u hy hu => ?_⟩
  exact (rel_cvL (h := h) (φ := φ) (w := w) (S := S) hz true).2.2 j y u hy (by simpa using hu)

def rmF (d : Option Nat) (f : Fr) : Fr := match d with
  | none => f
  | some t => f.filter fun q => !(q.1 == t)
theorem lk_rmF (d : Option Nat) (f : Fr) (i : Nat) : lk (rmF d f) i = if d = some i then none else lk f i := by
  cases d with
  | none => simp [rmF]
  | some t =>
    simp only [rmF, Option.some.injEq]
    induction f with
    | nil => simp [lk]
    | cons q f ih =>
      obtain ⟨j, x⟩ := q
      simp only [List.filter_cons]
      by_cases hj : j = t
      · subst hj
        simp only [beq_self_eq_true, Bool.not_true, Bool.false_eq_true, if_false, ih, lk]
        by_cases hi : j = i
        · simp [hi]
        · simp [hi, Ne.symm hi]
      · simp only [beq_iff_eq, hj, Bool.not_eq_true', beq_eq_false_iff_ne, ne_eq, not_false_eq_true, if_true, lk, ih]
        by_cases hi : t = i
        · subst hi; simp [Ne.symm hj]
        · simp [hi]

/-- Where a drawn region stands: effects ahead of m are done in the order of the text; later ones that are done are boxes made ahead of their turn. -/
structure DInv (N : Nat) (D' : List Deferred) (h0 : List AO) (φ0 : Nat → Loc) (w0 : World) (S0 : Nat → Nat → Prop) (aops : List AOper) (f : Fr) (H : Nat → List AO) (X : Nat → AV)
    (m : Nat) (listed : Array Bool) (a : Act) (w : World) (g : Fr) (φ : Nat → Loc) (S : Nat → Nat → Prop) (B : Nat → Nat) : Prop where
  below : ∀ i (o : AOper), i < m → aops[i]? = some o → o.op.eff = true → listed.getD i false = true
  sim : Sim (H m) φ w S
  ext : Ext h0 φ0 w0 S0 (H m) φ w S
  frel : FRel (H m) φ w S g a
  defs : a.defers = D'
  size : a.tmps.size = N
  vals : ∀ i (o : AOper) t, listed.getD i false = true → aops[i]? = some o → (o.op.eff = true → i < m) → o.dst = some t → lk g t = some (X i)
  rest : ∀ t, (∀ i (o : AOper), listed.getD i false = true → aops[i]? = some o → o.dst ≠ some t) → lk g t = lk f t
  early : ∀ i (o : AOper), m ≤ i → listed.getD i false = true → aops[i]? = some o → o.op.eff = true → ∃ zs, o.op = .pl (.alloc zs) ∧ o.guard = none ∧ (∀ t, o.dst = some t → a.tmps[t]? = some (.pointer (some ⟨B i, 0, none⟩))) ∧ Early w0 (H m) φ w S zs (B i)
  inj : ∀ i j (o o' : AOper), m ≤ i → m ≤ j → listed.getD i false = true → listed.getD j false = true → aops[i]? = some o → aops[j]? = some o' → o.op.eff = true → o'.op.eff = true → B i = B j → i = j

theorem Tr_get {P : Pg} : ∀ (l : List AOper) (f : Fr) (h : List AO) (tr : List (Fr × List AO)) (f' : Fr) (h' : List AO), Tr P l f h tr f' h' →
    ∃ (F : Nat → Fr) (H : Nat → List AO) (X : Nat → AV), (∀ i, i ≤ l.length → tr[i]? = some (F i, H i)) ∧ F 0 = f ∧ H 0 = h ∧ F l.length = f' ∧ H l.length = h' ∧
      ∀ (i : Nat) (op : AOper), l[i]? = some op → op1 P (F i) (H i) op (fun r h2 => r = .ok (X i) ∧ h2 = H (i + 1)) ∧ F (i + 1) = put (F i) op.dst (X i)
  | [], f, h, tr, f', h', T => by
    obtain ⟨rfl, rfl, rfl⟩ := T
    exact ⟨fun _ => f', fun _ => h', fun _ => .undef, fun i hi => by simp at hi; subst hi; rfl, rfl, rfl, rfl, rfl, fun i op e => by simp at e⟩
  | op :: l, f, h, tr, f', h', T => by
    obtain ⟨x, h1, tr', k1, rfl, k2⟩ := T
    obtain ⟨F, H, X, a1, a2, a3, a4, a5, a6⟩ := Tr_get l _ _ _ _ _ k2
    refine ⟨fun i => match i with | 0 => f | i + 1 => F i, fun i => match i with | 0 => h | i + 1 => H i, fun i => match i with | 0 => x | i + 1 => X i, fun i hi => ?_, rfl, rfl, a4, a5, fun i o e => ?_⟩
    · cases i with
      | zero => rfl
      | succ i => simpa using a1 i (by simpa using hi)
    · cases i with
      | zero => simp at e; subst e; simp only [a2, a3]; exact ⟨k1, trivial⟩
      | succ i => exact a6 i o (by simpa using e)

section
variable {P : Pg} {N : Nat}

theorem drawn_ok {ops : Array Oper} {aops : List AOper} {re : List (Nat × Nat)} {pre : Nat → Nat → Prop} (D : Drawn P N ops aops re pre) : DrawnOk P N ops aops re := by
  intro D' h0 φ0 w0 S0 V0 Kf Q' hQn a w ⟨f, h, φ, S, ⟨tr, f', h', T, DO, hK⟩, M, E, F0, hd, hN⟩
  obtain ⟨F, H, X, t1, t2, t3, t4, t5, t6⟩ := Tr_get aops f h tr f' h' T
  have hn : aops.length = ops.size := D.size
  -- the sequential frames
  have seqF : ∀ m, m ≤ aops.length → (∀ i (o : AOper) t, i < m → aops[i]? = some o → o.dst = some t → lk (F m) t = some (X i)) ∧
      ∀ t, (∀ i (o : AOper), i < m → aops[i]? = some o → o.dst ≠ some t) → lk (F m) t = lk f t := by
    intro m
    induction m with
    | zero => intro _; exact ⟨fun i o t hi => absurd hi (Nat.not_lt_zero _), fun t _ => by rw [t2]⟩
    | succ m ih =>
      intro hm
      obtain ⟨i1, i2⟩ := ih (by omega)
      have ho : aops[m]? = some aops[m] := List.getElem?_eq_getElem (by omega)
      have e := (t6 m _ ho).2
      constructor
      · intro i o t hi hio hdt
        rw [e]
        by_cases him : i = m
        · subst him
          rw [ho] at hio; injection hio with hio
          rw [hio, hdt]; simp [put, lk]
        · cases hdm : aops[m].dst with
          | none => simp only [put]; exact i1 i o t (by omega) hio hdt
          | some u =>
            simp only [put, lk]
            rw [if_neg (fun e' => him (D.dist i m o _ t hio ho hdt (by rw [hdm, e'])))]
            exact i1 i o t (by omega) hio hdt
      · intro t ht
        rw [e]
        cases hdm : aops[m].dst with
        | none => simp only [put]; exact i2 t (fun i o hi => ht i o (by omega))
        | some u =>
          simp only [put, lk]
          rw [if_neg (fun e' => ht m _ (by omega) ho (by rw [hdm, e']))]
          exact i2 t (fun i o hi => ht i o (by omega))
  -- the heap between effects
  have heapS : ∀ i (o : AOper), aops[i]? = some o → o.op.eff = false → H (i + 1) = H i := by
    intro i o ho he
    rcases (t6 i o ho).1 with ⟨_, k⟩ | ⟨_, k⟩
    · cases hs : o.op with
      | call c l => rw [hs] at he; cases he
      | pl b =>
        rw [hs] at k he
        obtain ⟨x, h2, k1, _, k3⟩ := k
        rw [← k3]; exact evP_noeff he k1
    · exact k.2.symm
  have heapR : ∀ j i, i ≤ j → j ≤ aops.length → (∀ k (o : AOper), i ≤ k → k < j → aops[k]? = some o → o.op.eff = false) → H j = H i := by
    intro j
    induction j with
    | zero => intro i hi _ _; rw [show i = 0 by omega]
    | succ j ih =>
      intro i hi hj hno
      by_cases e : i = j + 1
      · rw [e]
      · have ho : aops[j]? = some aops[j] := List.getElem?_eq_getElem (by omega)
        rw [heapS j _ ho (hno j _ (by omega) (by omega) ho)]
        exact ih i (by omega) (by omega) (fun k o h1 h2 => hno k o h1 (by omega))
  -- boxes that were made ahead are taken in when their turn comes
  have absorb : ∀ (n m : Nat) (listed : Array Bool) (a : Act) (w : World) (g : Fr) (φ : Nat → Loc) (S : Nat → Nat → Prop) (B : Nat → Nat), m + n = ops.size → DInv N D' h0 φ0 w0 S0 aops f H X m listed a w g φ S B →
      ∃ cur, m ≤ cur ∧ cur ≤ ops.size ∧ (∀ o : AOper, aops[cur]? = some o → o.op.eff = true ∧ listed.getD cur false = false) ∧ ∃ g φ S, DInv N D' h0 φ0 w0 S0 aops f H X cur listed a w g φ S B := by
    intro n
    induction n with
    | zero =>
      intro m listed a w g φ S B hm I
      exact ⟨m, Nat.le_refl _, by omega, fun o ho => by have := (List.getElem?_eq_some_iff.1 ho).1; omega, g, φ, S, I⟩
    | succ n ihn =>
      intro m listed a w g φ S B hm I
      have ho : aops[m]? = some aops[m] := List.getElem?_eq_getElem (by omega)
      cases he : aops[m].op.eff with
      | false =>
        have hH := heapS m _ ho he
        have ne : ∀ i (o : AOper), aops[i]? = some o → o.op.eff = true → i ≠ m := fun i o hi hoe e => by
          subst e; rw [ho] at hi; injection hi with hi; subst hi; rw [he] at hoe; cases hoe
        obtain ⟨cur, q1, q2⟩ := ihn (m + 1) listed a w g φ S B (by omega)
          { below := fun i o hi hio hie => I.below i o (by have := ne i o hio hie; omega) hio hie
            sim := by rw [hH]; exact I.sim
            ext := by rw [hH]; exact I.ext
            frel := by rw [hH]; exact I.frel
            defs := I.defs
            size := I.size
            vals := fun i o t hl hio hlt hdt => I.vals i o t hl hio (fun hie => by have := hlt hie; have := ne i o hio hie; omega) hdt
            rest := I.rest
            early := fun i o hi hl hio hie => by rw [hH]; exact I.early i o (by omega) hl hio hie
            inj := fun i j o o' hi hj => I.inj i j o o' (by omega) (by omega) }
        exact ⟨cur, by omega, q2⟩
      | true =>
        cases hl : listed.getD m false with
        | false => exact ⟨m, Nat.le_refl _, by omega, fun o ho' => by rw [ho] at ho'; injection ho' with ho'; subst ho'; exact ⟨he, hl⟩, g, φ, S, I⟩
        | true =>
          obtain ⟨zs, z1, z2, z3, z4⟩ := I.early m _ (Nat.le_refl _) hl ho he
          obtain ⟨a1, a2, a3⟩ := z4.absorb I.sim
          -- what the text's order gives
          obtain ⟨hX, hH⟩ : X m = .ptr (H m).length 0 ∧ H (m + 1) = H m ++ [.box zs] := by
            rcases (t6 m _ ho).1 with ⟨_, k⟩ | ⟨k, _⟩
            · rw [z1] at k
              obtain ⟨x, h2, k1, k2, k3⟩ := k
              simp only [evP] at k1
              injection k1 with k1; injection k1 with k1 k4
              injection k2 with k2
              exact ⟨by rw [← k2, k1], by rw [← k3, k4]⟩
            · rw [z2] at k; cases k
          have hlt : ∀ d, aops[m].dst = some d → d < a.tmps.size := fun d hd' => by
            have C := D.opc m _ ops[m] ho (Array.getElem?_eq_getElem (by omega))
            rw [I.size]; exact C.lt d (by rw [← C.dst]; exact hd')
          obtain ⟨cur, q1, q2⟩ := ihn (m + 1) listed a w (put g aops[m].dst (X m)) (updφ φ (H m).length ⟨B m, 0⟩) S B (by omega)
            { below := fun i o hi hio hie => by
                by_cases e : i = m
                · subst e; exact hl
                · exact I.below i o (by omega) hio hie
              sim := by rw [hH]; exact a1
              ext := by rw [hH]; exact a3 I.ext
              frel := by
                rw [hH]
                intro t x hx
                cases hd' : aops[m].dst with
                | none =>
                  rw [hd'] at hx
                  obtain ⟨v, v1, v2⟩ := I.frel t x hx
                  exact ⟨v, v1, v2.rmono a2⟩
                | some u =>
                  rw [hd'] at hx
                  simp only [put, lk] at hx
                  split at hx
                  · rename_i e
                    subst e
                    injection hx with hx
                    subst hx
                    exact ⟨_, z3 t hd', by rw [hX]; exact rel_newptr _ _ _ _ _ _⟩
                  · obtain ⟨v, v1, v2⟩ := I.frel t x hx
                    exact ⟨v, v1, v2.rmono a2⟩
              defs := I.defs
              size := I.size
              vals := fun i o t hli hio hltm hdt => by
                by_cases e : i = m
                · subst e
                  rw [ho] at hio; injection hio with hio
                  subst hio
                  rw [hdt]; simp [put, lk]
                · have := I.vals i o t hli hio (fun hie => by have := hltm hie; omega) hdt
                  cases hd' : aops[m].dst with
                  | none => exact this
                  | some u =>
                    simp only [put, lk]
                    rw [if_neg (fun e' => e (D.dist i m o _ t hio ho hdt (by rw [hd', e'])))]
                    exact this
              rest := fun t ht => by
                have := ht m _ hl ho
                cases hd' : aops[m].dst with
                | none => exact I.rest t ht
                | some u =>
                  simp only [put, lk]
                  rw [if_neg (fun e' => this (by rw [hd', e']))]
                  exact I.rest t ht
              early := fun i o hi hli hio hie => by
                obtain ⟨zs', y1, y2, y3, y4⟩ := I.early i o (by omega) hli hio hie
                refine ⟨zs', y1, y2, y3, y4.1, y4.2.1, y4.2.2.1, fun j oj hj hdj => ?_⟩
                rw [hH] at hj
                rcases Nat.lt_trichotomy j (H m).length with hjl | hjl | hjl
                · rw [updφ_other _ _ _ (by omega)]
                  rw [List.getElem?_append_left hjl] at hj
                  exact y4.2.2.2 j oj hj hdj
                · subst hjl
                  rw [updφ_same]
                  intro e
                  have := I.inj m i _ o (Nat.le_refl _) (by omega) hl hli ho hio he hie e
                  omega
                · rw [List.getElem?_eq_none (by simp; omega)] at hj; cases hj
              inj := fun i j o o' hi hj => I.inj i j o o' (by omega) (by omega) }
          exact ⟨cur, by omega, q2⟩
  -- the step
  have main : ∀ (fuel : Nat) (U : List Nat) (listed : Array Bool) (a : Act) (w : World), listed.size = ops.size → U.length ≤ fuel → (∀ i, i < ops.size → listed.getD i false = false → i ∈ U) →
      (∀ (i : Nat) (o : Oper), ops[i]? = some o → listed.getD i false = true → ∀ e ∈ o.after, Region.binds .any e = true → listed.getD e.on false = true) →
      (∃ cur, cur ≤ ops.size ∧ (∀ o : AOper, aops[cur]? = some o → o.op.eff = true ∧ listed.getD cur false = false) ∧ ∃ g φ S B, DInv N D' h0 φ0 w0 S0 aops f H X cur listed a w g φ S B) →
      wpAny P .any ops Q' fuel listed a w := by
    intro fuel
    have done : ∀ (listed : Array Bool) (a : Act) (w : World), listed.size = ops.size → (∀ i, i < ops.size → listed.getD i false = true) →
      (∃ cur, cur ≤ ops.size ∧ (∀ o : AOper, aops[cur]? = some o → o.op.eff = true ∧ listed.getD cur false = false) ∧ ∃ g φ S B, DInv N D' h0 φ0 w0 S0 aops f H X cur listed a w g φ S B) → Q' .normal a w := by
      intro listed a w hs hall ⟨cur, c1, c3, g, φ, S, B, I⟩
      have hc : cur = aops.length := by
        rcases Nat.lt_or_ge cur aops.length with hlt | hge
        · have := (c3 _ (List.getElem?_eq_getElem hlt)).2
          rw [hall cur (by omega)] at this
          cases this
        · omega
      subst hc
      refine hQn a w ⟨f', h', φ, S, hK, by rw [← t5]; exact I.sim, by rw [← t5]; exact I.ext, ?_, I.defs, I.size⟩
      rw [← t5, ← t4]
      obtain ⟨s1, s2⟩ := seqF aops.length (Nat.le_refl _)
      intro t x hx
      refine I.frel t x ?_
      rw [← hx]
      rcases Classical.em (∃ (i : Nat) (o : AOper), aops[i]? = some o ∧ o.dst = some t) with ⟨i, o, hio, hdt⟩ | hno
      · have hi := (List.getElem?_eq_some_iff.1 hio).1
        rw [I.vals i o t (hall i (by omega)) hio (fun _ => hi) hdt, s1 i o t hi hio hdt]
      · rw [I.rest t (fun i o _ hio e => hno ⟨i, o, hio, e⟩), s2 t (fun i o _ hio e => hno ⟨i, o, hio, e⟩)]
    have getD_eq : ∀ (listed : Array Bool) (i : Nat), listed.size = ops.size → i < ops.size → listed.getD i true = listed.getD i false := by
      intro listed i hs hi
      simp [Array.getD_eq_getD_getElem?, Array.getElem?_eq_getElem (show i < listed.size by omega)]
    have readyNil : ∀ (listed : Array Bool), listed.size = ops.size → Region.ready .any ops listed = [] → ∀ i, i < ops.size → listed.getD i false = true := by
      intro listed hs hr i
      induction i using Nat.strongRecOn with
      | _ i ih =>
        intro hi
        cases hl : listed.getD i false with
        | true => rfl
        | false =>
          have : i ∈ Region.ready .any ops listed := by
            refine mem_ready.2 ⟨by rw [getD_eq listed i hs hi]; exact hl, ops[i], Array.getElem?_eq_getElem hi, fun e he hb => ?_⟩
            have := D.back i _ (Array.getElem?_eq_getElem hi) e he hb
            exact ih e.on this (by omega)
          rw [hr] at this
          cases this
    induction fuel with
    | zero =>
      intro U listed a w hs hU hUall hcl hI
      have hall : ∀ i, i < ops.size → listed.getD i false = true := by
        intro i hi
        cases hl : listed.getD i false with
        | true => rfl
        | false => have := hUall i hi hl; rw [List.eq_nil_of_length_eq_zero (Nat.le_zero.1 hU)] at this; cases this
      refine ⟨?_, done listed a w hs hall hI⟩
      refine List.eq_nil_iff_forall_not_mem.2 fun i hi => ?_
      obtain ⟨h1, o, h2, _⟩ := mem_ready.1 hi
      have hlt := (Array.getElem?_eq_some_iff.1 h2).1
      rw [getD_eq listed i hs hlt, hall i hlt] at h1
      cases h1
    | succ fuel ih =>
      intro U listed a w hs hU hUall hcl hI
      refine ⟨fun hr => done listed a w hs (readyNil listed hs hr) hI, fun p hp => ?_⟩
      obtain ⟨hpl, o, hpo, hafter⟩ := mem_ready.1 hp
      have hplt : p < ops.size := (Array.getElem?_eq_some_iff.1 hpo).1
      rw [getD_eq listed p hs hplt] at hpl
      obtain ⟨cur, c1, c3, g, φ, S, B, I⟩ := hI
      have c2 := I.below
      have M := I.sim
      have E := I.ext
      have FR := I.frel
      have hd := I.defs
      have hN := I.size
      have g1 := I.vals
      have g2 := I.rest
      obtain ⟨ap, hpa⟩ : ∃ ap, aops[p]? = some ap := ⟨_, List.getElem?_eq_getElem (by omega : p < aops.length)⟩
      have C := D.opc p _ o hpa hpo
      have preP : ∀ j, pre p j → listed.getD j false = true := D.pre_ready (fun i => listed.getD i false) hcl p o hpo hafter
      have preL : ∀ i j, pre i j → listed.getD i false = true → listed.getD j false = true := D.pre_ok (fun i => listed.getD i false) hcl
      obtain ⟨s1, s2⟩ := seqF p (by omega)
      -- what the operation looks at is what it looked at in the order of the text
      have same : (ap.op.eff = true → cur = p) → ∀ t ∈ ap.uses, lk (F p) t = lk g t := by
        intro hcur t ht
        rcases Classical.em (∃ (i : Nat) (o : AOper), aops[i]? = some o ∧ o.dst = some t) with ⟨i, oi, hio, hdt⟩ | hno
        · have uniq : ∀ k (ok : AOper), aops[k]? = some ok → ok.dst = some t → k = i := fun k ok hk hkd => D.dist k i ok oi t hk hio hkd hdt
          rcases D.reads p i _ oi t hpa hio ht hdt with e | ⟨e1, e2⟩ | ⟨e1, e2⟩
          · rw [s2 t (fun k ok hk hko hkd => by have := uniq k ok hko hkd; omega), g2 t (fun k ok hk hko hkd => by
              have := uniq k ok hko hkd
              subst this; subst e; rw [hpl] at hk; cases hk)]
          · refine (s1 i oi t e1 hio hdt).trans (g1 i oi t (preP i e2) hio (fun hoe => ?_) hdt).symm
            rcases Nat.lt_or_ge i cur with hic | hic
            · exact hic
            · have hcp : cur ≤ p := by omega
              have hco : aops[cur]? = some aops[cur] := List.getElem?_eq_getElem (by omega)
              obtain ⟨q1, q2⟩ := c3 _ hco
              have hne : cur ≠ i := fun e => by subst e; rw [preP _ e2] at q2; cases q2
              rcases D.ear p i cur ap oi _ t hpa hio hco (by omega) ht hdt hoe q1 with h | h | h
              · have := preL i cur h (preP i e2); rw [q2] at this; cases this
              · have := hcur h; omega
              · have := preP cur h; rw [q2] at this; cases this
          · rw [s2 t (fun k ok hk hko hkd => by have := uniq k ok hko hkd; omega), g2 t (fun k ok hk hko hkd => by
              have := uniq k ok hko hkd
              subst this
              have := preL _ _ e2 hk
              rw [hpl] at this; cases this)]
        · rw [s2 t (fun i o _ hio e => hno ⟨i, o, hio, e⟩), g2 t (fun i o _ hio e => hno ⟨i, o, hio, e⟩)]
      -- the listed set behind it
      have hsz : (listed.setIfInBounds p true).size = ops.size := by simp [hs]
      have hU' : (U.erase p).length ≤ fuel := by
        have hm := hUall p hplt hpl
        rw [List.length_erase_of_mem hm]
        omega
      have getp : (listed.setIfInBounds p true).getD p false = true := by
        simp [Array.getD_eq_getD_getElem?, show p < listed.size by omega]
      have geto : ∀ i, i ≠ p → (listed.setIfInBounds p true).getD i false = listed.getD i false := fun i hi => getD_set_ne false (Ne.symm hi)
      have hUall' : ∀ i, i < ops.size → (listed.setIfInBounds p true).getD i false = false → i ∈ U.erase p := by
        intro i hi hl
        by_cases hip : i = p
        · subst hip; rw [getp] at hl; cases hl
        · rw [geto i hip] at hl
          exact (List.mem_erase_of_ne hip).2 (hUall i hi hl)
      have hcl' : ∀ (i : Nat) (o : Oper), ops[i]? = some o → (listed.setIfInBounds p true).getD i false = true → ∀ e ∈ o.after, Region.binds .any e = true → (listed.setIfInBounds p true).getD e.on false = true := by
        intro i oi hio hl e he hb
        refine getD_set_true ?_
        by_cases hip : i = p
        · subst hip
          rw [hpo] at hio; injection hio with hio; subst hio
          exact hafter e he hb
        · rw [geto i hip] at hl
          exact hcl i oi hio hl e he hb
      -- the state behind it, in order
      have nextG : ∀ (v : Value) (x : AV) (m : Nat) (φ' : Nat → Loc) (w' : World) (S' : Nat → Nat → Prop), x = X p → (ap.op.eff = true → p < m) → cur ≤ m → (∀ i (oi : AOper), i < m → aops[i]? = some oi → oi.op.eff = true → i = p ∨ i < cur) →
          Sim (H m) φ' w' S' → Ext (H cur) φ w S (H m) φ' w' S' → Rel (H m) φ' w' S' true x v → DInv N D' h0 φ0 w0 S0 aops f H X m (listed.setIfInBounds p true) (a.put o.dst v) w' (put g ap.dst x) φ' S' B := by
        intro v x m φ' w' S' hx hpm hcm hbel M' E' R'
        subst hx
        refine ⟨fun i oi hi hio hie => ?_, M', E.trans E', ?_, by rw [put_defers']; exact hd, by rw [put_size]; exact hN, ?_, ?_, ?_, ?_⟩
        · rcases hbel i oi hi hio hie with h | h
          · rw [h]; exact getp
          · exact getD_set_true (c2 i oi h hio hie)
        · rw [C.dst]
          exact (FR.mono E').put _ _ _ R' (fun d hd' => by rw [hN]; exact C.lt d hd')
        · intro i oi t hl hio hlt hdt
          by_cases hip : i = p
          · subst hip
            rw [hpa] at hio; injection hio with hio; subst hio
            rw [hdt]; simp [put, lk]
          · rw [geto i hip] at hl
            have hv := g1 i oi t hl hio (fun hie => (hbel i oi (hlt hie) hio hie).resolve_left hip) hdt
            cases hdp : ap.dst with
            | none => exact hv
            | some u =>
              simp only [put, lk]
              rw [if_neg (fun e' => hip (D.dist i p oi _ t hio hpa hdt (by rw [hdp, e'])))]
              exact hv
        · intro t ht
          have hne := ht p _ getp hpa
          have : lk (put g ap.dst (X p)) t = lk g t := by
            cases hdp : ap.dst with
            | none => rfl
            | some u => simp only [put, lk]; rw [if_neg (fun e' => hne (by rw [hdp, e']))]
          rw [this]
          exact g2 t (fun i oi hl hio => ht i oi (getD_set_true hl) hio)
        · intro i oi hi hl hio hie
          have hip : i ≠ p := fun e => by
            subst e
            rw [hpa] at hio; injection hio with hio; subst hio
            have := hpm hie; omega
          rw [geto i hip] at hl
          obtain ⟨zs, y1, y2, y3, y4⟩ := I.early i oi (by omega) hl hio hie
          refine ⟨zs, y1, y2, fun t hdt => ?_, y4.mono E'⟩
          have hne : o.dst ≠ some t := fun e' => hip (D.dist i p oi _ t hio hpa hdt (by rw [C.dst]; exact e'))
          have := y3 t hdt
          cases hod : o.dst with
          | none => exact this
          | some u =>
            simp only [Act.put]
            rw [Array.getElem?_setIfInBounds_ne (fun e' => hne (by rw [hod, e']))]
            exact this
        · intro i j oi oj hi hj hli hlj hio hjo hie hje
          have key : ∀ i (oi : AOper), m ≤ i → aops[i]? = some oi → oi.op.eff = true → i ≠ p := fun i oi hi hio hie e => by
            subst e
            rw [hpa] at hio; injection hio with hio; subst hio
            have := hpm hie; omega
          rw [geto i (key i oi hi hio hie)] at hli
          rw [geto j (key j oj hj hjo hje)] at hlj
          exact I.inj i j oi oj (by omega) (by omega) hli hlj hio hjo hie hje
      have hop := (t6 p _ hpa).1
      cases hef : ap.op.eff with
      | true =>
        have hcp : cur = p ∨ (cur < p ∧ ∃ zs, ap.op = .pl (.alloc zs) ∧ ap.guard = none) := by
          rcases Nat.lt_trichotomy cur p with hlt | heq | hgt
          · have hco : aops[cur]? = some aops[cur] := List.getElem?_eq_getElem (by omega)
            obtain ⟨q1, q2⟩ := c3 _ hco
            rcases D.effs cur p _ _ hlt hco hpa q1 hef with h | h
            · have := preP cur h; rw [q2] at this; cases this
            · exact .inr ⟨hlt, h⟩
          · exact .inl heq
          · have := c2 p _ hgt hpa hef
            rw [hpl] at this; cases this
        rcases hcp with hcp | ⟨hlt, zs, hza, hzg⟩
        · subst hcp
          refine op1_sound (Q := Q') C hpo (P.stable E V0) M FR hN (op1_congr (same (fun _ => rfl)) hop) ?_ ?_
          · intro x h1 φ' w' S' v hx M' E' R'
            obtain ⟨hx1, hx2⟩ := hx
            injection hx1 with hx1
            rw [hx2] at M' E' R'
            have I' := nextG v x (cur + 1) φ' w' S' hx1 (fun _ => by omega) (by omega) (fun i oi hi _ _ => by omega) M' E' R'
            obtain ⟨cur', l1, l2, l3, g', φ'', S'', I''⟩ := absorb (ops.size - (cur + 1)) (cur + 1) _ _ _ _ _ _ _ (by omega) I'
            exact ih (U.erase cur) _ _ w' hsz hU' hUall' hcl' ⟨cur', l2, l3, g', φ'', S'', B, I''⟩
          · intro x h1 φ' w' S' v hx
            cases hx.1
        · -- a box made ahead of its turn
          obtain ⟨b, cb1, cb2⟩ := C.op
          have hb : b = .alloc zs := toSt_pl (by rw [cb2]; exact hza)
          subst hb
          obtain ⟨arr, T, r1, r2, r3, r4⟩ := run_alloc (a := a) (w := w) cb1
          have hgo : o.guard = none := by
            have := C.guard
            cases hg : o.guard with
            | none => rfl
            | some q =>
              obtain ⟨j, want⟩ := q
              rw [hg] at this
              obtain ⟨t, _, k2⟩ := this
              rw [hzg] at k2; cases k2
          have hnew : (w.alloc (.cells arr T)).heap[w.heap.size]? = some (.cells arr T (0, 0)) := by show (w.heap.push _)[w.heap.size]? = _; simp
          have hold : ∀ k, k < w.heap.size → (w.alloc (.cells arr T)).heap[k]? = w.heap[k]? := fun k hk => by show (w.heap.push _)[k]? = _; rw [Array.getElem?_push, if_neg (by omega)]
          have E' : Ext (H cur) φ w S (H cur) φ (w.alloc (.cells arr T)) S :=
            { len := Nat.le_refl _, stab := fun _ _ k => k, cell := fun b o hs => World.cell?_of_block (hold b (M.stab b o hs)), same := fun i hi => ⟨hi, rfl⟩, tok := fun i e sz n hi _ => .inl ⟨hi, rfl⟩,
              live := fun i o ho hd => .inl ⟨o, ho, hd, rfl⟩, frame := fun k hk _ => hold k hk, os := rfl, tape := rfl, output := rfl, size := by simp, news := fun _ _ k => .inl k }
          have M' : Sim (H cur) φ (w.alloc (.cells arr T)) S := by
            refine ⟨fun i o ho => ?_, M.inj, fun b o hs => Nat.lt_of_lt_of_le (M.stab b o hs) (by simp)⟩
            cases hdd : o.isDead with
            | true => cases o <;> first | trivial | cases hdd
            | false => exact (M.obj i o ho).mono E' (hold _ ((M.obj i o ho).lt hdd)) (fun _ k => k)
          show wpOp P ops Q' p _ a w
          unfold wpOp
          simp only [hpo]
          rw [if_pos (by simp [Region.wanted, hgo])]
          refine .inl ?_
          simp only [Oper.wp, r1, Oper.upon_value]
          have hput : ∀ t, o.dst ≠ some t → (a.put o.dst (.pointer (some ⟨w.heap.size, 0, none⟩))).tmps[t]? = a.tmps[t]? := fun t hne => by
            cases hod : o.dst with
            | none => rfl
            | some u => simp only [Act.put]; rw [Array.getElem?_setIfInBounds_ne (fun e' => hne (by rw [hod, e']))]
          refine ih (U.erase p) _ _ _ hsz hU' hUall' hcl' ⟨cur, c1, fun ok hk => ?_, rmF ap.dst g, φ, S, fun i => if i = p then w.heap.size else B i, ?_⟩
          · obtain ⟨q1, q2⟩ := c3 ok hk
            exact ⟨q1, by rw [geto cur (by omega)]; exact q2⟩
          · refine ⟨fun i oi hi hio hie => getD_set_true (c2 i oi hi hio hie), M', E.trans E', ?_, by rw [put_defers']; exact hd, by rw [put_size]; exact hN, ?_, ?_, ?_, ?_⟩
            · intro t x hx
              rw [lk_rmF] at hx
              split at hx
              · cases hx
              · rename_i hne
                obtain ⟨v, v1, v2⟩ := FR.mono E' t x hx
                exact ⟨v, by rw [hput t (by rw [← C.dst]; exact hne)]; exact v1, v2⟩
            · intro i oi t hl hio hlt' hdt
              have hip : i ≠ p := fun e => by
                subst e
                rw [hpa] at hio; injection hio with hio; subst hio
                have := hlt' hef; omega
              rw [geto i hip] at hl
              rw [lk_rmF, if_neg (fun e' => hip (D.dist i p oi _ t hio hpa hdt e'))]
              exact g1 i oi t hl hio hlt' hdt
            · intro t ht
              have hne := ht p _ getp hpa
              rw [lk_rmF, if_neg hne]
              exact g2 t (fun i oi hl hio => ht i oi (getD_set_true hl) hio)
            · intro i oi hi hl hio hie
              by_cases hip : i = p
              · subst hip
                rw [hpa] at hio; injection hio with hio; subst hio
                refine ⟨zs, hza, hzg, fun t hdt => ?_, ?_⟩
                · simp only [if_true]
                  have hot : o.dst = some t := by rw [← C.dst]; exact hdt
                  have := C.lt t hot
                  rw [hot]
                  simp only [Act.put]
                  rw [Array.getElem?_setIfInBounds_self_of_lt (by rw [hN]; exact this)]
                · simp only [if_true]
                  refine ⟨E.size, ⟨arr, T, hnew, r2, r3, fun h φ w S j y u => r4 h φ w S j y u⟩, fun j hj => ?_, fun j oj hj hdj => ?_⟩
                  · exact absurd (M.stab _ _ hj) (Nat.lt_irrefl _)
                  · have := (M.obj j oj hj).lt hdj
                    omega
              · rw [geto i hip] at hl
                obtain ⟨zs', y1, y2, y3, y4⟩ := I.early i oi hi hl hio hie
                refine ⟨zs', y1, y2, fun t hdt => ?_, by simp only [if_neg hip]; exact y4.mono E'⟩
                simp only [if_neg hip]
                rw [hput t (fun e' => hip (D.dist i p oi _ t hio hpa hdt (by rw [C.dst]; exact e')))]
                exact y3 t hdt
            · intro i j oi oj hi hj hli hlj hio hjo hie hje
              have lt : ∀ i (oi : AOper), i ≠ p → cur ≤ i → (listed.setIfInBounds p true).getD i false = true → aops[i]? = some oi → oi.op.eff = true → B i < w.heap.size := by
                intro i oi hip hi hl hio hie
                rw [geto i hip] at hl
                obtain ⟨_, _, _, _, y4⟩ := I.early i oi hi hl hio hie
                exact y4.lt
              by_cases hip : i = p <;> by_cases hjp : j = p
              · intro _; rw [hip, hjp]
              · simp only [if_pos hip, if_neg hjp]
                intro e; have := lt j oj hjp hj hlj hjo hje; omega
              · simp only [if_neg hip, if_pos hjp]
                intro e; have := lt i oi hip hi hli hio hie; omega
              · simp only [if_neg hip, if_neg hjp]
                rw [geto i hip] at hli
                rw [geto j hjp] at hlj
                exact I.inj i j oi oj hi hj hli hlj hio hjo hie hje
      | false =>
        have hpc : cur ≠ p := by
          intro e
          have := (c3 ap (by rw [e]; exact hpa)).1
          rw [hef] at this; cases this
        -- the value at this heap
        have hval : op1 P (F p) (H cur) ap (fun r h2 => r = .ok (X p) ∧ h2 = H cur) := by
          rcases hop with ⟨k1, k2⟩ | ⟨k1, k2⟩
          case inr => exact .inr ⟨k1, k2.1, rfl⟩
          refine .inl ⟨k1, ?_⟩
          cases hsp : ap.op with
          | call c l => rw [hsp] at hef; cases hef
          | pl b =>
            rw [hsp] at k2
            obtain ⟨x, h2, k3, k4, k5⟩ := k2
            injection k4 with k4
            subst k4
            have hbe : b.eff = false := by rw [hsp] at hef; exact hef
            cases hrd : b.rd with
            | false => exact ⟨X p, H cur, evP_pure hbe hrd k3 (H cur), rfl, rfl⟩
            | true =>
              have hv0 : valOf (F p) (H p) ap = some (X p) := by simp only [valOf, k1, hsp, k3, Option.map_some]
              have key : valOf (F p) (H cur) ap = some (X p) := by
                have pairs := fun k (y : AOper) (hk : aops[k]? = some y) (hy : y.op.eff = true) => D.pairs p k _ y hpa hk hef (by rw [hsp]; exact hrd) hy
                rcases Nat.lt_or_ge cur p with hlt | hge
                · have hco : aops[cur]? = some aops[cur] := List.getElem?_eq_getElem (by omega)
                  obtain ⟨q1, q2⟩ := c3 _ hco
                  rcases pairs cur _ hco q1 with hre | ⟨_, hpr⟩ | ⟨hlt', _⟩
                  · rw [(DO (p, cur) hre _ _ _ _ hpa (t1 p (by omega)) (t1 cur (by omega)) (t1 (cur + 1) (by omega))).1]; exact hv0
                  · have := preP cur hpr; rw [q2] at this; cases this
                  · omega
                · -- the last effect in between
                  have lastE : (∀ k (y : AOper), p ≤ k → k < cur → aops[k]? = some y → y.op.eff = false) ∨ ∃ (k : Nat) (y : AOper), p < k ∧ k < cur ∧ aops[k]? = some y ∧ y.op.eff = true ∧ ∀ j (z : AOper), k + 1 ≤ j → j < cur → aops[j]? = some z → z.op.eff = false := by
                    have : ∀ n, n ≤ cur → (∀ j (z : AOper), n ≤ j → j < cur → aops[j]? = some z → z.op.eff = false) → p ≤ n →
                        ((∀ k (y : AOper), p ≤ k → k < cur → aops[k]? = some y → y.op.eff = false) ∨ ∃ (k : Nat) (y : AOper), p < k ∧ k < cur ∧ aops[k]? = some y ∧ y.op.eff = true ∧ ∀ j (z : AOper), k + 1 ≤ j → j < cur → aops[j]? = some z → z.op.eff = false) := by
                      intro n
                      induction n with
                      | zero => intro _ hno hpn; exact .inl (fun k y h1 h2 h3 => hno k y (by omega) h2 h3)
                      | succ n ihn =>
                        intro hn' hno hpn
                        by_cases e : p = n + 1
                        · exact .inl (fun k y h1 h2 h3 => hno k y (by omega) h2 h3)
                        · have hno' : aops[n]? = some aops[n] := List.getElem?_eq_getElem (by omega)
                          cases hne : aops[n].op.eff with
                          | true =>
                            have : p ≠ n := fun e' => by
                              subst e'
                              rw [hpa] at hno'; injection hno' with hno'
                              rw [← hno', hef] at hne; cases hne
                            exact .inr ⟨n, _, by omega, by omega, hno', hne, hno⟩
                          | false =>
                            refine ihn (by omega) (fun j z h1 h2 h3 => ?_) (by omega)
                            by_cases hjn : j = n
                            · subst hjn; rw [hno'] at h3; injection h3 with h3; rw [← h3]; exact hne
                            · exact hno j z (by omega) h2 h3
                    exact this cur (Nat.le_refl _) (fun j z h1 h2 => by omega) hge
                  rcases lastE with hno | ⟨k, y, k1', k2', k3', k4', k5'⟩
                  · rw [heapR cur p hge (by omega) hno]; exact hv0
                  · have hkl := c2 k y k2' k3' k4'
                    rcases pairs k y k3' k4' with hre | ⟨hlt', _⟩ | ⟨_, hpr⟩
                    · have hH : H cur = H (k + 1) := heapR cur (k + 1) (by omega) (by omega) k5'
                      rw [hH, (DO (p, k) hre _ _ _ _ hpa (t1 p (by omega)) (t1 k (by omega)) (t1 (k + 1) (by omega))).2]; exact hv0
                    · omega
                    · have := preL k p hpr hkl; rw [hpl] at this; cases this
              simp only [valOf, k1, hsp] at key
              obtain ⟨r, r1, r2⟩ := Option.map_eq_some_iff.1 key
              obtain ⟨r3, r4⟩ := r
              have := evP_noeff hbe r1
              simp only at r2 this
              subst r2 this
              exact ⟨_, _, r1, rfl, rfl⟩
        refine op1_sound (Q := Q') C hpo (P.stable E V0) M FR hN (op1_congr (same (fun h => by rw [hef] at h; cases h)) hval) ?_ ?_
        · intro x h1 φ' w' S' v hx M' E' R'
          obtain ⟨hx1, hx2⟩ := hx
          injection hx1 with hx1
          rw [hx2] at M' E' R'
          refine ih (U.erase p) _ _ w' hsz hU' hUall' hcl' ⟨cur, c1, ?_, _, φ', S', B, nextG v x cur φ' w' S' hx1 (fun h => by rw [hef] at h; cases h) (Nat.le_refl _) (fun i oi hi _ _ => .inr hi) M' E' R'⟩
          intro ok hk
          obtain ⟨q1, q2⟩ := c3 ok hk
          exact ⟨q1, by rw [geto cur hpc]; exact q2⟩
        · intro x h1 φ' w' S' v hx
          cases hx.1
  -- the start
  have firstE : ∃ cur, cur ≤ ops.size ∧ (∀ k (ok : AOper), k < cur → aops[k]? = some ok → ok.op.eff = false) ∧ ∀ ok : AOper, aops[cur]? = some ok → ok.op.eff = true := by
    have : ∀ n m, m + n = ops.size → (∀ k (ok : AOper), k < m → aops[k]? = some ok → ok.op.eff = false) →
        ∃ cur', cur' ≤ ops.size ∧ (∀ k (ok : AOper), k < cur' → aops[k]? = some ok → ok.op.eff = false) ∧ ∀ ok : AOper, aops[cur']? = some ok → ok.op.eff = true := by
      intro n
      induction n with
      | zero => intro m hmn hno; exact ⟨m, by omega, hno, fun ok hk => by have := (List.getElem?_eq_some_iff.1 hk).1; omega⟩
      | succ n ihn =>
        intro m hmn hno
        have hmo : aops[m]? = some aops[m] := List.getElem?_eq_getElem (by omega)
        cases hme : aops[m].op.eff with
        | true => exact ⟨m, by omega, hno, fun ok hk => by rw [hmo] at hk; injection hk with hk; rw [← hk]; exact hme⟩
        | false =>
          refine ihn (m + 1) (by omega) (fun k ok h2 h3 => ?_)
          by_cases hkm : k = m
          · subst hkm; rw [hmo] at h3; injection h3 with h3; rw [← h3]; exact hme
          · exact hno k ok (by omega) h3
    exact this ops.size 0 (by omega) (fun k ok h => absurd h (Nat.not_lt_zero _))
  obtain ⟨cur, l1, l2, l3⟩ := firstE
  have hH : H cur = h := by rw [heapR cur 0 (by omega) (by omega) (fun k ok _ h2 h3 => l2 k ok h2 h3), t3]
  have rep : ∀ i, (Array.replicate ops.size false).getD i false = false := by
    intro i
    simp only [Array.getD_eq_getD_getElem?, Array.getElem?_replicate]
    split <;> rfl
  refine main ops.size (List.range ops.size) _ a w (by simp) (by simp) (fun i hi _ => List.mem_range.2 hi) (fun i o _ hl => by rw [rep] at hl; cases hl)
    ⟨cur, l1, fun o ho => ⟨l3 o ho, rep _⟩, f, φ, S, fun _ => 0,
      { below := fun i o hi hio he => absurd ((l2 i o hi hio).symm.trans he) (by simp)
        sim := by rw [hH]; exact M
        ext := by rw [hH]; exact E
        frel := by rw [hH]; exact F0
        defs := hd
        size := hN
        vals := fun i o t hl => by rw [rep] at hl; cases hl
        rest := fun t _ => rfl
        early := fun i o _ hl => by rw [rep] at hl; cases hl
        inj := fun i j o o' _ _ hl => by rw [rep] at hl; cases hl }⟩
end
end Go.Eng

/- The engine, part 19: the compiler of code. -/
set_option linter.unusedVariables false
set_option linter.unusedSimpArgs false
namespace Go.Eng

/-! ### drawn regions, checked -/
def edges (o : Oper) : List Nat := (o.after.toList.filter fun e => Region.binds .any e).map (·.on)
def addN (x : Nat) (l : List Nat) : List Nat := if l.contains x then l else x :: l
def uniN (a b : List Nat) : List Nat := a.foldl (fun l x => addN x l) b
def presGo : List Oper → List (List Nat) → List (List Nat)
  | [], acc => acc
  | o :: r, acc => presGo r (acc ++ [(edges o).foldl (fun l k => uniN (k :: acc[k]?.getD []) l) []])
def inP (pres : List (List Nat)) (i j : Nat) : Bool := (pres[i]?.getD []).contains j

/-- Is it a box, made without looking at anything? -/
def isAl (y : AOper) : Bool := match y.op, y.guard with
  | .pl (.alloc _), none => true
  | _, _ => false
theorem isAl_sound {y : AOper} (e : isAl y = true) : ∃ zs, y.op = .pl (.alloc zs) ∧ y.guard = none := by
  unfold isAl at e
  split at e
  · rename_i zs h1 h2; exact ⟨zs, h1, h2⟩
  · cases e
/-- What looks at a box that may be made ahead of its turn waits for its turn. -/
def ckEar (aops : List AOper) (pres : List (List Nat)) : Bool :=
  (List.range aops.length).all fun p => match aops[p]? with
    | some y => !y.op.eff || (List.range p).all fun k => match aops[k]? with
      | some z => !z.op.eff || (inP pres p k || (List.range aops.length).all fun i => match aops[i]? with
        | some x => (match y.dst with
          | some t => !(x.uses.contains t)
          | none => true) || (x.op.eff || inP pres i k)
        | none => true)
      | none => true
    | none => true
theorem ckEar_sound {aops : List AOper} {pres : List (List Nat)} (e : ckEar aops pres = true) {i p k : Nat} {x y z : AOper} {t : Nat} (hx : aops[i]? = some x) (hy : aops[p]? = some y) (hz : aops[k]? = some z) (hk : k < p) (ht : t ∈ x.uses)
    (hd : y.dst = some t) (he : y.op.eff = true) (hf : z.op.eff = true) : inP pres p k = true ∨ x.op.eff = true ∨ inP pres i k = true := by
  simp only [ckEar, List.all_eq_true, List.mem_range] at e
  have e1 := e p (List.getElem?_eq_some_iff.1 hy).1
  simp only [hy, he, Bool.not_true, Bool.false_or, List.all_eq_true, List.mem_range] at e1
  have e2 := e1 k hk
  simp only [hz, hf, Bool.not_true, Bool.false_or, Bool.or_eq_true, List.all_eq_true, List.mem_range] at e2
  rcases e2 with h | h
  · exact .inl h
  · have e3 := h i (List.getElem?_eq_some_iff.1 hx).1
    simp only [hx, hd, Bool.or_eq_true] at e3
    rcases e3 with h | h
    · simp at h; exact absurd ht h
    · exact .inr h
def ckPair (pres : List (List Nat)) (re : List (Nat × Nat)) (i j : Nat) (x y : AOper) : Bool :=
  (match x.dst, y.dst with
    | some s, some t => i == j || !(s == t)
    | _, _ => true) &&
  (match y.dst with
    | some t => !(x.uses.contains t) || i == j || (decide (j < i) && inP pres i j) || (decide (i < j) && inP pres j i)
    | none => true) &&
  (!(decide (i < j) && x.op.eff && y.op.eff) || (inP pres j i || isAl y)) &&
  (!(!x.op.eff && x.op.rd && y.op.eff) || re.contains (i, j) || (decide (j < i) && inP pres i j) || (decide (i < j) && inP pres j i))
def ckOp (ops : Array Oper) (pres : List (List Nat)) (i : Nat) : Bool :=
  match ops[i]? with
  | some o => (edges o).all (fun k => decide (k < i)) && (pres[i]?.getD []).all fun j => (edges o).any fun k => k == j || inP pres k j
  | none => true
def ckDrawn (ops : Array Oper) (aops : List AOper) (pres : List (List Nat)) (re : List (Nat × Nat)) : Bool :=
  aops.length == ops.size && (List.range aops.length).all (fun i => ckOp ops pres i) && ckEar aops pres &&
  (List.range aops.length).all fun i => (List.range aops.length).all fun j => match aops[i]?, aops[j]? with
    | some x, some y => ckPair pres re i j x y
    | _, _ => true
def rePairs (aops : List AOper) (pres : List (List Nat)) : List (Nat × Nat) :=
  (List.range aops.length).flatMap fun i => (List.range aops.length).filterMap fun j => match aops[i]?, aops[j]? with
    | some x, some y => if (!x.op.eff && x.op.rd && y.op.eff) && !((decide (j < i) && inP pres i j) || (decide (i < j) && inP pres j i)) then some (i, j) else none
    | _, _ => none
def drawCk (ops : Array Oper) (aops : List AOper) : Option (List (Nat × Nat)) :=
  let pres := presGo ops.toList []
  let re := rePairs aops pres
  if ckDrawn ops aops pres re then some re else none

theorem mem_edges {o : Oper} {k : Nat} : k ∈ edges o ↔ ∃ e ∈ o.after, Region.binds .any e = true ∧ e.on = k := by
  simp only [edges, List.mem_map, List.mem_filter, Array.mem_toList_iff]
  constructor
  · rintro ⟨e, ⟨h1, h2⟩, h3⟩; exact ⟨e, h1, h2, h3⟩
  · rintro ⟨e, h1, h2, h3⟩; exact ⟨e, ⟨h1, h2⟩, h3⟩

theorem ckDrawn_sound {P : Program} {N : Nat} {ops : Array Oper} {aops : List AOper} {pres : List (List Nat)} {re : List (Nat × Nat)} (hC : ∀ (j : Nat) (ao : AOper) (o : Oper), aops[j]? = some ao → ops[j]? = some o → OpC P N ops o ao)
    (e : ckDrawn ops aops pres re = true) : Drawn P N ops aops re fun i j => i < ops.size ∧ inP pres i j = true := by
  simp only [ckDrawn, Bool.and_eq_true, beq_iff_eq, List.all_eq_true, List.mem_range] at e
  obtain ⟨⟨⟨hs, h1⟩, hear⟩, h2⟩ := e
  have back : ∀ (i : Nat) (o : Oper), ops[i]? = some o → ∀ e ∈ o.after, Region.binds .any e = true → e.on < i := by
    intro i o ho e he hb
    have := h1 i (by rw [hs]; exact (Array.getElem?_eq_some_iff.1 ho).1)
    simp only [ckOp, ho, Bool.and_eq_true, List.all_eq_true, decide_eq_true_eq] at this
    exact this.1 _ (mem_edges.2 ⟨e, he, hb, rfl⟩)
  have step : ∀ (i : Nat) (o : Oper), ops[i]? = some o → ∀ j, inP pres i j = true → ∃ k ∈ edges o, k = j ∨ inP pres k j = true := by
    intro i o ho j hj
    have := h1 i (by rw [hs]; exact (Array.getElem?_eq_some_iff.1 ho).1)
    simp only [ckOp, ho, Bool.and_eq_true, List.all_eq_true, decide_eq_true_eq, List.any_eq_true, Bool.or_eq_true, beq_iff_eq] at this
    exact this.2 j (by simpa [inP] using hj)
  have closed : ∀ (listed : Nat → Bool), (∀ (i : Nat) (o : Oper), ops[i]? = some o → listed i = true → ∀ e ∈ o.after, Region.binds .any e = true → listed e.on = true) →
      ∀ i, i < ops.size → ∀ j, inP pres i j = true → listed i = true → listed j = true := by
    intro listed hcl i
    induction i using Nat.strongRecOn with
    | _ i ih =>
      intro hi j hj hl
      have ho : ops[i]? = some ops[i] := Array.getElem?_eq_getElem hi
      obtain ⟨k, hk, h⟩ := step i _ ho j hj
      obtain ⟨e, he, hb, rfl⟩ := mem_edges.1 hk
      have hle := hcl i _ ho hl e he hb
      rcases h with rfl | h
      · exact hle
      · have := back i _ ho e he hb
        exact ih e.on this (by omega) j h hle
  have pair : ∀ (i j : Nat) (x y : AOper), aops[i]? = some x → aops[j]? = some y → ckPair pres re i j x y = true := by
    intro i j x y hx hy
    have := h2 i (List.getElem?_eq_some_iff.1 hx).1 j (List.getElem?_eq_some_iff.1 hy).1
    simpa only [hx, hy] using this
  refine ⟨hs, hC, back, fun listed hcl i j hp hl => closed listed hcl i hp.1 j hp.2 hl, fun listed hcl i o ho hall j hp => ?_, fun i j x y t hx hy hxt hyt => ?_, fun i p x y t hx hy ht hyt => ?_, fun i j x y hlt hx hy h3 h4 => ?_, fun i p k x y z t hx hy hz hk ht hd he hf => ?_, fun i k x y hx hy h3 h4 h5 => ?_⟩
  · obtain ⟨k, hk, h⟩ := step i o ho j hp.2
    obtain ⟨e, he, hb, rfl⟩ := mem_edges.1 hk
    have hle := hall e he hb
    rcases h with rfl | h
    · exact hle
    · have := back i _ ho e he hb
      have hi := (Array.getElem?_eq_some_iff.1 ho).1
      exact closed listed hcl e.on (by omega) j h hle
  · have := pair i j x y hx hy
    simp only [ckPair, hxt, hyt, Bool.and_eq_true, Bool.or_eq_true, beq_iff_eq] at this
    simpa using this.1.1.1
  · have := pair i p x y hx hy
    simp only [ckPair, hyt, Bool.and_eq_true, Bool.or_eq_true, beq_iff_eq, decide_eq_true_eq] at this
    have hl1 : i < ops.size := by rw [← hs]; exact (List.getElem?_eq_some_iff.1 hx).1
    have hl2 : p < ops.size := by rw [← hs]; exact (List.getElem?_eq_some_iff.1 hy).1
    rcases this.1.1.2 with ((h | h) | h) | h
    · simp at h; exact absurd ht h
    · exact .inl h.symm
    · exact .inr (.inl ⟨h.1, hl1, h.2⟩)
    · exact .inr (.inr ⟨h.1, hl2, h.2⟩)
  · have := pair i j x y hx hy
    simp only [ckPair, Bool.and_eq_true] at this
    have h := this.1.2
    have hl2 : j < ops.size := by rw [← hs]; exact (List.getElem?_eq_some_iff.1 hy).1
    simp only [hlt, h3, h4, decide_true, Bool.and_self, Bool.not_true, Bool.false_or, Bool.or_eq_true] at h
    rcases h with h | h
    · exact .inl ⟨hl2, h⟩
    · exact .inr (isAl_sound h)
  · have hl1 : i < ops.size := by rw [← hs]; exact (List.getElem?_eq_some_iff.1 hx).1
    have hl2 : p < ops.size := by rw [← hs]; exact (List.getElem?_eq_some_iff.1 hy).1
    rcases ckEar_sound hear hx hy hz hk ht hd he hf with h | h | h
    · exact .inl ⟨hl2, h⟩
    · exact .inr (.inl h)
    · exact .inr (.inr ⟨hl1, h⟩)
  · have := pair i k x y hx hy
    simp only [ckPair, Bool.and_eq_true] at this
    have h := this.2
    have hl1 : i < ops.size := by rw [← hs]; exact (List.getElem?_eq_some_iff.1 hx).1
    have hl2 : k < ops.size := by rw [← hs]; exact (List.getElem?_eq_some_iff.1 hy).1
    simp only [h3, h4, h5, Bool.not_false, Bool.and_self, Bool.not_true, Bool.false_or, Bool.or_eq_true, Bool.and_eq_true, decide_eq_true_eq] at h
    rcases h with (h | h) | h
    · exact .inl (by simpa using h)
    · exact .inr (.inl ⟨h.1, hl1, h.2⟩)
    · exact .inr (.inr ⟨h.1, hl2, h.2⟩)

/-! ### code -/
def dstOk (N : Nat) : Option Nat → Bool
  | none => true
  | some d => decide (d < N)
def compOper (P : Program) (N : Nat) (ops : Array Oper) (o : Oper) : Option AOper :=
  match cOp P o with
  | none => none
  | some b => if dstOk N o.dst then
      match o.guard with
      | none => some ⟨o.dst, toSt b, none⟩
      | some (j, want) => match (ops[j]?).bind (·.dst) with
        | some t => some ⟨o.dst, toSt b, some (t, want)⟩
        | none => none
    else none
def compOps (P : Program) (N : Nat) (ops : Array Oper) : List Oper → Option (List AOper)
  | [] => some []
  | o :: l => match compOper P N ops o, compOps P N ops l with
    | some x, some xs => some (x :: xs)
    | _, _ => none

def ins (x : Nat) : List Nat → List Nat
  | [] => [x]
  | y :: l => if x < y then x :: y :: l else if x = y then y :: l else y :: ins x l
def uni (a b : List Nat) : List Nat := a.foldl (fun l x => ins x l) b
def liveOp (o : AOper) (l : List Nat) : List Nat :=
  uni o.uses (match o.dst with | some d => l.filter (fun x => !(x == d)) | none => l)
def liveOps : List AOper → List Nat → List Nat
  | [], l => l
  | o :: r, l => liveOp o (liveOps r l)
def lookN (i : Nat) : List (Nat × List Nat) → Option (List Nat)
  | [] => none
  | (j, x) :: l => if i = j then some x else lookN i l

/-- Code, compiled; what is looked at behind it is known: 'ex' at its exits, 'rt' at a return, 'out' at its end. -/
def comp (P : Program) (N : Nat) (rt : List Nat) : Code → List (Nat × List Nat) → List Nat → Option (AC × List Nat)
  | .skip, _, out => some (.skip, out)
  | .label _, _, out => some (.skip, out)
  | .region _ ops false, _, out => match compOps P N ops ops.toList with
    | some aops => some (.reg aops out, liveOps aops out)
    | none => some (.fail, [])
  | .region _ ops true, _, out => match compOps P N ops ops.toList with
    | some aops => match drawCk ops aops with
      | some re => some (.regD aops re out, liveOps aops out)
      | none => some (.fail, [])
    | none => some (.fail, [])
  | .seq a b, ex, out => match comp P N rt b ex out with
    | some (y, o1) => match comp P N rt a ex o1 with
      | some (x, o2) => some (.seq x y, o2)
      | none => none
    | none => none
  | .cond c a b, ex, out => match cO c, comp P N rt a ex out, comp P N rt b ex out with
    | some p, some (x, i1), some (y, i2) => some (.cond p x y, uni (tmpsOf [p]) (uni i1 i2))
    | _, _, _ => none
  | .block id a, ex, out => match comp P N rt a ((id, out) :: ex) out with
    | some (x, i) => some (.block id x, i)
    | none => none
  | .loop a, ex, _ => match comp P N rt a ex [] with
    | some (_, i) => match comp P N rt a ex i with
      | some (x, i') => some (.loop i' x, i')
      | none => none
    | none => none
  | .scope a, ex, out => comp P N rt a ex out
  | .exit id, ex, _ => match lookN id ex with
    | some o => some (.exit id, o)
    | none => none
  | .ret, _, _ => some (.ret, rt)
  | _, _, _ => some (.fail, [])

theorem compOper_sound {P : Program} {N : Nat} {ops : Array Oper} {o : Oper} {x : AOper} (e : compOper P N ops o = some x) : OpC P N ops o x := by
  unfold compOper at e
  split at e
  · cases e
  rename_i b hb
  split at e
  case isFalse => cases e
  rename_i hd
  have hlt : ∀ d, o.dst = some d → d < N := by
    intro d hd'
    rw [hd'] at hd
    simpa [dstOk] using hd
  split at e
  · rename_i hg
    injection e with e
    subst e
    exact ⟨⟨b, hb, rfl⟩, rfl, hlt, by rw [hg]⟩
  · rename_i j want hg
    split at e
    · rename_i t ht
      injection e with e
      subst e
      exact ⟨⟨b, hb, rfl⟩, rfl, hlt, by rw [hg]; exact ⟨t, ht, rfl⟩⟩
    · cases e

theorem compOps_sound {P : Program} {N : Nat} {ops : Array Oper} : ∀ (l : List Oper) (xs : List AOper), compOps P N ops l = some xs → xs.length = l.length ∧ ∀ (j : Nat) (x : AOper) (o : Oper), xs[j]? = some x → l[j]? = some o → OpC P N ops o x
  | [], xs, e => by injection e with e; subst e; exact ⟨rfl, fun j x o hx => by simp at hx⟩
  | o :: l, xs, e => by
    simp only [compOps] at e
    split at e
    case h_2 => cases e
    rename_i x ys hx hys
    injection e with e
    subst e
    obtain ⟨k1, k2⟩ := compOps_sound l ys hys
    refine ⟨by simp [k1], fun j y o' hy ho => ?_⟩
    cases j with
    | zero => simp at hy ho; subst hy ho; exact compOper_sound hx
    | succ j => exact k2 j y o' (by simpa using hy) (by simpa using ho)

theorem comp_sound {P : Pg} {N : Nat} {rt : List Nat} : ∀ (c : Code) (ex : List (Nat × List Nat)) (out : List Nat) (x : AC) (i : List Nat), comp P.prog N rt c ex out = some (x, i) → Cmp P N c x := by
  intro c
  induction c with
  | skip => intro ex out x i e; simp only [comp] at e; cases e; exact .skip
  | label l => intro ex out x i e; simp only [comp] at e; cases e; exact .label l
  | region id ops draw =>
    intro ex out x i e
    cases draw with
    | false =>
      simp only [comp] at e
      split at e
      case h_2 => cases e; exact .fail _
      rename_i aops ha
      cases e
      obtain ⟨k1, k2⟩ := compOps_sound _ _ ha
      exact .reg id ops aops out (by simpa using k1) (fun j ao o h1 h2 => k2 j ao o h1 (by simpa using h2))
    | true =>
      simp only [comp] at e
      split at e
      case h_2 => cases e; exact .fail _
      rename_i aops ha
      split at e
      case h_2 => cases e; exact .fail _
      rename_i re hre
      cases e
      obtain ⟨k1, k2⟩ := compOps_sound _ _ ha
      simp only [drawCk] at hre
      split at hre
      case isFalse => cases hre
      rename_i hck
      injection hre with hre
      subst hre
      exact .regD id ops aops _ out (drawn_ok (ckDrawn_sound (fun j ao o h1 h2 => k2 j ao o h1 (by simpa using h2)) hck))
  | seq a b ih1 ih2 =>
    intro ex out x i e
    simp only [comp] at e
    split at e
    case h_2 => cases e
    rename_i y o1 h1
    split at e
    case h_2 => cases e
    rename_i z o2 h2
    cases e
    exact .seq _ _ _ _ (ih1 _ _ _ _ h2) (ih2 _ _ _ _ h1)
  | cond c a b ih1 ih2 =>
    intro ex out x i e
    simp only [comp] at e
    split at e
    case h_2 => cases e
    rename_i p y i1 z i2 h0 h1 h2
    cases e
    exact .cond _ _ _ _ _ _ h0 (ih1 _ _ _ _ h1) (ih2 _ _ _ _ h2)
  | block id a ih =>
    intro ex out x i e
    simp only [comp] at e
    split at e
    case h_2 => cases e
    rename_i y i1 h1
    cases e
    exact .block _ _ _ (ih _ _ _ _ h1)
  | loop a ih =>
    intro ex out x i e
    simp only [comp] at e
    split at e
    case h_2 => cases e
    split at e
    case h_2 => cases e
    rename_i y i1 h1
    cases e
    exact .loop _ _ _ (ih _ _ _ _ h1)
  | scope a ih =>
    intro ex out x i e
    simp only [comp] at e
    exact .scope _ _ (ih _ _ _ _ e)
  | exit id =>
    intro ex out x i e
    simp only [comp] at e
    split at e
    case h_2 => cases e
    cases e
    exact .exit id
  | ret => intro ex out x i e; simp only [comp] at e; cases e; exact .ret
  | _ => intros; rename_i e; simp only [comp] at e; cases e; exact .fail _

def compRes (P : Program) : List ResultVar → Option (List ARV)
  | [] => some []
  | .tmp t :: l => (compRes P l).map (.t t :: ·)
  | .cell a t :: l => match aggK P t, compRes P l with
    | some k, some r => some (.cell a k :: r)
    | _, _ => none
def resTmps : List ARV → List Nat
  | [] => []
  | .t n :: l => ins n (resTmps l)
  | .cell n _ :: l => ins n (resTmps l)
def compF (P : Program) (g : FuncId) : Option AFun :=
  match P.funcs[g]? with
  | none => none
  | some fn => if fn.name == "runtime.NumGoroutine" then none else match fn.body with
    | none => none
    | some c => match compRes P fn.results.toList with
      | none => none
      | some rs => match comp P fn.ntmps (resTmps rs) c [] (resTmps rs) with
        | none => none
        | some (x, _) => some ⟨fn.ntmps, rs, x⟩

theorem compRes_sound {P : Program} : ∀ (l : List ResultVar) (rs : List ARV), compRes P l = some rs → rs.length = l.length ∧ ∀ (j : Nat) (r : ResultVar) (r' : ARV), l[j]? = some r → rs[j]? = some r' → resC P r r'
  | [], rs, e => by injection e with e; subst e; exact ⟨rfl, fun j r r' h => by simp at h⟩
  | .tmp t :: l, rs, e => by
    simp only [compRes, Option.map_eq_some_iff] at e
    obtain ⟨rs', h, rfl⟩ := e
    obtain ⟨k1, k2⟩ := compRes_sound l rs' h
    refine ⟨by simp [k1], fun j r r' h1 h2 => ?_⟩
    cases j with
    | zero => simp at h1 h2; subst h1 h2; rfl
    | succ j => exact k2 j r r' (by simpa using h1) (by simpa using h2)
  | .cell a t :: l, rs, e => by
    simp only [compRes] at e
    split at e
    case h_2 => cases e
    rename_i k rs' hk h
    injection e with e
    subst e
    obtain ⟨k1, k2⟩ := compRes_sound l rs' h
    refine ⟨by simp [k1], fun j r r' h1 h2 => ?_⟩
    cases j with
    | zero => simp at h1 h2; subst h1 h2; exact ⟨rfl, hk⟩
    | succ j => exact k2 j r r' (by simpa using h1) (by simpa using h2)

theorem compF_sound {P : Pg} {g : FuncId} {F : AFun} (e : compF P.prog g = some F) : FnC P g F := by
  unfold compF at e
  split at e
  · cases e
  rename_i fn hf
  split at e
  · cases e
  rename_i hn
  split at e
  · cases e
  rename_i c hb
  split at e
  · cases e
  rename_i rs hr
  split at e
  · cases e
  rename_i x i hx
  injection e with e
  subst e
  obtain ⟨k1, k2⟩ := compRes_sound _ _ hr
  exact ⟨fn, c, hf, hb, by simpa using hn, rfl, comp_sound _ _ _ _ _ hx, by simpa using k1.symm, fun j r r' h1 h2 => k2 j r r' (by simpa using h1) h2⟩
end Go.Eng

/- The engine, part 20: running code by rewriting. -/
set_option linter.unusedVariables false
set_option linter.unusedSimpArgs false
namespace Go.Eng

/-- What is to be done behind a piece of code. -/
inductive KI where
  | seq (b : AC)
  | blk (id : Nat)
  | lp (keep : List Nat) (a : AC)
/-- What a run of a function's body is about: program, objects at its entry, results, what is to hold behind it. -/
structure Ctx where
  P : Pg
  h0 : List AO
  res : List ARV
  K : ARes → List AO → Prop

def QK (C : Ctx) : List KI → QT
  | [] => bodyQ C.h0 C.res C.K
  | .seq b :: k => thenA (wpA C.P C.h0 b (QK C k)) (QK C k)
  | .blk id :: k => blockA id (QK C k)
  | .lp keep a :: k => thenA (LoopA C.h0 (wpA C.P C.h0 a) keep (QK C k)) (QK C k)

def R (C : Ctx) (c : AC) (k : List KI) (f : Fr) (h : List AO) : Prop := wpA C.P C.h0 c (QK C k) f h
def LP (C : Ctx) (keep : List Nat) (a : AC) (k : List KI) (f : Fr) (h : List AO) : Prop := LoopA C.h0 (wpA C.P C.h0 a) keep (QK C k) f h
/-- Operations of a region. -/
def O (C : Ctx) (ops : List AOper) (keep : List Nat) (k : List KI) (f : Fr) (h : List AO) : Prop :=
  opsA C.P (QK C k) ops f h fun f' h' => QK C k .normal (keepF keep f') h'
/-- Behind a call. -/
def J (C : Ctx) (d : Option Nat) (ops : List AOper) (keep : List Nat) (k : List KI) (f : Fr) : ARes → List AO → Prop := fun r h => match r with
  | .ok x => O C ops keep k (put f d x) h
  | .pan x => QK C k (.pan x) f h
/-- Operations of a region whose order is drawn, none of which reads what another one may turn. -/
def OD (C : Ctx) (ops : List AOper) (keep : List Nat) (k : List KI) (f : Fr) (h : List AO) : Prop :=
  ∃ tr f' h', Tr C.P ops f h tr f' h' ∧ QK C k .normal (keepF keep f') h'
/-- One operation. -/
def P1 (g : Option Bool) (s : Option (AV × List AO)) (h : List AO) (next : AV → List AO → Prop) : Prop := match g with
  | some true => match s with
    | some (x, h') => next x h'
    | none => False
  | some false => next (.tup []) h
  | none => False

section
variable {C : Ctx} {k : List KI} {f : Fr} {h : List AO}

theorem R_skip : R C .skip k f h = QK C k .normal f h := rfl
theorem R_seq {a b : AC} : R C (.seq a b) k f h = R C a (.seq b :: k) f h := rfl
theorem R_block {id : Nat} {a : AC} : R C (.block id a) k f h = R C a (.blk id :: k) f h := rfl
theorem R_exit {id : Nat} : R C (.exit id) k f h = QK C k (.exit id) f h := rfl
theorem R_ret : R C .ret k f h = QK C k .ret f h := rfl
theorem R_reg {ops : List AOper} {keep : List Nat} : R C (.reg ops keep) k f h = O C ops keep k f h := rfl
theorem R_loop {keep : List Nat} {a : AC} : R C (.loop keep a) k f h = LP C keep a k f h := rfl
theorem R_cond {c : Opnd} {a b : AC} : R C (.cond c a b) k f h = match ev f c with
    | .bool true => R C a k f h
    | .bool false => R C b k f h
    | _ => False := by
  simp only [R, wpA]
  apply propext
  constructor
  · rintro ⟨t, h1, h2⟩
    rw [h1]
    cases t <;> simpa using h2
  · intro H
    split at H
    · rename_i h1; exact ⟨true, h1, by simpa using H⟩
    · rename_i h1; exact ⟨false, h1, by simpa using H⟩
    · exact H.elim
theorem R_regD {ops : List AOper} {keep : List Nat} : R C (.regD ops [] keep) k f h = OD C ops keep k f h := by
  apply propext
  constructor
  · rintro ⟨tr, f', h', h1, _, h2⟩
    exact ⟨tr, f', h', h1, h2⟩
  · rintro ⟨tr, f', h', h1, h2⟩
    exact ⟨tr, f', h', h1, (fun p hp => by simp at hp), h2⟩

theorem Q_seq {b : AC} : QK C (.seq b :: k) .normal f h = R C b k f h := rfl
theorem Q_blk {id : Nat} : QK C (.blk id :: k) .normal f h = QK C k .normal f h := rfl
theorem Q_lp {keep : List Nat} {a : AC} : QK C (.lp keep a :: k) .normal f h = LP C keep a k f h := rfl
theorem X_seq {b : AC} {i : Nat} : QK C (.seq b :: k) (.exit i) f h = QK C k (.exit i) f h := rfl
theorem X_blk {id i : Nat} : QK C (.blk id :: k) (.exit i) f h = if i = id then QK C k .normal f h else QK C k (.exit i) f h := rfl
theorem X_lp {keep : List Nat} {a : AC} {i : Nat} : QK C (.lp keep a :: k) (.exit i) f h = QK C k (.exit i) f h := rfl
theorem T_seq {b : AC} : QK C (.seq b :: k) .ret f h = QK C k .ret f h := rfl
theorem T_blk {id : Nat} : QK C (.blk id :: k) .ret f h = QK C k .ret f h := rfl
theorem T_lp {keep : List Nat} {a : AC} : QK C (.lp keep a :: k) .ret f h = QK C k .ret f h := rfl

/-- What leaves the body. -/
def Fin (C : Ctx) (r : Option (List AV)) (h : List AO) : Prop := match r with
  | some xs => retK C.h0 C.K (packR xs) h
  | none => False
theorem fin_of {f : Fr} {h : List AO} (H : Fin C (evRVs f h C.res) h) : ∃ xs, evRVs f h C.res = some xs ∧ retK C.h0 C.K (packR xs) h := by
  unfold Fin at H
  split at H
  · rename_i xs e; exact ⟨xs, e, H⟩
  · exact H.elim
theorem fin_eq : (∃ xs, evRVs f h C.res = some xs ∧ retK C.h0 C.K (packR xs) h) = Fin C (evRVs f h C.res) h := by
  apply propext
  constructor
  · rintro ⟨xs, e, H⟩; rw [e]; exact H
  · exact fin_of
theorem Q_nil : QK C [] .normal f h = Fin C (evRVs f h C.res) h := fin_eq
theorem T_nil : QK C [] .ret f h = Fin C (evRVs f h C.res) h := fin_eq

theorem O_nil {keep : List Nat} : O C [] keep k f h = QK C k .normal (keepF keep f) h := rfl
theorem op1_eq {o : AOp} {d : Option Nat} {g : Option (Nat × Bool)} {K : ARes → List AO → Prop} : op1 C.P f h ⟨d, .pl o, g⟩ K = P1 (gd f g) (evP f h o) h fun x h' => K (.ok x) h' := by
  simp only [op1, st1, P1]
  apply propext
  constructor
  · rintro (⟨h1, x, h', h2, h3⟩ | ⟨h1, h2⟩)
    · rw [h1, h2]; exact h3
    · rw [h1]; exact h2
  · intro H
    split at H
    · rename_i h1
      split at H
      · rename_i x h' h2; exact .inl ⟨h1, x, h', h2, H⟩
      · exact H.elim
    · rename_i h1; exact .inr ⟨h1, H⟩
    · exact H.elim
/-- Behind one operation. -/
def N1 (C : Ctx) (d : Option Nat) (ops : List AOper) (keep : List Nat) (k : List KI) (f : Fr) (g : Option Bool) (s : Option (AV × List AO)) (h : List AO) : Prop := match g with
  | some true => match s with
    | some (x, h') => O C ops keep k (put f d x) h'
    | none => False
  | some false => O C ops keep k (put f d (.tup [])) h
  | none => False
theorem O_pl {o : AOp} {d : Option Nat} {g : Option (Nat × Bool)} {ops : List AOper} {keep : List Nat} : O C (⟨d, .pl o, g⟩ :: ops) keep k f h = N1 C d ops keep k f (gd f g) (evP f h o) h := by
  simp only [O, opsA]
  rw [op1_eq]
  rfl
theorem N1_t {d : Option Nat} {ops : List AOper} {keep : List Nat} {x : AV} {h h' : List AO} : N1 C d ops keep k f (some true) (some (x, h')) h = O C ops keep k (put f d x) h' := rfl
theorem N1_f {d : Option Nat} {ops : List AOper} {keep : List Nat} {s : Option (AV × List AO)} {h : List AO} : N1 C d ops keep k f (some false) s h = O C ops keep k (put f d (.tup [])) h := rfl
/-- A call. -/
def CL (C : Ctx) (d : Option Nat) (ops : List AOper) (keep : List Nat) (k : List KI) (f : Fr) (g : Option Bool) (fn : AV) (args : List AV) (h : List AO) : Prop := match g with
  | some true => match fn with
    | .fn fid first caps => WC C.P fid (nrmL first ++ (nrmL args ++ nrmL caps)) h (J C d ops keep k f)
    | _ => False
  | some false => O C ops keep k (put f d (.tup [])) h
  | none => False
theorem O_call {c : Opnd} {l : List Opnd} {d : Option Nat} {g : Option (Nat × Bool)} {ops : List AOper} {keep : List Nat} : O C (⟨d, .call c l, g⟩ :: ops) keep k f h = CL C d ops keep k f (gd f g) (ev f c) (l.map (ev f)) h := by
  simp only [O, opsA, op1, st1, CL]
  apply propext
  constructor
  · rintro (⟨h1, fid, first, caps, h2, h3⟩ | ⟨h1, h2⟩)
    · rw [h1, h2]; exact h3
    · rw [h1]; exact h2
  · intro H
    split at H
    · rename_i h1
      split at H
      · rename_i fid first caps h2; exact .inl ⟨h1, fid, first, caps, h2, H⟩
      · exact H.elim
    · rename_i h1; exact .inr ⟨h1, H⟩
    · exact H.elim
theorem CL_t {d : Option Nat} {ops : List AOper} {keep : List Nat} {fid : FuncId} {first caps args : List AV} : CL C d ops keep k f (some true) (.fn fid first caps) args h = WC C.P fid (nrmL first ++ (nrmL args ++ nrmL caps)) h (J C d ops keep k f) := rfl
theorem CL_f {d : Option Nat} {ops : List AOper} {keep : List Nat} {fn : AV} {args : List AV} : CL C d ops keep k f (some false) fn args h = O C ops keep k (put f d (.tup [])) h := rfl
theorem J_ok {d : Option Nat} {ops : List AOper} {keep : List Nat} {x : AV} : J C d ops keep k f (.ok x) h = O C ops keep k (put f d x) h := rfl

/-! ### drawn regions -/
theorem OD_nil {keep : List Nat} : OD C [] keep k f h = QK C k .normal (keepF keep f) h := by
  apply propext
  constructor
  · rintro ⟨tr, f', h', ⟨rfl, rfl, rfl⟩, h2⟩; exact h2
  · intro H; exact ⟨_, _, _, ⟨rfl, rfl, rfl⟩, H⟩
theorem OD_pl {o : AOp} {d : Option Nat} {g : Option (Nat × Bool)} {ops : List AOper} {keep : List Nat} : OD C (⟨d, .pl o, g⟩ :: ops) keep k f h = P1 (gd f g) (evP f h o) h fun x h' => OD C ops keep k (put f d x) h' := by
  apply propext
  simp only [OD, Tr]
  constructor
  · rintro ⟨tr, f', h', ⟨x, h1, tr', k1, rfl, k2⟩, h2⟩
    rw [op1_eq] at k1
    unfold P1 at k1 ⊢
    split at k1
    · split at k1
      · obtain ⟨k3, k4⟩ := k1
        injection k3 with k3
        subst k3 k4
        exact ⟨tr', f', h', k2, h2⟩
      · exact k1.elim
    · obtain ⟨k3, k4⟩ := k1
      injection k3 with k3
      subst k3 k4
      exact ⟨tr', f', h', k2, h2⟩
    · exact k1.elim
  · intro H
    unfold P1 at H
    split at H
    · rename_i g1
      split at H
      · rename_i x h1 g2
        obtain ⟨tr', f', h', k2, h2⟩ := H
        exact ⟨_, f', h', ⟨x, h1, tr', by rw [op1_eq, g1, g2]; exact ⟨rfl, rfl⟩, rfl, k2⟩, h2⟩
      · exact H.elim
    · rename_i g1
      obtain ⟨tr', f', h', k2, h2⟩ := H
      exact ⟨_, f', h', ⟨_, _, tr', by rw [op1_eq, g1]; exact ⟨rfl, rfl⟩, rfl, k2⟩, h2⟩
    · exact H.elim
/-- Behind one operation of a drawn region. -/
def ND (C : Ctx) (d : Option Nat) (ops : List AOper) (keep : List Nat) (k : List KI) (f : Fr) (g : Option Bool) (s : Option (AV × List AO)) (h : List AO) : Prop := match g with
  | some true => match s with
    | some (x, h') => OD C ops keep k (put f d x) h'
    | none => False
  | some false => OD C ops keep k (put f d (.tup [])) h
  | none => False
theorem OD_pl' {o : AOp} {d : Option Nat} {g : Option (Nat × Bool)} {ops : List AOper} {keep : List Nat} : OD C (⟨d, .pl o, g⟩ :: ops) keep k f h = ND C d ops keep k f (gd f g) (evP f h o) h := OD_pl
theorem ND_t {d : Option Nat} {ops : List AOper} {keep : List Nat} {x : AV} {h h' : List AO} : ND C d ops keep k f (some true) (some (x, h')) h = OD C ops keep k (put f d x) h' := rfl
theorem ND_f {d : Option Nat} {ops : List AOper} {keep : List Nat} {s : Option (AV × List AO)} {h : List AO} : ND C d ops keep k f (some false) s h = OD C ops keep k (put f d (.tup [])) h := rfl
/-- A call in a drawn region. -/
def CD (C : Ctx) (d : Option Nat) (ops : List AOper) (keep : List Nat) (k : List KI) (f : Fr) (g : Option Bool) (fn : AV) (args : List AV) (h : List AO) : Prop := match g with
  | some true => match fn with
    | .fn fid first caps => ∃ x h', WC C.P fid (nrmL first ++ (nrmL args ++ nrmL caps)) h (fun r h2 => r = .ok x ∧ h2 = h') ∧ OD C ops keep k (put f d x) h'
    | _ => False
  | some false => OD C ops keep k (put f d (.tup [])) h
  | none => False
theorem OD_call {c : Opnd} {l : List Opnd} {d : Option Nat} {g : Option (Nat × Bool)} {ops : List AOper} {keep : List Nat} : OD C (⟨d, .call c l, g⟩ :: ops) keep k f h = CD C d ops keep k f (gd f g) (ev f c) (l.map (ev f)) h := by
  apply propext
  constructor
  · rintro ⟨tr, f', h', ⟨x, h1, tr', k1, rfl, k2⟩, h2⟩
    rcases k1 with ⟨g1, fid, first, caps, g2, w⟩ | ⟨g1, g2, g3⟩
    · simp only at g1 g2
      simp only [CD, g1, g2]
      exact ⟨x, h1, w, tr', f', h', k2, h2⟩
    · simp only at g1
      injection g2 with g2
      subst g2 g3
      simp only [CD, g1]
      exact ⟨tr', f', h', k2, h2⟩
  · intro H
    unfold CD at H
    split at H
    · rename_i g1
      split at H
      · rename_i fid first caps g2
        obtain ⟨x, h', w, tr', f', h'', k2, h2⟩ := H
        exact ⟨_, f', h'', ⟨x, h', tr', .inl ⟨g1, fid, first, caps, g2, w⟩, rfl, k2⟩, h2⟩
      · exact H.elim
    · rename_i g1
      obtain ⟨tr', f', h'', k2, h2⟩ := H
      exact ⟨_, f', h'', ⟨_, _, tr', .inr ⟨g1, rfl, rfl⟩, rfl, k2⟩, h2⟩
    · exact H.elim
theorem CD_t {d : Option Nat} {ops : List AOper} {keep : List Nat} {fid : FuncId} {first caps args : List AV} : CD C d ops keep k f (some true) (.fn fid first caps) args h =
    ∃ x h', WC C.P fid (nrmL first ++ (nrmL args ++ nrmL caps)) h (fun r h2 => r = .ok x ∧ h2 = h') ∧ OD C ops keep k (put f d x) h' := rfl
theorem CD_f {d : Option Nat} {ops : List AOper} {keep : List Nat} {fn : AV} {args : List AV} : CD C d ops keep k f (some false) fn args h = OD C ops keep k (put f d (.tup [])) h := rfl

/-! ### drawn regions that leave the objects as they are -/
def TrS (P : Pg) (h : List AO) : List AOper → Fr → Fr → Prop
  | [], f, f' => f' = f
  | op :: r, f, f' => ∃ x, op1 P f h op (fun res h2 => res = .ok x ∧ h2 = h) ∧ TrS P h r (put f op.dst x) f'
theorem TrS.tr {P : Pg} {h : List AO} : ∀ {ops : List AOper} {f f' : Fr}, TrS P h ops f f' → ∃ tr, Tr P ops f h tr f' h ∧ ∀ x ∈ tr, x.2 = h
  | [], f, f', T => ⟨[(f, h)], ⟨rfl, T, rfl⟩, fun x hx => by simp at hx; rw [hx]⟩
  | op :: r, f, f', ⟨x, k, T⟩ => by
    obtain ⟨tr, t1, t2⟩ := T.tr
    refine ⟨(f, h) :: tr, ⟨x, h, tr, k, rfl, t1⟩, fun y hy => ?_⟩
    rcases List.mem_cons.1 hy with rfl | hy
    · rfl
    · exact t2 y hy
def OS (C : Ctx) (ops : List AOper) (keep : List Nat) (k : List KI) (f : Fr) (h : List AO) : Prop := ∃ f', TrS C.P h ops f f' ∧ QK C k .normal (keepF keep f') h
theorem R_regS {ops : List AOper} {re : List (Nat × Nat)} {keep : List Nat} (H : OS C ops keep k f h) : R C (.regD ops re keep) k f h := by
  obtain ⟨f', T, q⟩ := H
  obtain ⟨tr, t1, t2⟩ := T.tr
  refine ⟨tr, f', h, t1, fun p hp o Fi Fk Fk' h1 h2 h3 h4 => ?_, q⟩
  rw [t2 Fi (List.mem_of_getElem? h2), t2 Fk (List.mem_of_getElem? h3), t2 Fk' (List.mem_of_getElem? h4)]
  exact ⟨rfl, rfl⟩
theorem OS_nil {keep : List Nat} : OS C [] keep k f h = QK C k .normal (keepF keep f) h := by
  apply propext
  constructor
  · rintro ⟨f', rfl, q⟩; exact q
  · intro H; exact ⟨_, rfl, H⟩
/-- Behind one operation. -/
def NS (C : Ctx) (d : Option Nat) (ops : List AOper) (keep : List Nat) (k : List KI) (f : Fr) (g : Option Bool) (s : Option (AV × List AO)) (h : List AO) : Prop := match g with
  | some true => match s with
    | some (x, h') => h' = h ∧ OS C ops keep k (put f d x) h
    | none => False
  | some false => OS C ops keep k (put f d (.tup [])) h
  | none => False
theorem OS_pl {o : AOp} {d : Option Nat} {g : Option (Nat × Bool)} {ops : List AOper} {keep : List Nat} : OS C (⟨d, .pl o, g⟩ :: ops) keep k f h = NS C d ops keep k f (gd f g) (evP f h o) h := by
  apply propext
  constructor
  · rintro ⟨f', ⟨x, k1, T⟩, q⟩
    rw [op1_eq] at k1
    unfold P1 at k1
    unfold NS
    split at k1
    · split at k1
      · obtain ⟨k3, k4⟩ := k1
        injection k3 with k3
        subst k3
        exact ⟨k4, f', T, q⟩
      · exact k1.elim
    · obtain ⟨k3, k4⟩ := k1
      injection k3 with k3
      subst k3
      exact ⟨f', T, q⟩
    · exact k1.elim
  · intro H
    unfold NS at H
    split at H
    · rename_i g1
      split at H
      · rename_i x h1 g2
        obtain ⟨rfl, f', T, q⟩ := H
        exact ⟨f', ⟨x, by rw [op1_eq, g1, g2]; exact ⟨rfl, rfl⟩, T⟩, q⟩
      · exact H.elim
    · rename_i g1
      obtain ⟨f', T, q⟩ := H
      exact ⟨f', ⟨_, by rw [op1_eq, g1]; exact ⟨rfl, rfl⟩, T⟩, q⟩
    · exact H.elim
theorem NS_t {d : Option Nat} {ops : List AOper} {keep : List Nat} {x : AV} {h h' : List AO} : NS C d ops keep k f (some true) (some (x, h')) h = (h' = h ∧ OS C ops keep k (put f d x) h) := rfl
theorem NS_f {d : Option Nat} {ops : List AOper} {keep : List Nat} {s : Option (AV × List AO)} {h : List AO} : NS C d ops keep k f (some false) s h = OS C ops keep k (put f d (.tup [])) h := rfl
/-- A call. -/
def CS (C : Ctx) (d : Option Nat) (ops : List AOper) (keep : List Nat) (k : List KI) (f : Fr) (g : Option Bool) (fn : AV) (args : List AV) (h : List AO) : Prop := match g with
  | some true => match fn with
    | .fn fid first caps => ∃ x, WC C.P fid (nrmL first ++ (nrmL args ++ nrmL caps)) h (fun r h2 => r = .ok x ∧ h2 = h) ∧ OS C ops keep k (put f d x) h
    | _ => False
  | some false => OS C ops keep k (put f d (.tup [])) h
  | none => False
theorem OS_call {c : Opnd} {l : List Opnd} {d : Option Nat} {g : Option (Nat × Bool)} {ops : List AOper} {keep : List Nat} : OS C (⟨d, .call c l, g⟩ :: ops) keep k f h = CS C d ops keep k f (gd f g) (ev f c) (l.map (ev f)) h := by
  apply propext
  constructor
  · rintro ⟨f', ⟨x, k1, T⟩, q⟩
    rcases k1 with ⟨g1, fid, first, caps, g2, w⟩ | ⟨g1, g2, g3⟩
    · simp only at g1 g2
      simp only [CS, g1, g2]
      exact ⟨x, w, f', T, q⟩
    · simp only at g1
      injection g2 with g2
      subst g2
      simp only [CS, g1]
      exact ⟨f', T, q⟩
  · intro H
    unfold CS at H
    split at H
    · rename_i g1
      split at H
      · rename_i fid first caps g2
        obtain ⟨x, w, f', T, q⟩ := H
        exact ⟨f', ⟨x, .inl ⟨g1, fid, first, caps, g2, w⟩, T⟩, q⟩
      · exact H.elim
    · rename_i g1
      obtain ⟨f', T, q⟩ := H
      exact ⟨f', ⟨_, .inr ⟨g1, rfl, rfl⟩, T⟩, q⟩
    · exact H.elim
theorem CS_t {d : Option Nat} {ops : List AOper} {keep : List Nat} {fid : FuncId} {first caps args : List AV} : CS C d ops keep k f (some true) (.fn fid first caps) args h =
    ∃ x, WC C.P fid (nrmL first ++ (nrmL args ++ nrmL caps)) h (fun r h2 => r = .ok x ∧ h2 = h) ∧ OS C ops keep k (put f d x) h := rfl
theorem CS_f {d : Option Nat} {ops : List AOper} {keep : List Nat} {fn : AV} {args : List AV} : CS C d ops keep k f (some false) fn args h = OS C ops keep k (put f d (.tup [])) h := rfl

/-! ### functions and loops -/
theorem W_of {P : Pg} (hm : P.prog.follows .mixedOrders = true) {g : FuncId} {F : AFun} (hF : compF P.prog g = some F) {args : List AV} {h : List AO} {K : ARes → List AO → Prop} (hlen : args.length ≤ F.nt)
    (H : R ⟨P, h, F.res, K⟩ F.body [] (argF 0 args) h) : WC P g args h K := WC_of_body hm (compF_sound hF) hlen H
theorem R_open {c : AC} (H : R C c [] f h) : wpA C.P C.h0 c (bodyQ C.h0 C.res C.K) f h := H
theorem lp_step {keep : List Nat} {a : AC} (H : R C a (.lp keep a :: k) (keepF keep f) h) : LP C keep a k f h := .mk f h _ (fun _ _ x => x) H
theorem lp_drop {keep : List Nat} {a : AC} {m j : Nat} {f' : Fr} (hd : DropOk C.h0 h m) (he : outF m h j (keepF keep f) = some f') (H : LP C keep a k f' (h.take m)) : LP C keep a k f h := .drop f h m j f' hd he H

theorem lp_ind {ι : Type} {keep : List Nat} {a : AC} (Inv : ι → Prop) (μ : ι → Nat) (F : ι → Fr) (H : ι → List AO)
    (step : ∀ i, Inv i → (∀ j, Inv j → μ j < μ i → LP C keep a k (F j) (H j)) → R C a (.lp keep a :: k) (keepF keep (F i)) (H i)) (i : ι) (hi : Inv i) : LP C keep a k (F i) (H i) := by
  have : ∀ n i, μ i = n → Inv i → LP C keep a k (F i) (H i) := by
    intro n
    induction n using Nat.strongRecOn with
    | _ n ih =>
      intro i hn hi
      exact lp_step (step i hi fun j hj hlt => ih (μ j) (by omega) j rfl hj)
  exact this _ i rfl hi

theorem lk_cons {j i : Nat} {x : AV} {f : Fr} : lk ((j, x) :: f) i = if i = j then some x else lk f i := rfl
theorem lk_nil {i : Nat} : lk [] i = none := rfl
theorem put_some {d : Nat} {x : AV} : put f (some d) x = (d, x) :: f := rfl
theorem put_none {x : AV} : put f none x = f := rfl
theorem ev_t {n : Nat} : ev f (.t n) = (lk f n).getD .undef := rfl
theorem ev_c {x : AV} : ev f (.c x) = x := rfl
theorem ev_m {tbl : List (TypeId × FuncId)} {n : Nat} : ev f (.m tbl n) = bindM tbl (lk f n) := rfl
theorem keepF_nil : keepF [] f = [] := rfl
def kcons (i : Nat) (x : Option AV) (f : Fr) : Fr := match x with
  | some x => (i, x) :: f
  | none => f
theorem keepF_cons {i : Nat} {l : List Nat} : keepF (i :: l) f = kcons i (lk f i) (keepF l f) := by
  simp only [keepF, List.filterMap_cons, kcons]
  cases lk f i <;> rfl
theorem kcons_some {i : Nat} {x : AV} : kcons i (some x) f = (i, x) :: f := rfl
theorem kcons_none {i : Nat} : kcons i none f = f := rfl
theorem gd_none : gd f none = some true := rfl
theorem gd_some {t : Nat} {b : Bool} : gd f (some (t, b)) = match lk f t with
    | some (.bool c) => some (c == b)
    | some (.tup []) => some false
    | _ => none := rfl
theorem argF_nil {i : Nat} : argF i [] = [] := rfl
theorem argF_cons {i : Nat} {x : AV} {l : List AV} : argF i (x :: l) = (i, x) :: argF (i + 1) l := rfl
end
attribute [irreducible] R O OD OS LP QK
end Go.Eng

/- The engine, part 21: the rules for 'simp'. -/
set_option linter.unusedVariables false
set_option linter.unusedSimpArgs false
namespace Go.Eng
attribute [simp] R_skip R_seq R_block R_exit R_ret R_reg R_loop R_cond Q_seq Q_blk Q_lp X_seq X_blk X_lp T_seq T_blk T_lp Q_nil T_nil O_nil O_pl N1_t N1_f O_call CL_t CL_f J_ok R_regD OD_call CD_t CD_f OS_nil OS_pl NS_t NS_f OS_call CS_t CS_f OD_nil OD_pl' ND_t ND_f
  lk_cons lk_nil put_some put_none ev_t ev_c ev_m bindM lookM keepF_nil keepF_cons kcons_some kcons_none gd_none gd_some argF_nil argF_cons nrmL nrm evP P0 loadA cellsAt storeA setL nilEq eqA binA binI shI binS unA elems iaA_ keyEq findA updA isKey lenA bnd1
  ro roL evRV evRVs packR cellEq cellsEq

@[simp] theorem cells_agg (cs : List AV) : (AV.agg cs).cells = cs := rfl
@[simp] theorem one_agg (cs : List AV) : (AV.agg cs).one = false := rfl
@[simp] theorem cells_undef  : AV.undef.cells = [AV.undef] := rfl
@[simp] theorem one_undef  : AV.undef.one = false := rfl
@[simp] theorem cells_bool (b : Bool) : (AV.bool b).cells = [(AV.bool b)] := rfl
@[simp] theorem one_bool (b : Bool) : (AV.bool b).one = true := rfl
@[simp] theorem cells_int (k : IntKind) (n : Int) : (AV.int k n).cells = [(AV.int k n)] := rfl
@[simp] theorem one_int (k : IntKind) (n : Int) : (AV.int k n).one = true := rfl
@[simp] theorem cells_str (s : ByteArray) : (AV.str s).cells = [(AV.str s)] := rfl
@[simp] theorem one_str (s : ByteArray) : (AV.str s).one = true := rfl
@[simp] theorem cells_nilp  : AV.nilp.cells = [AV.nilp] := rfl
@[simp] theorem one_nilp  : AV.nilp.one = true := rfl
@[simp] theorem cells_ptr (i : Nat) (o : Nat) : (AV.ptr i o).cells = [(AV.ptr i o)] := rfl
@[simp] theorem one_ptr (i : Nat) (o : Nat) : (AV.ptr i o).one = true := rfl
@[simp] theorem cells_rptr (cs : List AV) : (AV.rptr cs).cells = [(AV.rptr cs)] := rfl
@[simp] theorem one_rptr (cs : List AV) : (AV.rptr cs).one = true := rfl
@[simp] theorem cells_esl  : AV.esl.cells = [AV.esl] := rfl
@[simp] theorem one_esl  : AV.esl.one = true := rfl
@[simp] theorem cells_rsl (es : List AV) : (AV.rsl es).cells = [(AV.rsl es)] := rfl
@[simp] theorem one_rsl (es : List AV) : (AV.rsl es).one = true := rfl
@[simp] theorem cells_osl (t : Nat) (es : List AV) : (AV.osl t es).cells = [(AV.osl t es)] := rfl
@[simp] theorem one_osl (t : Nat) (es : List AV) : (AV.osl t es).one = true := rfl
@[simp] theorem cells_msl (a : Nat) (b : Nat) (c : Nat) (d : Nat) : (AV.msl a b c d).cells = [(AV.msl a b c d)] := rfl
@[simp] theorem one_msl (a : Nat) (b : Nat) (c : Nat) (d : Nat) : (AV.msl a b c d).one = true := rfl
@[simp] theorem cells_nilmap  : AV.nilmap.cells = [AV.nilmap] := rfl
@[simp] theorem one_nilmap  : AV.nilmap.one = true := rfl
@[simp] theorem cells_map (i : Nat) : (AV.map i).cells = [(AV.map i)] := rfl
@[simp] theorem one_map (i : Nat) : (AV.map i).one = true := rfl
@[simp] theorem cells_fn (g : FuncId) (fs : List AV) (cs : List AV) : (AV.fn g fs cs).cells = [(AV.fn g fs cs)] := rfl
@[simp] theorem one_fn (g : FuncId) (fs : List AV) (cs : List AV) : (AV.fn g fs cs).one = true := rfl
@[simp] theorem cells_nilfn  : AV.nilfn.cells = [AV.nilfn] := rfl
@[simp] theorem one_nilfn  : AV.nilfn.one = true := rfl
@[simp] theorem cells_iface (t : TypeId) (x : AV) : (AV.iface t x).cells = [(AV.iface t x)] := rfl
@[simp] theorem one_iface (t : TypeId) (x : AV) : (AV.iface t x).one = true := rfl
@[simp] theorem cells_nilif  : AV.nilif.cells = [AV.nilif] := rfl
@[simp] theorem one_nilif  : AV.nilif.one = true := rfl
@[simp] theorem cells_tup (xs : List AV) : (AV.tup xs).cells = [(AV.tup xs)] := rfl
@[simp] theorem one_tup (xs : List AV) : (AV.tup xs).one = false := rfl
@[simp] theorem natlt0 (i : Nat) : ((i : Int) < 0) = False := by simp
@[simp] theorem get_app (h l : List AO) (k : Nat) : (h ++ l)[h.length + k]? = l[k]? := by
  rw [List.getElem?_append_right (by omega)]; congr 1; omega
@[simp] theorem get_app0 (h l : List AO) : (h ++ l)[h.length]? = l[0]? := get_app h l 0
@[simp] theorem set_app (h l : List AO) (k : Nat) (o : AO) : (h ++ l).set (h.length + k) o = h ++ l.set k o := by
  rw [List.set_append_right _ _ (by omega)]; congr 2; omega
@[simp] theorem set_app0 (h l : List AO) (o : AO) : (h ++ l).set h.length o = h ++ l.set 0 o := set_app h l 0 o
theorem take_app (h l : List AO) (k : Nat) : (h ++ l).take (h.length + k) = h ++ l.take k := by
  rw [List.take_append, List.take_of_length_le (by omega)]; congr 2; omega
theorem drop_ok (h l : List AO) (k : Nat) (H : (l.take k).all (AO.bel (h.length + k)) = true) : DropOk h (h ++ l) (h.length + k) := by
  refine ⟨by omega, fun i o hi ho => ?_⟩
  by_cases hlt : i < h.length
  · rw [List.getElem?_append_left hlt] at ho; exact .inl ho
  · rw [List.getElem?_append_right (by omega)] at ho
    refine .inr ((List.all_eq_true.1 H) o ?_)
    refine List.mem_of_getElem? (i := i - h.length) ?_
    rw [List.getElem?_take, if_pos (by omega)]; exact ho
/-- Objects are forgotten ahead of a round. -/
theorem lp_cut {P : Pg} {h l : List AO} {res : List ARV} {K : ARes → List AO → Prop} {keep : List Nat} {a : AC} {k : List KI} {f f' : Fr} (n : Nat) (H : (l.take n).all (AO.bel (h.length + n)) = true)
    (hf : outF (h.length + n) (h ++ l) 3 (keepF keep f) = some f') (L : LP ⟨P, h, res, K⟩ keep a k f' (h ++ l.take n)) : LP ⟨P, h, res, K⟩ keep a k f (h ++ l) :=
  lp_drop (C := ⟨P, h, res, K⟩) (m := h.length + n) (j := 3) (drop_ok h l n H) hf (by rw [take_app]; exact L)
attribute [simp] outF out mapO
end Go.Eng

/- The engine, part 22: what a reading of an argument stands for. -/
set_option linter.unusedVariables false
set_option linter.unusedSimpArgs false
namespace Go.Eng

def aggT (P : Program) (t : TypeId) : Bool := match P.underlying t with
  | some (.struct _) | some (.array _ _) => true
  | _ => false
def packT (P : Program) (t : TypeId) (xs : List AV) : AV := if aggT P t then .agg xs else xs.headD .undef
def okF (P : Program) (ok : TypeId → Bool) (all : Nat) : Nat → List Field → Bool
  | off, [] => off == all
  | off, f :: r => f.offset == off && ok f.type && okF P ok all (off + P.cellsOf f.type) r
/-- A set of types whose readings are read-only trees. -/
def okT1 (P : Program) (T : List TypeId) (t : TypeId) : Bool := match P.underlying t with
  | some .bool | some (.int _) | some .string => true
  | some (.slice e) => decide (0 < P.cellsOf e) && T.contains e
  | some (.struct fs) => okF P (fun u => T.contains u) (P.cellsOf t) 0 fs.toList
  | _ => false
def okS (P : Program) (T : List TypeId) : Bool := T.all (okT1 P T)
def ShpF (P : Program) (S : TypeId → List AV → Prop) : List Field → List AV → Prop
  | [], xs => xs = []
  | f :: r, xs => S f.type (xs.take (P.cellsOf f.type)) ∧ ShpF P S r (xs.drop (P.cellsOf f.type))
/-- The shape of what stands for a reading. -/
def Shp (P : Program) : Nat → TypeId → List AV → Prop
  | 0, _, _ => False
  | n + 1, t, xs => match P.underlying t with
    | some .bool => ∃ b, xs = [.bool b]
    | some (.int k) => ∃ m, xs = [.int k m] ∧ (Lit.int k m).wf = true
    | some .string => ∃ s, xs = [.str s] ∧ s.size ≤ reachBytes
    | some (.slice e) => ∃ es, xs = [.rsl es] ∧ es.length * P.bytesOf e ≤ reachBytes ∧ ∀ y ∈ es, ∃ ys, y = packT P e ys ∧ ys.length = P.cellsOf e ∧ Shp P n e ys
    | some (.struct fs) => ShpF P (Shp P n) fs.toList xs
    | _ => False

theorem exists_list {α : Type} {R : Nat → α → Prop} : ∀ (n : Nat), (∀ i, i < n → ∃ y, R i y) → ∃ l : List α, l.length = n ∧ ∀ i y, l[i]? = some y → R i y
  | 0, _ => ⟨[], rfl, fun i y h => by simp at h⟩
  | n + 1, H => by
    obtain ⟨l, h1, h2⟩ := exists_list n (fun i hi => H i (by omega))
    obtain ⟨y, hy⟩ := H n (by omega)
    refine ⟨l ++ [y], by simp [h1], fun i z hz => ?_⟩
    rcases Nat.lt_or_ge i n with hi | hi
    · rw [List.getElem?_append_left (by omega)] at hz; exact h2 i z hz
    · rw [List.getElem?_append_right (by omega)] at hz
      have : i - l.length = 0 := by
        have := (List.getElem?_eq_some_iff.1 hz).1
        simp at this; omega
      rw [this] at hz
      simp at hz
      subst hz
      rw [show i = n by omega]; exact hy

theorem cells?_get {w : World} {base n : Nat} {a : Addr} {l : List Value} (h : w.cells? base a n = some l) : l.length = n ∧ ∀ j, j < n → w.cell? (a.add j) = l[j]? := by
  unfold World.cells? at h
  split at h
  · have h1 := mapM_some_length h
    refine ⟨by simpa using h1, fun j hj => ?_⟩
    exact mapM_some_get h j j (by simp [hj])
  · cases h

theorem cell?_lt {w : World} {a : Addr} {v : Value} (h : w.cell? a = some v) : a.block < w.heap.size := by
  have : w.cells? 0 a 1 = some [v] := by simp [World.cells?, Addr.add, h]
  exact World.cells?_block this (by omega)

section
variable {H : Type} {enc : TypeId × Value → H} {P : Program} {w : World} {sp : Nat → Bool} {held : Bool} {φ : Nat → Loc}

abbrev Old (w : World) : Nat → Nat → Prop := fun b _ => b < w.heap.size

def Reads (P : Program) (φ : Nat → Loc) (w : World) (n : Nat) (t : TypeId) (cs : List Value) : Prop :=
  ∃ xs : List AV, xs.length = cs.length ∧ (∀ (j : Nat) (x : AV), xs[j]? = some x → x.one = true) ∧ (∀ (j : Nat) (x : AV) (v : Value), xs[j]? = some x → cs[j]? = some v → Rel [] φ w (Old w) false x v) ∧ Shp P n t xs

theorem reads_one {n : Nat} {t : TypeId} {x : AV} {v : Value} (h1 : x.one = true) (r : Rel [] φ w (Old w) false x v) (s : Shp P n t [x]) : Reads P φ w n t [v] := by
  refine ⟨[x], rfl, fun j y hy => ?_, fun j y u hy hu => ?_, s⟩
  · cases j <;> simp at hy; subst hy; exact h1
  · cases j <;> simp at hy hu; subst hy hu; exact r

theorem reads_fields {n : Nat} {T : List TypeId} (ih : ∀ t, T.contains t = true → ∀ cs d ps, DataW.trod enc P w 0 sp held n t cs = some (d, ps) → (∀ x ∈ d.weights P t, x ≤ reachBytes) → Reads P φ w n t cs) {cs : List Value} {all : Nat} (hall : cs.length = all) :
    ∀ (fs : List Field) (off : Nat) (parts : List (DataW H × List MemPlace)), okF P (fun u => T.contains u) all off fs = true → parts.length = fs.length → (∀ (i : Nat) (f : Field), fs[i]? = some f → DataW.trod enc P w 0 sp held n f.type ((cs.drop f.offset).take (P.cellsOf f.type)) = parts[i]?) →
      (∀ x ∈ DataW.weightsEach P (fs.map (·.type)) (parts.map (·.1)), x ≤ reachBytes) →
      ∃ xs : List AV, off + xs.length = all ∧ (∀ (j : Nat) (x : AV), xs[j]? = some x → x.one = true) ∧ (∀ (j : Nat) (x : AV) (v : Value), xs[j]? = some x → cs[off + j]? = some v → Rel [] φ w (Old w) false x v) ∧ ShpF P (Shp P n) fs xs
  | [], off, parts, ok, hl, hm, hw => by
    simp only [okF, beq_iff_eq] at ok
    exact ⟨[], by simpa using ok, fun j x hx => by simp at hx, fun j x v hx => by simp at hx, rfl⟩
  | f :: fs, off, [], ok, hl, hm, hw => by cases hl
  | f :: fs, off, (d, ps) :: rest, ok, hl, hm, hw => by
    simp only [okF, Bool.and_eq_true, beq_iff_eq] at ok
    obtain ⟨⟨ok1, ok2⟩, ok3⟩ := ok
    have h1 := hm 0 f rfl
    simp only [List.getElem?_cons_zero] at h1
    simp only [List.map_cons, DataW.weightsEach, List.mem_append] at hw
    obtain ⟨xs, a1, a2, a3, a4⟩ := ih f.type ok2 _ _ _ h1 (fun x hx => hw x (.inl hx))
    obtain ⟨ys, b1, b2, b3, b4⟩ := reads_fields ih hall fs _ rest ok3 (by simpa using hl) (fun i g hg => hm (i + 1) g (by simpa using hg)) (fun x hx => hw x (.inr hx))
    have hlen : xs.length = P.cellsOf f.type := by
      rw [a1]; simp; omega
    refine ⟨xs ++ ys, by simp; omega, fun j x hx => ?_, fun j x v hx hv => ?_, ?_⟩
    · rcases Nat.lt_or_ge j xs.length with hj | hj
      · rw [List.getElem?_append_left hj] at hx; exact a2 j x hx
      · rw [List.getElem?_append_right hj] at hx; exact b2 _ x hx
    · rcases Nat.lt_or_ge j xs.length with hj | hj
      · rw [List.getElem?_append_left hj] at hx
        refine a3 j x v hx ?_
        rw [List.getElem?_take, if_pos (by omega), List.getElem?_drop, ok1]
        exact hv
      · rw [List.getElem?_append_right hj] at hx
        refine b3 _ x v hx ?_
        rw [← hv]; congr 1; omega
    · refine ⟨?_, ?_⟩
      · rw [List.take_append_of_le_length (by omega), List.take_of_length_le (by omega)]; exact a4
      · rw [List.drop_append_of_le_length (by omega), List.drop_of_length_le (by omega), List.nil_append]; exact b4

theorem weightsAll_mem {e : TypeId} : ∀ {l : List (DataW H)} {i : Nat} {d : DataW H} {x : Nat}, l[i]? = some d → x ∈ d.weights P e → x ∈ DataW.weightsAll P e l
  | [], i, d, x, h, _ => by simp at h
  | y :: l, i, d, x, h, hx => by
    simp only [DataW.weightsAll, List.mem_append]
    cases i with
    | zero => simp at h; subst h; exact .inl hx
    | succ i => exact .inr (weightsAll_mem (by simpa using h) hx)

theorem one_of_ok {T : List TypeId} {e : TypeId} (ok : okT1 P T e = true) (hna : aggT P e = false) {m : Nat} {l : List Value} {x : DataW H × List MemPlace} (ht : DataW.trod enc P w 0 sp held m e l = some x) : l.length = 1 := by
  simp only [okT1] at ok
  split at ok
  · rename_i hu; obtain ⟨b, rfl, _⟩ := DataW.trod_bool hu ht; rfl
  · rename_i k hu; obtain ⟨b, rfl, _⟩ := DataW.trod_int hu ht; rfl
  · rename_i hu; obtain ⟨b, rfl, _⟩ := DataW.trod_string hu ht; rfl
  · rename_i e' hu
    rcases DataW.trod_slice hu ht with ⟨rfl, hd⟩ | ⟨a, len, cap, elems, rest, m, _, rfl, _⟩ <;> rfl
  · rename_i fs hu; simp [aggT, hu] at hna
  · cases ok
theorem trod_reads {T : List TypeId} (hT : okS P T = true) : ∀ (fuel : Nat) (t : TypeId), T.contains t = true → ∀ cs d ps, DataW.trod enc P w 0 sp held fuel t cs = some (d, ps) → (∀ x ∈ d.weights P t, x ≤ reachBytes) → Reads P φ w fuel t cs := by
  have hT' : ∀ t, T.contains t = true → okT1 P T t = true := fun t ht => (List.all_eq_true.1 hT) t (by simpa using ht)
  intro fuel
  induction fuel with
  | zero => intro t ht cs d ps h; simp [DataW.trod] at h
  | succ n ih =>
    intro t ht cs d ps h hw
    have ok := hT' t ht
    simp only [okT1] at ok
    split at ok
    · rename_i hu
      obtain ⟨b, rfl, _⟩ := DataW.trod_bool hu h
      exact reads_one rfl (.bool false b) (by simp only [Shp, hu]; exact ⟨b, rfl⟩)
    · rename_i k hu
      obtain ⟨z, rfl, _, hz⟩ := DataW.trod_int hu h
      exact reads_one rfl (.int false _ z) (by simp only [Shp, hu]; exact ⟨z, rfl, hz⟩)
    · rename_i hu
      obtain ⟨s, rfl, hd, hs⟩ := DataW.trod_string hu h
      injection hd with hd _
      subst hd
      refine reads_one rfl (.str false s) ?_
      simp only [Shp, hu]
      refine ⟨s, rfl, ?_⟩
      exact hw s.data.toList.length (by simp [DataW.weights])
    · rename_i e hu
      simp only [Bool.and_eq_true, decide_eq_true_eq] at ok
      rcases DataW.trod_slice hu h with ⟨rfl, hd⟩ | ⟨a, len, cap, elems, rest, m, hfu, rfl, hd, hb, hlc, hcm, hel, hget, _, _⟩
      · refine reads_one rfl (.rsl false [] none 0 1 (fun _ _ => undef) (by simp) (by omega) (by simp) (fun i j x y hx => by simp at hx) (fun i j x y hx => by simp at hx)) ?_
        simp only [Shp, hu]
        exact ⟨[], rfl, by simp, by simp⟩
      · injection hd with hd1 hd2
        subst hd1
        have hm : m = n := by omega
        subst hm
        have hws : ∀ i, i < len → ∀ x ∈ ((elems.map (·.1))[i]?.map fun d => d.weights P e).getD [], x ≤ reachBytes := by
          intro i hi x hx
          have hi' : i < elems.length := by omega
          simp [hi'] at hx
          refine hw x ?_
          simp only [DataW.weights, hu, List.mem_cons, List.mem_append]
          exact .inr (.inl (weightsAll_mem (i := i) (by simp [hi']) hx))
        have each : ∀ i, i < len → ∃ y : AV, y.cells.length = P.cellsOf e ∧ (∀ (j : Nat) (x : AV), y.cells[j]? = some x → x.one = true ∧ ∃ v, w.cell? (a.add (i * P.cellsOf e + j)) = some v ∧ Rel [] φ w (Old w) false x v) ∧
            ∃ ys, y = packT P e ys ∧ ys.length = P.cellsOf e ∧ Shp P m e ys := by
          intro i hi
          have hi' : i < elems.length := by omega
          have hg := hget i hi
          rw [List.getElem?_eq_getElem hi'] at hg
          obtain ⟨l, hl, ht'⟩ := Option.bind_eq_some_iff.1 hg
          obtain ⟨l1, l2⟩ := cells?_get hl
          obtain ⟨xs, x1, x2, x3, x4⟩ := ih e ok.2 _ _ _ ht' (fun x hx => hws i hi x (by rw [List.getElem?_map, List.getElem?_eq_getElem hi']; exact hx))
          have hpk : (packT P e xs).cells = xs := by
            unfold packT
            split
            · rfl
            · rename_i hna
              match xs, x1, x2 with
              | [], q1, _ => simp at q1; omega
              | [x], _, q2 => have := q2 0 x rfl; cases x <;> first | rfl | cases this
              | x :: y :: r, q1, _ =>
                exfalso
                have hone : l.length = 1 := one_of_ok (hT' e ok.2) (by simpa using hna) ht'
                simp at q1; omega
          refine ⟨packT P e xs, by rw [hpk]; omega, fun j x hx => ?_, xs, rfl, by omega, x4⟩
          rw [hpk] at hx
          have hj : j < l.length := by rw [← x1]; exact (List.getElem?_eq_some_iff.1 hx).1
          refine ⟨x2 j x hx, l[j], ?_, x3 j x _ hx (List.getElem?_eq_getElem hj)⟩
          rw [← add_add, l2 j (by omega)]
          exact List.getElem?_eq_getElem hj
        obtain ⟨es, e1, e2⟩ := exists_list len each
        subst e1
        refine reads_one (x := .rsl es) rfl ?_ ?_
        · refine .rsl false es (some a) cap (P.cellsOf e) (fun i j => (w.cell? (a.add (i * P.cellsOf e + j))).getD undef) hlc ok.1 (fun y hy => ?_) (fun i j x y hx hy => ?_) (fun i j x y hx hy => ?_)
          · obtain ⟨i, hi, rfl⟩ := List.getElem_of_mem hy
            exact (e2 i _ (List.getElem?_eq_getElem hi)).1
          · obtain ⟨q1, v, q2, q3⟩ := (e2 i x hx).2.1 j y hy
            have := cell?_lt q2
            rw [add_block] at this
            exact ⟨a, rfl, q1, by rw [q2]; rfl, this⟩
          · obtain ⟨q1, v, q2, q3⟩ := (e2 i x hx).2.1 j y hy
            rw [q2]; exact q3
        · simp only [Shp, hu]
          refine ⟨es, rfl, ?_, fun y hy => ?_⟩
          · have := hw ((elems.length + rest.length) * P.bytesOf e) (by simp [DataW.weights, hu])
            refine Nat.le_trans (Nat.mul_le_mul_right _ ?_) this
            omega
          · obtain ⟨i, hi, rfl⟩ := List.getElem_of_mem hy
            exact (e2 i _ (List.getElem?_eq_getElem hi)).2.2
    · rename_i fs hu
      obtain ⟨xs, m, hfu, hd, hl, hxl, hget⟩ := DataW.trod_struct hu h
      have hm : m = n := by omega
      subst hm
      injection hd with hd1 hd2
      subst hd1
      simp only [DataW.weights, hu] at hw
      obtain ⟨ys, a1, a2, a3, a4⟩ := reads_fields (T := T) (fun t ok => ih t ok) hl fs.toList 0 xs ok (by simpa using hxl) (fun i f hf => hget i f (by simpa using hf)) hw
      exact ⟨ys, by omega, a2, fun j x v hx hv => a3 j x v hx (by simpa using hv), by simp only [Shp, hu]; exact a4⟩
    · cases ok
end
end Go.Eng

/- The engine, part 23: a law's row. -/
set_option linter.unusedVariables false
set_option linter.unusedSimpArgs false
namespace Go.Eng
open Go.WideShapes Go.RowKit

section
variable {H : Type} {enc : TypeId × Value → H} {P : Program} {w : World} {sp : Nat → Bool} {held : Bool} {φ : Nat → Loc}

theorem sim_nil (φ : Nat → Loc) (w : World) : Sim [] φ w (Old w) where
  obj := fun i o h => by simp at h
  inj := fun i j oi oj h => by simp at h
  stab := fun b o h => h

theorem below_of_ext {h' : List AO} {φ' : Nat → Loc} {w' : World} {S S' : Nat → Nat → Prop} (E : Ext [] φ w S h' φ' w' S') : Below w.heap.size w w' :=
  ⟨E.os, E.tape, E.output, E.size, fun k hk => E.frame k hk (fun i o ho => by simp at ho)⟩

/-- A law that gives true. -/
theorem calls_law {P : Pg} {f : FuncId} {args : Array Value} {xs : List AV} (V : P.env w (Old w)) (hR : Rels [] φ w (Old w) xs args) (hcall : ∀ w, (callFunc f args).run P.prog w = .ok (.enter f args) w)
    (k : WC P f xs [] (fun r _ => r = .ok (.bool true))) : Calls P.prog f args w fun e w' => e = .returned (.bool true) ∧ Below w.heap.size w w' := by
  rcases k φ w (Old w) args V (sim_nil φ w) hR with ⟨_, k⟩ | ⟨v, w', k, _⟩
  · refine k.mono fun e w' p => ?_
    cases e with
    | returned v =>
      obtain ⟨x, h', φ', S', q, M, E, R⟩ := p
      injection q with q
      subst q
      cases R
      exact ⟨rfl, below_of_ext E⟩
    | panicked c => obtain ⟨x, v, h', φ', S', _, q, _⟩ := p; cases q
    | outgrown => exact p.elim
  · rw [hcall] at k; cases k

theorem arg_reads {T : List TypeId} (hT : okS P T = true) {t : TypeId} {v : Value} {d : DataW H} {p : List MemPlace} {base : Nat} (ht : T.contains t = true) (hv : Value.okWide P w .any base t v) (h : DataW.Trod enc P w 0 sp held t v d p) (hw : ∀ x ∈ d.weights P t, x ≤ reachBytes) :
    ∃ n xs, Shp P n t xs ∧ Rel [] φ w (Old w) false (packT P t xs) v := by
  obtain ⟨fuel, hf⟩ := h
  obtain ⟨xs, x1, x2, x3, x4⟩ := trod_reads (φ := φ) hT fuel t ht _ d p hf hw
  refine ⟨fuel, xs, x4, ?_⟩
  have one : aggT P t = false → v.cells = #[v] → Rel [] φ w (Old w) false (packT P t xs) v := by
    intro ha hc
    rw [hc] at x1 x3
    match xs, x1, x3 with
    | [x], _, x3 => simp only [packT, ha]; exact x3 0 x v rfl rfl
  have ok : okT1 P T t = true := (List.all_eq_true.1 hT) t (by simpa using ht)
  simp only [okT1] at ok
  split at ok
  · rename_i hu
    obtain ⟨b, rfl⟩ : ∃ b, v = .bool b := by
      simp only [Value.okWide, hu, Cell.okWide] at hv
      cases v <;> simp_all [Cell.ok]
    exact one (by simp [aggT, hu]) rfl
  · rename_i k hu
    obtain ⟨z, rfl⟩ := okWide_int hu hv
    exact one (by simp [aggT, hu]) rfl
  · rename_i hu
    obtain ⟨z, rfl⟩ := okWide_string hu hv
    exact one (by simp [aggT, hu]) rfl
  · rename_i e hu
    obtain ⟨a, l, c, rfl⟩ := okWide_slice hu hv
    exact one (by simp [aggT, hu]) rfl
  · rename_i fs hu
    obtain ⟨cs, rfl, hs⟩ := okWide_struct hu hv
    simp only [packT, show aggT P t = true by simp [aggT, hu], if_true]
    refine .agg false xs cs ?_ x2 (fun j x v hx hv => x3 j x v hx ?_)
    · simpa [Value.cells] using x1
    · simpa [Value.cells] using hv
  · cases ok
theorem rels_nil : Rels [] φ w (Old w) [] #[] := ⟨rfl, fun j x v h => by simp at h⟩
theorem rels1 {x : AV} {v : Value} (r : Rel [] φ w (Old w) false x v) : Rels [] φ w (Old w) [x] #[v] :=
  ⟨rfl, fun j y u hy hu => by cases j <;> simp at hy hu; subst hy hu; exact r.up⟩
theorem rels2 {x y : AV} {v u : Value} (r : Rel [] φ w (Old w) false x v) (r' : Rel [] φ w (Old w) false y u) : Rels [] φ w (Old w) [x, y] #[v, u] :=
  ⟨rfl, fun j z q hz hq => by
    match j with
    | 0 => simp at hz hq; subst hz hq; exact r.up
    | 1 => simp at hz hq; subst hz hq; exact r'.up
    | j + 2 => simp at hz⟩
end
end Go.Eng
