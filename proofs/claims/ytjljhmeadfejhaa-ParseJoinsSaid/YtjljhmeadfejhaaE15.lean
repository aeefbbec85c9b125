/- The engine, part 15: code, sound. -/
import Derived.Test.YtjljhmeadfejhaaE14
import Derived.Scope
set_option linter.unusedVariables false
set_option linter.unusedSimpArgs false
namespace Go.Eng

/-- The abstract operation is the compiled one. -/
structure OpC (P : Program) (N : Nat) (ops : Array Oper) (o : Oper) (ao : AOper) : Prop where
  op : ∃ b, cOp P o = some b ∧ toSt b = ao.op
  dst : ao.dst = o.dst
  lt : ∀ d, o.dst = some d → d < N
  guard : match o.guard with
    | none => ao.guard = none
    | some (j, want) => ∃ t, (ops[j]?).bind (·.dst) = some t ∧ ao.guard = some (t, want)

section
variable {P : Pg} {N : Nat} {D : List Deferred}
variable {h0 : List AO} {φ0 : Nat → Loc} {w0 : World} {S0 : Nat → Nat → Prop}

/-- The abstract state stands for the machine's. -/
def St (N : Nat) (D : List Deferred) (h0 : List AO) (φ0 : Nat → Loc) (w0 : World) (S0 : Nat → Nat → Prop) (B : Fr → List AO → Prop) (a : Act) (w : World) : Prop :=
  ∃ f h φ S, B f h ∧ Sim h φ w S ∧ Ext h0 φ0 w0 S0 h φ w S ∧ FRel h φ w S f a ∧ a.defers = D ∧ a.tmps.size = N

def QC (N : Nat) (D : List Deferred) (h0 : List AO) (φ0 : Nat → Loc) (w0 : World) (S0 : Nat → Nat → Prop) (Q : QT) : Exit → Act → World → Prop
  | .normal, a, w => St N D h0 φ0 w0 S0 (Q .normal) a w
  | .exit i, a, w => St N D h0 φ0 w0 S0 (Q (.exit i)) a w
  | .ret, a, w => St N D h0 φ0 w0 S0 (Q .ret) a w
  | .panic c, a, w => ∃ x v f h φ S, c = [{ v, recovered := false }] ∧ Q (.pan x) f h ∧ Sim h φ w S ∧ Ext h0 φ0 w0 S0 h φ w S ∧ Rel h φ w S true x v ∧ a.defers = D
  | _, _, _ => False

theorem lk_keepF {keep : List Nat} {f : Fr} {i : Nat} {x : AV} (e : lk (keepF keep f) i = some x) : lk f i = some x := by
  induction keep with
  | nil => simp [keepF, lk] at e
  | cons k l ih =>
    simp only [keepF, List.filterMap_cons] at e
    cases hk : lk f k with
    | none => rw [hk] at e; exact ih e
    | some y =>
      rw [hk] at e
      simp only [Option.map_some, lk] at e
      split at e
      · rename_i hik; injection e with e; subst e; rw [hik]; exact hk
      · exact ih e

theorem FRel.keep {h : List AO} {φ : Nat → Loc} {w : World} {S : Nat → Nat → Prop} {f : Fr} {a : Act} (F : FRel h φ w S f a) (keep : List Nat) : FRel h φ w S (keepF keep f) a :=
  fun i x hx => F i x (lk_keepF hx)

theorem gd_sound {h : List AO} {φ : Nat → Loc} {w : World} {S : Nat → Nat → Prop} {f : Fr} {a : Act} {ops : Array Oper} {o : Oper} {ao : AOper} {b : Bool} (C : OpC P N ops o ao) (F : FRel h φ w S f a) (e : gd f ao.guard = some b) :
    Region.wanted o (yielded ops a.tmps) = b := by
  have hg := C.guard
  unfold Region.wanted
  cases ho : o.guard with
  | none =>
    rw [ho] at hg
    simp only at hg
    rw [hg] at e
    injection e
  | some p =>
    obtain ⟨j, want⟩ := p
    rw [ho] at hg
    obtain ⟨t, k1, k2⟩ := hg
    rw [k2] at e
    simp only [gd] at e
    simp only [yielded, k1, Option.bind_some]
    split at e
    · rename_i c hc
      obtain ⟨v, k3, k4⟩ := F t _ hc
      cases k4
      rw [k3]
      injection e with e
    · rename_i hc
      obtain ⟨v, k3, k4⟩ := F t _ hc
      generalize hcs : ([] : List AV) = cs at k4
      cases k4
      rw [k3]
      injection e with e
    · cases e

theorem put_size (a : Act) (d : Option Nat) (v : Value) : (a.put d v).tmps.size = a.tmps.size := by
  cases d <;> simp [Act.put]
theorem put_defers' (a : Act) (d : Option Nat) (v : Value) : (a.put d v).defers = a.defers := by
  cases d <;> rfl

theorem rel_undef (h : List AO) (φ : Nat → Loc) (w : World) (S : Nat → Nat → Prop) : Rel h φ w S true (.tup []) undef :=
  .tup true [] #[] rfl (fun j x v hx => by simp at hx)

/-- One operation, guarded. -/
theorem op1_sound {h : List AO} {φ : Nat → Loc} {w : World} {S : Nat → Nat → Prop} {f : Fr} {a : Act} {ops : Array Oper} {o : Oper} {ao : AOper} (C : OpC P N ops o ao) {i : Nat} (hi : ops[i]? = some o)
    (V : P.env w S) (M : Sim h φ w S) (F : FRel h φ w S f a) (hN : a.tmps.size = N) {K : ARes → List AO → Prop} (k : op1 P f h ao K) {next : Act → World → Prop} {Q : Exit → Act → World → Prop}
    (hn : ∀ x h' φ' w' S' v, K (.ok x) h' → Sim h' φ' w' S' → Ext h φ w S h' φ' w' S' → Rel h' φ' w' S' true x v → next (a.put o.dst v) w')
    (hp : ∀ x h' φ' w' S' v, K (.pan x) h' → Sim h' φ' w' S' → Ext h φ w S h' φ' w' S' → Rel h' φ' w' S' true x v → Q (.panic [{ v, recovered := false }]) a w') :
    wpOp P ops Q i next a w := by
  unfold wpOp
  simp only [hi]
  rcases k with ⟨k1, k2⟩ | ⟨k1, k2⟩
  · rw [if_pos (gd_sound C F k1)]
    obtain ⟨b, c1, c2⟩ := C.op
    exact .inl (st1_sound c1 c2 V M F k2 hn hp)
  · rw [if_neg (by rw [gd_sound C F k1]; simp)]
    exact hn (.tup []) h φ w S undef k2 M (Ext.refl _ _ _ _) (rel_undef _ _ _ _)

theorem opsA_sound (V0 : P.env w0 S0) {ops : Array Oper} {Q : QT} {Kf : Fr → List AO → Prop} {Q' : Exit → Act → World → Prop} (hQn : ∀ a w, St N D h0 φ0 w0 S0 Kf a w → Q' .normal a w)
    (hQp : ∀ x v f h φ S a w, Q (.pan x) f h → Sim h φ w S → Ext h0 φ0 w0 S0 h φ w S → Rel h φ w S true x v → a.defers = D → Q' (.panic [{ v, recovered := false }]) a w) :
    ∀ (l : List AOper) (i : Nat), i + l.length = ops.size → (∀ (j : Nat) (ao : AOper) (o : Oper), l[j]? = some ao → ops[i + j]? = some o → OpC P N ops o ao) → ∀ (a : Act) (w : World), St N D h0 φ0 w0 S0 (fun f h => opsA P Q l f h Kf) a w →
      wpOps P ops Q' (List.range' i l.length) a w := by
  intro l
  induction l with
  | nil => intro i _ _ a w st; exact hQn a w st
  | cons ao l ih =>
    intro i hi hC a w st
    obtain ⟨f, h, φ, S, k, M, E, F, hd, hN⟩ := st
    simp only [List.length_cons, List.range'_succ]
    simp only [List.length_cons] at hi
    rw [wpOps_cons]
    have ho : ops[i]? = some ops[i] := by rw [Array.getElem?_eq_getElem]
    have C := hC 0 ao _ rfl ho
    simp only [opsA] at k
    refine op1_sound C ho (P.stable E V0) M F hN k ?_ ?_
    · intro x h' φ' w' S' v k' M' E' R'
      refine ih (i + 1) (by omega) (fun j ao' o' h1 h2 => hC (j + 1) ao' o' (by simpa using h1) (by rw [← h2]; congr 1; omega)) _ _ ⟨_, h', φ', S', k', M', E.trans E', ?_, by rw [put_defers']; exact hd, by rw [put_size]; exact hN⟩
      rw [C.dst]
      exact (F.mono E').put _ _ _ R' (fun d hd' => by rw [hN]; exact C.lt d hd')
    · intro x h' φ' w' S' v k' M' E' R'
      exact hQp x v f h' φ' S' a w' k' M' (E.trans E') R' hd

theorem range_eq (n : Nat) : List.range n = List.range' 0 n := List.range_eq_range'

end

/-- What a region whose order is drawn must be like. -/
def DrawnOk (P : Pg) (N : Nat) (ops : Array Oper) (aops : List AOper) (re : List (Nat × Nat)) : Prop :=
  ∀ (D : List Deferred) (h0 : List AO) (φ0 : Nat → Loc) (w0 : World) (S0 : Nat → Nat → Prop) (V0 : P.env w0 S0) (Kf : Fr → List AO → Prop) (Q' : Exit → Act → World → Prop) (hQn : ∀ a w, St N D h0 φ0 w0 S0 Kf a w → Q' .normal a w) (a : Act) (w : World),
    St N D h0 φ0 w0 S0 (fun f h => ∃ tr f' h', Tr P aops f h tr f' h' ∧ DrawOk aops re tr ∧ Kf f' h') a w → wpAny P .any ops Q' ops.size (Array.replicate ops.size false) a w

inductive Cmp (P : Pg) (N : Nat) : Code → AC → Prop
  | skip : Cmp P N .skip .skip
  | label (l : Nat) : Cmp P N (.label l) .skip
  | reg (id : Nat) (ops : Array Oper) (aops : List AOper) (keep : List Nat) (hs : aops.length = ops.size) (hC : ∀ (j : Nat) (ao : AOper) (o : Oper), aops[j]? = some ao → ops[j]? = some o → OpC P N ops o ao) :
      Cmp P N (.region id ops false) (.reg aops keep)
  | regD (id : Nat) (ops : Array Oper) (aops : List AOper) (re : List (Nat × Nat)) (keep : List Nat) (hD : DrawnOk P N ops aops re) : Cmp P N (.region id ops true) (.regD aops re keep)
  | seq (a b : Code) (x y : AC) (h1 : Cmp P N a x) (h2 : Cmp P N b y) : Cmp P N (.seq a b) (.seq x y)
  | cond (c : Operand) (p : Opnd) (a b : Code) (x y : AC) (e : cO c = some p) (h1 : Cmp P N a x) (h2 : Cmp P N b y) : Cmp P N (.cond c a b) (.cond p x y)
  | block (id : Nat) (a : Code) (x : AC) (h1 : Cmp P N a x) : Cmp P N (.block id a) (.block id x)
  | loop (keep : List Nat) (a : Code) (x : AC) (h1 : Cmp P N a x) : Cmp P N (.loop a) (.loop keep x)
  | scope (a : Code) (x : AC) (h1 : Cmp P N a x) : Cmp P N (.scope a) x
  | exit (id : Nat) : Cmp P N (.exit id) (.exit id)
  | ret : Cmp P N .ret .ret
  | fail (c : Code) : Cmp P N c .fail

section
variable {P : Pg} {N : Nat} {D : List Deferred}
variable {h0 : List AO} {φ0 : Nat → Loc} {w0 : World} {S0 : Nat → Nat → Prop}

theorem sim_drewn {h : List AO} {φ : Nat → Loc} {w : World} {S : Nat → Nat → Prop} (M : Sim h φ w S) (n : Nat) : Sim h φ { w with drawn := n } S ∧ Ext h φ w S h φ { w with drawn := n } S := by
  have E : Ext h φ w S h φ { w with drawn := n } S :=
    { len := Nat.le_refl _, stab := fun _ _ k => k, cell := fun _ _ _ => rfl, same := fun i hi => ⟨hi, rfl⟩, tok := fun i e sz n hi _ => .inl ⟨hi, rfl⟩,
      live := fun i o ho hd => .inl ⟨o, ho, hd, rfl⟩, frame := fun _ _ _ => rfl, os := rfl, tape := rfl, output := rfl, size := Nat.le_refl _, news := fun _ _ k => .inl k }
  exact ⟨⟨fun i o ho => (M.obj i o ho).mono E rfl (fun _ k => k), M.inj, M.stab⟩, E⟩

theorem St.mono {B B' : Fr → List AO → Prop} (hB : ∀ f h, B f h → B' f h) {a : Act} {w : World} (s : St N D h0 φ0 w0 S0 B a w) : St N D h0 φ0 w0 S0 B' a w := by
  obtain ⟨f, h, φ, S, k, r⟩ := s
  exact ⟨f, h, φ, S, hB _ _ k, r⟩

theorem wp_loopA (M0 : Sim h0 φ0 w0 S0) {c : Code} {body : QT → Fr → List AO → Prop} {keep : List Nat} {Q : QT} (hb : ∀ Q a w, St N D h0 φ0 w0 S0 (body Q) a w → c.wp P (QC N D h0 φ0 w0 S0 Q) a w) {a : Act} {w : World}
    (st : St N D h0 φ0 w0 S0 (LoopA h0 body keep Q) a w) : (Code.loop c).wp P (QC N D h0 φ0 w0 S0 Q) a w := by
  intro b k cs
  have key : ∀ f h, LoopA h0 body keep Q f h → ∀ φ S a w, Sim h φ w S → Ext h0 φ0 w0 S0 h φ w S → FRel h φ w S f a → a.defers = D → a.tmps.size = N →
      ∃ e a' w', QC N D h0 φ0 w0 S0 Q e a' w' ∧ Arrives P (lone (b.at a (.code c :: .inLoop c :: k)) cs w) b k cs e a' w' := by
    intro f h H
    induction H with
    | mk f h B hB hbd ih =>
      intro φ S a w M E F hd hN
      obtain ⟨e, a₁, w₁, hq, harr⟩ := hb (thenA B Q) a w ⟨_, h, φ, S, hbd, M, E, F.keep keep, hd, hN⟩ b (.inLoop c :: k) cs
      cases e with
      | normal =>
        obtain ⟨f1, h1, φ1, S1, q1, M1, E1, F1, d1, N1⟩ := hq
        obtain ⟨e₂, a₂, w₂, hq₂, harr₂⟩ := ih f1 h1 q1 φ1 S1 a₁ w₁ M1 E1 F1 d1 N1
        exact ⟨e₂, a₂, w₂, hq₂, .of_steps (Steps.trans harr (.one step_inLoop)) harr₂⟩
      | exit id => exact ⟨.exit id, a₁, w₁, hq, .pass (x := .inLoop c) rfl (fun _ _ => .inl (by simp)) harr⟩
      | goto l => exact hq.elim
      | ret => exact ⟨.ret, a₁, w₁, hq, .pass (x := .inLoop c) rfl (fun _ _ => .inl (by simp)) harr⟩
      | panic ch => exact ⟨.panic ch, a₁, w₁, hq, .pass (x := .inLoop c) rfl (fun _ _ => .inl (by simp)) harr⟩
      | outgrown => exact hq.elim
    | drop f h m k' f' hd he hb ih =>
      intro φ S a w M E F hdef hN
      exact ih φ _ a w (sim_take M (hd.bel M0)) (ext_take E hd.1) (outF_rel M he (F.keep keep)) hdef hN
  obtain ⟨f, h, φ, S, H, M, E, F, hd, hN⟩ := st
  obtain ⟨e, a', w', hq, harr⟩ := key f h H φ S a w M E F hd hN
  exact ⟨e, a', w', hq, .of_steps (.one step_loop) harr⟩

theorem wpA_sound (V0 : P.env w0 S0) (M0 : Sim h0 φ0 w0 S0) (hm : P.prog.follows .mixedOrders = true) {c : Code} {x : AC} (C : Cmp P N c x) : ∀ (Q : QT) (a : Act) (w : World), St N D h0 φ0 w0 S0 (wpA P h0 x Q) a w → c.wp P (QC N D h0 φ0 w0 S0 Q) a w := by
  induction C with
  | skip => intro Q a w st; exact wp_skip st
  | label l => intro Q a w st; exact wp_label st
  | reg id ops aops keep hs hC =>
    intro Q a w st
    refine wp_region ?_
    rw [range_eq, ← hs]
    refine opsA_sound V0 (Q := Q) (Kf := fun f' h' => Q .normal (keepF keep f') h') ?_ ?_ aops 0 (by omega) (fun j ao o h1 h2 => hC j ao o h1 (by simpa using h2)) a w st
    · intro a w ⟨f, h, φ, S, k, M, E, F, hd, hN⟩
      exact ⟨_, h, φ, S, k, M, E, F.keep keep, hd, hN⟩
    · intro x v f h φ S a w q M E R hd
      exact ⟨x, v, f, h, φ, S, rfl, q, M, E, R, hd⟩
  | regD id ops aops re keep hD =>
    intro Q a w st
    refine wp_region_any hm ?_
    obtain ⟨f, h, φ, S, k, M, E, F, hd, hN⟩ := st
    obtain ⟨M', E'⟩ := sim_drewn M (w.drawn + 1)
    refine hD D h0 φ0 w0 S0 V0 (fun f' h' => Q .normal (keepF keep f') h') _ ?_ a _ ⟨f, h, φ, S, k, M', E.trans E', F.mono E', hd, hN⟩
    intro a w ⟨f, h, φ, S, k, M, E, F, hd, hN⟩
    exact ⟨_, h, φ, S, k, M, E, F.keep keep, hd, hN⟩
  | seq c1 c2 x y _ _ ih1 ih2 =>
    intro Q a w st
    refine wp_seq (wp_mono (ih1 _ a w st) ?_)
    intro e a w q
    cases e with
    | normal => exact ih2 Q a w q
    | _ => exact q
  | cond c p c1 c2 x y e _ _ ih1 ih2 =>
    intro Q a w ⟨f, h, φ, S, ⟨t, k1, k2⟩, M, E, F, hd, hN⟩
    have r := rel_ev F e
    rw [k1] at r
    generalize hv : a.eval c = v at r
    cases r
    refine wp_cond hv ?_
    cases t with
    | true => exact ih1 Q a w ⟨f, h, φ, S, k2, M, E, F, hd, hN⟩
    | false => exact ih2 Q a w ⟨f, h, φ, S, k2, M, E, F, hd, hN⟩
  | block id c x _ ih =>
    intro Q a w st
    refine wp_block (wp_mono (ih _ a w st) ?_)
    intro e a w q
    cases e with
    | exit i =>
      simp only [Exit.inBlock]
      by_cases hi : i = id
      · rw [if_pos hi]; exact St.mono (fun f h k => by simpa [blockA, hi] using k) q
      · rw [if_neg hi]; exact St.mono (fun f h k => by simpa [blockA, hi] using k) q
    | _ => exact q
  | loop keep c x _ ih =>
    intro Q a w st
    exact wp_loopA M0 ih st
  | scope c x _ ih =>
    intro Q a w st
    refine wp_scope_straight (wp_mono (ih Q a w st) fun e a w q => ?_)
    cases e <;> exact q
  | exit id => intro Q a w st; exact wp_exit st
  | ret => intro Q a w st; exact wp_ret st
  | fail c => intro Q a w st; obtain ⟨_, _, _, _, k, _⟩ := st; exact k.elim
end
end Go.Eng
