/- The engine, part 14: what code does to abstract values, by weakest conditions; calls. -/
import Derived.Test.YtjljhmeadfejhaaE14a
import Derived.Orders
import Derived.LoopN
set_option linter.unusedVariables false
set_option linter.unusedSimpArgs false
namespace Go.Eng

/-- A program, and what is known of its package-level variables: it stays so. -/
structure Pg where
  prog : Program
  env : World → (Nat → Nat → Prop) → Prop
  stable : ∀ {h : List AO} {φ : Nat → Loc} {w : World} {S : Nat → Nat → Prop} {h' : List AO} {φ' : Nat → Loc} {w' : World} {S' : Nat → Nat → Prop}, Ext h φ w S h' φ' w' S' → env w S → env w' S'
instance : CoeOut Pg Program := ⟨Pg.prog⟩
/-- A step of a region: a plain operation, or a call. -/
inductive ASt where
  | pl (o : AOp)
  | call (g : Opnd) (args : List Opnd)
  deriving Inhabited
def toSt : AOp → ASt
  | .call g l => .call g l
  | o => .pl o
structure AOper where
  dst : Option Nat
  op : ASt
  guard : Option (Nat × Bool)
  deriving Inhabited

inductive AC where
  | skip
  | reg (ops : List AOper) (keep : List Nat)
  | regD (ops : List AOper) (re : List (Nat × Nat)) (keep : List Nat)
  | seq (a b : AC)
  | cond (c : Opnd) (a b : AC)
  | block (id : Nat) (a : AC)
  | loop (keep : List Nat) (a : AC)
  | exit (id : Nat)
  | ret
  | fail
  deriving Inhabited

inductive ARes where
  | ok (x : AV)
  | pan (x : AV)
  deriving Inhabited
inductive AX where
  | normal
  | exit (id : Nat)
  | ret
  | pan (x : AV)
  deriving Inhabited

def Rels (h : List AO) (φ : Nat → Loc) (w : World) (S : Nat → Nat → Prop) (args : List AV) (vs : Array Value) : Prop :=
  args.length = vs.size ∧ ∀ (j : Nat) (x : AV) (v : Value), args[j]? = some x → vs[j]? = some v → Rel h φ w S true x v

/-- What stands for the world that a call leaves. -/
def Post (h : List AO) (φ : Nat → Loc) (w : World) (S : Nat → Nat → Prop) (K : ARes → List AO → Prop) : Ending → World → Prop
  | .returned v, w' => ∃ x h' φ' S', K (.ok x) h' ∧ Sim h' φ' w' S' ∧ Ext h φ w S h' φ' w' S' ∧ Rel h' φ' w' S' true x v
  | .panicked c, w' => ∃ x v h' φ' S', c = [{ v, recovered := false }] ∧ K (.pan x) h' ∧ Sim h' φ' w' S' ∧ Ext h φ w S h' φ' w' S' ∧ Rel h' φ' w' S' true x v
  | .outgrown, _ => False

/-- The function does with these arguments what K allows. -/
def WC (P : Pg) (g : FuncId) (args : List AV) (h : List AO) (K : ARes → List AO → Prop) : Prop :=
  ∀ φ w S (vs : Array Value), P.env w S → Sim h φ w S → Rels h φ w S args vs →
    ((callFunc g vs).run P w = .ok (.enter g vs) w ∧ Calls P g vs w (Post h φ w S K)) ∨
    ∃ v w', (callFunc g vs).run P w = .ok (.value v) w' ∧ Post h φ w S K (.returned v) w'

theorem Post.mono {h : List AO} {φ : Nat → Loc} {w : World} {S : Nat → Nat → Prop} {K K' : ARes → List AO → Prop} (hK : ∀ r h', K r h' → K' r h') {e : Ending} {w' : World} (p : Post h φ w S K e w') : Post h φ w S K' e w' := by
  cases e with
  | returned v => obtain ⟨x, h', φ', S', k, r⟩ := p; exact ⟨x, h', φ', S', hK _ _ k, r⟩
  | panicked c => obtain ⟨x, v, h', φ', S', e, k, r⟩ := p; exact ⟨x, v, h', φ', S', e, hK _ _ k, r⟩
  | outgrown => exact p

theorem WC.mono {P : Pg} {g : FuncId} {args : List AV} {h : List AO} {K K' : ARes → List AO → Prop} (k : WC P g args h K) (hK : ∀ r h', K r h' → K' r h') : WC P g args h K' := by
  intro φ w S vs V M R
  rcases k φ w S vs V M R with ⟨k1, k2⟩ | ⟨v, w', k1, k2⟩
  · exact .inl ⟨k1, k2.mono fun e w' p => p.mono hK⟩
  · exact .inr ⟨v, w', k1, k2.mono hK⟩

/-- One step. -/
def st1 (P : Pg) (f : Fr) (h : List AO) (s : ASt) (K : ARes → List AO → Prop) : Prop :=
  match s with
  | .pl o => ∃ x h', evP f h o = some (x, h') ∧ K (.ok x) h'
  | .call g args => ∃ fid first caps, ev f g = .fn fid first caps ∧ WC P fid (nrmL first ++ (nrmL (args.map (ev f)) ++ nrmL caps)) h K

/-- Does the guard let the operation run? -/
def gd (f : Fr) : Option (Nat × Bool) → Option Bool
  | none => some true
  | some (t, want) => match lk f t with
    | some (.bool b) => some (b == want)
    | some (.tup []) => some false
    | _ => none
def op1 (P : Pg) (f : Fr) (h : List AO) (op : AOper) (K : ARes → List AO → Prop) : Prop :=
  (gd f op.guard = some true ∧ st1 P f h op.op K) ∨ (gd f op.guard = some false ∧ K (.ok (.tup [])) h)

def opsA (P : Pg) (Q : AX → Fr → List AO → Prop) : List AOper → Fr → List AO → (Fr → List AO → Prop) → Prop
  | [], f, h, K => K f h
  | op :: r, f, h, K => op1 P f h op fun res h' => match res with
    | .ok x => opsA P Q r (put f op.dst x) h' K
    | .pan x => Q (.pan x) f h'

def keepF (keep : List Nat) (f : Fr) : Fr := keep.filterMap fun i => (lk f i).map fun x => (i, x)

/-- The states ahead of each operation. -/
def Tr (P : Pg) : List AOper → Fr → List AO → List (Fr × List AO) → Fr → List AO → Prop
  | [], f, h, tr, f', h' => tr = [(f, h)] ∧ f' = f ∧ h' = h
  | op :: r, f, h, tr, f', h' => ∃ x h1 tr', op1 P f h op (fun res h2 => res = .ok x ∧ h2 = h1) ∧ tr = (f, h) :: tr' ∧ Tr P r (put f op.dst x) h1 tr' f' h'

/-- What a plain operation gives. -/
def valOf (f : Fr) (h : List AO) (op : AOper) : Option AV :=
  match gd f op.guard, op.op with
  | some true, .pl o => (evP f h o).map Prod.fst
  | some false, _ => some (.tup [])
  | _, _ => none

/-- An operation that reads gives the same ahead of and behind each effect that may come at another time. -/
def DrawOk (ops : List AOper) (re : List (Nat × Nat)) (tr : List (Fr × List AO)) : Prop :=
  ∀ p, p ∈ re → ∀ o Fi Fk Fk', ops[p.1]? = some o → tr[p.1]? = some Fi → tr[p.2]? = some Fk → tr[p.2 + 1]? = some Fk' →
    valOf Fi.1 Fk.2 o = valOf Fi.1 Fi.2 o ∧ valOf Fi.1 Fk'.2 o = valOf Fi.1 Fi.2 o

abbrev QT := AX → Fr → List AO → Prop
def thenA (B : Fr → List AO → Prop) (Q : QT) : QT := fun e f h => match e with
  | .normal => B f h
  | e => Q e f h
def blockA (id : Nat) (Q : QT) : QT := fun e f h => match e with
  | .exit i => if i = id then Q .normal f h else Q (.exit i) f h
  | e => Q e f h

/-- Rounds of a loop; ahead of one, objects may be forgotten. -/
inductive LoopA (h0 : List AO) (body : QT → Fr → List AO → Prop) (keep : List Nat) (Q : QT) : Fr → List AO → Prop
  | mk (f : Fr) (h : List AO) (B : Fr → List AO → Prop) (hB : ∀ f' h', B f' h' → LoopA h0 body keep Q f' h') (hb : body (thenA B Q) (keepF keep f) h) : LoopA h0 body keep Q f h
  | drop (f : Fr) (h : List AO) (m k : Nat) (f' : Fr) (hd : DropOk h0 h m) (he : outF m h k (keepF keep f) = some f') (hb : LoopA h0 body keep Q f' (h.take m)) : LoopA h0 body keep Q f h

def wpA (P : Pg) (h0 : List AO) : AC → QT → Fr → List AO → Prop
  | .skip, Q, f, h => Q .normal f h
  | .reg ops keep, Q, f, h => opsA P Q ops f h fun f' h' => Q .normal (keepF keep f') h'
  | .regD ops re keep, Q, f, h => ∃ tr f' h', Tr P ops f h tr f' h' ∧ DrawOk ops re tr ∧ Q .normal (keepF keep f') h'
  | .seq a b, Q, f, h => wpA P h0 a (thenA (wpA P h0 b Q) Q) f h
  | .cond c a b, Q, f, h => ∃ t, ev f c = .bool t ∧ (if t then wpA P h0 a Q f h else wpA P h0 b Q f h)
  | .block id a, Q, f, h => wpA P h0 a (blockA id Q) f h
  | .loop keep a, Q, f, h => LoopA h0 (wpA P h0 a) keep Q f h
  | .exit id, Q, f, h => Q (.exit id) f h
  | .ret, Q, f, h => Q .ret f h
  | .fail, _, _, _ => False

/-! ### one step, sound -/
section
variable {P : Pg} {o : Oper} {a : Act} {h : List AO} {φ : Nat → Loc} {w : World} {S : Nat → Nat → Prop} {f : Fr}

theorem Rels.append {l l' : List AV} {vs vs' : Array Value} (r : Rels h φ w S l vs) (r' : Rels h φ w S l' vs') : Rels h φ w S (l ++ l') (vs ++ vs') := by
  obtain ⟨k1, k2⟩ := r
  obtain ⟨k3, k4⟩ := r'
  refine ⟨by simp [k1, k3], fun j x v hx hv => ?_⟩
  rcases Nat.lt_or_ge j l.length with hj | hj
  · rw [List.getElem?_append_left hj] at hx
    rw [Array.getElem?_append_left (by omega)] at hv
    exact k2 j x v hx hv
  · rw [List.getElem?_append_right hj] at hx
    rw [Array.getElem?_append_right (by omega), ← k1] at hv
    exact k4 _ x v hx hv
theorem Rels.nrm {l : List AV} {vs : Array Value} (r : Rels h φ w S l vs) : Rels h φ w S (nrmL l) vs := by
  refine ⟨by rw [nrmL_length]; exact r.1, fun j y v hy hv => ?_⟩
  obtain ⟨x, hx, rfl⟩ := nrmL_get l j y hy
  exact nrm_rel (r.2 j x v hx hv)

theorem callArgs {g : Operand} {l : Array Operand} {g' : Opnd} {l' : List Opnd} (e1 : cO g = some g') (e2 : cOL l.toList = some l') (F : FRel h φ w S f a) {fid : FuncId} {first caps : List AV}
    (hg : ev f g' = .fn fid first caps) : ∃ us vs, a.eval g = .func (.func fid) us vs ∧ Rels h φ w S (nrmL first ++ (nrmL (l'.map (ev f)) ++ nrmL caps)) (us ++ (l.map a.eval) ++ vs) := by
  have r := rel_ev F e1
  rw [hg] at r
  generalize a.eval g = v at r
  obtain ⟨n1, n2⟩ := rel_evL F e2
  cases r with
  | fn _ _ _ _ us vs hl' hl hr' hr =>
    refine ⟨us, vs, rfl, ?_⟩
    rw [Array.append_assoc]
    refine Rels.append (Rels.nrm ⟨hl', hr'⟩) (Rels.append (Rels.nrm ⟨by simpa using n1, fun j x v hx hv => n2 j x v hx ?_⟩) (Rels.nrm ⟨hl, hr⟩))
    rw [← Array.getElem?_toList] at hv
    simpa using hv

theorem toSt_pl {ao : AOp} {b : AOp} (e : toSt ao = .pl b) : ao = b := by
  cases ao <;> simp only [toSt] at e <;> cases e <;> rfl

theorem cOp_call {P : Program} {o : Oper} {g' : Opnd} {l' : List Opnd} (e : cOp P o = some (.call g' l')) : ∃ c, o.op = .call c ∧ cOL c.args.toList = some l' ∧
    ((∃ g, c.callee = .value g ∧ cO g = some g') ∨ ∃ x name n, c.callee = .invoke x name ∧ cO x = some (.t n) ∧ g' = .m (methTab P name) n) := by
  unfold cOp at e
  split at e
  all_goals repeat' split at e
  all_goals first
    | (cases e; done)
    | (obtain ⟨_, _, e'⟩ := Option.map_eq_some_iff.1 e; cases e'; done)
    | (injection e with e; injection e with e1 e2; subst e1 e2; exact ⟨_, by assumption, by assumption, .inl ⟨_, by assumption, by assumption⟩⟩)
    | (injection e with e; injection e with e1 e2; subst e1 e2; exact ⟨_, by assumption, by assumption, .inr ⟨_, _, _, by assumption, by assumption, rfl⟩⟩)
theorem lookM_mem {t : TypeId} {g : FuncId} : ∀ {l : List (TypeId × FuncId)}, lookM t l = some g → (t, g) ∈ l
  | [], e => by cases e
  | (u, k) :: l, e => by
    simp only [lookM] at e
    split at e
    · rename_i h; injection e with e; subst h e; exact List.mem_cons_self
    · exact List.mem_cons_of_mem _ (lookM_mem e)
theorem run_method {P : Program} {t : TypeId} {g : FuncId} {name : String} (e : lookM t (methTab P name) = some g) (v : Value) (w : World) : (method (P.types.size + Made.depth) t v name).run P w = .ok (g, v) w := by
  have hm := lookM_mem e
  simp only [methTab, List.mem_filterMap, List.mem_range] at hm
  obtain ⟨t', ht, hm⟩ := hm
  unfold methOne at hm
  split at hm
  · cases hm
  rename_i i hi
  split at hm
  · cases hm
  rename_i m hf
  split at hm
  · cases hm
  · rename_i d hnp hfn hp hu
    injection hm with hm; injection hm with h1 h2; subst h1 h2
    obtain ⟨n, hn⟩ : ∃ n, P.types.size + Made.depth = n + 1 := ⟨P.types.size + Made.depth - 1, by omega⟩
    rw [hn]
    unfold method
    cases d with
    | pointer el => exact absurd rfl (hnp el)
    | _ => simp [typeInfo, hi, hf, hp, follow, hfn, receiverAt, run_underlying hu, Place.get]
  · cases hm
theorem st1_sound {ao : AOp} {s : ASt} (hc : cOp P o = some ao) (hs : toSt ao = s) (V : P.env w S) (M : Sim h φ w S) (F : FRel h φ w S f a) {K : ARes → List AO → Prop} (k : st1 P f h s K)
    {next : Act → World → Prop} {Q : Exit → Act → World → Prop}
    (hn : ∀ x h' φ' w' S' v, K (.ok x) h' → Sim h' φ' w' S' → Ext h φ w S h' φ' w' S' → Rel h' φ' w' S' true x v → next (a.put o.dst v) w')
    (hp : ∀ x h' φ' w' S' v, K (.pan x) h' → Sim h' φ' w' S' → Ext h φ w S h' φ' w' S' → Rel h' φ' w' S' true x v → Q (.panic [{ v, recovered := false }]) a w') : o.wp P a w next Q := by
  cases s with
  | pl b =>
    obtain ⟨x, h', k1, k2⟩ := k
    rw [← toSt_pl hs] at k1
    obtain ⟨v, w', φ', S', r, M', E, R⟩ := evP_sound hc k1 M F
    have := hn x h' φ' w' S' v k2 M' E R
    rcases r with r | ⟨r, rfl⟩
    · simp only [Oper.wp, r, Oper.upon_value]; exact this
    · simp only [Oper.wp, r, Oper.upon_skip]; exact this
  | call g args =>
    obtain ⟨fid, first, caps, k1, k2⟩ := k
    have hao : ao = .call g args := by
      cases ao <;> simp only [toSt] at hs <;> first | cases hs; done | (injection hs with h1 h2; rw [h1, h2])
    subst hao
    obtain ⟨c, ho, e2, hcal⟩ := cOp_call hc
    obtain ⟨vs, R, hrun⟩ : ∃ vs, Rels h φ w S (nrmL first ++ (nrmL (args.map (ev f)) ++ nrmL caps)) vs ∧ (execOp a.eval o).run P w = (callFunc fid vs).run P w := by
      rcases hcal with ⟨g0, hcal, e1⟩ | ⟨y, name, n, hcal, e1, rfl⟩
      · obtain ⟨us, vs, hv, R⟩ := callArgs e1 e2 F k1
        exact ⟨_, R, by simp [execOp, ho, resolve, hcal, hv, Deferred.ofValue, invoke]⟩
      · have r := rel_ev F e1
        simp only [ev] at k1 r
        cases hl : lk f n with
        | none => rw [hl] at k1; cases k1
        | some z =>
          rw [hl] at k1 r
          cases z <;> simp only [bindM] at k1 <;> first | (cases k1; done) | skip
          rename_i t z
          split at k1
          case h_2 => cases k1
          rename_i g hg
          injection k1 with k1 k3 k4
          subst k1 k3 k4
          simp only [Option.getD_some] at r
          generalize hv : a.eval y = v at r
          cases r with
          | iface _ _ _ v r =>
            obtain ⟨n1, n2⟩ := rel_evL F e2
            refine ⟨#[v] ++ c.args.map a.eval, ?_, ?_⟩
            · refine Rels.append (Rels.nrm ⟨rfl, fun j x u hx hu => ?_⟩) ?_
              · cases j with
                | zero => simp at hx hu; subst hx hu; exact r
                | succ j => simp at hx
              · have : nrmL (args.map (ev f)) ++ nrmL [] = nrmL (args.map (ev f)) := by simp [nrmL]
                rw [this]
                refine Rels.nrm ⟨by simpa using n1, fun j x v hx hv => n2 j x v hx ?_⟩
                rw [← Array.getElem?_toList] at hv
                simpa using hv
            · have x1 : (#[Value.iface t v] ++ Array.map a.eval c.args)[0]? = some (Value.iface t v) := by simp [Array.getElem?_append]
              have x2 : (Array.map a.eval c.args).extract 0 c.args.size = Array.map a.eval c.args := by simp
              simp [execOp, ho, resolve, hcal, hv, invoke, x1, x2, callMethod, Sem.program, run_method hg]
    rcases k2 φ w S _ V M R with ⟨k3, k4⟩ | ⟨v, w', k3, k4⟩
    · simp only [Oper.wp, hrun, k3, Oper.upon_enter]
      refine k4.mono fun e w' p => ?_
      cases e with
      | returned v => obtain ⟨x, h', φ', S', q, M', E, r⟩ := p; exact hn x h' φ' w' S' v q M' E r
      | panicked ch => obtain ⟨x, v, h', φ', S', rfl, q, M', E, r⟩ := p; exact hp x h' φ' w' S' v q M' E r
      | outgrown => exact p.elim
    · obtain ⟨x, h', φ', S', q, M', E, r⟩ := k4
      simp only [Oper.wp, hrun, k3, Oper.upon_value]
      exact hn x h' φ' w' S' v q M' E r

end
end Go.Eng
