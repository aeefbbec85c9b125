/- The engine, part 29: functions that defer calls. -/
import Derived.Test.YtjljhmeadfejhaaE28
import Derived.Defers
set_option linter.unusedVariables false
set_option linter.unusedSimpArgs false
namespace Go.Eng

/-- Code up to a function's end, calls being deferred on the way. -/
inductive AT where
  | fin (c : AC)
  | seq (c : AC) (t : AT)
  | cond (p : Opnd) (a b : AT)
  | defer (ops : List AOper) (g : Opnd) (args : List Opnd) (t : AT)
  deriving Inhabited
abbrev DL := List (FuncId × List AV)

/-- A deferred call does what K allows. -/
def WCD (P : Pg) (g : FuncId) (args : List AV) (h : List AO) (K : ARes → List AO → Prop) : Prop :=
  ∀ φ w S (vs : Array Value) (u : FrameMode), P.env w S → Sim h φ w S → Rels h φ w S args vs →
    (callFunc g vs).run P w = .ok (.enter g vs) w ∧ CallsD P g vs u w fun e u' w' => u' = u ∧ Post h φ w S K e w'

def leave (P : Pg) (h0 : List AO) (res : List ARV) (K : ARes → List AO → Prop) : DL → Fr → List AO → Prop
  | [], f, h => ∃ xs, evRVs f h res = some xs ∧ K (.ok (packR xs)) h
  | (g, args) :: D, f, h => WCD P g args h fun r h' => ∃ x, r = .ok x ∧ leave P h0 res K D f h'

def wpT (P : Pg) (h0 : List AO) (res : List ARV) (K : ARes → List AO → Prop) : AT → DL → Fr → List AO → Prop
  | .fin c, D, f, h => wpA P h c (fun e f h => match e with | .normal | .ret => leave P h0 res K D f h | _ => False) f h
  | .seq c t, D, f, h => wpA P h c (fun e f h => match e with | .normal => wpT P h0 res K t D f h | .ret => leave P h0 res K D f h | _ => False) f h
  | .cond p a b, D, f, h => ∃ t, ev f p = .bool t ∧ if t then wpT P h0 res K a D f h else wpT P h0 res K b D f h
  | .defer ops g args t, D, f, h => opsA P (fun _ _ _ => False) ops f h fun f' h' => ∃ fid first caps, ev f' g = .fn fid first caps ∧ wpT P h0 res K t ((fid, nrmL first ++ (nrmL (args.map (ev f')) ++ nrmL caps)) :: D) f' h'

inductive CmpT (P : Pg) (N : Nat) : Code → AT → Prop
  | fin (c : Code) (x : AC) (h : Cmp P N c x) : CmpT P N c (.fin x)
  | seq (c d : Code) (x : AC) (t : AT) (h : Cmp P N c x) (h' : CmpT P N d t) : CmpT P N (.seq c d) (.seq x t)
  | cond (c : Operand) (p : Opnd) (a b : Code) (x y : AT) (e : cO c = some p) (h1 : CmpT P N a x) (h2 : CmpT P N b y) : CmpT P N (.cond c a b) (.cond p x y)
  | defer (id : Nat) (ops : Array Oper) (aops : List AOper) (o : Oper) (cl : Call) (g : Operand) (g' : Opnd) (l : List Opnd) (d : Code) (t : AT) (hs : aops.length + 1 = ops.size)
      (hC : ∀ (j : Nat) (ao : AOper) (o : Oper), aops[j]? = some ao → ops[j]? = some o → OpC P N ops o ao) (ho : ops[aops.length]? = some o) (hop : o.op = .defer cl) (hg : o.guard = none) (hd : o.dst = none)
      (hcal : cl.callee = .value g) (e1 : cO g = some g') (e2 : cOL cl.args.toList = some l) (h' : CmpT P N d t) : CmpT P N (.seq (.region id ops false) d) (.defer aops g' l t)

section
variable {P : Pg} {N : Nat}
/-- The calls that were deferred. -/
def DR (P : Pg) (h : List AO) (φ : Nat → Loc) (w : World) (S : Nat → Nat → Prop) : DL → List Deferred → Prop
  | [], [] => True
  | (g, args) :: D, d :: ds => (∃ fv cap vs, d.target = .fn fv cap ∧ (∀ w, (invoke d.target d.args).run P w = (callFunc g vs).run P w) ∧ Rels h φ w S args vs) ∧ DR P h φ w S D ds
  | _, _ => False
theorem Rels.mono' {h h1 : List AO} {φ φ1 : Nat → Loc} {w w1 : World} {S S1 : Nat → Nat → Prop} (E : Ext h φ w S h1 φ1 w1 S1) {args : List AV} {vs : Array Value} (R : Rels h φ w S args vs) : Rels h1 φ1 w1 S1 args vs :=
  ⟨R.1, fun j x v hx hv => (R.2 j x v hx hv).mono E⟩
theorem DR.mono {h h1 : List AO} {φ φ1 : Nat → Loc} {w w1 : World} {S S1 : Nat → Nat → Prop} (E : Ext h φ w S h1 φ1 w1 S1) : ∀ {D : DL} {ds : List Deferred}, DR P h φ w S D ds → DR P h1 φ1 w1 S1 D ds
  | [], [], _ => trivial
  | (g, args) :: D, d :: ds, ⟨⟨fv, cap, vs, e1, e2, R⟩, r⟩ => ⟨⟨fv, cap, vs, e1, e2, R.mono' E⟩, DR.mono E r⟩
  | [], _ :: _, r => r.elim
  | _ :: _, [], r => r.elim

variable {h0 : List AO} {φ0 : Nat → Loc} {w0 : World} {S0 : Nat → Nat → Prop}
theorem leave_sound (V0 : P.env w0 S0) {fn : Func} {res : List ARV} (hs : fn.results.size = res.length) (hC : ∀ (j : Nat) (r : ResultVar) (r' : ARV), fn.results[j]? = some r → res[j]? = some r' → resC P r r') {K : ARes → List AO → Prop} {a : Act} :
    ∀ (D : DL) (ds : List Deferred) (f : Fr) (h : List AO) (φ : Nat → Loc) (w : World) (S : Nat → Nat → Prop), leave P h0 res K D f h → Sim h φ w S → Ext h0 φ0 w0 S0 h φ w S → FRel h φ w S f a → DR P h φ w S D ds →
      Leaves P fn a.tmps (Post h0 φ0 w0 S0 K) ds .returning w
  | [], [], f, h, φ, w, S, ⟨xs, e, k⟩, M, E, F, _ => by
    obtain ⟨v, q1, q2⟩ := run_resultsA M F hs hC e
    exact ⟨v, q1, _, h, φ, S, k, M, E, q2⟩
  | (g, args) :: D, d :: ds, f, h, φ, w, S, lv, M, E, F, ⟨⟨fv, cap, vs, e1, e2, R⟩, dr⟩ => by
    obtain ⟨k1, k2⟩ := lv φ w S vs .returning (P.stable E V0) M R
    refine ⟨by simp, fv, cap, g, vs, e1, by rw [e2]; exact k1, k2.mono ?_⟩
    rintro e u' w' ⟨rfl, p⟩
    cases e with
    | returned v =>
      obtain ⟨x, h', φ', S', ⟨y, _, lv'⟩, M', E', r⟩ := p
      exact leave_sound V0 hs hC D ds f h' φ' w' S' lv' M' (E.trans E') (F.mono E') (dr.mono E')
    | panicked c =>
      obtain ⟨x, v, h', φ', S', _, ⟨y, e, _⟩, _⟩ := p
      cases e
    | outgrown => exact p.elim
  | [], _ :: _, _, _, _, _, _, _, _, _, _, r => r.elim
  | _ :: _, [], _, _, _, _, _, _, _, _, _, r => r.elim

theorem opsA_part (V0 : P.env w0 S0) {D : List Deferred} {ops : Array Oper} {rest : List Nat} {Kf : Fr → List AO → Prop} {Q' : Exit → Act → World → Prop} (hQn : ∀ a w, St N D h0 φ0 w0 S0 Kf a w → wpOps P ops Q' rest a w) :
    ∀ (l : List AOper) (i : Nat), i + l.length ≤ ops.size → (∀ (j : Nat) (ao : AOper) (o : Oper), l[j]? = some ao → ops[i + j]? = some o → OpC P N ops o ao) → ∀ (a : Act) (w : World), St N D h0 φ0 w0 S0 (fun f h => opsA P (fun _ _ _ => False) l f h Kf) a w →
      wpOps P ops Q' (List.range' i l.length ++ rest) a w := by
  intro l
  induction l with
  | nil => intro i _ _ a w st; exact hQn a w st
  | cons ao l ih =>
    intro i hi hC a w st
    obtain ⟨f, h, φ, S, k, M, E, F, hd, hN⟩ := st
    simp only [List.length_cons, List.range'_succ, List.cons_append]
    simp only [List.length_cons] at hi
    rw [wpOps_cons]
    have ho : ops[i]? = some ops[i] := by rw [Array.getElem?_eq_getElem]
    have C := hC 0 ao _ rfl ho
    simp only [opsA] at k
    refine op1_sound C ho (P.stable E V0) M F hN k ?_ ?_
    · intro x h' φ' w' S' v k' M' E' R'
      refine ih (i + 1) (by omega) (fun j ao' o' h1 h2 => hC (j + 1) ao' o' (by simpa using h1) (by rw [← h2]; congr 1; omega)) _ _ ⟨_, h', φ', S', k', M', E.trans E', ?_, by rw [put_defers']; exact hd, by rw [put_size]; exact hN⟩
      rw [C.dst]
      exact (F.mono E').put _ _ _ R' (fun d hd' => by rw [hN]; exact C.lt d hd')
    · intro x h' φ' w' S' v k' M' E' R'
      exact k'.elim

theorem wpT_sound (V0 : P.env w0 S0) (hm : P.prog.follows .mixedOrders = true) {fn : Func} {res : List ARV} (hs : fn.results.size = res.length) (hC : ∀ (j : Nat) (r : ResultVar) (r' : ARV), fn.results[j]? = some r → res[j]? = some r' → resC P r r') {K : ARes → List AO → Prop}
    {c : Code} {t : AT} (C : CmpT P N c t) : ∀ (D : DL) (ds : List Deferred) (f : Fr) (h : List AO) (φ : Nat → Loc) (w : World) (S : Nat → Nat → Prop) (a : Act), wpT P h0 res K t D f h → Sim h φ w S → Ext h0 φ0 w0 S0 h φ w S → FRel h φ w S f a → a.defers = ds → DR P h φ w S D ds →
      a.tmps.size = N → c.wp P (bodyPostD P fn (Post h0 φ0 w0 S0 K)) a w := by
  induction C with
  | fin c x hc =>
    intro D ds f h φ w S a k M E F hd dr hN
    refine wp_mono (wpA_sound (P.stable E V0) M hm hc _ a w ⟨f, h, φ, S, k, M, Ext.refl _ _ _ _, F, hd, hN⟩) ?_
    intro e a' w' q
    cases e with
    | normal => obtain ⟨f', h', φ', S', q, M', E', F', hd', _⟩ := q; rw [bodyPostD, hd']; exact leave_sound V0 hs hC D ds f' h' φ' w' S' q M' (E.trans E') F' (dr.mono E')
    | ret => obtain ⟨f', h', φ', S', q, M', E', F', hd', _⟩ := q; rw [bodyPostD, hd']; exact leave_sound V0 hs hC D ds f' h' φ' w' S' q M' (E.trans E') F' (dr.mono E')
    | exit i => obtain ⟨f', h', φ', S', q, _⟩ := q; exact q
    | panic ch => obtain ⟨x, v, f', h', φ', S', _, q, _⟩ := q; exact q.elim
    | goto l => exact q
    | outgrown => exact q.elim
  | seq c d x t hc _ ih =>
    intro D ds f h φ w S a k M E F hd dr hN
    refine wp_seq (wp_mono (wpA_sound (P.stable E V0) M hm hc _ a w ⟨f, h, φ, S, k, M, Ext.refl _ _ _ _, F, hd, hN⟩) ?_)
    intro e a' w' q
    cases e with
    | normal => obtain ⟨f', h', φ', S', q, M', E', F', hd', hN'⟩ := q; exact ih D ds f' h' φ' w' S' a' q M' (E.trans E') F' hd' (dr.mono E') hN'
    | ret => obtain ⟨f', h', φ', S', q, M', E', F', hd', _⟩ := q; change bodyPostD P.prog fn (Post h0 φ0 w0 S0 K) .ret a' w'; rw [bodyPostD, hd']; exact leave_sound V0 hs hC D ds f' h' φ' w' S' q M' (E.trans E') F' (dr.mono E')
    | exit i => obtain ⟨f', h', φ', S', q, _⟩ := q; exact q
    | panic ch => obtain ⟨x, v, f', h', φ', S', _, q, _⟩ := q; exact q.elim
    | goto l => exact q
    | outgrown => exact q.elim
  | cond c p a' b' x y e _ _ ih1 ih2 =>
    intro D ds f h φ w S a ⟨t, k1, k2⟩ M E F hd dr hN
    have r := rel_ev F e
    rw [k1] at r
    generalize hv : a.eval c = v at r
    cases r
    refine wp_cond hv ?_
    cases t with
    | true => exact ih1 D ds f h φ w S a k2 M E F hd dr hN
    | false => exact ih2 D ds f h φ w S a k2 M E F hd dr hN
  | defer id ops aops o cl g g' l d t hsz hC' ho hop hg hdst hcal e1 e2 _ ih =>
    intro D ds f h φ w S a k M E F hd dr hN
    refine wp_seq (wp_region ?_)
    have hr : List.range ops.size = List.range' 0 aops.length ++ [aops.length] := by
      rw [← hsz, List.range_eq_range', List.range'_1_concat]; simp
    rw [hr]
    refine opsA_part (P.stable E V0) (h0 := h) (φ0 := φ) (w0 := w) (S0 := S) (D := ds) (N := N) ?_ aops 0 (by omega) (fun j ao o h1 h2 => hC' j ao o h1 (by simpa using h2)) a w ⟨f, h, φ, S, k, M, Ext.refl _ _ _ _, F, hd, hN⟩
    intro a' w' ⟨f', h', φ', S', ⟨fid, first, caps, q1, q2⟩, M', E', F', hd', hN'⟩
    rw [wpOps_cons]
    unfold wpOp
    simp only [ho]
    have hw : Region.wanted o (yielded ops a'.tmps) = true := by unfold Region.wanted; rw [hg]
    rw [if_pos hw]
    refine .inl ?_
    obtain ⟨us, vs, hv, R⟩ := callArgs e1 e2 F' q1
    have hrun : (execOp a'.eval o).run P w' = .ok (.defer ⟨.fn (.func fid) vs, us ++ cl.args.map a'.eval⟩) w' := by
      simp [execOp, hop, resolve, hcal, hv, Deferred.ofValue]
    simp only [Oper.wp, hrun, Oper.upon_defer]
    show wpOps P ops _ [] _ _
    simp only [wpOps]
    have hput : ({ a' with defers := ⟨.fn (.func fid) vs, us ++ cl.args.map a'.eval⟩ :: a'.defers } : Act).put o.dst undef = { a' with defers := ⟨.fn (.func fid) vs, us ++ cl.args.map a'.eval⟩ :: a'.defers } := by
      rw [hdst]; rfl
    rw [hput]
    refine ih (_ :: D) (_ :: ds) f' h' φ' w' S' _ q2 M' (E.trans E') F' (by rw [hd']) ⟨⟨.func fid, vs, us ++ cl.args.map a'.eval ++ vs, rfl, fun w => ?_, R⟩, dr.mono E'⟩ hN'
    simp [invoke]

theorem WC_of_tail {P : Pg} (hm : P.prog.follows .mixedOrders = true) {g : FuncId} {fn : Func} {c : Code} {t : AT} {res : List ARV} (hf : P.prog.funcs[g]? = some fn) (hb : fn.body = some c) (hnm : (fn.name == "runtime.NumGoroutine") = false) (C : CmpT P fn.ntmps c t)
    (hs : fn.results.size = res.length) (hC : ∀ (j : Nat) (r : ResultVar) (r' : ARV), fn.results[j]? = some r → res[j]? = some r' → resC P r r') {args : List AV} {h : List AO} {K : ARes → List AO → Prop} (hlen : args.length ≤ fn.ntmps)
    (k : wpT P h res K t [] (argF 0 args) h) : WC P g args h K := by
  intro φ w S vs V M R
  refine .inl ⟨run_callFunc hf hb hnm vs w, calls_of_wp_defers hf hb ?_⟩
  refine wpT_sound V hm hs hC C [] [] _ h φ w S _ k M (Ext.refl _ _ _ _) ?_ rfl trivial ?_
  · intro i x hx
    obtain ⟨_, hx⟩ := lk_argF args 0 i x hx
    simp only [Nat.sub_zero] at hx
    have hi : i < vs.size := by rw [← R.1]; exact (List.getElem?_eq_some_iff.1 hx).1
    refine ⟨vs[i], ?_, R.2 i x vs[i] hx (by simp [hi])⟩
    simp [hi, Array.getElem?_append]
  · have := R.1
    simp only [Array.size_append, Array.size_replicate]
    omega

/-- A deferred call of a function that defers nothing itself. -/
theorem WCD_of_body {P : Pg} (hm : P.prog.follows .mixedOrders = true) {g : FuncId} {F : AFun} (hF : FnC P g F) {args : List AV} {h : List AO} {K : ARes → List AO → Prop} (hlen : args.length ≤ F.nt)
    (k : wpA P h F.body (bodyQ h F.res K) (argF 0 args) h) : WCD P g args h K := by
  intro φ w S vs u V M R
  obtain ⟨fn, c, f1, f2, f3, f4, f5, f6, f7⟩ := hF.ex
  refine ⟨run_callFunc f1 f2 f3 vs w, ?_⟩
  have fin : ∀ a w', St F.nt [] h φ w S (fun f h' => ∃ xs, evRVs f h' F.res = some xs ∧ retK h K (packR xs) h') a w' → a.defers = [] ∧ ∃ v, (results fn a.tmps).run P.prog w' = .ok v w' ∧ Post h φ w S K (.returned v) w' := by
    intro a w' ⟨f, h', φ', S', ⟨xs, e, r⟩, M', E', F', hd, hN⟩
    obtain ⟨v, q1, q2⟩ := run_resultsA M' F' f6 f7 e
    refine ⟨hd, v, q1, ?_⟩
    rcases r with r | ⟨m, j, x', D, o, r⟩
    · exact ⟨_, h', φ', S', r, M', E', q2⟩
    · exact ⟨x', h'.take m, φ', _, r, sim_take M' (D.bel M), ext_take E' D.1, out_rel M' j o q2⟩
  refine callsD_of_wp f1 f2 (wp_mono (wpA_sound V M hm f5 _ _ w ⟨argF 0 args, h, φ, S, k, M, Ext.refl _ _ _ _, ?_, rfl, ?_⟩) ?_)
  · intro i x hx
    obtain ⟨_, hx⟩ := lk_argF args 0 i x hx
    simp only [Nat.sub_zero] at hx
    have hi : i < vs.size := by rw [← R.1]; exact (List.getElem?_eq_some_iff.1 hx).1
    refine ⟨vs[i], ?_, R.2 i x vs[i] hx (by simp [hi])⟩
    simp [hi, Array.getElem?_append]
  · have := R.1
    simp only [Array.size_append, Array.size_replicate]
    omega
  · intro e a w' q
    cases e with
    | normal => exact fin a w' q
    | ret => exact fin a w' q
    | panic ch =>
      obtain ⟨x, v, f, h', φ', S', rfl, q, M', E', R', hd⟩ := q
      exact ⟨hd, x, v, h', φ', S', rfl, q, M', E', R'⟩
    | exit id => obtain ⟨f, h', φ', S', q, _⟩ := q; exact q
    | goto l => exact q
    | outgrown => exact q
theorem WD_of {P : Pg} (hm : P.prog.follows .mixedOrders = true) {g : FuncId} {F : AFun} (hF : compF P.prog g = some F) {args : List AV} {h : List AO} {K : ARes → List AO → Prop} (hlen : args.length ≤ F.nt)
    (H : R ⟨P, h, F.res, K⟩ F.body [] (argF 0 args) h) : WCD P g args h K := WCD_of_body hm (compF_sound hF) hlen (R_open H)
end
end Go.Eng
