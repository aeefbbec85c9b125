/- The engine, part 31: functions that defer calls, compiled; sync.Once in closed runs. -/
import Derived.Test.YtjljhmeadfejhaaE30
set_option linter.unusedVariables false
set_option linter.unusedSimpArgs false
namespace Go.Eng

def hasDefer : Code → Bool
  | .region _ ops _ => ops.toList.any fun o => match o.op with
    | .defer _ => true
    | _ => false
  | .seq a b | .cond _ a b => hasDefer a || hasDefer b
  | .block _ a | .loop a | .scope a => hasDefer a
  | _ => false
/-- The call that is deferred by a region's last operation. -/
def lastDefer (ops : Array Oper) : Option (Opnd × List Opnd) :=
  match ops.back? with
  | some o => match o.op, o.guard, o.dst with
    | .defer cl, none, none => match cl.callee with
      | .value g => match cO g, cOL cl.args.toList with
        | some g', some l => some (g', l)
        | _, _ => none
      | _ => none
    | _, _, _ => none
  | none => none
def compA (P : Program) (N : Nat) (c : Code) : Option AC := (comp P N [] c [] (List.range N)).map Prod.fst
def compT (P : Program) (N : Nat) : Code → Option AT
  | .seq (.region id ops false) d => match lastDefer ops with
    | some (g, l) => match compOps P N ops ops.toList.dropLast, compT P N d with
      | some aops, some t => some (.defer aops g l t)
      | _, _ => none
    | none => match compA P N (.region id ops false), (if hasDefer d then compT P N d else (compA P N d).map .fin) with
      | some x, some t => some (.seq x t)
      | _, _ => none
  | .seq a d => if hasDefer a then none else match compA P N a, (if hasDefer d then compT P N d else (compA P N d).map .fin) with
    | some x, some t => some (.seq x t)
    | _, _ => none
  | .cond p a b => match cO p, compT P N a, compT P N b with
    | some q, some x, some y => some (.cond q x y)
    | _, _, _ => none
  | c => (compA P N c).map .fin

theorem compA_sound {P : Pg} {N : Nat} {c : Code} {x : AC} (e : compA P.prog N c = some x) : Cmp P N c x := by
  obtain ⟨⟨y, i⟩, h, rfl⟩ := Option.map_eq_some_iff.1 e
  exact comp_sound _ _ _ _ _ h
theorem lastDefer_sound {ops : Array Oper} {g : Opnd} {l : List Opnd} (e : lastDefer ops = some (g, l)) : ∃ o cl g0, ops.back? = some o ∧ o.op = .defer cl ∧ o.guard = none ∧ o.dst = none ∧ cl.callee = .value g0 ∧ cO g0 = some g ∧ cOL cl.args.toList = some l := by
  unfold lastDefer at e
  split at e
  case h_2 => cases e
  rename_i o ho
  split at e
  case h_2 => cases e
  rename_i cl h1 h2 h3
  split at e
  case h_2 => cases e
  rename_i g0 hc
  split at e
  case h_2 => cases e
  rename_i g' l' h4 h5
  injection e with e; injection e with e1 e2; subst e1 e2
  exact ⟨o, cl, g0, ho, h1, h2, h3, hc, h4, h5⟩
theorem compT_sound {P : Pg} {N : Nat} : ∀ (c : Code) (t : AT), compT P.prog N c = some t → CmpT P N c t := by
  intro c
  induction c with
  | seq a d iha ihd =>
    intro t e
    have tl : ∀ t', (if hasDefer d then compT P.prog N d else (compA P.prog N d).map .fin) = some t' → CmpT P N d t' := by
      intro t' e
      split at e
      · exact ihd t' e
      · obtain ⟨x, h, rfl⟩ := Option.map_eq_some_iff.1 e
        exact .fin _ _ (compA_sound h)
    unfold compT at e
    split at e
    · rename_i id ops d' heq
      injection heq with h1 h2
      subst h1 h2
      split at e
      · rename_i g l hl
        split at e
        case h_2 => cases e
        rename_i aops t' ha ht
        injection e with e
        subst e
        obtain ⟨o, cl, g0, k1, k2, k3, k4, k5, k6, k7⟩ := lastDefer_sound hl
        obtain ⟨n1, n2⟩ := compOps_sound _ _ ha
        have hsz : 0 < ops.size := by
          rcases Nat.eq_zero_or_pos ops.size with h | h
          · rw [Array.back?_eq_getElem?, Array.getElem?_eq_none (by omega)] at k1; cases k1
          · exact h
        have hlen : aops.length + 1 = ops.size := by
          rw [n1, List.length_dropLast, Array.length_toList]; omega
        refine .defer id ops aops o cl g0 g l d t' hlen (fun j ao o' h1 h2 => n2 j ao o' h1 ?_) ?_ k2 k3 k4 k5 k6 k7 (ihd t' ht)
        · have hj := (List.getElem?_eq_some_iff.1 h1).1
          rw [List.getElem?_dropLast, if_pos (by simp; omega)]
          simpa using h2
        · rw [Array.back?_eq_getElem?] at k1
          rw [← k1]; congr 1; omega
      · split at e
        case h_2 => cases e
        rename_i x t' hx ht
        injection e with e
        subst e
        exact .seq _ _ _ _ (compA_sound hx) (tl t' ht)
    · rename_i a' d' _ heq
      injection heq with h1 h2
      subst h1 h2
      split at e
      · cases e
      split at e
      case h_2 => cases e
      rename_i x t' hx ht
      injection e with e
      subst e
      exact .seq _ _ _ _ (compA_sound hx) (tl t' ht)
    · rename_i heq; cases heq
    · rename_i h _; exact absurd rfl (h _ _)
  | cond p a b iha ihb =>
    intro t e
    simp only [compT] at e
    split at e
    case h_2 => cases e
    rename_i q x y hq hx hy
    injection e with e
    subst e
    exact .cond _ _ _ _ _ _ hq (iha _ hx) (ihb _ hy)
  | _ =>
    intro t e
    simp only [compT] at e
    obtain ⟨x, h, rfl⟩ := Option.map_eq_some_iff.1 e
    exact .fin _ _ (compA_sound h)

structure ATFun where
  nt : Nat
  res : List ARV
  body : AT
  deriving Inhabited
def compTF (P : Program) (g : FuncId) : Option ATFun :=
  match P.funcs[g]? with
  | none => none
  | some fn => if fn.name == "runtime.NumGoroutine" then none else match fn.body with
    | none => none
    | some c => match compRes P fn.results.toList, compT P fn.ntmps c with
      | some rs, some t => some ⟨fn.ntmps, rs, t⟩
      | _, _ => none
theorem WT_of {P : Pg} (hm : P.prog.follows .mixedOrders = true) {g : FuncId} {F : ATFun} (e : compTF P.prog g = some F) {args : List AV} {h : List AO} {K : ARes → List AO → Prop} (hlen : args.length ≤ F.nt)
    (k : wpT P h F.res K F.body [] (argF 0 args) h) : WC P g args h K := by
  unfold compTF at e
  split at e
  · cases e
  rename_i fn hf
  split at e
  · cases e
  rename_i hn
  split at e
  · cases e
  rename_i c hb
  split at e
  case h_2 => cases e
  rename_i rs t hr ht
  injection e with e
  subst e
  obtain ⟨k1, k2⟩ := compRes_sound _ _ hr
  exact WC_of_tail hm hf hb (by simpa using hn) (compT_sound _ _ ht) (by simpa using k1.symm) (fun j r r' h1 h2 => k2 j r r' (by simpa using h1) h2) hlen k

/-! ### steps -/
section
variable {P : Pg} {Q : QT} {f : Fr} {h : List AO} {K : Fr → List AO → Prop} {r : List AOper}
theorem opsA_pl {d : Option Nat} {o : AOp} (x : AV) (h' : List AO) (e : evP f h o = some (x, h')) (k : opsA P Q r (put f d x) h' K) : opsA P Q (⟨d, .pl o, none⟩ :: r) f h K :=
  .inl ⟨rfl, x, h', e, k⟩
theorem opsA_call {d : Option Nat} {g : Opnd} {args : List Opnd} {fid : FuncId} {first caps : List AV} (e : ev f g = .fn fid first caps)
    (k : WC P fid (nrmL first ++ (nrmL (args.map (ev f)) ++ nrmL caps)) h fun res h' => match res with
      | .ok x => opsA P Q r (put f d x) h' K
      | .pan x => Q (.pan x) f h') : opsA P Q (⟨d, .call g args, none⟩ :: r) f h K :=
  .inl ⟨rfl, fid, first, caps, e, k⟩
end
mutual
theorem nrm_idem : ∀ x : AV, nrm (nrm x) = nrm x
  | .agg cs => by simp [nrm, nrmL_idem cs]
  | .tup cs => by simp [nrm, nrmL_idem cs]
  | .iface t x => by simp [nrm, nrm_idem x]
  | .fn g fs cs => by simp [nrm, nrmL_idem fs, nrmL_idem cs]
  | .esl => rfl
  | .osl _ _ => rfl
  | .undef => rfl
  | .bool _ => rfl
  | .int _ _ => rfl
  | .str _ => rfl
  | .nilp => rfl
  | .ptr _ _ => rfl
  | .rptr _ => rfl
  | .rsl _ => rfl
  | .msl _ _ _ _ => rfl
  | .nilmap => rfl
  | .map _ => rfl
  | .nilfn => rfl
  | .nilif => rfl
theorem nrmL_idem : ∀ l : List AV, nrmL (nrmL l) = nrmL l
  | [] => rfl
  | x :: l => by simp [nrmL, nrm_idem x, nrmL_idem l]
end
/-- sync.Once.Do, in closed runs: 'done', the lock, the semaphore lie at o, o + 1, o + 2. -/
def onceX (rc : CallT) (i o : Nat) (f : AV) (h : List AO) : Option (AV × List AO) :=
  match h[i]? with
  | some (.box cs) => match cs[o]?, cs[o + 1]? with
    | some (.int .u32 v), some (.int .i32 s) =>
      if v ≠ 0 then some (.tup [], h)
      else if s ≠ 0 then none
      else match rc f [] (h.set i (.box (cs.set (o + 1) (.int .i32 1)))) with
        | some (_, h') => match h'[i]? with
          | some (.box cs') => match cs'[o]?, cs'[o + 1]? with
            | some (.int .u32 _), some (.int .i32 s') => if s' = 1 then some (.tup [], h'.set i (.box ((cs'.set o (.int .u32 1)).set (o + 1) (.int .i32 0)))) else none
            | _, _ => none
          | _ => none
        | none => none
    | _, _ => none
  | _ => none
end Go.Eng
