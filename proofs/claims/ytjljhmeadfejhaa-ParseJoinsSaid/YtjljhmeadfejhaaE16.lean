/- The engine, part 16: functions. -/
import Derived.Test.YtjljhmeadfejhaaE15
set_option linter.unusedVariables false
set_option linter.unusedSimpArgs false
namespace Go.Eng

/-- A function's results. -/
inductive ARV where
  | t (n : Nat)
  | cell (n : Nat) (k : Option Nat)
  deriving Inhabited
structure AFun where
  nt : Nat
  res : List ARV
  body : AC
  deriving Inhabited

def evRV (f : Fr) (h : List AO) : ARV → Option AV
  | .t n => some (ev f (.t n))
  | .cell n k => (cellsAt h (ev f (.t n))).bind (loadA k)
def evRVs (f : Fr) (h : List AO) : List ARV → Option (List AV)
  | [] => some []
  | r :: l => (evRV f h r).bind fun x => (evRVs f h l).map (x :: ·)
def packR : List AV → AV
  | [x] => x
  | xs => .tup xs
def argF : Nat → List AV → Fr
  | _, [] => []
  | i, x :: l => (i, x) :: argF (i + 1) l

/-- What leaves a function. -/
def retK (h0 : List AO) (K : ARes → List AO → Prop) (x : AV) (h : List AO) : Prop :=
  K (.ok x) h ∨ ∃ m k x', DropOk h0 h m ∧ out m h k x = some x' ∧ K (.ok x') (h.take m)
def bodyQ (h0 : List AO) (res : List ARV) (K : ARes → List AO → Prop) : QT := fun e f h => match e with
  | .normal | .ret => ∃ xs, evRVs f h res = some xs ∧ retK h0 K (packR xs) h
  | .pan x => K (.pan x) h
  | .exit _ => False

def resC (P : Program) : ResultVar → ARV → Prop
  | .tmp t, .t n => t = n
  | .cell a t, .cell n k => a = n ∧ aggK P t = some k
  | _, _ => False

structure FnC (P : Pg) (g : FuncId) (F : AFun) : Prop where
  ex : ∃ fn c, P.prog.funcs[g]? = some fn ∧ fn.body = some c ∧ (fn.name == "runtime.NumGoroutine") = false ∧ fn.ntmps = F.nt ∧ Cmp P F.nt c F.body ∧
    fn.results.size = F.res.length ∧ ∀ (j : Nat) (r : ResultVar) (r' : ARV), fn.results[j]? = some r → F.res[j]? = some r' → resC P r r'

section
variable {P : Program}
theorem run_loadVarA {h : List AO} {φ : Nat → Loc} {w : World} {S : Nat → Nat → Prop} {ad : Addr} {cs : List AV} {t : TypeId} {k : Option Nat} {x : AV} (ek : aggK P t = some k)
    (hcell : ∀ (j : Nat) (y : AV), cs[j]? = some y → y.one = true ∧ ∃ u, w.cell? (ad.add j) = some u ∧ Rel h φ w S true y u) (he : loadA k cs = some x) :
    ∃ u, (loadVar t ad).run P w = .ok u w ∧ Rel h φ w S true x u := by
  obtain ⟨i, hi, hagg, hsz⟩ := run_isAgg ek w
  cases k with
  | none =>
    simp only [loadA] at he
    obtain ⟨k1, u, k2, k3⟩ := hcell 0 x he
    have k2' : w.cell? ad = some u := by simpa [Addr.add] using k2
    exact ⟨u, by simp [loadVar, hagg, k2'], k3⟩
  | some n =>
    obtain rfl := hsz n rfl
    simp only [loadA] at he
    split at he
    case isFalse => cases he
    rename_i hn
    injection he with he
    subst he
    have hex : ∀ j, j < i.size → ∃ u, w.cell? (ad.add j) = some u := fun j hj => by
      obtain ⟨k1, u, k2, k3⟩ := hcell j _ (List.getElem?_eq_getElem (by omega : j < cs.length))
      exact ⟨u, k2⟩
    have hl := run_loadCells (P := P) w ad i.size (fun j => (w.cell? (ad.add j)).getD undef) (fun j hj => by obtain ⟨u, hu⟩ := hex j hj; simp [hu])
    refine ⟨.agg ((List.range i.size).map fun j => (w.cell? (ad.add j)).getD undef).toArray, ?_, (.agg true _ _ (by simp; omega) (fun j y hy => ?_) (fun j y u hy hu => ?_))⟩
    · simp [loadVar, hagg, Go.sizeOf, typeInfo, hi, hl]
    · rw [List.getElem?_take] at hy
      split at hy
      · exact (hcell j y hy).1
      · cases hy
    · rw [List.getElem?_take] at hy
      split at hy
      case isFalse => cases hy
      rename_i hj
      obtain ⟨k1, u', k2, k3⟩ := hcell j y hy
      simp [hj, k2] at hu
      subst hu
      exact k3

theorem mapM_res {h : List AO} {φ : Nat → Loc} {w : World} {S : Nat → Nat → Prop} {f : Fr} {a : Act} (M : Sim h φ w S) (F : FRel h φ w S f a) (G : ResultVar → Sem Value) (hf : ∀ u, G (.tmp u) = pure (a.tmps.getD u undef))
    (hc : ∀ p t, G (.cell p t) = (do loadVar t (← asAddr (a.tmps.getD p undef)))) : ∀ (rs : List ResultVar) (rs' : List ARV) (xs : List AV), rs.length = rs'.length →
      (∀ (j : Nat) (r : ResultVar) (r' : ARV), rs[j]? = some r → rs'[j]? = some r' → resC P r r') → evRVs f h rs' = some xs →
      ∃ vs, (rs.mapM G).run P w = .ok vs w ∧ xs.length = vs.length ∧ ∀ (j : Nat) (x : AV) (v : Value), xs[j]? = some x → vs[j]? = some v → Rel h φ w S true x v
  | [], [], xs, _, _, e => by
    injection e with e; subst e
    exact ⟨[], by simp, rfl, fun j x v hx => by simp at hx⟩
  | r :: rs, r' :: rs', xs, hl, hC, e => by
    simp only [evRVs, Option.bind_eq_some_iff, Option.map_eq_some_iff] at e
    obtain ⟨x, hx, xs', hxs, rfl⟩ := e
    obtain ⟨vs, k1, k2, k3⟩ := mapM_res M F G hf hc rs rs' xs' (by simpa using hl) (fun j r r' h1 h2 => hC (j + 1) r r' (by simpa using h1) (by simpa using h2)) hxs
    have hr : ∃ v, (G r).run P w = .ok v w ∧ Rel h φ w S true x v := by
      have c := hC 0 r r' rfl rfl
      cases r with
      | tmp t =>
        cases r' with
        | cell n k => exact c.elim
        | t n =>
          simp only [resC] at c
          subst c
          simp only [evRV, Option.some.injEq] at hx
          subst hx
          exact ⟨a.tmps.getD t undef, by rw [hf]; simp only [Sem.run_pure], rel_ev F (x := .tmp t) rfl⟩
      | cell p t =>
        cases r' with
        | t n => exact c.elim
        | cell n k =>
          obtain ⟨rfl, ck⟩ := c
          simp only [evRV, Option.bind_eq_some_iff] at hx
          obtain ⟨cs, hcs, hx⟩ := hx
          obtain ⟨ad, hv, hcell⟩ := rel_cellsAt M hcs (rel_ev F (x := .tmp p) rfl)
          obtain ⟨u, q1, q2⟩ := run_loadVarA ck hcell hx
          have hv' : a.tmps.getD p undef = .pointer (some ad) := hv
          exact ⟨u, by rw [hc, hv']; simp [asAddr, q1], q2⟩
    obtain ⟨v, q1, q2⟩ := hr
    refine ⟨v :: vs, by simp [List.mapM_cons, q1, k1], by simp [k2], fun j y u hy hu => ?_⟩
    cases j with
    | zero => simp at hy hu; subst hy hu; exact q2
    | succ j => exact k3 j y u (by simpa using hy) (by simpa using hu)

theorem run_resultsA {h : List AO} {φ : Nat → Loc} {w : World} {S : Nat → Nat → Prop} {f : Fr} {a : Act} (M : Sim h φ w S) (F : FRel h φ w S f a) {fn : Func} {res : List ARV} (hs : fn.results.size = res.length)
    (hC : ∀ (j : Nat) (r : ResultVar) (r' : ARV), fn.results[j]? = some r → res[j]? = some r' → resC P r r') {xs : List AV} (e : evRVs f h res = some xs) :
    ∃ v, (results fn a.tmps).run P w = .ok v w ∧ Rel h φ w S true (packR xs) v := by
  obtain ⟨vs, k1, k2, k3⟩ := mapM_res (P := P) M F (fun | .tmp t => pure (a.tmps.getD t undef) | .cell p t => do loadVar t (← asAddr (a.tmps.getD p undef))) (fun _ => rfl) (fun _ _ => rfl) fn.results.toList res xs (by simpa using hs)
    (fun j r r' h1 h2 => hC j r r' (by simpa using h1) h2) e
  have hrun : (results fn a.tmps).run P w = .ok (if h : vs.toArray.size = 1 then vs.toArray[0] else .tuple vs.toArray) w := by
    unfold results
    rw [show fn.results = fn.results.toList.toArray by simp, List.mapM_toArray]
    simp only [Sem.run_bind, Sem.run_map]
    erw [k1]
    simp
  refine ⟨_, hrun, ?_⟩
  match xs, vs, k2, k3 with
  | [x], [v], _, k3 => exact k3 0 x v rfl rfl
  | [], [], _, _ => exact .tup true [] #[] rfl (fun j x v hx => by simp at hx)
  | x :: y :: xs, v :: u :: vs, k2, k3 =>
    simp only [packR]
    rw [dif_neg (by simp)]
    exact .tup true _ _ (by simpa using k2) (fun j x v hx hv => k3 j x v hx (by simpa using hv))

theorem lk_argF : ∀ (l : List AV) (i j : Nat) (x : AV), lk (argF i l) j = some x → i ≤ j ∧ l[j - i]? = some x
  | [], i, j, x, e => by cases e
  | y :: l, i, j, x, e => by
    simp only [argF, lk] at e
    split at e
    · rename_i hj; subst hj; injection e with e; subst e; simp
    · rename_i hj
      obtain ⟨k1, k2⟩ := lk_argF l (i + 1) j x e
      refine ⟨by omega, ?_⟩
      rw [show j - i = (j - (i + 1)) + 1 by omega]
      simpa using k2

theorem run_callFunc {g : FuncId} {fn : Func} {c : Code} (hf : P.funcs[g]? = some fn) (hb : fn.body = some c) (hn : (fn.name == "runtime.NumGoroutine") = false) (vs : Array Value) (w : World) :
    (callFunc g vs).run P w = .ok (.enter g vs) w := by
  have hn' : ¬ fn.name = "runtime.NumGoroutine" := by simpa using hn
  simp [callFunc, Sem.program, hf, hn', hb]

/-- A function does what its body does. -/
theorem WC_of_body {P : Pg} (hm : P.prog.follows .mixedOrders = true) {g : FuncId} {F : AFun} (hF : FnC P g F) {args : List AV} {h : List AO} {K : ARes → List AO → Prop} (hlen : args.length ≤ F.nt)
    (k : wpA P h F.body (bodyQ h F.res K) (argF 0 args) h) : WC P g args h K := by
  intro φ w S vs V M R
  obtain ⟨fn, c, f1, f2, f3, f4, f5, f6, f7⟩ := hF.ex
  refine .inl ⟨run_callFunc f1 f2 f3 vs w, ?_⟩
  have fin : ∀ a w', St F.nt [] h φ w S (fun f h' => ∃ xs, evRVs f h' F.res = some xs ∧ retK h K (packR xs) h') a w' → a.defers = [] ∧ ∃ v, (results fn a.tmps).run P.prog w' = .ok v w' ∧ Post h φ w S K (.returned v) w' := by
    intro a w' ⟨f, h', φ', S', ⟨xs, e, r⟩, M', E', F', hd, hN⟩
    obtain ⟨v, q1, q2⟩ := run_resultsA M' F' f6 f7 e
    refine ⟨hd, v, q1, ?_⟩
    rcases r with r | ⟨m, j, x', D, o, r⟩
    · exact ⟨_, h', φ', S', r, M', E', q2⟩
    · exact ⟨x', h'.take m, φ', _, r, sim_take M' (D.bel M), ext_take E' D.1, out_rel M' j o q2⟩
  refine calls_of_wp f1 f2 (wp_mono (wpA_sound V M hm f5 _ _ w ⟨argF 0 args, h, φ, S, k, M, Ext.refl _ _ _ _, ?_, rfl, ?_⟩) ?_)
  · intro i x hx
    obtain ⟨_, hx⟩ := lk_argF args 0 i x hx
    simp only [Nat.sub_zero] at hx
    have hi : i < vs.size := by rw [← R.1]; exact (List.getElem?_eq_some_iff.1 hx).1
    refine ⟨vs[i], ?_, R.2 i x vs[i] hx (by simp [hi])⟩
    simp [hi, Array.getElem?_append]
  · have := R.1
    simp only [Array.size_append, Array.size_replicate]
    omega
  · intro e a w' q
    cases e with
    | normal => exact fin a w' q
    | ret => exact fin a w' q
    | panic ch =>
      obtain ⟨x, v, f, h', φ', S', rfl, q, M', E', R', hd⟩ := q
      exact ⟨hd, x, v, h', φ', S', rfl, q, M', E', R'⟩
    | exit id => obtain ⟨f, h', φ', S', q, _⟩ := q; exact q
    | goto l => exact q
    | outgrown => exact q
end
end Go.Eng
