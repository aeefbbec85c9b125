/- The engine, part 19: the compiler of code. -/
import Derived.Test.YtjljhmeadfejhaaE18
set_option linter.unusedVariables false
set_option linter.unusedSimpArgs false
namespace Go.Eng

/-! ### drawn regions, checked -/
def edges (o : Oper) : List Nat := (o.after.toList.filter fun e => Region.binds .any e).map (·.on)
def addN (x : Nat) (l : List Nat) : List Nat := if l.contains x then l else x :: l
def uniN (a b : List Nat) : List Nat := a.foldl (fun l x => addN x l) b
def presGo : List Oper → List (List Nat) → List (List Nat)
  | [], acc => acc
  | o :: r, acc => presGo r (acc ++ [(edges o).foldl (fun l k => uniN (k :: acc[k]?.getD []) l) []])
def inP (pres : List (List Nat)) (i j : Nat) : Bool := (pres[i]?.getD []).contains j

/-- Is it a box, made without looking at anything? -/
def isAl (y : AOper) : Bool := match y.op, y.guard with
  | .pl (.alloc _), none => true
  | _, _ => false
theorem isAl_sound {y : AOper} (e : isAl y = true) : ∃ zs, y.op = .pl (.alloc zs) ∧ y.guard = none := by
  unfold isAl at e
  split at e
  · rename_i zs h1 h2; exact ⟨zs, h1, h2⟩
  · cases e
/-- What looks at a box that may be made ahead of its turn waits for its turn. -/
def ckEar (aops : List AOper) (pres : List (List Nat)) : Bool :=
  (List.range aops.length).all fun p => match aops[p]? with
    | some y => !y.op.eff || (List.range p).all fun k => match aops[k]? with
      | some z => !z.op.eff || (inP pres p k || (List.range aops.length).all fun i => match aops[i]? with
        | some x => (match y.dst with
          | some t => !(x.uses.contains t)
          | none => true) || (x.op.eff || inP pres i k)
        | none => true)
      | none => true
    | none => true
theorem ckEar_sound {aops : List AOper} {pres : List (List Nat)} (e : ckEar aops pres = true) {i p k : Nat} {x y z : AOper} {t : Nat} (hx : aops[i]? = some x) (hy : aops[p]? = some y) (hz : aops[k]? = some z) (hk : k < p) (ht : t ∈ x.uses)
    (hd : y.dst = some t) (he : y.op.eff = true) (hf : z.op.eff = true) : inP pres p k = true ∨ x.op.eff = true ∨ inP pres i k = true := by
  simp only [ckEar, List.all_eq_true, List.mem_range] at e
  have e1 := e p (List.getElem?_eq_some_iff.1 hy).1
  simp only [hy, he, Bool.not_true, Bool.false_or, List.all_eq_true, List.mem_range] at e1
  have e2 := e1 k hk
  simp only [hz, hf, Bool.not_true, Bool.false_or, Bool.or_eq_true, List.all_eq_true, List.mem_range] at e2
  rcases e2 with h | h
  · exact .inl h
  · have e3 := h i (List.getElem?_eq_some_iff.1 hx).1
    simp only [hx, hd, Bool.or_eq_true] at e3
    rcases e3 with h | h
    · simp at h; exact absurd ht h
    · exact .inr h
def ckPair (pres : List (List Nat)) (re : List (Nat × Nat)) (i j : Nat) (x y : AOper) : Bool :=
  (match x.dst, y.dst with
    | some s, some t => i == j || !(s == t)
    | _, _ => true) &&
  (match y.dst with
    | some t => !(x.uses.contains t) || i == j || (decide (j < i) && inP pres i j) || (decide (i < j) && inP pres j i)
    | none => true) &&
  (!(decide (i < j) && x.op.eff && y.op.eff) || (inP pres j i || isAl y)) &&
  (!(!x.op.eff && x.op.rd && y.op.eff) || re.contains (i, j) || (decide (j < i) && inP pres i j) || (decide (i < j) && inP pres j i))
def ckOp (ops : Array Oper) (pres : List (List Nat)) (i : Nat) : Bool :=
  match ops[i]? with
  | some o => (edges o).all (fun k => decide (k < i)) && (pres[i]?.getD []).all fun j => (edges o).any fun k => k == j || inP pres k j
  | none => true
def ckDrawn (ops : Array Oper) (aops : List AOper) (pres : List (List Nat)) (re : List (Nat × Nat)) : Bool :=
  aops.length == ops.size && (List.range aops.length).all (fun i => ckOp ops pres i) && ckEar aops pres &&
  (List.range aops.length).all fun i => (List.range aops.length).all fun j => match aops[i]?, aops[j]? with
    | some x, some y => ckPair pres re i j x y
    | _, _ => true
def rePairs (aops : List AOper) (pres : List (List Nat)) : List (Nat × Nat) :=
  (List.range aops.length).flatMap fun i => (List.range aops.length).filterMap fun j => match aops[i]?, aops[j]? with
    | some x, some y => if (!x.op.eff && x.op.rd && y.op.eff) && !((decide (j < i) && inP pres i j) || (decide (i < j) && inP pres j i)) then some (i, j) else none
    | _, _ => none
def drawCk (ops : Array Oper) (aops : List AOper) : Option (List (Nat × Nat)) :=
  let pres := presGo ops.toList []
  let re := rePairs aops pres
  if ckDrawn ops aops pres re then some re else none

theorem mem_edges {o : Oper} {k : Nat} : k ∈ edges o ↔ ∃ e ∈ o.after, Region.binds .any e = true ∧ e.on = k := by
  simp only [edges, List.mem_map, List.mem_filter, Array.mem_toList_iff]
  constructor
  · rintro ⟨e, ⟨h1, h2⟩, h3⟩; exact ⟨e, h1, h2, h3⟩
  · rintro ⟨e, h1, h2, h3⟩; exact ⟨e, ⟨h1, h2⟩, h3⟩

theorem ckDrawn_sound {P : Program} {N : Nat} {ops : Array Oper} {aops : List AOper} {pres : List (List Nat)} {re : List (Nat × Nat)} (hC : ∀ (j : Nat) (ao : AOper) (o : Oper), aops[j]? = some ao → ops[j]? = some o → OpC P N ops o ao)
    (e : ckDrawn ops aops pres re = true) : Drawn P N ops aops re fun i j => i < ops.size ∧ inP pres i j = true := by
  simp only [ckDrawn, Bool.and_eq_true, beq_iff_eq, List.all_eq_true, List.mem_range] at e
  obtain ⟨⟨⟨hs, h1⟩, hear⟩, h2⟩ := e
  have back : ∀ (i : Nat) (o : Oper), ops[i]? = some o → ∀ e ∈ o.after, Region.binds .any e = true → e.on < i := by
    intro i o ho e he hb
    have := h1 i (by rw [hs]; exact (Array.getElem?_eq_some_iff.1 ho).1)
    simp only [ckOp, ho, Bool.and_eq_true, List.all_eq_true, decide_eq_true_eq] at this
    exact this.1 _ (mem_edges.2 ⟨e, he, hb, rfl⟩)
  have step : ∀ (i : Nat) (o : Oper), ops[i]? = some o → ∀ j, inP pres i j = true → ∃ k ∈ edges o, k = j ∨ inP pres k j = true := by
    intro i o ho j hj
    have := h1 i (by rw [hs]; exact (Array.getElem?_eq_some_iff.1 ho).1)
    simp only [ckOp, ho, Bool.and_eq_true, List.all_eq_true, decide_eq_true_eq, List.any_eq_true, Bool.or_eq_true, beq_iff_eq] at this
    exact this.2 j (by simpa [inP] using hj)
  have closed : ∀ (listed : Nat → Bool), (∀ (i : Nat) (o : Oper), ops[i]? = some o → listed i = true → ∀ e ∈ o.after, Region.binds .any e = true → listed e.on = true) →
      ∀ i, i < ops.size → ∀ j, inP pres i j = true → listed i = true → listed j = true := by
    intro listed hcl i
    induction i using Nat.strongRecOn with
    | _ i ih =>
      intro hi j hj hl
      have ho : ops[i]? = some ops[i] := Array.getElem?_eq_getElem hi
      obtain ⟨k, hk, h⟩ := step i _ ho j hj
      obtain ⟨e, he, hb, rfl⟩ := mem_edges.1 hk
      have hle := hcl i _ ho hl e he hb
      rcases h with rfl | h
      · exact hle
      · have := back i _ ho e he hb
        exact ih e.on this (by omega) j h hle
  have pair : ∀ (i j : Nat) (x y : AOper), aops[i]? = some x → aops[j]? = some y → ckPair pres re i j x y = true := by
    intro i j x y hx hy
    have := h2 i (List.getElem?_eq_some_iff.1 hx).1 j (List.getElem?_eq_some_iff.1 hy).1
    simpa only [hx, hy] using this
  refine ⟨hs, hC, back, fun listed hcl i j hp hl => closed listed hcl i hp.1 j hp.2 hl, fun listed hcl i o ho hall j hp => ?_, fun i j x y t hx hy hxt hyt => ?_, fun i p x y t hx hy ht hyt => ?_, fun i j x y hlt hx hy h3 h4 => ?_, fun i p k x y z t hx hy hz hk ht hd he hf => ?_, fun i k x y hx hy h3 h4 h5 => ?_⟩
  · obtain ⟨k, hk, h⟩ := step i o ho j hp.2
    obtain ⟨e, he, hb, rfl⟩ := mem_edges.1 hk
    have hle := hall e he hb
    rcases h with rfl | h
    · exact hle
    · have := back i _ ho e he hb
      have hi := (Array.getElem?_eq_some_iff.1 ho).1
      exact closed listed hcl e.on (by omega) j h hle
  · have := pair i j x y hx hy
    simp only [ckPair, hxt, hyt, Bool.and_eq_true, Bool.or_eq_true, beq_iff_eq] at this
    simpa using this.1.1.1
  · have := pair i p x y hx hy
    simp only [ckPair, hyt, Bool.and_eq_true, Bool.or_eq_true, beq_iff_eq, decide_eq_true_eq] at this
    have hl1 : i < ops.size := by rw [← hs]; exact (List.getElem?_eq_some_iff.1 hx).1
    have hl2 : p < ops.size := by rw [← hs]; exact (List.getElem?_eq_some_iff.1 hy).1
    rcases this.1.1.2 with ((h | h) | h) | h
    · simp at h; exact absurd ht h
    · exact .inl h.symm
    · exact .inr (.inl ⟨h.1, hl1, h.2⟩)
    · exact .inr (.inr ⟨h.1, hl2, h.2⟩)
  · have := pair i j x y hx hy
    simp only [ckPair, Bool.and_eq_true] at this
    have h := this.1.2
    have hl2 : j < ops.size := by rw [← hs]; exact (List.getElem?_eq_some_iff.1 hy).1
    simp only [hlt, h3, h4, decide_true, Bool.and_self, Bool.not_true, Bool.false_or, Bool.or_eq_true] at h
    rcases h with h | h
    · exact .inl ⟨hl2, h⟩
    · exact .inr (isAl_sound h)
  · have hl1 : i < ops.size := by rw [← hs]; exact (List.getElem?_eq_some_iff.1 hx).1
    have hl2 : p < ops.size := by rw [← hs]; exact (List.getElem?_eq_some_iff.1 hy).1
    rcases ckEar_sound hear hx hy hz hk ht hd he hf with h | h | h
    · exact .inl ⟨hl2, h⟩
    · exact .inr (.inl h)
    · exact .inr (.inr ⟨hl1, h⟩)
  · have := pair i k x y hx hy
    simp only [ckPair, Bool.and_eq_true] at this
    have h := this.2
    have hl1 : i < ops.size := by rw [← hs]; exact (List.getElem?_eq_some_iff.1 hx).1
    have hl2 : k < ops.size := by rw [← hs]; exact (List.getElem?_eq_some_iff.1 hy).1
    simp only [h3, h4, h5, Bool.not_false, Bool.and_self, Bool.not_true, Bool.false_or, Bool.or_eq_true, Bool.and_eq_true, decide_eq_true_eq] at h
    rcases h with (h | h) | h
    · exact .inl (by simpa using h)
    · exact .inr (.inl ⟨h.1, hl1, h.2⟩)
    · exact .inr (.inr ⟨h.1, hl2, h.2⟩)

/-! ### code -/
def dstOk (N : Nat) : Option Nat → Bool
  | none => true
  | some d => decide (d < N)
def compOper (P : Program) (N : Nat) (ops : Array Oper) (o : Oper) : Option AOper :=
  match cOp P o with
  | none => none
  | some b => if dstOk N o.dst then
      match o.guard with
      | none => some ⟨o.dst, toSt b, none⟩
      | some (j, want) => match (ops[j]?).bind (·.dst) with
        | some t => some ⟨o.dst, toSt b, some (t, want)⟩
        | none => none
    else none
def compOps (P : Program) (N : Nat) (ops : Array Oper) : List Oper → Option (List AOper)
  | [] => some []
  | o :: l => match compOper P N ops o, compOps P N ops l with
    | some x, some xs => some (x :: xs)
    | _, _ => none

def ins (x : Nat) : List Nat → List Nat
  | [] => [x]
  | y :: l => if x < y then x :: y :: l else if x = y then y :: l else y :: ins x l
def uni (a b : List Nat) : List Nat := a.foldl (fun l x => ins x l) b
def liveOp (o : AOper) (l : List Nat) : List Nat :=
  uni o.uses (match o.dst with | some d => l.filter (fun x => !(x == d)) | none => l)
def liveOps : List AOper → List Nat → List Nat
  | [], l => l
  | o :: r, l => liveOp o (liveOps r l)
def lookN (i : Nat) : List (Nat × List Nat) → Option (List Nat)
  | [] => none
  | (j, x) :: l => if i = j then some x else lookN i l

/-- Code, compiled; what is looked at behind it is known: 'ex' at its exits, 'rt' at a return, 'out' at its end. -/
def comp (P : Program) (N : Nat) (rt : List Nat) : Code → List (Nat × List Nat) → List Nat → Option (AC × List Nat)
  | .skip, _, out => some (.skip, out)
  | .label _, _, out => some (.skip, out)
  | .region _ ops false, _, out => match compOps P N ops ops.toList with
    | some aops => some (.reg aops out, liveOps aops out)
    | none => some (.fail, [])
  | .region _ ops true, _, out => match compOps P N ops ops.toList with
    | some aops => match drawCk ops aops with
      | some re => some (.regD aops re out, liveOps aops out)
      | none => some (.fail, [])
    | none => some (.fail, [])
  | .seq a b, ex, out => match comp P N rt b ex out with
    | some (y, o1) => match comp P N rt a ex o1 with
      | some (x, o2) => some (.seq x y, o2)
      | none => none
    | none => none
  | .cond c a b, ex, out => match cO c, comp P N rt a ex out, comp P N rt b ex out with
    | some p, some (x, i1), some (y, i2) => some (.cond p x y, uni (tmpsOf [p]) (uni i1 i2))
    | _, _, _ => none
  | .block id a, ex, out => match comp P N rt a ((id, out) :: ex) out with
    | some (x, i) => some (.block id x, i)
    | none => none
  | .loop a, ex, _ => match comp P N rt a ex [] with
    | some (_, i) => match comp P N rt a ex i with
      | some (x, i') => some (.loop i' x, i')
      | none => none
    | none => none
  | .scope a, ex, out => comp P N rt a ex out
  | .exit id, ex, _ => match lookN id ex with
    | some o => some (.exit id, o)
    | none => none
  | .ret, _, _ => some (.ret, rt)
  | _, _, _ => some (.fail, [])

theorem compOper_sound {P : Program} {N : Nat} {ops : Array Oper} {o : Oper} {x : AOper} (e : compOper P N ops o = some x) : OpC P N ops o x := by
  unfold compOper at e
  split at e
  · cases e
  rename_i b hb
  split at e
  case isFalse => cases e
  rename_i hd
  have hlt : ∀ d, o.dst = some d → d < N := by
    intro d hd'
    rw [hd'] at hd
    simpa [dstOk] using hd
  split at e
  · rename_i hg
    injection e with e
    subst e
    exact ⟨⟨b, hb, rfl⟩, rfl, hlt, by rw [hg]⟩
  · rename_i j want hg
    split at e
    · rename_i t ht
      injection e with e
      subst e
      exact ⟨⟨b, hb, rfl⟩, rfl, hlt, by rw [hg]; exact ⟨t, ht, rfl⟩⟩
    · cases e

theorem compOps_sound {P : Program} {N : Nat} {ops : Array Oper} : ∀ (l : List Oper) (xs : List AOper), compOps P N ops l = some xs → xs.length = l.length ∧ ∀ (j : Nat) (x : AOper) (o : Oper), xs[j]? = some x → l[j]? = some o → OpC P N ops o x
  | [], xs, e => by injection e with e; subst e; exact ⟨rfl, fun j x o hx => by simp at hx⟩
  | o :: l, xs, e => by
    simp only [compOps] at e
    split at e
    case h_2 => cases e
    rename_i x ys hx hys
    injection e with e
    subst e
    obtain ⟨k1, k2⟩ := compOps_sound l ys hys
    refine ⟨by simp [k1], fun j y o' hy ho => ?_⟩
    cases j with
    | zero => simp at hy ho; subst hy ho; exact compOper_sound hx
    | succ j => exact k2 j y o' (by simpa using hy) (by simpa using ho)

theorem comp_sound {P : Pg} {N : Nat} {rt : List Nat} : ∀ (c : Code) (ex : List (Nat × List Nat)) (out : List Nat) (x : AC) (i : List Nat), comp P.prog N rt c ex out = some (x, i) → Cmp P N c x := by
  intro c
  induction c with
  | skip => intro ex out x i e; simp only [comp] at e; cases e; exact .skip
  | label l => intro ex out x i e; simp only [comp] at e; cases e; exact .label l
  | region id ops draw =>
    intro ex out x i e
    cases draw with
    | false =>
      simp only [comp] at e
      split at e
      case h_2 => cases e; exact .fail _
      rename_i aops ha
      cases e
      obtain ⟨k1, k2⟩ := compOps_sound _ _ ha
      exact .reg id ops aops out (by simpa using k1) (fun j ao o h1 h2 => k2 j ao o h1 (by simpa using h2))
    | true =>
      simp only [comp] at e
      split at e
      case h_2 => cases e; exact .fail _
      rename_i aops ha
      split at e
      case h_2 => cases e; exact .fail _
      rename_i re hre
      cases e
      obtain ⟨k1, k2⟩ := compOps_sound _ _ ha
      simp only [drawCk] at hre
      split at hre
      case isFalse => cases hre
      rename_i hck
      injection hre with hre
      subst hre
      exact .regD id ops aops _ out (drawn_ok (ckDrawn_sound (fun j ao o h1 h2 => k2 j ao o h1 (by simpa using h2)) hck))
  | seq a b ih1 ih2 =>
    intro ex out x i e
    simp only [comp] at e
    split at e
    case h_2 => cases e
    rename_i y o1 h1
    split at e
    case h_2 => cases e
    rename_i z o2 h2
    cases e
    exact .seq _ _ _ _ (ih1 _ _ _ _ h2) (ih2 _ _ _ _ h1)
  | cond c a b ih1 ih2 =>
    intro ex out x i e
    simp only [comp] at e
    split at e
    case h_2 => cases e
    rename_i p y i1 z i2 h0 h1 h2
    cases e
    exact .cond _ _ _ _ _ _ h0 (ih1 _ _ _ _ h1) (ih2 _ _ _ _ h2)
  | block id a ih =>
    intro ex out x i e
    simp only [comp] at e
    split at e
    case h_2 => cases e
    rename_i y i1 h1
    cases e
    exact .block _ _ _ (ih _ _ _ _ h1)
  | loop a ih =>
    intro ex out x i e
    simp only [comp] at e
    split at e
    case h_2 => cases e
    split at e
    case h_2 => cases e
    rename_i y i1 h1
    cases e
    exact .loop _ _ _ (ih _ _ _ _ h1)
  | scope a ih =>
    intro ex out x i e
    simp only [comp] at e
    exact .scope _ _ (ih _ _ _ _ e)
  | exit id =>
    intro ex out x i e
    simp only [comp] at e
    split at e
    case h_2 => cases e
    cases e
    exact .exit id
  | ret => intro ex out x i e; simp only [comp] at e; cases e; exact .ret
  | _ => intros; rename_i e; simp only [comp] at e; cases e; exact .fail _

def compRes (P : Program) : List ResultVar → Option (List ARV)
  | [] => some []
  | .tmp t :: l => (compRes P l).map (.t t :: ·)
  | .cell a t :: l => match aggK P t, compRes P l with
    | some k, some r => some (.cell a k :: r)
    | _, _ => none
def resTmps : List ARV → List Nat
  | [] => []
  | .t n :: l => ins n (resTmps l)
  | .cell n _ :: l => ins n (resTmps l)
def compF (P : Program) (g : FuncId) : Option AFun :=
  match P.funcs[g]? with
  | none => none
  | some fn => if fn.name == "runtime.NumGoroutine" then none else match fn.body with
    | none => none
    | some c => match compRes P fn.results.toList with
      | none => none
      | some rs => match comp P fn.ntmps (resTmps rs) c [] (resTmps rs) with
        | none => none
        | some (x, _) => some ⟨fn.ntmps, rs, x⟩

theorem compRes_sound {P : Program} : ∀ (l : List ResultVar) (rs : List ARV), compRes P l = some rs → rs.length = l.length ∧ ∀ (j : Nat) (r : ResultVar) (r' : ARV), l[j]? = some r → rs[j]? = some r' → resC P r r'
  | [], rs, e => by injection e with e; subst e; exact ⟨rfl, fun j r r' h => by simp at h⟩
  | .tmp t :: l, rs, e => by
    simp only [compRes, Option.map_eq_some_iff] at e
    obtain ⟨rs', h, rfl⟩ := e
    obtain ⟨k1, k2⟩ := compRes_sound l rs' h
    refine ⟨by simp [k1], fun j r r' h1 h2 => ?_⟩
    cases j with
    | zero => simp at h1 h2; subst h1 h2; rfl
    | succ j => exact k2 j r r' (by simpa using h1) (by simpa using h2)
  | .cell a t :: l, rs, e => by
    simp only [compRes] at e
    split at e
    case h_2 => cases e
    rename_i k rs' hk h
    injection e with e
    subst e
    obtain ⟨k1, k2⟩ := compRes_sound l rs' h
    refine ⟨by simp [k1], fun j r r' h1 h2 => ?_⟩
    cases j with
    | zero => simp at h1 h2; subst h1 h2; exact ⟨rfl, hk⟩
    | succ j => exact k2 j r r' (by simpa using h1) (by simpa using h2)

theorem compF_sound {P : Pg} {g : FuncId} {F : AFun} (e : compF P.prog g = some F) : FnC P g F := by
  unfold compF at e
  split at e
  · cases e
  rename_i fn hf
  split at e
  · cases e
  rename_i hn
  split at e
  · cases e
  rename_i c hb
  split at e
  · cases e
  rename_i rs hr
  split at e
  · cases e
  rename_i x i hx
  injection e with e
  subst e
  obtain ⟨k1, k2⟩ := compRes_sound _ _ hr
  exact ⟨fn, c, hf, hb, by simpa using hn, rfl, comp_sound _ _ _ _ _ hx, by simpa using k1.symm, fun j r r' h1 h2 => k2 j r r' (by simpa using h1) h2⟩
end Go.Eng
