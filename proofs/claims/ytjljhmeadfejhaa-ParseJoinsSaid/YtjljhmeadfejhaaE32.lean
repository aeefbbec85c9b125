/- The engine, part 32: drawn regions in which calls leave the objects as they are. -/
import Derived.Test.YtjljhmeadfejhaaE31
set_option linter.unusedVariables false
set_option linter.unusedSimpArgs false
namespace Go.Eng
def quietOp (o : AOper) : Bool := match o.op with
  | .pl b => !b.eff
  | .call _ _ => true
/-- Between what reads and the call that may come at another time nothing is turned. -/
def segOk (ops : List AOper) (p : Nat × Nat) : Bool := (List.range ops.length).all fun j => !(decide (min p.1 p.2 ≤ j) && decide (j ≤ max p.1 p.2)) || (match ops[j]? with
  | some o => quietOp o
  | none => true)
def isCall : ASt → Bool
  | .pl _ => false
  | .call _ _ => true
def TrQ (P : Pg) : List AOper → Fr → List AO → List (Fr × List AO) → Fr → List AO → Prop
  | [], f, h, tr, f', h' => tr = [(f, h)] ∧ f' = f ∧ h' = h
  | op :: r, f, h, tr, f', h' => ∃ x h1 tr', op1 P f h op (fun res h2 => res = .ok x ∧ h2 = h1) ∧ (isCall op.op = true → h1 = h) ∧ tr = (f, h) :: tr' ∧ TrQ P r (put f op.dst x) h1 tr' f' h'
theorem TrQ.tr {P : Pg} : ∀ {ops : List AOper} {f : Fr} {h : List AO} {tr : List (Fr × List AO)} {f' : Fr} {h' : List AO}, TrQ P ops f h tr f' h' → Tr P ops f h tr f' h'
  | [], _, _, _, _, _, T => T
  | op :: r, f, h, tr, f', h', ⟨x, h1, tr', k1, _, k2, T⟩ => ⟨x, h1, tr', k1, k2, T.tr⟩
theorem TrQ.head {P : Pg} : ∀ {ops : List AOper} {f : Fr} {h : List AO} {tr : List (Fr × List AO)} {f' : Fr} {h' : List AO}, TrQ P ops f h tr f' h' → tr[0]? = some (f, h)
  | [], _, _, _, _, _, ⟨rfl, _⟩ => rfl
  | op :: r, f, h, tr, f', h', ⟨x, h1, tr', _, _, e, _⟩ => by rw [e]; rfl
theorem TrQ.step {P : Pg} : ∀ {ops : List AOper} {f : Fr} {h : List AO} {tr : List (Fr × List AO)} {f' : Fr} {h' : List AO}, TrQ P ops f h tr f' h' →
    ∀ (j : Nat) (o : AOper) (a b : Fr × List AO), ops[j]? = some o → quietOp o = true → tr[j]? = some a → tr[j + 1]? = some b → b.2 = a.2
  | [], _, _, _, _, _, _, j, o, a, b, ho, _, _, _ => by simp at ho
  | op :: r, f, h, tr, f', h', ⟨x, h1, tr', k1, k0, e, T⟩, j, o, a, b, ho, hq, ha, hb => by
    subst e
    cases j with
    | succ j => exact T.step j o a b (by simpa using ho) hq (by simpa using ha) (by simpa using hb)
    | zero =>
      simp only [List.getElem?_cons_zero, Option.some.injEq] at ho ha
      simp only [Nat.zero_add, List.getElem?_cons_succ] at hb
      rw [T.head] at hb
      injection hb with hb
      subst ho ha hb
      show h1 = h
      cases hs : op.op with
      | call c l => exact k0 (by rw [hs]; rfl)
      | pl b =>
        rcases k1 with ⟨_, k1⟩ | ⟨_, k1⟩
        · rw [hs] at k1
          obtain ⟨y, h2, e, _, e2⟩ := k1
          have : b.eff = false := by simpa [quietOp, hs] using hq
          rw [← e2]; exact evP_noeff this e
        · exact k1.2.symm
theorem TrQ.run {P : Pg} {ops : List AOper} {f : Fr} {h : List AO} {tr : List (Fr × List AO)} {f' : Fr} {h' : List AO} (T : TrQ P ops f h tr f' h') (hl : tr.length = ops.length + 1) (i : Nat) :
    ∀ (j : Nat) (a b : Fr × List AO), i ≤ j → (∀ k, i ≤ k → k < j → ∀ o, ops[k]? = some o → quietOp o = true) → tr[i]? = some a → tr[j]? = some b → b.2 = a.2 := by
  intro j
  induction j with
  | zero =>
    intro a b hij _ ha hb
    obtain rfl : i = 0 := by omega
    rw [ha] at hb; injection hb with hb; rw [hb]
  | succ j ih =>
    intro a b hij hq ha hb
    by_cases e : i = j + 1
    · subst e; rw [ha] at hb; injection hb with hb; rw [hb]
    · have hj := (List.getElem?_eq_some_iff.1 hb).1
      have hc : tr[j]? = some tr[j] := List.getElem?_eq_getElem (by omega)
      have ho : ops[j]? = some ops[j] := List.getElem?_eq_getElem (by omega)
      rw [T.step j _ _ b ho (hq j (by omega) (by omega) _ ho) hc hb]
      exact ih a _ (by omega) (fun k h1 h2 => hq k h1 (by omega)) ha hc
theorem TrQ.len {P : Pg} : ∀ {ops : List AOper} {f : Fr} {h : List AO} {tr : List (Fr × List AO)} {f' : Fr} {h' : List AO}, TrQ P ops f h tr f' h' → tr.length = ops.length + 1
  | [], _, _, _, _, _, ⟨rfl, _⟩ => rfl
  | op :: r, f, h, tr, f', h', ⟨x, h1, tr', _, _, e, T⟩ => by subst e; simp [T.len]
def OE (C : Ctx) (ops : List AOper) (keep : List Nat) (k : List KI) (f : Fr) (h : List AO) : Prop := ∃ tr f' h', TrQ C.P ops f h tr f' h' ∧ QK C k .normal (keepF keep f') h'
section
variable {C : Ctx} {k : List KI} {f : Fr} {h : List AO}
theorem R_regE {ops : List AOper} {re : List (Nat × Nat)} {keep : List Nat} (hs : re.all (segOk ops) = true) (H : OE C ops keep k f h) : R C (.regD ops re keep) k f h := by
  obtain ⟨tr, f', h', T, q⟩ := H
  unfold R
  simp only [wpA]
  refine ⟨tr, f', h', T.tr, fun p hp o Fi Fk Fk' h1 h2 h3 h4 => ?_, q⟩
  have hseg := (List.all_eq_true.1 hs) p hp
  simp only [segOk, List.all_eq_true, List.mem_range, Bool.or_eq_true, Bool.not_eq_true', Bool.and_eq_false_iff, decide_eq_false_iff_not] at hseg
  have quiet : ∀ j, min p.1 p.2 ≤ j → j ≤ max p.1 p.2 → ∀ o, ops[j]? = some o → quietOp o = true := by
    intro j h1 h2 o ho
    have := hseg j (List.getElem?_eq_some_iff.1 ho).1
    rw [ho] at this
    rcases this with (h | h) | h
    · exact absurd h1 h
    · exact absurd h2 h
    · exact h
  have hl := T.len
  have e1 : Fk.2 = Fi.2 := by
    rcases Nat.le_total p.1 p.2 with hle | hle
    · exact T.run hl p.1 p.2 Fi Fk hle (fun j a b => quiet j (by omega) (by omega)) h2 h3
    · exact (T.run hl p.2 p.1 Fk Fi hle (fun j a b => quiet j (by omega) (by omega)) h3 h2).symm
  have hk : p.2 < ops.length := by have := (List.getElem?_eq_some_iff.1 h4).1; omega
  have e2 : Fk'.2 = Fk.2 := T.step p.2 _ Fk Fk' (List.getElem?_eq_getElem hk) (quiet p.2 (by omega) (by omega) _ (List.getElem?_eq_getElem hk)) h3 h4
  rw [e2, e1]
  exact ⟨rfl, rfl⟩
@[simp] theorem OE_nil {keep : List Nat} : OE C [] keep k f h = QK C k .normal (keepF keep f) h := by
  apply propext
  constructor
  · rintro ⟨tr, f', h', ⟨_, rfl, rfl⟩, q⟩; exact q
  · intro q; exact ⟨_, _, _, ⟨rfl, rfl, rfl⟩, q⟩
def NE (C : Ctx) (d : Option Nat) (ops : List AOper) (keep : List Nat) (k : List KI) (f : Fr) (g : Option Bool) (s : Option (AV × List AO)) (h : List AO) : Prop := match g with
  | some true => match s with
    | some (x, h') => OE C ops keep k (put f d x) h'
    | none => False
  | some false => OE C ops keep k (put f d (.tup [])) h
  | none => False
@[simp] theorem OE_pl {o : AOp} {d : Option Nat} {g : Option (Nat × Bool)} {ops : List AOper} {keep : List Nat} : OE C (⟨d, .pl o, g⟩ :: ops) keep k f h = NE C d ops keep k f (gd f g) (evP f h o) h := by
  apply propext
  constructor
  · rintro ⟨tr, f', h', ⟨x, h1, tr', k1, _, rfl, k2⟩, h2⟩
    rw [op1_eq] at k1
    unfold P1 at k1
    split at k1
    · rename_i g1
      split at k1
      · rename_i g2
        obtain ⟨e1, e2⟩ := k1
        injection e1 with e1
        subst e1 e2
        rw [g1, g2]
        exact ⟨tr', f', h', k2, h2⟩
      · exact k1.elim
    · rename_i g1
      obtain ⟨e1, e2⟩ := k1
      injection e1 with e1
      subst e1 e2
      rw [g1]
      exact ⟨tr', f', h', k2, h2⟩
    · exact k1.elim
  · intro H
    unfold NE at H
    split at H
    · rename_i g1
      split at H
      · rename_i x h1 g2
        obtain ⟨tr', f', h', k2, h2⟩ := H
        exact ⟨_, f', h', ⟨x, h1, tr', by rw [op1_eq, g1, g2]; exact ⟨rfl, rfl⟩, fun e => by simp [isCall] at e, rfl, k2⟩, h2⟩
      · exact H.elim
    · rename_i g1
      obtain ⟨tr', f', h', k2, h2⟩ := H
      exact ⟨_, f', h', ⟨_, _, tr', by rw [op1_eq, g1]; exact ⟨rfl, rfl⟩, fun _ => rfl, rfl, k2⟩, h2⟩
    · exact H.elim
@[simp] theorem NE_t {d : Option Nat} {ops : List AOper} {keep : List Nat} {x : AV} {h h' : List AO} : NE C d ops keep k f (some true) (some (x, h')) h = OE C ops keep k (put f d x) h' := rfl
@[simp] theorem NE_f {d : Option Nat} {ops : List AOper} {keep : List Nat} {s : Option (AV × List AO)} {h : List AO} : NE C d ops keep k f (some false) s h = OE C ops keep k (put f d (.tup [])) h := rfl
def CE (C : Ctx) (d : Option Nat) (ops : List AOper) (keep : List Nat) (k : List KI) (f : Fr) (g : Option Bool) (fn : AV) (args : List AV) (h : List AO) : Prop := match g with
  | some true => match fn with
    | .fn fid first caps => ∃ x, WC C.P fid (nrmL first ++ (nrmL args ++ nrmL caps)) h (fun r h2 => r = .ok x ∧ h2 = h) ∧ OE C ops keep k (put f d x) h
    | _ => False
  | some false => OE C ops keep k (put f d (.tup [])) h
  | none => False
@[simp] theorem OE_call {c : Opnd} {l : List Opnd} {d : Option Nat} {g : Option (Nat × Bool)} {ops : List AOper} {keep : List Nat} : OE C (⟨d, .call c l, g⟩ :: ops) keep k f h = CE C d ops keep k f (gd f g) (ev f c) (l.map (ev f)) h := by
  apply propext
  constructor
  · rintro ⟨tr, f', h', ⟨x, h1, tr', k1, k0, rfl, k2⟩, h2⟩
    have : h1 = h := k0 rfl
    subst this
    rcases k1 with ⟨g1, fid, first, caps, g2, w⟩ | ⟨g1, g2, g3⟩
    · simp only at g1 g2
      simp only [CE, g1, g2]
      exact ⟨x, w, tr', f', h', k2, h2⟩
    · simp only at g1
      injection g2 with g2
      subst g2
      simp only [CE, g1]
      exact ⟨tr', f', h', k2, h2⟩
  · intro H
    unfold CE at H
    split at H
    · rename_i g1
      split at H
      · rename_i fid first caps g2
        obtain ⟨x, w, tr', f', h'', k2, h2⟩ := H
        exact ⟨_, f', h'', ⟨x, h, tr', .inl ⟨g1, fid, first, caps, g2, w⟩, fun _ => rfl, rfl, k2⟩, h2⟩
      · exact H.elim
    · rename_i g1
      obtain ⟨tr', f', h'', k2, h2⟩ := H
      exact ⟨_, f', h'', ⟨_, _, tr', .inr ⟨g1, rfl, rfl⟩, fun _ => rfl, rfl, k2⟩, h2⟩
    · exact H.elim
@[simp] theorem CE_t {d : Option Nat} {ops : List AOper} {keep : List Nat} {fid : FuncId} {first caps args : List AV} : CE C d ops keep k f (some true) (.fn fid first caps) args h =
    ∃ x, WC C.P fid (nrmL first ++ (nrmL args ++ nrmL caps)) h (fun r h2 => r = .ok x ∧ h2 = h) ∧ OE C ops keep k (put f d x) h := rfl
@[simp] theorem CE_f {d : Option Nat} {ops : List AOper} {keep : List Nat} {fn : AV} {args : List AV} : CE C d ops keep k f (some false) fn args h = OE C ops keep k (put f d (.tup [])) h := rfl
end
end Go.Eng
