/- The engine, part 20: running code by rewriting. -/
import Derived.Test.YtjljhmeadfejhaaE19
set_option linter.unusedVariables false
set_option linter.unusedSimpArgs false
namespace Go.Eng

/-- What is to be done behind a piece of code. -/
inductive KI where
  | seq (b : AC)
  | blk (id : Nat)
  | lp (keep : List Nat) (a : AC)
/-- What a run of a function's body is about: program, objects at its entry, results, what is to hold behind it. -/
structure Ctx where
  P : Pg
  h0 : List AO
  res : List ARV
  K : ARes → List AO → Prop

def QK (C : Ctx) : List KI → QT
  | [] => bodyQ C.h0 C.res C.K
  | .seq b :: k => thenA (wpA C.P C.h0 b (QK C k)) (QK C k)
  | .blk id :: k => blockA id (QK C k)
  | .lp keep a :: k => thenA (LoopA C.h0 (wpA C.P C.h0 a) keep (QK C k)) (QK C k)

def R (C : Ctx) (c : AC) (k : List KI) (f : Fr) (h : List AO) : Prop := wpA C.P C.h0 c (QK C k) f h
def LP (C : Ctx) (keep : List Nat) (a : AC) (k : List KI) (f : Fr) (h : List AO) : Prop := LoopA C.h0 (wpA C.P C.h0 a) keep (QK C k) f h
/-- Operations of a region. -/
def O (C : Ctx) (ops : List AOper) (keep : List Nat) (k : List KI) (f : Fr) (h : List AO) : Prop :=
  opsA C.P (QK C k) ops f h fun f' h' => QK C k .normal (keepF keep f') h'
/-- Behind a call. -/
def J (C : Ctx) (d : Option Nat) (ops : List AOper) (keep : List Nat) (k : List KI) (f : Fr) : ARes → List AO → Prop := fun r h => match r with
  | .ok x => O C ops keep k (put f d x) h
  | .pan x => QK C k (.pan x) f h
/-- Operations of a region whose order is drawn, none of which reads what another one may turn. -/
def OD (C : Ctx) (ops : List AOper) (keep : List Nat) (k : List KI) (f : Fr) (h : List AO) : Prop :=
  ∃ tr f' h', Tr C.P ops f h tr f' h' ∧ QK C k .normal (keepF keep f') h'
/-- One operation. -/
def P1 (g : Option Bool) (s : Option (AV × List AO)) (h : List AO) (next : AV → List AO → Prop) : Prop := match g with
  | some true => match s with
    | some (x, h') => next x h'
    | none => False
  | some false => next (.tup []) h
  | none => False

section
variable {C : Ctx} {k : List KI} {f : Fr} {h : List AO}

theorem R_skip : R C .skip k f h = QK C k .normal f h := rfl
theorem R_seq {a b : AC} : R C (.seq a b) k f h = R C a (.seq b :: k) f h := rfl
theorem R_block {id : Nat} {a : AC} : R C (.block id a) k f h = R C a (.blk id :: k) f h := rfl
theorem R_exit {id : Nat} : R C (.exit id) k f h = QK C k (.exit id) f h := rfl
theorem R_ret : R C .ret k f h = QK C k .ret f h := rfl
theorem R_reg {ops : List AOper} {keep : List Nat} : R C (.reg ops keep) k f h = O C ops keep k f h := rfl
theorem R_loop {keep : List Nat} {a : AC} : R C (.loop keep a) k f h = LP C keep a k f h := rfl
theorem R_cond {c : Opnd} {a b : AC} : R C (.cond c a b) k f h = match ev f c with
    | .bool true => R C a k f h
    | .bool false => R C b k f h
    | _ => False := by
  simp only [R, wpA]
  apply propext
  constructor
  · rintro ⟨t, h1, h2⟩
    rw [h1]
    cases t <;> simpa using h2
  · intro H
    split at H
    · rename_i h1; exact ⟨true, h1, by simpa using H⟩
    · rename_i h1; exact ⟨false, h1, by simpa using H⟩
    · exact H.elim
theorem R_regD {ops : List AOper} {keep : List Nat} : R C (.regD ops [] keep) k f h = OD C ops keep k f h := by
  apply propext
  constructor
  · rintro ⟨tr, f', h', h1, _, h2⟩
    exact ⟨tr, f', h', h1, h2⟩
  · rintro ⟨tr, f', h', h1, h2⟩
    exact ⟨tr, f', h', h1, (fun p hp => by simp at hp), h2⟩

theorem Q_seq {b : AC} : QK C (.seq b :: k) .normal f h = R C b k f h := rfl
theorem Q_blk {id : Nat} : QK C (.blk id :: k) .normal f h = QK C k .normal f h := rfl
theorem Q_lp {keep : List Nat} {a : AC} : QK C (.lp keep a :: k) .normal f h = LP C keep a k f h := rfl
theorem X_seq {b : AC} {i : Nat} : QK C (.seq b :: k) (.exit i) f h = QK C k (.exit i) f h := rfl
theorem X_blk {id i : Nat} : QK C (.blk id :: k) (.exit i) f h = if i = id then QK C k .normal f h else QK C k (.exit i) f h := rfl
theorem X_lp {keep : List Nat} {a : AC} {i : Nat} : QK C (.lp keep a :: k) (.exit i) f h = QK C k (.exit i) f h := rfl
theorem T_seq {b : AC} : QK C (.seq b :: k) .ret f h = QK C k .ret f h := rfl
theorem T_blk {id : Nat} : QK C (.blk id :: k) .ret f h = QK C k .ret f h := rfl
theorem T_lp {keep : List Nat} {a : AC} : QK C (.lp keep a :: k) .ret f h = QK C k .ret f h := rfl

/-- What leaves the body. -/
def Fin (C : Ctx) (r : Option (List AV)) (h : List AO) : Prop := match r with
  | some xs => retK C.h0 C.K (packR xs) h
  | none => False
theorem fin_of {f : Fr} {h : List AO} (H : Fin C (evRVs f h C.res) h) : ∃ xs, evRVs f h C.res = some xs ∧ retK C.h0 C.K (packR xs) h := by
  unfold Fin at H
  split at H
  · rename_i xs e; exact ⟨xs, e, H⟩
  · exact H.elim
theorem fin_eq : (∃ xs, evRVs f h C.res = some xs ∧ retK C.h0 C.K (packR xs) h) = Fin C (evRVs f h C.res) h := by
  apply propext
  constructor
  · rintro ⟨xs, e, H⟩; rw [e]; exact H
  · exact fin_of
theorem Q_nil : QK C [] .normal f h = Fin C (evRVs f h C.res) h := fin_eq
theorem T_nil : QK C [] .ret f h = Fin C (evRVs f h C.res) h := fin_eq

theorem O_nil {keep : List Nat} : O C [] keep k f h = QK C k .normal (keepF keep f) h := rfl
theorem op1_eq {o : AOp} {d : Option Nat} {g : Option (Nat × Bool)} {K : ARes → List AO → Prop} : op1 C.P f h ⟨d, .pl o, g⟩ K = P1 (gd f g) (evP f h o) h fun x h' => K (.ok x) h' := by
  simp only [op1, st1, P1]
  apply propext
  constructor
  · rintro (⟨h1, x, h', h2, h3⟩ | ⟨h1, h2⟩)
    · rw [h1, h2]; exact h3
    · rw [h1]; exact h2
  · intro H
    split at H
    · rename_i h1
      split at H
      · rename_i x h' h2; exact .inl ⟨h1, x, h', h2, H⟩
      · exact H.elim
    · rename_i h1; exact .inr ⟨h1, H⟩
    · exact H.elim
/-- Behind one operation. -/
def N1 (C : Ctx) (d : Option Nat) (ops : List AOper) (keep : List Nat) (k : List KI) (f : Fr) (g : Option Bool) (s : Option (AV × List AO)) (h : List AO) : Prop := match g with
  | some true => match s with
    | some (x, h') => O C ops keep k (put f d x) h'
    | none => False
  | some false => O C ops keep k (put f d (.tup [])) h
  | none => False
theorem O_pl {o : AOp} {d : Option Nat} {g : Option (Nat × Bool)} {ops : List AOper} {keep : List Nat} : O C (⟨d, .pl o, g⟩ :: ops) keep k f h = N1 C d ops keep k f (gd f g) (evP f h o) h := by
  simp only [O, opsA]
  rw [op1_eq]
  rfl
theorem N1_t {d : Option Nat} {ops : List AOper} {keep : List Nat} {x : AV} {h h' : List AO} : N1 C d ops keep k f (some true) (some (x, h')) h = O C ops keep k (put f d x) h' := rfl
theorem N1_f {d : Option Nat} {ops : List AOper} {keep : List Nat} {s : Option (AV × List AO)} {h : List AO} : N1 C d ops keep k f (some false) s h = O C ops keep k (put f d (.tup [])) h := rfl
/-- A call. -/
def CL (C : Ctx) (d : Option Nat) (ops : List AOper) (keep : List Nat) (k : List KI) (f : Fr) (g : Option Bool) (fn : AV) (args : List AV) (h : List AO) : Prop := match g with
  | some true => match fn with
    | .fn fid first caps => WC C.P fid (nrmL first ++ (nrmL args ++ nrmL caps)) h (J C d ops keep k f)
    | _ => False
  | some false => O C ops keep k (put f d (.tup [])) h
  | none => False
theorem O_call {c : Opnd} {l : List Opnd} {d : Option Nat} {g : Option (Nat × Bool)} {ops : List AOper} {keep : List Nat} : O C (⟨d, .call c l, g⟩ :: ops) keep k f h = CL C d ops keep k f (gd f g) (ev f c) (l.map (ev f)) h := by
  simp only [O, opsA, op1, st1, CL]
  apply propext
  constructor
  · rintro (⟨h1, fid, first, caps, h2, h3⟩ | ⟨h1, h2⟩)
    · rw [h1, h2]; exact h3
    · rw [h1]; exact h2
  · intro H
    split at H
    · rename_i h1
      split at H
      · rename_i fid first caps h2; exact .inl ⟨h1, fid, first, caps, h2, H⟩
      · exact H.elim
    · rename_i h1; exact .inr ⟨h1, H⟩
    · exact H.elim
theorem CL_t {d : Option Nat} {ops : List AOper} {keep : List Nat} {fid : FuncId} {first caps args : List AV} : CL C d ops keep k f (some true) (.fn fid first caps) args h = WC C.P fid (nrmL first ++ (nrmL args ++ nrmL caps)) h (J C d ops keep k f) := rfl
theorem CL_f {d : Option Nat} {ops : List AOper} {keep : List Nat} {fn : AV} {args : List AV} : CL C d ops keep k f (some false) fn args h = O C ops keep k (put f d (.tup [])) h := rfl
theorem J_ok {d : Option Nat} {ops : List AOper} {keep : List Nat} {x : AV} : J C d ops keep k f (.ok x) h = O C ops keep k (put f d x) h := rfl

/-! ### drawn regions -/
theorem OD_nil {keep : List Nat} : OD C [] keep k f h = QK C k .normal (keepF keep f) h := by
  apply propext
  constructor
  · rintro ⟨tr, f', h', ⟨rfl, rfl, rfl⟩, h2⟩; exact h2
  · intro H; exact ⟨_, _, _, ⟨rfl, rfl, rfl⟩, H⟩
theorem OD_pl {o : AOp} {d : Option Nat} {g : Option (Nat × Bool)} {ops : List AOper} {keep : List Nat} : OD C (⟨d, .pl o, g⟩ :: ops) keep k f h = P1 (gd f g) (evP f h o) h fun x h' => OD C ops keep k (put f d x) h' := by
  apply propext
  simp only [OD, Tr]
  constructor
  · rintro ⟨tr, f', h', ⟨x, h1, tr', k1, rfl, k2⟩, h2⟩
    rw [op1_eq] at k1
    unfold P1 at k1 ⊢
    split at k1
    · split at k1
      · obtain ⟨k3, k4⟩ := k1
        injection k3 with k3
        subst k3 k4
        exact ⟨tr', f', h', k2, h2⟩
      · exact k1.elim
    · obtain ⟨k3, k4⟩ := k1
      injection k3 with k3
      subst k3 k4
      exact ⟨tr', f', h', k2, h2⟩
    · exact k1.elim
  · intro H
    unfold P1 at H
    split at H
    · rename_i g1
      split at H
      · rename_i x h1 g2
        obtain ⟨tr', f', h', k2, h2⟩ := H
        exact ⟨_, f', h', ⟨x, h1, tr', by rw [op1_eq, g1, g2]; exact ⟨rfl, rfl⟩, rfl, k2⟩, h2⟩
      · exact H.elim
    · rename_i g1
      obtain ⟨tr', f', h', k2, h2⟩ := H
      exact ⟨_, f', h', ⟨_, _, tr', by rw [op1_eq, g1]; exact ⟨rfl, rfl⟩, rfl, k2⟩, h2⟩
    · exact H.elim
/-- Behind one operation of a drawn region. -/
def ND (C : Ctx) (d : Option Nat) (ops : List AOper) (keep : List Nat) (k : List KI) (f : Fr) (g : Option Bool) (s : Option (AV × List AO)) (h : List AO) : Prop := match g with
  | some true => match s with
    | some (x, h') => OD C ops keep k (put f d x) h'
    | none => False
  | some false => OD C ops keep k (put f d (.tup [])) h
  | none => False
theorem OD_pl' {o : AOp} {d : Option Nat} {g : Option (Nat × Bool)} {ops : List AOper} {keep : List Nat} : OD C (⟨d, .pl o, g⟩ :: ops) keep k f h = ND C d ops keep k f (gd f g) (evP f h o) h := OD_pl
theorem ND_t {d : Option Nat} {ops : List AOper} {keep : List Nat} {x : AV} {h h' : List AO} : ND C d ops keep k f (some true) (some (x, h')) h = OD C ops keep k (put f d x) h' := rfl
theorem ND_f {d : Option Nat} {ops : List AOper} {keep : List Nat} {s : Option (AV × List AO)} {h : List AO} : ND C d ops keep k f (some false) s h = OD C ops keep k (put f d (.tup [])) h := rfl
/-- A call in a drawn region. -/
def CD (C : Ctx) (d : Option Nat) (ops : List AOper) (keep : List Nat) (k : List KI) (f : Fr) (g : Option Bool) (fn : AV) (args : List AV) (h : List AO) : Prop := match g with
  | some true => match fn with
    | .fn fid first caps => ∃ x h', WC C.P fid (nrmL first ++ (nrmL args ++ nrmL caps)) h (fun r h2 => r = .ok x ∧ h2 = h') ∧ OD C ops keep k (put f d x) h'
    | _ => False
  | some false => OD C ops keep k (put f d (.tup [])) h
  | none => False
theorem OD_call {c : Opnd} {l : List Opnd} {d : Option Nat} {g : Option (Nat × Bool)} {ops : List AOper} {keep : List Nat} : OD C (⟨d, .call c l, g⟩ :: ops) keep k f h = CD C d ops keep k f (gd f g) (ev f c) (l.map (ev f)) h := by
  apply propext
  constructor
  · rintro ⟨tr, f', h', ⟨x, h1, tr', k1, rfl, k2⟩, h2⟩
    rcases k1 with ⟨g1, fid, first, caps, g2, w⟩ | ⟨g1, g2, g3⟩
    · simp only at g1 g2
      simp only [CD, g1, g2]
      exact ⟨x, h1, w, tr', f', h', k2, h2⟩
    · simp only at g1
      injection g2 with g2
      subst g2 g3
      simp only [CD, g1]
      exact ⟨tr', f', h', k2, h2⟩
  · intro H
    unfold CD at H
    split at H
    · rename_i g1
      split at H
      · rename_i fid first caps g2
        obtain ⟨x, h', w, tr', f', h'', k2, h2⟩ := H
        exact ⟨_, f', h'', ⟨x, h', tr', .inl ⟨g1, fid, first, caps, g2, w⟩, rfl, k2⟩, h2⟩
      · exact H.elim
    · rename_i g1
      obtain ⟨tr', f', h'', k2, h2⟩ := H
      exact ⟨_, f', h'', ⟨_, _, tr', .inr ⟨g1, rfl, rfl⟩, rfl, k2⟩, h2⟩
    · exact H.elim
theorem CD_t {d : Option Nat} {ops : List AOper} {keep : List Nat} {fid : FuncId} {first caps args : List AV} : CD C d ops keep k f (some true) (.fn fid first caps) args h =
    ∃ x h', WC C.P fid (nrmL first ++ (nrmL args ++ nrmL caps)) h (fun r h2 => r = .ok x ∧ h2 = h') ∧ OD C ops keep k (put f d x) h' := rfl
theorem CD_f {d : Option Nat} {ops : List AOper} {keep : List Nat} {fn : AV} {args : List AV} : CD C d ops keep k f (some false) fn args h = OD C ops keep k (put f d (.tup [])) h := rfl

/-! ### drawn regions that leave the objects as they are -/
def TrS (P : Pg) (h : List AO) : List AOper → Fr → Fr → Prop
  | [], f, f' => f' = f
  | op :: r, f, f' => ∃ x, op1 P f h op (fun res h2 => res = .ok x ∧ h2 = h) ∧ TrS P h r (put f op.dst x) f'
theorem TrS.tr {P : Pg} {h : List AO} : ∀ {ops : List AOper} {f f' : Fr}, TrS P h ops f f' → ∃ tr, Tr P ops f h tr f' h ∧ ∀ x ∈ tr, x.2 = h
  | [], f, f', T => ⟨[(f, h)], ⟨rfl, T, rfl⟩, fun x hx => by simp at hx; rw [hx]⟩
  | op :: r, f, f', ⟨x, k, T⟩ => by
    obtain ⟨tr, t1, t2⟩ := T.tr
    refine ⟨(f, h) :: tr, ⟨x, h, tr, k, rfl, t1⟩, fun y hy => ?_⟩
    rcases List.mem_cons.1 hy with rfl | hy
    · rfl
    · exact t2 y hy
def OS (C : Ctx) (ops : List AOper) (keep : List Nat) (k : List KI) (f : Fr) (h : List AO) : Prop := ∃ f', TrS C.P h ops f f' ∧ QK C k .normal (keepF keep f') h
theorem R_regS {ops : List AOper} {re : List (Nat × Nat)} {keep : List Nat} (H : OS C ops keep k f h) : R C (.regD ops re keep) k f h := by
  obtain ⟨f', T, q⟩ := H
  obtain ⟨tr, t1, t2⟩ := T.tr
  refine ⟨tr, f', h, t1, fun p hp o Fi Fk Fk' h1 h2 h3 h4 => ?_, q⟩
  rw [t2 Fi (List.mem_of_getElem? h2), t2 Fk (List.mem_of_getElem? h3), t2 Fk' (List.mem_of_getElem? h4)]
  exact ⟨rfl, rfl⟩
theorem OS_nil {keep : List Nat} : OS C [] keep k f h = QK C k .normal (keepF keep f) h := by
  apply propext
  constructor
  · rintro ⟨f', rfl, q⟩; exact q
  · intro H; exact ⟨_, rfl, H⟩
/-- Behind one operation. -/
def NS (C : Ctx) (d : Option Nat) (ops : List AOper) (keep : List Nat) (k : List KI) (f : Fr) (g : Option Bool) (s : Option (AV × List AO)) (h : List AO) : Prop := match g with
  | some true => match s with
    | some (x, h') => h' = h ∧ OS C ops keep k (put f d x) h
    | none => False
  | some false => OS C ops keep k (put f d (.tup [])) h
  | none => False
theorem OS_pl {o : AOp} {d : Option Nat} {g : Option (Nat × Bool)} {ops : List AOper} {keep : List Nat} : OS C (⟨d, .pl o, g⟩ :: ops) keep k f h = NS C d ops keep k f (gd f g) (evP f h o) h := by
  apply propext
  constructor
  · rintro ⟨f', ⟨x, k1, T⟩, q⟩
    rw [op1_eq] at k1
    unfold P1 at k1
    unfold NS
    split at k1
    · split at k1
      · obtain ⟨k3, k4⟩ := k1
        injection k3 with k3
        subst k3
        exact ⟨k4, f', T, q⟩
      · exact k1.elim
    · obtain ⟨k3, k4⟩ := k1
      injection k3 with k3
      subst k3
      exact ⟨f', T, q⟩
    · exact k1.elim
  · intro H
    unfold NS at H
    split at H
    · rename_i g1
      split at H
      · rename_i x h1 g2
        obtain ⟨rfl, f', T, q⟩ := H
        exact ⟨f', ⟨x, by rw [op1_eq, g1, g2]; exact ⟨rfl, rfl⟩, T⟩, q⟩
      · exact H.elim
    · rename_i g1
      obtain ⟨f', T, q⟩ := H
      exact ⟨f', ⟨_, by rw [op1_eq, g1]; exact ⟨rfl, rfl⟩, T⟩, q⟩
    · exact H.elim
theorem NS_t {d : Option Nat} {ops : List AOper} {keep : List Nat} {x : AV} {h h' : List AO} : NS C d ops keep k f (some true) (some (x, h')) h = (h' = h ∧ OS C ops keep k (put f d x) h) := rfl
theorem NS_f {d : Option Nat} {ops : List AOper} {keep : List Nat} {s : Option (AV × List AO)} {h : List AO} : NS C d ops keep k f (some false) s h = OS C ops keep k (put f d (.tup [])) h := rfl
/-- A call. -/
def CS (C : Ctx) (d : Option Nat) (ops : List AOper) (keep : List Nat) (k : List KI) (f : Fr) (g : Option Bool) (fn : AV) (args : List AV) (h : List AO) : Prop := match g with
  | some true => match fn with
    | .fn fid first caps => ∃ x, WC C.P fid (nrmL first ++ (nrmL args ++ nrmL caps)) h (fun r h2 => r = .ok x ∧ h2 = h) ∧ OS C ops keep k (put f d x) h
    | _ => False
  | some false => OS C ops keep k (put f d (.tup [])) h
  | none => False
theorem OS_call {c : Opnd} {l : List Opnd} {d : Option Nat} {g : Option (Nat × Bool)} {ops : List AOper} {keep : List Nat} : OS C (⟨d, .call c l, g⟩ :: ops) keep k f h = CS C d ops keep k f (gd f g) (ev f c) (l.map (ev f)) h := by
  apply propext
  constructor
  · rintro ⟨f', ⟨x, k1, T⟩, q⟩
    rcases k1 with ⟨g1, fid, first, caps, g2, w⟩ | ⟨g1, g2, g3⟩
    · simp only at g1 g2
      simp only [CS, g1, g2]
      exact ⟨x, w, f', T, q⟩
    · simp only at g1
      injection g2 with g2
      subst g2
      simp only [CS, g1]
      exact ⟨f', T, q⟩
  · intro H
    unfold CS at H
    split at H
    · rename_i g1
      split at H
      · rename_i fid first caps g2
        obtain ⟨x, w, f', T, q⟩ := H
        exact ⟨f', ⟨x, .inl ⟨g1, fid, first, caps, g2, w⟩, T⟩, q⟩
      · exact H.elim
    · rename_i g1
      obtain ⟨f', T, q⟩ := H
      exact ⟨f', ⟨_, .inr ⟨g1, rfl, rfl⟩, T⟩, q⟩
    · exact H.elim
theorem CS_t {d : Option Nat} {ops : List AOper} {keep : List Nat} {fid : FuncId} {first caps args : List AV} : CS C d ops keep k f (some true) (.fn fid first caps) args h =
    ∃ x, WC C.P fid (nrmL first ++ (nrmL args ++ nrmL caps)) h (fun r h2 => r = .ok x ∧ h2 = h) ∧ OS C ops keep k (put f d x) h := rfl
theorem CS_f {d : Option Nat} {ops : List AOper} {keep : List Nat} {fn : AV} {args : List AV} : CS C d ops keep k f (some false) fn args h = OS C ops keep k (put f d (.tup [])) h := rfl

/-! ### functions and loops -/
theorem W_of {P : Pg} (hm : P.prog.follows .mixedOrders = true) {g : FuncId} {F : AFun} (hF : compF P.prog g = some F) {args : List AV} {h : List AO} {K : ARes → List AO → Prop} (hlen : args.length ≤ F.nt)
    (H : R ⟨P, h, F.res, K⟩ F.body [] (argF 0 args) h) : WC P g args h K := WC_of_body hm (compF_sound hF) hlen H
theorem R_open {c : AC} (H : R C c [] f h) : wpA C.P C.h0 c (bodyQ C.h0 C.res C.K) f h := H
theorem lp_step {keep : List Nat} {a : AC} (H : R C a (.lp keep a :: k) (keepF keep f) h) : LP C keep a k f h := .mk f h _ (fun _ _ x => x) H
theorem lp_drop {keep : List Nat} {a : AC} {m j : Nat} {f' : Fr} (hd : DropOk C.h0 h m) (he : outF m h j (keepF keep f) = some f') (H : LP C keep a k f' (h.take m)) : LP C keep a k f h := .drop f h m j f' hd he H

theorem lp_ind {ι : Type} {keep : List Nat} {a : AC} (Inv : ι → Prop) (μ : ι → Nat) (F : ι → Fr) (H : ι → List AO)
    (step : ∀ i, Inv i → (∀ j, Inv j → μ j < μ i → LP C keep a k (F j) (H j)) → R C a (.lp keep a :: k) (keepF keep (F i)) (H i)) (i : ι) (hi : Inv i) : LP C keep a k (F i) (H i) := by
  have : ∀ n i, μ i = n → Inv i → LP C keep a k (F i) (H i) := by
    intro n
    induction n using Nat.strongRecOn with
    | _ n ih =>
      intro i hn hi
      exact lp_step (step i hi fun j hj hlt => ih (μ j) (by omega) j rfl hj)
  exact this _ i rfl hi

theorem lk_cons {j i : Nat} {x : AV} {f : Fr} : lk ((j, x) :: f) i = if i = j then some x else lk f i := rfl
theorem lk_nil {i : Nat} : lk [] i = none := rfl
theorem put_some {d : Nat} {x : AV} : put f (some d) x = (d, x) :: f := rfl
theorem put_none {x : AV} : put f none x = f := rfl
theorem ev_t {n : Nat} : ev f (.t n) = (lk f n).getD .undef := rfl
theorem ev_c {x : AV} : ev f (.c x) = x := rfl
theorem ev_m {tbl : List (TypeId × FuncId)} {n : Nat} : ev f (.m tbl n) = bindM tbl (lk f n) := rfl
theorem keepF_nil : keepF [] f = [] := rfl
def kcons (i : Nat) (x : Option AV) (f : Fr) : Fr := match x with
  | some x => (i, x) :: f
  | none => f
theorem keepF_cons {i : Nat} {l : List Nat} : keepF (i :: l) f = kcons i (lk f i) (keepF l f) := by
  simp only [keepF, List.filterMap_cons, kcons]
  cases lk f i <;> rfl
theorem kcons_some {i : Nat} {x : AV} : kcons i (some x) f = (i, x) :: f := rfl
theorem kcons_none {i : Nat} : kcons i none f = f := rfl
theorem gd_none : gd f none = some true := rfl
theorem gd_some {t : Nat} {b : Bool} : gd f (some (t, b)) = match lk f t with
    | some (.bool c) => some (c == b)
    | some (.tup []) => some false
    | _ => none := rfl
theorem argF_nil {i : Nat} : argF i [] = [] := rfl
theorem argF_cons {i : Nat} {x : AV} {l : List AV} : argF i (x :: l) = (i, x) :: argF (i + 1) l := rfl
end
attribute [irreducible] R O OD OS LP QK
end Go.Eng
