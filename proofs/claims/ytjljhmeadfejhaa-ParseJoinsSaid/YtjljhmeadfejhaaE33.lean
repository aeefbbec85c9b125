/- The engine, part 33: drawn regions, what is read and what calls do being told apart at the end. -/
import Derived.Test.YtjljhmeadfejhaaE32
set_option linter.unusedVariables false
set_option linter.unusedSimpArgs false
namespace Go.Eng
/-- The rest of a drawn region, the states ahead of the operations that are done being kept. -/
def OX (C : Ctx) (ops0 : List AOper) (re : List (Nat × Nat)) (acc : List (Fr × List AO)) (ops : List AOper) (keep : List Nat) (k : List KI) (f : Fr) (h : List AO) : Prop :=
  ∃ tr f' h', Tr C.P ops f h tr f' h' ∧ DrawOk ops0 re (acc ++ tr) ∧ QK C k .normal (keepF keep f') h'
section
variable {C : Ctx} {k : List KI} {f : Fr} {h : List AO} {ops0 : List AOper} {re : List (Nat × Nat)} {acc : List (Fr × List AO)}
theorem R_regX {ops : List AOper} {keep : List Nat} (H : OX C ops re [] ops keep k f h) : R C (.regD ops re keep) k f h := by
  obtain ⟨tr, f', h', T, D, q⟩ := H
  unfold R
  simp only [wpA]
  exact ⟨tr, f', h', T, by simpa using D, q⟩
@[simp] theorem OX_nil {keep : List Nat} : OX C ops0 re acc [] keep k f h = (DrawOk ops0 re (acc ++ [(f, h)]) ∧ QK C k .normal (keepF keep f) h) := by
  apply propext
  constructor
  · rintro ⟨tr, f', h', ⟨rfl, rfl, rfl⟩, D, q⟩; exact ⟨D, q⟩
  · rintro ⟨D, q⟩; exact ⟨_, _, _, ⟨rfl, rfl, rfl⟩, D, q⟩
theorem OX_cons {op : AOper} {ops : List AOper} {keep : List Nat} : OX C ops0 re acc (op :: ops) keep k f h ↔ ∃ x h1, op1 C.P f h op (fun res h2 => res = .ok x ∧ h2 = h1) ∧ OX C ops0 re (acc ++ [(f, h)]) ops keep k (put f op.dst x) h1 := by
  constructor
  · rintro ⟨tr, f', h', ⟨x, h1, tr', k1, rfl, k2⟩, D, q⟩
    exact ⟨x, h1, k1, tr', f', h', k2, by simpa using D, q⟩
  · rintro ⟨x, h1, k1, tr', f', h', k2, D, q⟩
    exact ⟨_, f', h', ⟨x, h1, tr', k1, rfl, k2⟩, by simpa using D, q⟩
def NX (C : Ctx) (ops0 : List AOper) (re : List (Nat × Nat)) (acc : List (Fr × List AO)) (d : Option Nat) (ops : List AOper) (keep : List Nat) (k : List KI) (f : Fr) (g : Option Bool) (s : Option (AV × List AO)) (h : List AO) : Prop := match g with
  | some true => match s with
    | some (x, h') => OX C ops0 re acc ops keep k (put f d x) h'
    | none => False
  | some false => OX C ops0 re acc ops keep k (put f d (.tup [])) h
  | none => False
@[simp] theorem OX_pl {o : AOp} {d : Option Nat} {g : Option (Nat × Bool)} {ops : List AOper} {keep : List Nat} : OX C ops0 re acc (⟨d, .pl o, g⟩ :: ops) keep k f h = NX C ops0 re (acc ++ [(f, h)]) d ops keep k f (gd f g) (evP f h o) h := by
  apply propext
  rw [OX_cons]
  constructor
  · rintro ⟨x, h1, k1, H⟩
    rw [op1_eq] at k1
    unfold P1 at k1
    split at k1
    · rename_i g1
      split at k1
      · rename_i g2
        obtain ⟨e1, e2⟩ := k1
        injection e1 with e1
        subst e1 e2
        rw [g1, g2]; exact H
      · exact k1.elim
    · rename_i g1
      obtain ⟨e1, e2⟩ := k1
      injection e1 with e1
      subst e1 e2
      rw [g1]; exact H
    · exact k1.elim
  · intro H
    unfold NX at H
    split at H
    · rename_i g1
      split at H
      · rename_i x h1 g2
        exact ⟨x, h1, by rw [op1_eq, g1, g2]; exact ⟨rfl, rfl⟩, H⟩
      · exact H.elim
    · rename_i g1
      exact ⟨_, _, by rw [op1_eq, g1]; exact ⟨rfl, rfl⟩, H⟩
    · exact H.elim
@[simp] theorem NX_t {d : Option Nat} {ops : List AOper} {keep : List Nat} {x : AV} {h h' : List AO} : NX C ops0 re acc d ops keep k f (some true) (some (x, h')) h = OX C ops0 re acc ops keep k (put f d x) h' := rfl
@[simp] theorem NX_f {d : Option Nat} {ops : List AOper} {keep : List Nat} {s : Option (AV × List AO)} {h : List AO} : NX C ops0 re acc d ops keep k f (some false) s h = OX C ops0 re acc ops keep k (put f d (.tup [])) h := rfl
def CX (C : Ctx) (ops0 : List AOper) (re : List (Nat × Nat)) (acc : List (Fr × List AO)) (d : Option Nat) (ops : List AOper) (keep : List Nat) (k : List KI) (f : Fr) (g : Option Bool) (fn : AV) (args : List AV) (h : List AO) : Prop := match g with
  | some true => match fn with
    | .fn fid first caps => ∃ x h', WC C.P fid (nrmL first ++ (nrmL args ++ nrmL caps)) h (fun r h2 => r = .ok x ∧ h2 = h') ∧ OX C ops0 re acc ops keep k (put f d x) h'
    | _ => False
  | some false => OX C ops0 re acc ops keep k (put f d (.tup [])) h
  | none => False
@[simp] theorem OX_call {c : Opnd} {l : List Opnd} {d : Option Nat} {g : Option (Nat × Bool)} {ops : List AOper} {keep : List Nat} : OX C ops0 re acc (⟨d, .call c l, g⟩ :: ops) keep k f h = CX C ops0 re (acc ++ [(f, h)]) d ops keep k f (gd f g) (ev f c) (l.map (ev f)) h := by
  apply propext
  rw [OX_cons]
  constructor
  · rintro ⟨x, h1, k1, H⟩
    rcases k1 with ⟨g1, fid, first, caps, g2, w⟩ | ⟨g1, g2, g3⟩
    · simp only at g1 g2
      simp only [CX, g1, g2]
      exact ⟨x, h1, w, H⟩
    · simp only at g1
      injection g2 with g2
      subst g2 g3
      simp only [CX, g1]
      exact H
  · intro H
    unfold CX at H
    split at H
    · rename_i g1
      split at H
      · rename_i fid first caps g2
        obtain ⟨x, h', w, q⟩ := H
        exact ⟨x, h', .inl ⟨g1, fid, first, caps, g2, w⟩, q⟩
      · exact H.elim
    · rename_i g1
      exact ⟨_, _, .inr ⟨g1, rfl, rfl⟩, H⟩
    · exact H.elim
@[simp] theorem CX_t {d : Option Nat} {ops : List AOper} {keep : List Nat} {fid : FuncId} {first caps args : List AV} : CX C ops0 re acc d ops keep k f (some true) (.fn fid first caps) args h =
    ∃ x h', WC C.P fid (nrmL first ++ (nrmL args ++ nrmL caps)) h (fun r h2 => r = .ok x ∧ h2 = h') ∧ OX C ops0 re acc ops keep k (put f d x) h' := rfl
@[simp] theorem CX_f {d : Option Nat} {ops : List AOper} {keep : List Nat} {fn : AV} {args : List AV} : CX C ops0 re acc d ops keep k f (some false) fn args h = OX C ops0 re acc ops keep k (put f d (.tup [])) h := rfl
end
end Go.Eng
