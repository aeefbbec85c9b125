/- The engine, part 24: closed code, run by the kernel. -/
import Derived.Test.YtjljhmeadfejhaaE21
set_option linter.unusedVariables false
set_option linter.unusedSimpArgs false
namespace Go.Eng

mutual
def AV.beq : AV → AV → Bool
  | .undef, .undef => true
  | .bool a, .bool b => a == b
  | .int k a, .int k' b => decide (k = k') && decide (a = b)
  | .str a, .str b => decide (a = b)
  | .nilp, .nilp => true
  | .ptr i o, .ptr i' o' => i == i' && o == o'
  | .rptr l, .rptr l' => beqL l l'
  | .esl, .esl => true
  | .rsl l, .rsl l' => beqL l l'
  | .osl t l, .osl t' l' => t == t' && beqL l l'
  | .msl a b c d, .msl a' b' c' d' => a == a' && b == b' && c == c' && d == d'
  | .nilmap, .nilmap => true
  | .map i, .map j => i == j
  | .fn g a b, .fn g' a' b' => g == g' && beqL a a' && beqL b b'
  | .nilfn, .nilfn => true
  | .iface t x, .iface t' x' => t == t' && AV.beq x x'
  | .nilif, .nilif => true
  | .agg l, .agg l' => beqL l l'
  | .tup l, .tup l' => beqL l l'
  | _, _ => false
def beqL : List AV → List AV → Bool
  | [], [] => true
  | x :: l, y :: l' => AV.beq x y && beqL l l'
  | _, _ => false
end
mutual
theorem AV.eq_of_beq : ∀ (x y : AV), AV.beq x y = true → x = y := by
  intro x y e
  cases x with
  | rptr l => cases y <;> simp only [AV.beq, Bool.false_eq_true] at e; rw [eq_of_beqL _ _ e]
  | rsl l => cases y <;> simp only [AV.beq, Bool.false_eq_true] at e; rw [eq_of_beqL _ _ e]
  | osl t l => cases y <;> simp only [AV.beq, Bool.false_eq_true, Bool.and_eq_true, beq_iff_eq] at e; rw [e.1, eq_of_beqL _ _ e.2]
  | fn g a b => cases y <;> simp only [AV.beq, Bool.false_eq_true, Bool.and_eq_true, beq_iff_eq] at e; rw [e.1.1, eq_of_beqL _ _ e.1.2, eq_of_beqL _ _ e.2]
  | iface t x => cases y <;> simp only [AV.beq, Bool.false_eq_true, Bool.and_eq_true, beq_iff_eq] at e; rw [e.1, AV.eq_of_beq _ _ e.2]
  | agg l => cases y <;> simp only [AV.beq, Bool.false_eq_true] at e; rw [eq_of_beqL _ _ e]
  | tup l => cases y <;> simp only [AV.beq, Bool.false_eq_true] at e; rw [eq_of_beqL _ _ e]
  | _ => cases y <;> simp_all [AV.beq]
theorem eq_of_beqL : ∀ (x y : List AV), beqL x y = true → x = y := by
  intro x y e
  cases x with
  | nil => cases y <;> simp_all [beqL]
  | cons a l =>
    cases y with
    | nil => simp [beqL] at e
    | cons b l' =>
      simp only [beqL, Bool.and_eq_true] at e
      rw [AV.eq_of_beq _ _ e.1, eq_of_beqL _ _ e.2]
end
def beqO : Option AV → Option AV → Bool
  | none, none => true
  | some x, some y => x.beq y
  | _, _ => false
theorem eq_of_beqO {x y : Option AV} (e : beqO x y = true) : x = y := by
  cases x <;> cases y <;> simp only [beqO, Bool.false_eq_true] at e
  · rfl
  · rw [AV.eq_of_beq _ _ e]

/-- Functions that are compiled; functions that are known otherwise. -/
abbrev CallT := AV → List AV → List AO → Option (AV × List AO)
structure Tab where
  fn : FuncId → Option AFun
  prim : FuncId → List AV → List AO → Option (AV × List AO)
  hp : CallT → FuncId → List AV → List AO → Option (AV × List AO)
def lookF (g : FuncId) : List (FuncId × AFun) → Option AFun
  | [] => none
  | (i, F) :: l => if Nat.beq g i then some F else lookF g l
def tabOk (P : Program) : List (FuncId × AFun) → Prop
  | [] => True
  | (i, F) :: l => compF P i = some F ∧ tabOk P l
theorem tabOk_look {P : Program} {g : FuncId} {F : AFun} : ∀ {l : List (FuncId × AFun)}, tabOk P l → lookF g l = some F → compF P g = some F
  | [], _, e => by cases e
  | (i, G) :: l, ok, e => by
    simp only [lookF] at e
    split at e
    · rename_i hb
      injection e with e
      subst e
      rw [Nat.eq_of_beq_eq_true hb]; exact ok.1
    · exact tabOk_look ok.2 e

abbrev RunT := AC → Fr → List AO → Option (AX × Fr × List AO)
def callC (T : Tab) (run : RunT) (g : AV) (args : List AV) (h : List AO) : Option (AV × List AO) :=
  match g with
  | .fn fid first caps => match T.prim fid (nrmL first ++ (nrmL args ++ nrmL caps)) h with
    | some r => some r
    | none => match T.fn fid with
      | none => none
      | some F => if (nrmL first ++ (nrmL args ++ nrmL caps)).length ≤ F.nt then
          match run F.body (argF 0 (nrmL first ++ (nrmL args ++ nrmL caps))) h with
          | some (.normal, f, h') => (evRVs f h' F.res).map fun xs => (packR xs, h')
          | some (.ret, f, h') => (evRVs f h' F.res).map fun xs => (packR xs, h')
          | _ => none
        else none
  | _ => none
def callX (T : Tab) (run : RunT) (g : AV) (args : List AV) (h : List AO) : Option (AV × List AO) :=
  match g with
  | .fn fid first caps => match T.hp (callC T run) fid (nrmL first ++ (nrmL args ++ nrmL caps)) h with
    | some r => some r
    | none => callC T run g args h
  | _ => none
def opX (T : Tab) (run : RunT) (f : Fr) (h : List AO) (op : AOper) : Option (AV × List AO) :=
  match gd f op.guard with
  | some true => match op.op with
    | .pl o => evP f h o
    | .call g args => callX T run (ev f g) (args.map (ev f)) h
  | some false => some (.tup [], h)
  | none => none
def opsX (T : Tab) (run : RunT) : List AOper → Fr → List AO → Option (Fr × List AO)
  | [], f, h => some (f, h)
  | op :: r, f, h => match opX T run f h op with
    | some (x, h') => opsX T run r (put f op.dst x) h'
    | none => none
def trX (T : Tab) (run : RunT) : List AOper → Fr → List AO → Option (List (Fr × List AO) × Fr × List AO)
  | [], f, h => some ([(f, h)], f, h)
  | op :: r, f, h => match opX T run f h op with
    | some (x, h') => match trX T run r (put f op.dst x) h' with
      | some (tr, f', h'') => some ((f, h) :: tr, f', h'')
      | none => none
    | none => none
def drawX (ops : List AOper) (tr : List (Fr × List AO)) : List (Nat × Nat) → Bool
  | [] => true
  | (i, k) :: re => (match ops[i]?, tr[i]?, tr[k]?, tr[k + 1]? with
    | some o, some Fi, some Fk, some Fk' => beqO (valOf Fi.1 Fk.2 o) (valOf Fi.1 Fi.2 o) && beqO (valOf Fi.1 Fk'.2 o) (valOf Fi.1 Fi.2 o)
    | _, _, _, _ => true) && drawX ops tr re
/-- Running code, with fuel. -/
def runX (T : Tab) : Nat → RunT
  | 0, _, _, _ => none
  | n + 1, c, f, h => match c with
    | .skip => some (.normal, f, h)
    | .reg ops keep => match opsX T (runX T n) ops f h with
      | some (f', h') => some (.normal, keepF keep f', h')
      | none => none
    | .regD ops re keep => match trX T (runX T n) ops f h with
      | some (tr, f', h') => if drawX ops tr re then some (.normal, keepF keep f', h') else none
      | none => none
    | .seq a b => match runX T n a f h with
      | some (.normal, f', h') => runX T n b f' h'
      | r => r
    | .cond c a b => match ev f c with
      | .bool true => runX T n a f h
      | .bool false => runX T n b f h
      | _ => none
    | .block id a => match runX T n a f h with
      | some (.exit i, f', h') => if i = id then some (.normal, f', h') else some (.exit i, f', h')
      | r => r
    | .loop keep a => match runX T n a (keepF keep f) h with
      | some (.normal, f', h') => runX T n (.loop keep a) f' h'
      | r => r
    | .exit id => some (.exit id, f, h)
    | .ret => some (.ret, f, h)
    | .fail => none

section
variable {P : Pg} {T : Tab}
def SoundT (P : Pg) (run : RunT) : Prop := ∀ (c : AC) (f : Fr) (h : List AO) (e : AX) (f' : Fr) (h' h0 : List AO) (Q : QT), run c f h = some (e, f', h') → Q e f' h' → wpA P h0 c Q f h

def SoundC (P : Pg) (rc : CallT) : Prop := ∀ (g : AV) (args : List AV) (h : List AO) (x : AV) (h' : List AO), rc g args h = some (x, h') → ∃ fid first caps, g = .fn fid first caps ∧ WC P fid (nrmL first ++ (nrmL args ++ nrmL caps)) h fun r h2 => r = .ok x ∧ h2 = h'
structure TOk (P : Pg) (T : Tab) : Prop where
  fn : ∀ g F, T.fn g = some F → compF P.prog g = some F
  prim : ∀ g xs h x h', T.prim g xs h = some (x, h') → WC P g xs h fun r h2 => r = .ok x ∧ h2 = h'
  hp : ∀ rc, SoundC P rc → ∀ g xs h x h', T.hp rc g xs h = some (x, h') → WC P g xs h fun r h2 => r = .ok x ∧ h2 = h'

theorem callC_sound (hm : P.prog.follows .mixedOrders = true) (ok : TOk P T) {run : RunT} (hr : SoundT P run)
    {g : AV} {args : List AV} {h : List AO} {x : AV} {h' : List AO} (e : callC T run g args h = some (x, h')) : ∃ fid first caps, g = .fn fid first caps ∧ WC P fid (nrmL first ++ (nrmL args ++ nrmL caps)) h fun r h2 => r = .ok x ∧ h2 = h' := by
  unfold callC at e
  split at e
  case h_2 => cases e
  rename_i fid first caps
  refine ⟨fid, first, caps, rfl, ?_⟩
  split at e
  · rename_i r hr'
    injection e with e
    subst e
    exact ok.prim _ _ _ _ _ hr'
  · split at e
    · cases e
    rename_i F hF
    split at e
    case isFalse => cases e
    rename_i hlen
    refine WC_of_body hm (compF_sound (ok.fn _ _ hF)) hlen ?_
    split at e
    · rename_i f h1 hrun
      obtain ⟨xs, k1, k2⟩ := Option.map_eq_some_iff.1 e
      injection k2 with k2 k3
      subst k2 k3
      exact hr _ _ _ _ _ _ _ _ hrun ⟨xs, k1, .inl ⟨rfl, rfl⟩⟩
    · rename_i f h1 hrun
      obtain ⟨xs, k1, k2⟩ := Option.map_eq_some_iff.1 e
      injection k2 with k2 k3
      subst k2 k3
      exact hr _ _ _ _ _ _ _ _ hrun ⟨xs, k1, .inl ⟨rfl, rfl⟩⟩
    · cases e

theorem callX_sound (hm : P.prog.follows .mixedOrders = true) (ok : TOk P T) {run : RunT} (hr : SoundT P run)
    {g : AV} {args : List AV} {h : List AO} {x : AV} {h' : List AO} (e : callX T run g args h = some (x, h')) : ∃ fid first caps, g = .fn fid first caps ∧ WC P fid (nrmL first ++ (nrmL args ++ nrmL caps)) h fun r h2 => r = .ok x ∧ h2 = h' := by
  unfold callX at e
  split at e
  case h_2 => cases e
  rename_i fid first caps
  split at e
  · rename_i r hr'
    injection e with e
    subst e
    exact ⟨fid, first, caps, rfl, ok.hp _ (fun g args h x h' e => callC_sound hm ok hr e) _ _ _ _ _ hr'⟩
  · exact callC_sound hm ok hr e

theorem opX_sound (hm : P.prog.follows .mixedOrders = true) (ok : TOk P T) {run : RunT} (hr : SoundT P run)
    {f : Fr} {h : List AO} {op : AOper} {x : AV} {h' : List AO} (e : opX T run f h op = some (x, h')) : op1 P f h op fun r h2 => r = .ok x ∧ h2 = h' := by
  unfold opX at e
  split at e
  · rename_i hg
    refine .inl ⟨hg, ?_⟩
    split at e
    · rename_i o ho
      rw [ho]
      exact ⟨x, h', e, rfl, rfl⟩
    · rename_i g args ho
      rw [ho]
      exact callX_sound hm ok hr e
  · rename_i hg
    injection e with e
    injection e with e1 e2
    subst e1 e2
    exact .inr ⟨hg, rfl, rfl⟩
  · cases e
theorem op1_mono {f : Fr} {h : List AO} {op : AOper} {K K' : ARes → List AO → Prop} (k : op1 P f h op K) (hK : ∀ r h', K r h' → K' r h') : op1 P f h op K' := by
  rcases k with ⟨g, s⟩ | ⟨g, s⟩
  · refine .inl ⟨g, ?_⟩
    cases ho : op.op with
    | pl o => rw [ho] at s; obtain ⟨x, h', k1, k2⟩ := s; exact ⟨x, h', k1, hK _ _ k2⟩
    | call g args => rw [ho] at s; obtain ⟨fid, first, caps, k1, k2⟩ := s; exact ⟨fid, first, caps, k1, k2.mono hK⟩
  · exact .inr ⟨g, hK _ _ s⟩
theorem opsX_sound (hm : P.prog.follows .mixedOrders = true) (ok : TOk P T) {run : RunT} (hr : SoundT P run)
    {Q : QT} : ∀ (ops : List AOper) (f : Fr) (h : List AO) (f' : Fr) (h' : List AO) (K : Fr → List AO → Prop), opsX T run ops f h = some (f', h') → K f' h' → opsA P Q ops f h K
  | [], f, h, f', h', K, e, k => by injection e with e; injection e with e1 e2; subst e1 e2; exact k
  | op :: r, f, h, f', h', K, e, k => by
    simp only [opsX] at e
    split at e
    case h_2 => cases e
    rename_i x h1 hx
    refine op1_mono (opX_sound hm ok hr hx) ?_
    rintro _ _ ⟨rfl, rfl⟩
    exact opsX_sound hm ok hr r _ _ f' h' K e k
theorem trX_sound (hm : P.prog.follows .mixedOrders = true) (ok : TOk P T) {run : RunT} (hr : SoundT P run) :
    ∀ (ops : List AOper) (f : Fr) (h : List AO) (tr : List (Fr × List AO)) (f' : Fr) (h' : List AO), trX T run ops f h = some (tr, f', h') → Tr P ops f h tr f' h'
  | [], f, h, tr, f', h', e => by injection e with e; injection e with e1 e2; injection e2 with e2 e3; exact ⟨e1.symm, e2.symm, e3.symm⟩
  | op :: r, f, h, tr, f', h', e => by
    simp only [trX] at e
    split at e
    case h_2 => cases e
    rename_i x h1 hx
    split at e
    case h_2 => cases e
    rename_i tr' f2 h2 ht
    injection e with e; injection e with e1 e2; injection e2 with e2 e3
    subst e1 e2 e3
    exact ⟨x, h1, tr', opX_sound hm ok hr hx, rfl, trX_sound hm ok hr r _ _ _ _ _ ht⟩
theorem drawX_sound {ops : List AOper} {tr : List (Fr × List AO)} : ∀ {re : List (Nat × Nat)}, drawX ops tr re = true → DrawOk ops re tr
  | [], _, p, hp, _, _, _, _, _, _, _, _ => by simp at hp
  | (i, k) :: re, e, p, hp, o, Fi, Fk, Fk', h1, h2, h3, h4 => by
    simp only [drawX, Bool.and_eq_true] at e
    rcases List.mem_cons.1 hp with rfl | hp
    · simp only at h1 h2 h3 h4
      rw [h1, h2, h3, h4] at e
      simp only [Bool.and_eq_true] at e
      exact ⟨eq_of_beqO e.1.1, eq_of_beqO e.1.2⟩
    · exact drawX_sound e.2 p hp o Fi Fk Fk' h1 h2 h3 h4

theorem runX_sound (hm : P.prog.follows .mixedOrders = true) (ok : TOk P T) : ∀ n, SoundT P (runX T n) := by
  intro n
  induction n with
  | zero => intro c f h e f' h' h0 Q hrun; cases hrun
  | succ n ih =>
    intro c f h e f' h' h0 Q hrun q
    cases c with
    | skip => simp only [runX] at hrun; injection hrun with hrun; injection hrun with e1 e2; injection e2 with e2 e3; subst e1 e2 e3; exact q
    | reg ops keep =>
      simp only [runX] at hrun
      split at hrun
      case h_2 => cases hrun
      rename_i f1 h1 hx
      injection hrun with hrun; injection hrun with e1 e2; injection e2 with e2 e3; subst e1 e2 e3
      exact opsX_sound hm ok ih ops f h f1 h1 _ hx q
    | regD ops re keep =>
      simp only [runX] at hrun
      split at hrun
      case h_2 => cases hrun
      rename_i tr f1 h1 hx
      split at hrun
      case isFalse => cases hrun
      rename_i hd
      injection hrun with hrun; injection hrun with e1 e2; injection e2 with e2 e3; subst e1 e2 e3
      exact ⟨tr, f1, h1, trX_sound hm ok ih ops f h tr f1 h1 hx, drawX_sound hd, q⟩
    | seq a b =>
      simp only [runX] at hrun
      split at hrun
      · rename_i f1 h1 hx
        exact ih a f h _ f1 h1 h0 _ hx (ih b f1 h1 e f' h' h0 Q hrun q)
      · rename_i hx
        refine ih a f h e f' h' h0 _ hrun ?_
        cases e with
        | normal => exact absurd hrun (hx _ _)
        | _ => exact q
    | cond c a b =>
      simp only [runX] at hrun
      split at hrun
      · rename_i hc; exact ⟨true, hc, ih a f h e f' h' h0 Q hrun q⟩
      · rename_i hc; exact ⟨false, hc, ih b f h e f' h' h0 Q hrun q⟩
      · cases hrun
    | block id a =>
      simp only [runX] at hrun
      split at hrun
      · rename_i i f1 h1 hx
        refine ih a f h _ f1 h1 h0 _ hx ?_
        simp only [blockA]
        split at hrun
        · rename_i hi
          injection hrun with hrun; injection hrun with e1 e2; injection e2 with e2 e3; subst e1 e2 e3
          rw [if_pos hi]; exact q
        · rename_i hi
          injection hrun with hrun; injection hrun with e1 e2; injection e2 with e2 e3; subst e1 e2 e3
          rw [if_neg hi]; exact q
      · rename_i hx
        refine ih a f h e f' h' h0 _ hrun ?_
        cases e with
        | exit i => exact absurd hrun (hx _ _ _)
        | _ => exact q
    | loop keep a =>
      simp only [runX] at hrun
      split at hrun
      · rename_i f1 h1 hx
        refine .mk f h (fun f2 h2 => f2 = f1 ∧ h2 = h1) ?_ (ih a _ h _ f1 h1 h0 _ hx ⟨rfl, rfl⟩)
        rintro _ _ ⟨rfl, rfl⟩
        exact ih (.loop keep a) _ _ e f' h' h0 Q hrun q
      · rename_i hx
        refine .mk f h (fun _ _ => False) (fun _ _ k => k.elim) (ih a _ h e f' h' h0 _ hrun ?_)
        cases e with
        | normal => exact absurd hrun (hx _ _)
        | _ => exact q
    | exit id => simp only [runX] at hrun; injection hrun with hrun; injection hrun with e1 e2; injection e2 with e2 e3; subst e1 e2 e3; exact q
    | fail => cases hrun
    | ret => simp only [runX] at hrun; injection hrun with hrun; injection hrun with e1 e2; injection e2 with e2 e3; subst e1 e2 e3; exact q

/-- What needs no objects does the same whatever objects there are. -/
theorem WC_closed {g : FuncId} {b : Bool} (H : WC P g [] [] fun r _ => r = .ok (.bool b)) {h : List AO} {K : ARes → List AO → Prop} (k : K (.ok (.bool b)) h) : WC P g [] h K := by
  intro φ w S vs V M R
  have M0 : Sim [] φ w S := ⟨fun i o e => by simp at e, fun i j oi oj e => by simp at e, M.stab⟩
  have R0 : Rels [] φ w S [] vs := ⟨R.1, fun j x v e => by simp at e⟩
  have conv : ∀ e w', Post [] φ w S (fun r _ => r = .ok (.bool b)) e w' → Post h φ w S K e w' := by
    intro e w' p
    cases e with
    | returned v =>
      obtain ⟨x, h', φ', S', ex, M', E, r⟩ := p
      injection ex with ex
      subst ex
      have E2 : Ext h φ w S h φ w' S :=
        { len := Nat.le_refl _, stab := fun _ _ x => x, cell := E.cell, same := fun i hi => ⟨hi, rfl⟩, tok := fun i e sz n hi _ => .inl ⟨hi, rfl⟩, live := fun i o ho hd => .inl ⟨o, ho, hd, rfl⟩,
          frame := fun c hc _ => E.frame c hc (fun i o e => by simp at e), os := E.os, tape := E.tape, output := E.output, size := E.size, news := fun _ _ k => .inl k }
      refine ⟨.bool b, h, φ, S, k, ⟨fun i o ho => ?_, M.inj, fun c o hs => Nat.lt_of_lt_of_le (M.stab c o hs) E.size⟩, E2, ?_⟩
      · cases hd : o.isDead with
        | true => cases o <;> simp [AO.isDead] at hd; trivial
        | false => exact (M.obj i o ho).mono E2 (E.frame _ ((M.obj i o ho).lt hd) (fun i o e => by simp at e)) (fun j x => x)
      · cases r; exact .bool true b
    | panicked c => obtain ⟨x, v, h', φ', S', _, e, _⟩ := p; cases e
    | outgrown => exact p
  rcases H φ w S vs V M0 R0 with ⟨k1, k2⟩ | ⟨v, w', k1, k2⟩
  · exact .inl ⟨k1, k2.mono fun e w' p => conv e w' p⟩
  · exact .inr ⟨v, w', k1, conv _ _ k2⟩

/-- A function of nothing, run. -/
def closedX (T : Tab) (n : Nat) (g : FuncId) (b : Bool) : Bool :=
  match callX T (runX T n) (.fn g [] []) [] [] with
  | some (.bool c, _) => c == b
  | _ => false
theorem WC_runT (hm : P.prog.follows .mixedOrders = true) {T : Tab} (ok : TOk P T) (n : Nat) {g : FuncId} {b : Bool} (e : closedX T n g b = true) {h : List AO} {K : ARes → List AO → Prop} (k : K (.ok (.bool b)) h) : WC P g [] h K := by
  unfold closedX at e
  split at e
  case h_2 => cases e
  rename_i c h' hc
  obtain rfl := eq_of_beq e
  obtain ⟨fid, first, caps, e1, e2⟩ := callX_sound hm ok (runX_sound hm ok n) hc
  injection e1 with e1 e3 e4
  subst e1 e3 e4
  exact WC_closed (WC.mono e2 fun r h2 q => q.1) k
/-- Nothing that calls what it is given. -/
def noHp : CallT → FuncId → List AV → List AO → Option (AV × List AO) := fun _ _ _ _ => none
theorem noHp_ok : ∀ rc, SoundC P rc → ∀ g xs h x h', noHp rc g xs h = some (x, h') → WC P g xs h fun r h2 => r = .ok x ∧ h2 = h' := by
  intro rc _ g xs h x h' e; cases e
theorem WC_run (hm : P.prog.follows .mixedOrders = true) {l : List (FuncId × AFun)} (hl : tabOk P.prog l) {prim : FuncId → List AV → List AO → Option (AV × List AO)} (hp : ∀ g xs h x h', prim g xs h = some (x, h') → WC P g xs h fun r h2 => r = .ok x ∧ h2 = h')
    (n : Nat) {g : FuncId} {b : Bool} (e : closedX ⟨fun i => lookF i l, prim, noHp⟩ n g b = true) {h : List AO} {K : ARes → List AO → Prop} (k : K (.ok (.bool b)) h) : WC P g [] h K :=
  WC_runT hm ⟨fun g F hF => tabOk_look hl hF, hp, noHp_ok⟩ n e k
def noPrim : FuncId → List AV → List AO → Option (AV × List AO) := fun _ _ _ => none
theorem noPrim_ok : ∀ g xs h x h', noPrim g xs h = some (x, h') → WC P g xs h fun r h2 => r = .ok x ∧ h2 = h' := by
  intro g xs h x h' e; cases e
end
end Go.Eng
