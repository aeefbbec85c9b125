/- YtjljhmeadfejhaaGreatME4: texts of this claim, merged. -/
import Derived.Test.YtjljhmeadfejhaaGreatME3
import Derived.Laws.LoneSync
import Derived.Defers
import Derived.Shelf.SlicesE.Clone
import Derived.Shelf.RegionOpenPlain
import Derived.Deep.LoopGhost
import Derived.Lib.Walk
import Derived.Lib.SliceRun
/- The engine, part 24: closed code, run by the kernel. -/
set_option linter.unusedVariables false
set_option linter.unusedSimpArgs false
namespace Go.Eng

mutual
def AV.beq : AV → AV → Bool
  | .undef, .undef => true
  | .bool a, .bool b => a == b
  | .int k a, .int k' b => decide (k = k') && decide (a = b)
  | .str a, .str b => decide (a = b)
  | .nilp, .nilp => true
  | .ptr i o, .ptr i' o' => i == i' && o == o'
  | .rptr l, .rptr l' => beqL l l'
  | .esl, .esl => true
  | .rsl l, .rsl l' => beqL l l'
  | .osl t l, .osl t' l' => t == t' && beqL l l'
  | .msl a b c d, .msl a' b' c' d' => a == a' && b == b' && c == c' && d == d'
  | .nilmap, .nilmap => true
  | .map i, .map j => i == j
  | .fn g a b, .fn g' a' b' => g == g' && beqL a a' && beqL b b'
  | .nilfn, .nilfn => true
  | .iface t x, .iface t' x' => t == t' && AV.beq x x'
  | .nilif, .nilif => true
  | .agg l, .agg l' => beqL l l'
  | .tup l, .tup l' => beqL l l'
  | _, _ => false
def beqL : List AV → List AV → Bool
  | [], [] => true
  | x :: l, y :: l' => AV.beq x y && beqL l l'
  | _, _ => false
end
mutual
theorem AV.eq_of_beq : ∀ (x y : AV), AV.beq x y = true → x = y := by
  intro x y e
  cases x with
  | rptr l => cases y <;> simp only [AV.beq, Bool.false_eq_true] at e; rw [eq_of_beqL _ _ e]
  | rsl l => cases y <;> simp only [AV.beq, Bool.false_eq_true] at e; rw [eq_of_beqL _ _ e]
  | osl t l => cases y <;> simp only [AV.beq, Bool.false_eq_true, Bool.and_eq_true, beq_iff_eq] at e; rw [e.1, eq_of_beqL _ _ e.2]
  | fn g a b => cases y <;> simp only [AV.beq, Bool.false_eq_true, Bool.and_eq_true, beq_iff_eq] at e; rw [e.1.1, eq_of_beqL _ _ e.1.2, eq_of_beqL _ _ e.2]
  | iface t x => cases y <;> simp only [AV.beq, Bool.false_eq_true, Bool.and_eq_true, beq_iff_eq] at e; rw [e.1, AV.eq_of_beq _ _ e.2]
  | agg l => cases y <;> simp only [AV.beq, Bool.false_eq_true] at e; rw [eq_of_beqL _ _ e]
  | tup l => cases y <;> simp only [AV.beq, Bool.false_eq_true] at e; rw [eq_of_beqL _ _ e]
  | _ => cases y <;> simp_all [AV.beq]
theorem eq_of_beqL : ∀ (x y : List AV), beqL x y = true → x = y := by
  intro x y e
  cases x with
  | nil => cases y <;> simp_all [beqL]
  | cons a l =>
    cases y with
    | nil => simp [beqL] at e
    | cons b l' =>
      simp only [beqL, Bool.and_eq_true] at e
      rw [AV.eq_of_beq _ _ e.1, eq_of_beqL _ _ e.2]
end
def beqO : Option AV → Option AV → Bool
  | none, none => true
  | some x, some y => x.beq y
  | _, _ => false
theorem eq_of_beqO {x y : Option AV} (e : beqO x y = true) : x = y := by
  cases x <;> cases y <;> simp only [beqO, Bool.false_eq_true] at e
  · rfl
  · rw [AV.eq_of_beq _ _ e]

/-- Functions that are compiled; functions that are known otherwise. -/
abbrev CallT := AV → List AV → List AO → Option (AV × List AO)
structure Tab where
  fn : FuncId → Option AFun
  prim : FuncId → List AV → List AO → Option (AV × List AO)
  hp : CallT → FuncId → List AV → List AO → Option (AV × List AO)
def lookF (g : FuncId) : List (FuncId × AFun) → Option AFun
  | [] => none
  | (i, F) :: l => if Nat.beq g i then some F else lookF g l
def tabOk (P : Program) : List (FuncId × AFun) → Prop
  | [] => True
  | (i, F) :: l => compF P i = some F ∧ tabOk P l
theorem tabOk_look {P : Program} {g : FuncId} {F : AFun} : ∀ {l : List (FuncId × AFun)}, tabOk P l → lookF g l = some F → compF P g = some F
  | [], _, e => by cases e
  | (i, G) :: l, ok, e => by
    simp only [lookF] at e
    split at e
    · rename_i hb
      injection e with e
      subst e
      rw [Nat.eq_of_beq_eq_true hb]; exact ok.1
    · exact tabOk_look ok.2 e

abbrev RunT := AC → Fr → List AO → Option (AX × Fr × List AO)
def callC (T : Tab) (run : RunT) (g : AV) (args : List AV) (h : List AO) : Option (AV × List AO) :=
  match g with
  | .fn fid first caps => match T.prim fid (nrmL first ++ (nrmL args ++ nrmL caps)) h with
    | some r => some r
    | none => match T.fn fid with
      | none => none
      | some F => if (nrmL first ++ (nrmL args ++ nrmL caps)).length ≤ F.nt then
          match run F.body (argF 0 (nrmL first ++ (nrmL args ++ nrmL caps))) h with
          | some (.normal, f, h') => (evRVs f h' F.res).map fun xs => (packR xs, h')
          | some (.ret, f, h') => (evRVs f h' F.res).map fun xs => (packR xs, h')
          | _ => none
        else none
  | _ => none
def callX (T : Tab) (run : RunT) (g : AV) (args : List AV) (h : List AO) : Option (AV × List AO) :=
  match g with
  | .fn fid first caps => match T.hp (callC T run) fid (nrmL first ++ (nrmL args ++ nrmL caps)) h with
    | some r => some r
    | none => callC T run g args h
  | _ => none
def opX (T : Tab) (run : RunT) (f : Fr) (h : List AO) (op : AOper) : Option (AV × List AO) :=
  match gd f op.guard with
  | some true => match op.op with
    | .pl o => evP f h o
    | .call g args => callX T run (ev f g) (args.map (ev f)) h
  | some false => some (.tup [], h)
  | none => none
def opsX (T : Tab) (run : RunT) : List AOper → Fr → List AO → Option (Fr × List AO)
  | [], f, h => some (f, h)
  | op :: r, f, h => match opX T run f h op with
    | some (x, h') => opsX T run r (put f op.dst x) h'
    | none => none
def trX (T : Tab) (run : RunT) : List AOper → Fr → List AO → Option (List (Fr × List AO) × Fr × List AO)
  | [], f, h => some ([(f, h)], f, h)
  | op :: r, f, h => match opX T run f h op with
    | some (x, h') => match trX T run r (put f op.dst x) h' with
      | some (tr, f', h'') => some ((f, h) :: tr, f', h'')
      | none => none
    | none => none
def drawX (ops : List AOper) (tr : List (Fr × List AO)) : List (Nat × Nat) → Bool
  | [] => true
  | (i, k) :: re => (match ops[i]?, tr[i]?, tr[k]?, tr[k + 1]? with
    | some o, some Fi, some Fk, some Fk' => beqO (valOf Fi.1 Fk.2 o) (valOf Fi.1 Fi.2 o) && beqO (valOf Fi.1 Fk'.2 o) (valOf Fi.1 Fi.2 o)
    | _, _, _, _ => true) && drawX ops tr re
/-- Running code, with fuel. -/
def runX (T : Tab) : Nat → RunT
  | 0, _, _, _ => none
  | n + 1, c, f, h => match c with
    | .skip => some (.normal, f, h)
    | .reg ops keep => match opsX T (runX T n) ops f h with
      | some (f', h') => some (.normal, keepF keep f', h')
      | none => none
    | .regD ops re keep => match trX T (runX T n) ops f h with
      | some (tr, f', h') => if drawX ops tr re then some (.normal, keepF keep f', h') else none
      | none => none
    | .seq a b => match runX T n a f h with
      | some (.normal, f', h') => runX T n b f' h'
      | r => r
    | .cond c a b => match ev f c with
      | .bool true => runX T n a f h
      | .bool false => runX T n b f h
      | _ => none
    | .block id a => match runX T n a f h with
      | some (.exit i, f', h') => if i = id then some (.normal, f', h') else some (.exit i, f', h')
      | r => r
    | .loop keep a => match runX T n a (keepF keep f) h with
      | some (.normal, f', h') => runX T n (.loop keep a) f' h'
      | r => r
    | .exit id => some (.exit id, f, h)
    | .ret => some (.ret, f, h)
    | .fail => none

section
variable {P : Pg} {T : Tab}
def SoundT (P : Pg) (run : RunT) : Prop := ∀ (c : AC) (f : Fr) (h : List AO) (e : AX) (f' : Fr) (h' h0 : List AO) (Q : QT), run c f h = some (e, f', h') → Q e f' h' → wpA P h0 c Q f h

def SoundC (P : Pg) (rc : CallT) : Prop := ∀ (g : AV) (args : List AV) (h : List AO) (x : AV) (h' : List AO), rc g args h = some (x, h') → ∃ fid first caps, g = .fn fid first caps ∧ WC P fid (nrmL first ++ (nrmL args ++ nrmL caps)) h fun r h2 => r = .ok x ∧ h2 = h'
structure TOk (P : Pg) (T : Tab) : Prop where
  fn : ∀ g F, T.fn g = some F → compF P.prog g = some F
  prim : ∀ g xs h x h', T.prim g xs h = some (x, h') → WC P g xs h fun r h2 => r = .ok x ∧ h2 = h'
  hp : ∀ rc, SoundC P rc → ∀ g xs h x h', T.hp rc g xs h = some (x, h') → WC P g xs h fun r h2 => r = .ok x ∧ h2 = h'

theorem callC_sound (hm : P.prog.follows .mixedOrders = true) (ok : TOk P T) {run : RunT} (hr : SoundT P run)
    {g : AV} {args : List AV} {h : List AO} {x : AV} {h' : List AO} (e : callC T run g args h = some (x, h')) : ∃ fid first caps, g = .fn fid first caps ∧ WC P fid (nrmL first ++ (nrmL args ++ nrmL caps)) h fun r h2 => r = .ok x ∧ h2 = h' := by
  unfold callC at e
  split at e
  case h_2 => cases e
  rename_i fid first caps
  refine ⟨fid, first, caps, rfl, ?_⟩
  split at e
  · rename_i r hr'
    injection e with e
    subst e
    exact ok.prim _ _ _ _ _ hr'
  · split at e
    · cases e
    rename_i F hF
    split at e
    case isFalse => cases e
    rename_i hlen
    refine WC_of_body hm (compF_sound (ok.fn _ _ hF)) hlen ?_
    split at e
    · rename_i f h1 hrun
      obtain ⟨xs, k1, k2⟩ := Option.map_eq_some_iff.1 e
      injection k2 with k2 k3
      subst k2 k3
      exact hr _ _ _ _ _ _ _ _ hrun ⟨xs, k1, .inl ⟨rfl, rfl⟩⟩
    · rename_i f h1 hrun
      obtain ⟨xs, k1, k2⟩ := Option.map_eq_some_iff.1 e
      injection k2 with k2 k3
      subst k2 k3
      exact hr _ _ _ _ _ _ _ _ hrun ⟨xs, k1, .inl ⟨rfl, rfl⟩⟩
    · cases e

theorem callX_sound (hm : P.prog.follows .mixedOrders = true) (ok : TOk P T) {run : RunT} (hr : SoundT P run)
    {g : AV} {args : List AV} {h : List AO} {x : AV} {h' : List AO} (e : callX T run g args h = some (x, h')) : ∃ fid first caps, g = .fn fid first caps ∧ WC P fid (nrmL first ++ (nrmL args ++ nrmL caps)) h fun r h2 => r = .ok x ∧ h2 = h' := by
  unfold callX at e
  split at e
  case h_2 => cases e
  rename_i fid first caps
  split at e
  · rename_i r hr'
    injection e with e
    subst e
    exact ⟨fid, first, caps, rfl, ok.hp _ (fun g args h x h' e => callC_sound hm ok hr e) _ _ _ _ _ hr'⟩
  · exact callC_sound hm ok hr e

theorem opX_sound (hm : P.prog.follows .mixedOrders = true) (ok : TOk P T) {run : RunT} (hr : SoundT P run)
    {f : Fr} {h : List AO} {op : AOper} {x : AV} {h' : List AO} (e : opX T run f h op = some (x, h')) : op1 P f h op fun r h2 => r = .ok x ∧ h2 = h' := by
  unfold opX at e
  split at e
  · rename_i hg
    refine .inl ⟨hg, ?_⟩
    split at e
    · rename_i o ho
      rw [ho]
      exact ⟨x, h', e, rfl, rfl⟩
    · rename_i g args ho
      rw [ho]
      exact callX_sound hm ok hr e
  · rename_i hg
    injection e with e
    injection e with e1 e2
    subst e1 e2
    exact .inr ⟨hg, rfl, rfl⟩
  · cases e
theorem op1_mono {f : Fr} {h : List AO} {op : AOper} {K K' : ARes → List AO → Prop} (k : op1 P f h op K) (hK : ∀ r h', K r h' → K' r h') : op1 P f h op K' := by
  rcases k with ⟨g, s⟩ | ⟨g, s⟩
  · refine .inl ⟨g, ?_⟩
    cases ho : op.op with
    | pl o => rw [ho] at s; obtain ⟨x, h', k1, k2⟩ := s; exact ⟨x, h', k1, hK _ _ k2⟩
    | call g args => rw [ho] at s; obtain ⟨fid, first, caps, k1, k2⟩ := s; exact ⟨fid, first, caps, k1, k2.mono hK⟩
  · exact .inr ⟨g, hK _ _ s⟩
theorem opsX_sound (hm : P.prog.follows .mixedOrders = true) (ok : TOk P T) {run : RunT} (hr : SoundT P run)
    {Q : QT} : ∀ (ops : List AOper) (f : Fr) (h : List AO) (f' : Fr) (h' : List AO) (K : Fr → List AO → Prop), opsX T run ops f h = some (f', h') → K f' h' → opsA P Q ops f h K
  | [], f, h, f', h', K, e, k => by injection e with e; injection e with e1 e2; subst e1 e2; exact k
  | op :: r, f, h, f', h', K, e, k => by
    simp only [opsX] at e
    split at e
    case h_2 => cases e
    rename_i x h1 hx
    refine op1_mono (opX_sound hm ok hr hx) ?_
    rintro _ _ ⟨rfl, rfl⟩
    exact opsX_sound hm ok hr r _ _ f' h' K e k
theorem trX_sound (hm : P.prog.follows .mixedOrders = true) (ok : TOk P T) {run : RunT} (hr : SoundT P run) :
    ∀ (ops : List AOper) (f : Fr) (h : List AO) (tr : List (Fr × List AO)) (f' : Fr) (h' : List AO), trX T run ops f h = some (tr, f', h') → Tr P ops f h tr f' h'
  | [], f, h, tr, f', h', e => by injection e with e; injection e with e1 e2; injection e2 with e2 e3; exact ⟨e1.symm, e2.symm, e3.symm⟩
  | op :: r, f, h, tr, f', h', e => by
    simp only [trX] at e
    split at e
    case h_2 => cases e
    rename_i x h1 hx
    split at e
    case h_2 => cases e
    rename_i tr' f2 h2 ht
    injection e with e; injection e with e1 e2; injection e2 with e2 e3
    subst e1 e2 e3
    exact ⟨x, h1, tr', opX_sound hm ok hr hx, rfl, trX_sound hm ok hr r _ _ _ _ _ ht⟩
theorem drawX_sound {ops : List AOper} {tr : List (Fr × List AO)} : ∀ {re : List (Nat × Nat)}, drawX ops tr re = true → DrawOk ops re tr
  | [], _, p, hp, _, _, _, _, _, _, _, _ => by simp at hp
  | (i, k) :: re, e, p, hp, o, Fi, Fk, Fk', h1, h2, h3, h4 => by
    simp only [drawX, Bool.and_eq_true] at e
    rcases List.mem_cons.1 hp with rfl | hp
    · simp only at h1 h2 h3 h4
      rw [h1, h2, h3, h4] at e
      simp only [Bool.and_eq_true] at e
      exact ⟨eq_of_beqO e.1.1, eq_of_beqO e.1.2⟩
    · exact drawX_sound e.2 p hp o Fi Fk Fk' h1 h2 h3 h4

theorem runX_sound (hm : P.prog.follows .mixedOrders = true) (ok : TOk P T) : ∀ n, SoundT P (runX T n) := by
  intro n
  induction n with
  | zero => intro c f h e f' h' h0 Q hrun; cases hrun
  | succ n ih =>
    intro c f h e f' h' h0 Q hrun q
    cases c with
    | skip => simp only [runX] at hrun; injection hrun with hrun; injection hrun with e1 e2; injection e2 with e2 e3; subst e1 e2 e3; exact q
    | reg ops keep =>
      simp only [runX] at hrun
      split at hrun
      case h_2 => cases hrun
      rename_i f1 h1 hx
      injection hrun with hrun; injection hrun with e1 e2; injection e2 with e2 e3; subst e1 e2 e3
      exact opsX_sound hm ok ih ops f h f1 h1 _ hx q
    | regD ops re keep =>
      simp only [runX] at hrun
      split at hrun
      case h_2 => cases hrun
      rename_i tr f1 h1 hx
      split at hrun
      case isFalse => cases hrun
      rename_i hd
      injection hrun with hrun; injection hrun with e1 e2; injection e2 with e2 e3; subst e1 e2 e3
      exact ⟨tr, f1, h1, trX_sound hm ok ih ops f h tr f1 h1 hx, drawX_sound hd, q⟩
    | seq a b =>
      simp only [runX] at hrun
      split at hrun
      · rename_i f1 h1 hx
        exact ih a f h _ f1 h1 h0 _ hx (ih b f1 h1 e f' h' h0 Q hrun q)
      · rename_i hx
        refine ih a f h e f' h' h0 _ hrun ?_
        cases e with
        | normal => exact absurd hrun (hx _ _)
        | _ => exact q
    | cond c a b =>
      simp only [runX] at hrun
      split at hrun
      · rename_i hc; exact ⟨true, hc, ih a f h e f' h' h0 Q hrun q⟩
      · rename_i hc; exact ⟨false, hc, ih b f h e f' h' h0 Q hrun q⟩
      · cases hrun
    | block id a =>
      simp only [runX] at hrun
      split at hrun
      · rename_i i f1 h1 hx
        refine ih a f h _ f1 h1 h0 _ hx ?_
        simp only [blockA]
        split at hrun
        · rename_i hi
          injection hrun with hrun; injection hrun with e1 e2; injection e2 with e2 e3; subst e1 e2 e3
          rw [if_pos hi]; exact q
        · rename_i hi
          injection hrun with hrun; injection hrun with e1 e2; injection e2 with e2 e3; subst e1 e2 e3
          rw [if_neg hi]; exact q
      · rename_i hx
        refine ih a f h e f' h' h0 _ hrun ?_
        cases e with
        | exit i => exact absurd hrun (hx _ _ _)
        | _ => exact q
    | loop keep a =>
      simp only [runX] at hrun
      split at hrun
      · rename_i f1 h1 hx
        refine .mk f h (fun f2 h2 => f2 = f1 ∧ h2 = h1) ?_ (ih a _ h _ f1 h1 h0 _ hx ⟨rfl, rfl⟩)
        rintro _ _ ⟨rfl, rfl⟩
        exact ih (.loop keep a) _ _ e f' h' h0 Q hrun q
      · rename_i hx
        refine .mk f h (fun _ _ => False) (fun _ _ k => k.elim) (ih a _ h e f' h' h0 _ hrun ?_)
        cases e with
        | normal => exact absurd hrun (hx _ _)
        | _ => exact q
    | exit id => simp only [runX] at hrun; injection hrun with hrun; injection hrun with e1 e2; injection e2 with e2 e3; subst e1 e2 e3; exact q
    | fail => cases hrun
    | ret => simp only [runX] at hrun; injection hrun with hrun; injection hrun with e1 e2; injection e2 with e2 e3; subst e1 e2 e3; exact q

/-- What needs no objects does the same whatever objects there are. -/
theorem WC_closed {g : FuncId} {b : Bool} (H : WC P g [] [] fun r _ => r = .ok (.bool b)) {h : List AO} {K : ARes → List AO → Prop} (k : K (.ok (.bool b)) h) : WC P g [] h K := by
  intro φ w S vs V M R
  have M0 : Sim [] φ w S := ⟨fun i o e => by simp at e, fun i j oi oj e => by simp at e, M.stab⟩
  have R0 : Rels [] φ w S [] vs := ⟨R.1, fun j x v e => by simp at e⟩
  have conv : ∀ e w', Post [] φ w S (fun r _ => r = .ok (.bool b)) e w' → Post h φ w S K e w' := by
    intro e w' p
    cases e with
    | returned v =>
      obtain ⟨x, h', φ', S', ex, M', E, r⟩ := p
      injection ex with ex
      subst ex
      have E2 : Ext h φ w S h φ w' S :=
        { len := Nat.le_refl _, stab := fun _ _ x => x, cell := E.cell, same := fun i hi => ⟨hi, rfl⟩, tok := fun i e sz n hi _ => .inl ⟨hi, rfl⟩, live := fun i o ho hd => .inl ⟨o, ho, hd, rfl⟩,
          frame := fun c hc _ => E.frame c hc (fun i o e => by simp at e), os := E.os, tape := E.tape, output := E.output, size := E.size, news := fun _ _ k => .inl k }
      refine ⟨.bool b, h, φ, S, k, ⟨fun i o ho => ?_, M.inj, fun c o hs => Nat.lt_of_lt_of_le (M.stab c o hs) E.size⟩, E2, ?_⟩
      · cases hd : o.isDead with
        | true => cases o <;> simp [AO.isDead] at hd; trivial
        | false => exact (M.obj i o ho).mono E2 (E.frame _ ((M.obj i o ho).lt hd) (fun i o e => by simp at e)) (fun j x => x)
      · cases r; exact .bool true b
    | panicked c => obtain ⟨x, v, h', φ', S', _, e, _⟩ := p; cases e
    | outgrown => exact p
  rcases H φ w S vs V M0 R0 with ⟨k1, k2⟩ | ⟨v, w', k1, k2⟩
  · exact .inl ⟨k1, k2.mono fun e w' p => conv e w' p⟩
  · exact .inr ⟨v, w', k1, conv _ _ k2⟩

/-- A function of nothing, run. -/
def closedX (T : Tab) (n : Nat) (g : FuncId) (b : Bool) : Bool :=
  match callX T (runX T n) (.fn g [] []) [] [] with
  | some (.bool c, _) => c == b
  | _ => false
theorem WC_runT (hm : P.prog.follows .mixedOrders = true) {T : Tab} (ok : TOk P T) (n : Nat) {g : FuncId} {b : Bool} (e : closedX T n g b = true) {h : List AO} {K : ARes → List AO → Prop} (k : K (.ok (.bool b)) h) : WC P g [] h K := by
  unfold closedX at e
  split at e
  case h_2 => cases e
  rename_i c h' hc
  obtain rfl := eq_of_beq e
  obtain ⟨fid, first, caps, e1, e2⟩ := callX_sound hm ok (runX_sound hm ok n) hc
  injection e1 with e1 e3 e4
  subst e1 e3 e4
  exact WC_closed (WC.mono e2 fun r h2 q => q.1) k
/-- Nothing that calls what it is given. -/
def noHp : CallT → FuncId → List AV → List AO → Option (AV × List AO) := fun _ _ _ _ => none
theorem noHp_ok : ∀ rc, SoundC P rc → ∀ g xs h x h', noHp rc g xs h = some (x, h') → WC P g xs h fun r h2 => r = .ok x ∧ h2 = h' := by
  intro rc _ g xs h x h' e; cases e
theorem WC_run (hm : P.prog.follows .mixedOrders = true) {l : List (FuncId × AFun)} (hl : tabOk P.prog l) {prim : FuncId → List AV → List AO → Option (AV × List AO)} (hp : ∀ g xs h x h', prim g xs h = some (x, h') → WC P g xs h fun r h2 => r = .ok x ∧ h2 = h')
    (n : Nat) {g : FuncId} {b : Bool} (e : closedX ⟨fun i => lookF i l, prim, noHp⟩ n g b = true) {h : List AO} {K : ARes → List AO → Prop} (k : K (.ok (.bool b)) h) : WC P g [] h K :=
  WC_runT hm ⟨fun g F hF => tabOk_look hl hF, hp, noHp_ok⟩ n e k
def noPrim : FuncId → List AV → List AO → Option (AV × List AO) := fun _ _ _ => none
theorem noPrim_ok : ∀ g xs h x h', noPrim g xs h = some (x, h') → WC P g xs h fun r h2 => r = .ok x ∧ h2 = h' := by
  intro g xs h x h' e; cases e
end
end Go.Eng

/- The engine, part 25: loops over a number; forgetting, more. -/
set_option linter.unusedVariables false
set_option linter.unusedSimpArgs false
namespace Go.Eng
mutual
theorem AV.bel_mono {n m : Nat} (hnm : n ≤ m) : ∀ (x : AV), x.bel n = true → x.bel m = true := by
  intro x e
  cases x with
  | agg l => simp only [AV.bel] at e ⊢; exact belL_mono hnm l e
  | tup l => simp only [AV.bel] at e ⊢; exact belL_mono hnm l e
  | iface t x => simp only [AV.bel] at e ⊢; exact AV.bel_mono hnm x e
  | fn g a b => simp only [AV.bel, Bool.and_eq_true] at e ⊢; exact ⟨belL_mono hnm a e.1, belL_mono hnm b e.2⟩
  | _ => simp_all [AV.bel] <;> omega
theorem belL_mono {n m : Nat} (hnm : n ≤ m) : ∀ (l : List AV), belL n l = true → belL m l = true := by
  intro l e
  cases l with
  | nil => rfl
  | cons x l => simp only [belL, Bool.and_eq_true] at e ⊢; exact ⟨AV.bel_mono hnm x e.1, belL_mono hnm l e.2⟩
end
theorem AO.bel_mono {n m : Nat} (hnm : n ≤ m) : ∀ (o : AO), o.bel n = true → o.bel m = true := by
  intro o e
  cases o with
  | box cs => exact belL_mono hnm cs e
  | map es => simp only [AO.bel, List.all_eq_true] at e ⊢; exact fun x hx => AV.bel_mono hnm _ (e x hx)
  | _ => rfl
theorem all_bel_mono {n m : Nat} (hnm : n ≤ m) {l : List AO} (e : l.all (AO.bel n) = true) : l.all (AO.bel m) = true := by
  rw [List.all_eq_true] at e ⊢
  exact fun o ho => AO.bel_mono hnm o (e o ho)

/-- A register is given another value, where it stands. -/
def setF : Fr → Nat → AV → Fr
  | [], _, _ => []
  | (j, y) :: f, i, x => if i = j then (j, x) :: f else (j, y) :: setF f i x
@[simp] theorem setF_nil {i : Nat} {x : AV} : setF [] i x = [] := rfl
@[simp] theorem setF_cons {i j : Nat} {x y : AV} {f : Fr} : setF ((j, y) :: f) i x = if i = j then (j, x) :: f else (j, y) :: setF f i x := rfl

section
variable {C : Ctx} {k : List KI} {keep : List Nat} {a : AC} {f : Fr} {h : List AO}
theorem lp_indE {ι : Type} (Inv : ι → Prop) (μ : ι → Nat) (F : ι → Fr) (H : ι → List AO)
    (step : ∀ i, Inv i → (∀ j, Inv j → μ j < μ i → LP C keep a k (F j) (H j)) → R C a (.lp keep a :: k) (keepF keep (F i)) (H i)) (i : ι) (hi : Inv i) (hf : F i = f) (hh : H i = h) : LP C keep a k f h := by
  subst hf hh
  exact lp_ind Inv μ F H step i hi
/-- A loop over a number that grows up to n. -/
theorem lp_for (n : Nat) (Inv : Nat → Prop) (G : Nat → Fr → Fr) (H : Nat → List AO)
    (step : ∀ i, i ≤ n → Inv i → (i + 1 ≤ n → Inv (i + 1) → LP C keep a k (G (i + 1) f) (H (i + 1))) → R C a (.lp keep a :: k) (keepF keep (G i f)) (H i)) (hi : Inv 0) (hf : G 0 f = f) (hh : H 0 = h) : LP C keep a k f h :=
  lp_indE (ι := Nat) (fun i => i ≤ n ∧ Inv i) (fun i => n - i) (fun i => G i f) H (fun i ⟨h1, h2⟩ ih => step i h1 h2 fun h3 h4 => ih (i + 1) ⟨h3, h4⟩ (by omega)) 0 ⟨by omega, hi⟩ hf hh
end
theorem lp_cutA {P : Pg} {h l A B : List AO} {res : List ARV} {K : ARes → List AO → Prop} {keep : List Nat} {a : AC} {k : List KI} {f f' : Fr} (e : l = A ++ B) (H : A.all (AO.bel (h.length + A.length)) = true)
    (hf : outF (h.length + A.length) (h ++ l) 3 (keepF keep f) = some f') (L : LP ⟨P, h, res, K⟩ keep a k f' (h ++ A)) : LP ⟨P, h, res, K⟩ keep a k f (h ++ l) := by
  subst e
  exact lp_cut A.length (by rw [List.take_left]; exact H) hf (by rw [List.take_left]; exact L)
/-- Code is opened where it is run, and nowhere else. -/
theorem uf {C : Ctx} {k : List KI} {f : Fr} {h : List AO} {c c' : AC} (e : c = c') : R C c k f h = R C c' k f h := by rw [e]
theorem wrap_succ {i : Nat} (hi : i < 9223372036854775807) : IntKind.i64.wrap ((i : Int) + 1) = ((i + 1 : Nat) : Int) := by
  rw [wrap_i64 _ (by omega) (by omega)]; omega
end Go.Eng

/- The engine, part 26: what is known of a variable; functions that are known by a contract. -/
set_option linter.unusedVariables false
set_option linter.unusedSimpArgs false
namespace Go.Eng
/-- A variable that holds some number of a kind. -/
def intEnv (g : Nat) (k : IntKind) (w : World) (S : Nat → Nat → Prop) : Prop := S g 0 ∧ ∃ m, w.cell? ⟨g, 0, none⟩ = some (.int k m)
theorem intEnv_stable {g : Nat} {k : IntKind} {h : List AO} {φ : Nat → Loc} {w : World} {S : Nat → Nat → Prop} {h' : List AO} {φ' : Nat → Loc} {w' : World} {S' : Nat → Nat → Prop} (E : Ext h φ w S h' φ' w' S') (V : intEnv g k w S) : intEnv g k w' S' :=
  ⟨E.stab _ _ V.1, V.2.elim fun m hm => ⟨m, by rw [E.cell _ _ V.1]; exact hm⟩⟩
abbrev intPg (P : Program) (g : Nat) (k : IntKind) : Pg := ⟨P, intEnv g k, intEnv_stable⟩
theorem intEnv_old {g : Nat} {k : IntKind} {w : World} {m : Int} (h : w.cell? ⟨g, 0, none⟩ = some (.int k m)) : intEnv g k w (Old w) := ⟨cell?_lt h, m, h⟩

section
variable {P : Pg} {g : FuncId} {h : List AO} {K : ARes → List AO → Prop}
theorem WC_same {args : List AV} {v : AV} (H : ∀ φ w S (vs : Array Value), P.env w S → Rels h φ w S args vs → ∃ u, ((callFunc g vs).run P.prog w = .ok (.enter g vs) w ∧ Calls P.prog g vs w fun e w' => e = .returned u ∧ w' = w) ∧ Rel h φ w S true v u)
    (k : K (.ok v) h) : WC P g args h K := by
  intro φ w S vs V M R
  obtain ⟨u, ⟨e1, e2⟩, r⟩ := H φ w S vs V R
  refine .inl ⟨e1, e2.mono ?_⟩
  rintro e w' ⟨rfl, rfl⟩
  exact ⟨v, h, φ, S, k, M, Ext.refl _ _ _ _, r⟩
theorem rels_str2 {φ : Nat → Loc} {w : World} {S : Nat → Nat → Prop} {a b : ByteArray} {vs : Array Value} (R : Rels h φ w S [.str a, .str b] vs) : vs = #[.string a, .string b] := by
  obtain ⟨h1, h2⟩ := R
  match vs, h1, h2 with
  | ⟨[x, y]⟩, _, h2 =>
    have k1 := h2 0 _ x rfl rfl
    have k2 := h2 1 _ y rfl rfl
    cases k1; cases k2; rfl
theorem rels_strint {φ : Nat → Loc} {w : World} {S : Nat → Nat → Prop} {a : ByteArray} {k : IntKind} {n : Int} {vs : Array Value} (R : Rels h φ w S [.str a, .int k n] vs) : vs = #[.string a, .int k n] := by
  obtain ⟨h1, h2⟩ := R
  match vs, h1, h2 with
  | ⟨[x, y]⟩, _, h2 =>
    have k1 := h2 0 _ x rfl rfl
    have k2 := h2 1 _ y rfl rfl
    cases k1; cases k2; rfl
end
end Go.Eng

/- The engine, part 27: functions that are known by a contract, and make things of their own. -/
set_option linter.unusedVariables false
set_option linter.unusedSimpArgs false
namespace Go.Eng
open Go.WideShapes Go.RowKit
/-- Nothing is known of variables. -/
theorem noEnv_stable {h : List AO} {φ : Nat → Loc} {w : World} {S : Nat → Nat → Prop} {h' : List AO} {φ' : Nat → Loc} {w' : World} {S' : Nat → Nat → Prop} (E : Ext h φ w S h' φ' w' S') (V : True) : True := trivial
abbrev noPg (P : Program) : Pg := ⟨P, fun _ _ => True, noEnv_stable⟩
section
variable {P : Pg} {g : FuncId} {h : List AO} {K : ARes → List AO → Prop}
theorem below_cell {w w' : World} (B : Below w.heap.size w w') {b : Nat} (hb : b < w.heap.size) (o : Nat) : w'.cell? ⟨b, o, none⟩ = w.cell? ⟨b, o, none⟩ := by
  exact Below.cell B hb
theorem ext_below {φ : Nat → Loc} {w w' : World} {S : Nat → Nat → Prop} (M : Sim h φ w S) (B : Below w.heap.size w w') : Ext h φ w S h φ w' S :=
  { len := Nat.le_refl _, stab := fun _ _ x => x, cell := fun b o hs => below_cell B (M.stab b o hs) o, same := fun i hi => ⟨hi, rfl⟩, tok := fun i e sz n hi _ => .inl ⟨hi, rfl⟩, live := fun i o ho hd => .inl ⟨o, ho, hd, rfl⟩,
    frame := fun c hc _ => B.block c hc, os := B.os, tape := B.tape, output := B.output, size := B.size, news := fun _ _ k => .inl k }
theorem sim_below {φ : Nat → Loc} {w w' : World} {S : Nat → Nat → Prop} (M : Sim h φ w S) (B : Below w.heap.size w w') : Sim h φ w' S := by
  refine ⟨fun i o ho => ?_, M.inj, fun c o hs => Nat.lt_of_lt_of_le (M.stab c o hs) B.size⟩
  cases hd : o.isDead with
  | true => cases o <;> simp [AO.isDead] at hd; trivial
  | false => exact (M.obj i o ho).mono (ext_below M B) (B.block _ ((M.obj i o ho).lt hd)) (fun j x => x)
theorem WC_below {args : List AV} {v : AV} (H : ∀ φ w S (vs : Array Value), P.env w S → Sim h φ w S → Rels h φ w S args vs →
      ∃ u, ((callFunc g vs).run P.prog w = .ok (.enter g vs) w ∧ Calls P.prog g vs w fun e w' => e = .returned u ∧ Below w.heap.size w w') ∧ ∀ w', Rel h φ w' S true v u)
    (k : K (.ok v) h) : WC P g args h K := by
  intro φ w S vs V M R
  obtain ⟨u, ⟨e1, e2⟩, r⟩ := H φ w S vs V M R
  refine .inl ⟨e1, e2.mono ?_⟩
  rintro e w' ⟨rfl, B⟩
  exact ⟨v, h, φ, S, k, sim_below M B, ext_below M B, r w'⟩
theorem below_refl (w : World) : Below w.heap.size w w := Below.refl _ _
/-- A row of texts, and a text. -/
theorem rels_strs {φ : Nat → Loc} {w : World} {S : Nat → Nat → Prop} {xs : List ByteArray} {sep : ByteArray} {vs : Array Value} (R : Rels h φ w S [.rsl (xs.map .str), .str sep] vs) :
    ∃ A c, vs = #[.slice A xs.length c, .string sep] ∧ xs.length ≤ c ∧ (xs ≠ [] → ∃ bk o, A = some ⟨bk, o, none⟩ ∧ bk < w.heap.size ∧ ∀ (j : Nat) (x : ByteArray), xs[j]? = some x → w.cell? ⟨bk, o + j, none⟩ = some (.string x)) := by
  obtain ⟨h1, h2⟩ := R
  match vs, h1, h2 with
  | ⟨[x, y]⟩, _, h2 =>
    have k1 := h2 0 _ x rfl rfl
    have k2 := h2 1 _ y rfl rfl
    cases k2
    cases k1 with
    | rsl _ _ A c sz f hl hz hs hc hr =>
      refine ⟨A, c, by simp, by simpa using hl, fun hne => ?_⟩
      obtain ⟨x0, r, rfl⟩ : ∃ x0 r, xs = x0 :: r := by
        cases xs with
        | nil => exact absurd rfl hne
        | cons a l => exact ⟨a, l, rfl⟩
      have hsz : sz = 1 := by rw [← hs (.str x0) (by simp)]; rfl
      subst hsz
      have get : ∀ (j : Nat) (x : ByteArray), (x0 :: r)[j]? = some x → ∃ a, A = some a ∧ w.cell? (a.add j) = some (.string x) := by
        intro j x hx
        have hx' : (List.map AV.str (x0 :: r))[j]? = some (.str x) := by rw [List.getElem?_map, hx]; rfl
        obtain ⟨a, e1, e2, e3, e4⟩ := hc j 0 _ (.str x) hx' rfl
        have e5 := hr j 0 _ (.str x) hx' rfl
        refine ⟨a, e1, ?_⟩
        rw [show j * 1 + 0 = j by omega] at e3
        rw [e3]
        rw [rel_str_inv e5]
      obtain ⟨a, e1, e2⟩ := get 0 x0 rfl
      have hsp := World.cell?_spot e2
      have hlt := cell?_lt e2
      rw [add_block] at hlt
      obtain ⟨b, o, s⟩ := a
      have hs0 : s = none := by
        have := hsp
        unfold Addr.add at this
        cases s with
        | none => rfl
        | some s => simp at this
      subst hs0
      refine ⟨b, o, e1, hlt, fun j x hx => ?_⟩
      obtain ⟨a', e3, e4⟩ := get j x hx
      rw [e1] at e3
      injection e3 with e3
      subst e3
      have e6 : (Addr.add ⟨b, o, none⟩ j) = ⟨b, o + j, none⟩ := by
        unfold Addr.add
        split
        · simp_all
        · rfl
      rw [e6] at e4; exact e4
end
end Go.Eng

/- The engine, part 28: atomic reads and writes; marks. -/
set_option linter.unusedVariables false
set_option linter.unusedSimpArgs false
namespace Go.Eng
open Go.WideShapes Go.RowKit
section
variable {P : Pg} {g : FuncId} {fn : Func} {h : List AO} {K : ARes → List AO → Prop}
theorem box_cell {φ : Nat → Loc} {w : World} {S : Nat → Nat → Prop} (M : Sim h φ w S) {i o : Nat} {cs : List AV} {k : IntKind} {x : Int} (hb : h[i]? = some (.box cs)) (ho : cs[o]? = some (.int k x)) :
    w.cell? ⟨(φ i).blk, o, none⟩ = some (.int k x) ∧ w.frozen? ⟨(φ i).blk, o, none⟩ = false := by
  obtain ⟨arr, T, k1, k2, k3, k4, k5⟩ := M.obj i _ hb
  have hlt : o < arr.size := Nat.lt_of_lt_of_le (List.getElem?_eq_some_iff.1 ho).1 k2
  have hv : arr[o]? = some arr[o] := Array.getElem?_eq_getElem hlt
  have r := k4 o _ _ ho hv
  have e := rel_int_inv r
  refine ⟨?_, by simp [World.frozen?, k1]⟩
  simp only [World.cell?, k1]
  simp [hv, e]
theorem box_put {φ : Nat → Loc} {w : World} {S : Nat → Nat → Prop} (M : Sim h φ w S) {i o : Nat} {cs : List AV} (k : IntKind) (y : Int) (hb : h[i]? = some (.box cs)) (ho : o < cs.length) :
    Sim (h.set i (.box (cs.set o (.int k y)))) φ (w.setCell ⟨(φ i).blk, o, none⟩ (.int k y)) S ∧ Ext h φ w S (h.set i (.box (cs.set o (.int k y)))) φ (w.setCell ⟨(φ i).blk, o, none⟩ (.int k y)) S := by
  obtain ⟨arr, T, k1, k2, k3, k4, k5⟩ := M.obj i _ hb
  have hblk : (φ i).blk < w.heap.size := (Array.getElem?_eq_some_iff.1 k1).1
  have st := turn_step M (o' := .box (cs.set o (.int k y))) hb rfl rfl rfl k5 (w' := w.setCell ⟨(φ i).blk, o, none⟩ (.int k y))
    (fun b hne => by simp [World.setCell, Array.getElem?_modify, Ne.symm hne]) (by simp [World.setCell]) rfl rfl rfl
  have E := st.ext M (by simp)
  refine ⟨st.sim M (by simp) ⟨arr.setIfInBounds o (.int k y), T, ?_, by simpa using k2, fun j x hx => ?_, fun j x v hx hv => ?_, k5⟩, E⟩
  · simp [World.setCell, Array.getElem?_modify, k1]
  · rw [List.getElem?_set] at hx
    split at hx
    · injection hx with hx; subst hx; rfl
    · exact k3 j x hx
  · rw [List.getElem?_set] at hx
    rw [Array.getElem?_setIfInBounds] at hv
    split at hx
    · rename_i e
      subst e
      injection hx with hx
      subst hx
      rw [if_pos rfl, if_pos (by omega)] at hv
      injection hv with hv
      subst hv
      exact .int true k y
    · rename_i e
      rw [if_neg e] at hv
      exact (k4 j x v hx hv).mono E
theorem rels_ptr {φ : Nat → Loc} {w : World} {S : Nat → Nat → Prop} {i o : Nat} {l : List AV} {vs : Array Value} (R : Rels h φ w S (.ptr i o :: l) vs) : vs[0]? = some (.pointer (some ⟨(φ i).blk, o, none⟩)) := by
  obtain ⟨h1, h2⟩ := R
  have hlt : 0 < vs.size := by rw [← h1]; simp
  have hv : vs[0]? = some vs[0] := Array.getElem?_eq_getElem hlt
  have r := h2 0 _ _ rfl hv
  rw [hv]
  generalize vs[0] = u at r
  cases r
  rfl
theorem WC_load (hf : P.prog.funcs[g]? = some fn) (hname : (fn.name == "runtime.NumGoroutine") = false) (hb : fn.body.isNone = true) (hn : Extern.findNext fn = none) (k : IntKind) (he : Extern.find fn = some (Extern.Atomic.loadT (.int k)))
    {i o : Nat} {cs : List AV} {x : Int} (h1 : h[i]? = some (.box cs)) (h2 : cs[o]? = some (.int k x)) (kk : K (.ok (.int k x)) h) : WC P g [.ptr i o] h K := by
  intro φ w S vs V M R
  obtain ⟨c1, c2⟩ := box_cell M h1 h2
  have hv : vs = #[.pointer (some ⟨(φ i).blk, o, none⟩)] := by
    have e := rels_ptr R
    have hs := R.1
    match vs, hs, e with
    | ⟨[a]⟩, _, e => simp at e; rw [e]
  subst hv
  exact .inr ⟨_, _, run_call_load hf hname hb hn k he c1, _, h, φ, S, kk, M, Ext.refl _ _ _ _, .int true k x⟩
theorem WC_store (hf : P.prog.funcs[g]? = some fn) (hname : (fn.name == "runtime.NumGoroutine") = false) (hb : fn.body.isNone = true) (hn : Extern.findNext fn = none) (he : Extern.find fn = some Extern.Atomic.storeT)
    {i o : Nat} {cs : List AV} {k : IntKind} {x y : Int} (h1 : h[i]? = some (.box cs)) (h2 : cs[o]? = some (.int k x)) (kk : K (.ok (.tup [])) (h.set i (.box (cs.set o (.int k y))))) : WC P g [.ptr i o, .int k y] h K := by
  intro φ w S vs V M R
  obtain ⟨c1, c2⟩ := box_cell M h1 h2
  have hv : vs = #[.pointer (some ⟨(φ i).blk, o, none⟩), .int k y] := by
    have e := rels_ptr R
    obtain ⟨hs, hr⟩ := R
    match vs, hs, e, hr with
    | ⟨[a, b]⟩, _, e, hr =>
      simp at e
      have r := hr 1 _ b rfl rfl
      rw [e, rel_int_inv r]
  subst hv
  obtain ⟨M', E'⟩ := box_put M k y h1 (List.getElem?_eq_some_iff.1 h2).1
  exact .inr ⟨_, _, run_call_store hf hname hb hn he c1 c2, _, _, φ, S, kk, M', E', .tup true [] #[] rfl (fun j x v hx => by simp at hx)⟩
theorem WC_cas_hit (hf : P.prog.funcs[g]? = some fn) (hname : (fn.name == "runtime.NumGoroutine") = false) (hb : fn.body.isNone = true) (hn : Extern.findNext fn = none) (k : IntKind) (he : Extern.find fn = some (Extern.Atomic.casT (.int k)))
    {i o : Nat} {cs : List AV} {x y : Int} (h1 : h[i]? = some (.box cs)) (h2 : cs[o]? = some (.int k x)) (kk : K (.ok (.bool true)) (h.set i (.box (cs.set o (.int k y))))) : WC P g [.ptr i o, .int k x, .int k y] h K := by
  intro φ w S vs V M R
  obtain ⟨c1, c2⟩ := box_cell M h1 h2
  have hv : vs = #[.pointer (some ⟨(φ i).blk, o, none⟩), .int k x, .int k y] := by
    have e := rels_ptr R
    obtain ⟨hs, hr⟩ := R
    match vs, hs, e, hr with
    | ⟨[a, b, c]⟩, _, e, hr =>
      simp at e
      have r := hr 1 _ b rfl rfl
      have r2 := hr 2 _ c rfl rfl
      rw [e, rel_int_inv r, rel_int_inv r2]
  subst hv
  obtain ⟨M', E'⟩ := box_put M k y h1 (List.getElem?_eq_some_iff.1 h2).1
  exact .inr ⟨_, _, run_call_cas_hit hf hname hb hn k he c1 c2, _, _, φ, S, kk, M', E', .bool true true⟩
theorem WC_add (hf : P.prog.funcs[g]? = some fn) (hname : (fn.name == "runtime.NumGoroutine") = false) (hb : fn.body.isNone = true) (hn : Extern.findNext fn = none) (k : IntKind) (he : Extern.find fn = some (Extern.Atomic.update (Op.intArith .add) k true))
    {i o : Nat} {cs : List AV} {x y : Int} (h1 : h[i]? = some (.box cs)) (h2 : cs[o]? = some (.int k x)) (kk : K (.ok (.int k (k.wrap (x + y)))) (h.set i (.box (cs.set o (.int k (k.wrap (x + y))))))) : WC P g [.ptr i o, .int k y] h K := by
  intro φ w S vs V M R
  obtain ⟨c1, c2⟩ := box_cell M h1 h2
  have hv : vs = #[.pointer (some ⟨(φ i).blk, o, none⟩), .int k y] := by
    have e := rels_ptr R
    obtain ⟨hs, hr⟩ := R
    match vs, hs, e, hr with
    | ⟨[a, b]⟩, _, e, hr =>
      simp at e
      have r := hr 1 _ b rfl rfl
      rw [e, rel_int_inv r]
  subst hv
  obtain ⟨M', E'⟩ := box_put M k (k.wrap (x + y)) h1 (List.getElem?_eq_some_iff.1 h2).1
  exact .inr ⟨_, _, run_call_add hf hname hb hn k he c1 c2 (by simp [Op.intArith]), _, _, φ, S, kk, M', E', .int true _ _⟩
theorem WC_mark0 (hf : P.prog.funcs[g]? = some fn) (hname : (fn.name == "runtime.NumGoroutine") = false) (hb : fn.body.isNone = true) (hn : Extern.findNext fn = none) (m : Mark)
    (he : Extern.find fn = some (fun _ => do mark m; pure Extern.Race.none_)) (kk : K (.ok (.tup [])) h) : WC P g [] h K := by
  intro φ w S vs V M R
  have hv : vs = #[] := by
    have hs := R.1
    match vs, hs with
    | ⟨[]⟩, _ => rfl
  subst hv
  exact .inr ⟨_, _, run_call_mark0 hf hname hb hn m he w, _, h, φ, S, kk, M, Ext.refl _ _ _ _, .tup true [] #[] rfl (fun j x v hx => by simp at hx)⟩
theorem WC_marked (hf : P.prog.funcs[g]? = some fn) (hname : (fn.name == "runtime.NumGoroutine") = false) (hb : fn.body.isNone = true) (hn : Extern.findNext fn = none) (m : Addr → Mark)
    (he : Extern.find fn = some (Extern.Race.marked m)) {i o : Nat} (kk : K (.ok (.tup [])) h) : WC P g [.ptr i o] h K := by
  intro φ w S vs V M R
  have hv : vs = #[.pointer (some ⟨(φ i).blk, o, none⟩)] := by
    have e := rels_ptr R
    have hs := R.1
    match vs, hs, e with
    | ⟨[a]⟩, _, e => simp at e; rw [e]
  subst hv
  exact .inr ⟨_, _, run_call_marked hf hname hb hn m he _ w, _, h, φ, S, kk, M, Ext.refl _ _ _ _, .tup true [] #[] rfl (fun j x v hx => by simp at hx)⟩
end
end Go.Eng

/- The engine, part 29: functions that defer calls. -/
set_option linter.unusedVariables false
set_option linter.unusedSimpArgs false
namespace Go.Eng

/-- Code up to a function's end, calls being deferred on the way. -/
inductive AT where
  | fin (c : AC)
  | seq (c : AC) (t : AT)
  | cond (p : Opnd) (a b : AT)
  | defer (ops : List AOper) (g : Opnd) (args : List Opnd) (t : AT)
  deriving Inhabited
abbrev DL := List (FuncId × List AV)

/-- A deferred call does what K allows. -/
def WCD (P : Pg) (g : FuncId) (args : List AV) (h : List AO) (K : ARes → List AO → Prop) : Prop :=
  ∀ φ w S (vs : Array Value) (u : FrameMode), P.env w S → Sim h φ w S → Rels h φ w S args vs →
    (callFunc g vs).run P w = .ok (.enter g vs) w ∧ CallsD P g vs u w fun e u' w' => u' = u ∧ Post h φ w S K e w'

def leave (P : Pg) (h0 : List AO) (res : List ARV) (K : ARes → List AO → Prop) : DL → Fr → List AO → Prop
  | [], f, h => ∃ xs, evRVs f h res = some xs ∧ K (.ok (packR xs)) h
  | (g, args) :: D, f, h => WCD P g args h fun r h' => ∃ x, r = .ok x ∧ leave P h0 res K D f h'

def wpT (P : Pg) (h0 : List AO) (res : List ARV) (K : ARes → List AO → Prop) : AT → DL → Fr → List AO → Prop
  | .fin c, D, f, h => wpA P h c (fun e f h => match e with | .normal | .ret => leave P h0 res K D f h | _ => False) f h
  | .seq c t, D, f, h => wpA P h c (fun e f h => match e with | .normal => wpT P h0 res K t D f h | .ret => leave P h0 res K D f h | _ => False) f h
  | .cond p a b, D, f, h => ∃ t, ev f p = .bool t ∧ if t then wpT P h0 res K a D f h else wpT P h0 res K b D f h
  | .defer ops g args t, D, f, h => opsA P (fun _ _ _ => False) ops f h fun f' h' => ∃ fid first caps, ev f' g = .fn fid first caps ∧ wpT P h0 res K t ((fid, nrmL first ++ (nrmL (args.map (ev f')) ++ nrmL caps)) :: D) f' h'

inductive CmpT (P : Pg) (N : Nat) : Code → AT → Prop
  | fin (c : Code) (x : AC) (h : Cmp P N c x) : CmpT P N c (.fin x)
  | seq (c d : Code) (x : AC) (t : AT) (h : Cmp P N c x) (h' : CmpT P N d t) : CmpT P N (.seq c d) (.seq x t)
  | cond (c : Operand) (p : Opnd) (a b : Code) (x y : AT) (e : cO c = some p) (h1 : CmpT P N a x) (h2 : CmpT P N b y) : CmpT P N (.cond c a b) (.cond p x y)
  | defer (id : Nat) (ops : Array Oper) (aops : List AOper) (o : Oper) (cl : Call) (g : Operand) (g' : Opnd) (l : List Opnd) (d : Code) (t : AT) (hs : aops.length + 1 = ops.size)
      (hC : ∀ (j : Nat) (ao : AOper) (o : Oper), aops[j]? = some ao → ops[j]? = some o → OpC P N ops o ao) (ho : ops[aops.length]? = some o) (hop : o.op = .defer cl) (hg : o.guard = none) (hd : o.dst = none)
      (hcal : cl.callee = .value g) (e1 : cO g = some g') (e2 : cOL cl.args.toList = some l) (h' : CmpT P N d t) : CmpT P N (.seq (.region id ops false) d) (.defer aops g' l t)

section
variable {P : Pg} {N : Nat}
/-- The calls that were deferred. -/
def DR (P : Pg) (h : List AO) (φ : Nat → Loc) (w : World) (S : Nat → Nat → Prop) : DL → List Deferred → Prop
  | [], [] => True
  | (g, args) :: D, d :: ds => (∃ fv cap vs, d.target = .fn fv cap ∧ (∀ w, (invoke d.target d.args).run P w = (callFunc g vs).run P w) ∧ Rels h φ w S args vs) ∧ DR P h φ w S D ds
  | _, _ => False
theorem Rels.mono' {h h1 : List AO} {φ φ1 : Nat → Loc} {w w1 : World} {S S1 : Nat → Nat → Prop} (E : Ext h φ w S h1 φ1 w1 S1) {args : List AV} {vs : Array Value} (R : Rels h φ w S args vs) : Rels h1 φ1 w1 S1 args vs :=
  ⟨R.1, fun j x v hx hv => (R.2 j x v hx hv).mono E⟩
theorem DR.mono {h h1 : List AO} {φ φ1 : Nat → Loc} {w w1 : World} {S S1 : Nat → Nat → Prop} (E : Ext h φ w S h1 φ1 w1 S1) : ∀ {D : DL} {ds : List Deferred}, DR P h φ w S D ds → DR P h1 φ1 w1 S1 D ds
  | [], [], _ => trivial
  | (g, args) :: D, d :: ds, ⟨⟨fv, cap, vs, e1, e2, R⟩, r⟩ => ⟨⟨fv, cap, vs, e1, e2, R.mono' E⟩, DR.mono E r⟩
  | [], _ :: _, r => r.elim
  | _ :: _, [], r => r.elim

variable {h0 : List AO} {φ0 : Nat → Loc} {w0 : World} {S0 : Nat → Nat → Prop}
theorem leave_sound (V0 : P.env w0 S0) {fn : Func} {res : List ARV} (hs : fn.results.size = res.length) (hC : ∀ (j : Nat) (r : ResultVar) (r' : ARV), fn.results[j]? = some r → res[j]? = some r' → resC P r r') {K : ARes → List AO → Prop} {a : Act} :
    ∀ (D : DL) (ds : List Deferred) (f : Fr) (h : List AO) (φ : Nat → Loc) (w : World) (S : Nat → Nat → Prop), leave P h0 res K D f h → Sim h φ w S → Ext h0 φ0 w0 S0 h φ w S → FRel h φ w S f a → DR P h φ w S D ds →
      Leaves P fn a.tmps (Post h0 φ0 w0 S0 K) ds .returning w
  | [], [], f, h, φ, w, S, ⟨xs, e, k⟩, M, E, F, _ => by
    obtain ⟨v, q1, q2⟩ := run_resultsA M F hs hC e
    exact ⟨v, q1, _, h, φ, S, k, M, E, q2⟩
  | (g, args) :: D, d :: ds, f, h, φ, w, S, lv, M, E, F, ⟨⟨fv, cap, vs, e1, e2, R⟩, dr⟩ => by
    obtain ⟨k1, k2⟩ := lv φ w S vs .returning (P.stable E V0) M R
    refine ⟨by simp, fv, cap, g, vs, e1, by rw [e2]; exact k1, k2.mono ?_⟩
    rintro e u' w' ⟨rfl, p⟩
    cases e with
    | returned v =>
      obtain ⟨x, h', φ', S', ⟨y, _, lv'⟩, M', E', r⟩ := p
      exact leave_sound V0 hs hC D ds f h' φ' w' S' lv' M' (E.trans E') (F.mono E') (dr.mono E')
    | panicked c =>
      obtain ⟨x, v, h', φ', S', _, ⟨y, e, _⟩, _⟩ := p
      cases e
    | outgrown => exact p.elim
  | [], _ :: _, _, _, _, _, _, _, _, _, _, r => r.elim
  | _ :: _, [], _, _, _, _, _, _, _, _, _, r => r.elim

theorem opsA_part (V0 : P.env w0 S0) {D : List Deferred} {ops : Array Oper} {rest : List Nat} {Kf : Fr → List AO → Prop} {Q' : Exit → Act → World → Prop} (hQn : ∀ a w, St N D h0 φ0 w0 S0 Kf a w → wpOps P ops Q' rest a w) :
    ∀ (l : List AOper) (i : Nat), i + l.length ≤ ops.size → (∀ (j : Nat) (ao : AOper) (o : Oper), l[j]? = some ao → ops[i + j]? = some o → OpC P N ops o ao) → ∀ (a : Act) (w : World), St N D h0 φ0 w0 S0 (fun f h => opsA P (fun _ _ _ => False) l f h Kf) a w →
      wpOps P ops Q' (List.range' i l.length ++ rest) a w := by
  intro l
  induction l with
  | nil => intro i _ _ a w st; exact hQn a w st
  | cons ao l ih =>
    intro i hi hC a w st
    obtain ⟨f, h, φ, S, k, M, E, F, hd, hN⟩ := st
    simp only [List.length_cons, List.range'_succ, List.cons_append]
    simp only [List.length_cons] at hi
    rw [wpOps_cons]
    have ho : ops[i]? = some ops[i] := by rw [Array.getElem?_eq_getElem]
    have C := hC 0 ao _ rfl ho
    simp only [opsA] at k
    refine op1_sound C ho (P.stable E V0) M F hN k ?_ ?_
    · intro x h' φ' w' S' v k' M' E' R'
      refine ih (i + 1) (by omega) (fun j ao' o' h1 h2 => hC (j + 1) ao' o' (by simpa using h1) (by rw [← h2]; congr 1; omega)) _ _ ⟨_, h', φ', S', k', M', E.trans E', ?_, by rw [put_defers']; exact hd, by rw [put_size]; exact hN⟩
      rw [C.dst]
      exact (F.mono E').put _ _ _ R' (fun d hd' => by rw [hN]; exact C.lt d hd')
    · intro x h' φ' w' S' v k' M' E' R'
      exact k'.elim

theorem wpT_sound (V0 : P.env w0 S0) (hm : P.prog.follows .mixedOrders = true) {fn : Func} {res : List ARV} (hs : fn.results.size = res.length) (hC : ∀ (j : Nat) (r : ResultVar) (r' : ARV), fn.results[j]? = some r → res[j]? = some r' → resC P r r') {K : ARes → List AO → Prop}
    {c : Code} {t : AT} (C : CmpT P N c t) : ∀ (D : DL) (ds : List Deferred) (f : Fr) (h : List AO) (φ : Nat → Loc) (w : World) (S : Nat → Nat → Prop) (a : Act), wpT P h0 res K t D f h → Sim h φ w S → Ext h0 φ0 w0 S0 h φ w S → FRel h φ w S f a → a.defers = ds → DR P h φ w S D ds →
      a.tmps.size = N → c.wp P (bodyPostD P fn (Post h0 φ0 w0 S0 K)) a w := by
  induction C with
  | fin c x hc =>
    intro D ds f h φ w S a k M E F hd dr hN
    refine wp_mono (wpA_sound (P.stable E V0) M hm hc _ a w ⟨f, h, φ, S, k, M, Ext.refl _ _ _ _, F, hd, hN⟩) ?_
    intro e a' w' q
    cases e with
    | normal => obtain ⟨f', h', φ', S', q, M', E', F', hd', _⟩ := q; rw [bodyPostD, hd']; exact leave_sound V0 hs hC D ds f' h' φ' w' S' q M' (E.trans E') F' (dr.mono E')
    | ret => obtain ⟨f', h', φ', S', q, M', E', F', hd', _⟩ := q; rw [bodyPostD, hd']; exact leave_sound V0 hs hC D ds f' h' φ' w' S' q M' (E.trans E') F' (dr.mono E')
    | exit i => obtain ⟨f', h', φ', S', q, _⟩ := q; exact q
    | panic ch => obtain ⟨x, v, f', h', φ', S', _, q, _⟩ := q; exact q.elim
    | goto l => exact q
    | outgrown => exact q.elim
  | seq c d x t hc _ ih =>
    intro D ds f h φ w S a k M E F hd dr hN
    refine wp_seq (wp_mono (wpA_sound (P.stable E V0) M hm hc _ a w ⟨f, h, φ, S, k, M, Ext.refl _ _ _ _, F, hd, hN⟩) ?_)
    intro e a' w' q
    cases e with
    | normal => obtain ⟨f', h', φ', S', q, M', E', F', hd', hN'⟩ := q; exact ih D ds f' h' φ' w' S' a' q M' (E.trans E') F' hd' (dr.mono E') hN'
    | ret => obtain ⟨f', h', φ', S', q, M', E', F', hd', _⟩ := q; change bodyPostD P.prog fn (Post h0 φ0 w0 S0 K) .ret a' w'; rw [bodyPostD, hd']; exact leave_sound V0 hs hC D ds f' h' φ' w' S' q M' (E.trans E') F' (dr.mono E')
    | exit i => obtain ⟨f', h', φ', S', q, _⟩ := q; exact q
    | panic ch => obtain ⟨x, v, f', h', φ', S', _, q, _⟩ := q; exact q.elim
    | goto l => exact q
    | outgrown => exact q.elim
  | cond c p a' b' x y e _ _ ih1 ih2 =>
    intro D ds f h φ w S a ⟨t, k1, k2⟩ M E F hd dr hN
    have r := rel_ev F e
    rw [k1] at r
    generalize hv : a.eval c = v at r
    cases r
    refine wp_cond hv ?_
    cases t with
    | true => exact ih1 D ds f h φ w S a k2 M E F hd dr hN
    | false => exact ih2 D ds f h φ w S a k2 M E F hd dr hN
  | defer id ops aops o cl g g' l d t hsz hC' ho hop hg hdst hcal e1 e2 _ ih =>
    intro D ds f h φ w S a k M E F hd dr hN
    refine wp_seq (wp_region ?_)
    have hr : List.range ops.size = List.range' 0 aops.length ++ [aops.length] := by
      rw [← hsz, List.range_eq_range', List.range'_1_concat]; simp
    rw [hr]
    refine opsA_part (P.stable E V0) (h0 := h) (φ0 := φ) (w0 := w) (S0 := S) (D := ds) (N := N) ?_ aops 0 (by omega) (fun j ao o h1 h2 => hC' j ao o h1 (by simpa using h2)) a w ⟨f, h, φ, S, k, M, Ext.refl _ _ _ _, F, hd, hN⟩
    intro a' w' ⟨f', h', φ', S', ⟨fid, first, caps, q1, q2⟩, M', E', F', hd', hN'⟩
    rw [wpOps_cons]
    unfold wpOp
    simp only [ho]
    have hw : Region.wanted o (yielded ops a'.tmps) = true := by unfold Region.wanted; rw [hg]
    rw [if_pos hw]
    refine .inl ?_
    obtain ⟨us, vs, hv, R⟩ := callArgs e1 e2 F' q1
    have hrun : (execOp a'.eval o).run P w' = .ok (.defer ⟨.fn (.func fid) vs, us ++ cl.args.map a'.eval⟩) w' := by
      simp [execOp, hop, resolve, hcal, hv, Deferred.ofValue]
    simp only [Oper.wp, hrun, Oper.upon_defer]
    show wpOps P ops _ [] _ _
    simp only [wpOps]
    have hput : ({ a' with defers := ⟨.fn (.func fid) vs, us ++ cl.args.map a'.eval⟩ :: a'.defers } : Act).put o.dst undef = { a' with defers := ⟨.fn (.func fid) vs, us ++ cl.args.map a'.eval⟩ :: a'.defers } := by
      rw [hdst]; rfl
    rw [hput]
    refine ih (_ :: D) (_ :: ds) f' h' φ' w' S' _ q2 M' (E.trans E') F' (by rw [hd']) ⟨⟨.func fid, vs, us ++ cl.args.map a'.eval ++ vs, rfl, fun w => ?_, R⟩, dr.mono E'⟩ hN'
    simp [invoke]

theorem WC_of_tail {P : Pg} (hm : P.prog.follows .mixedOrders = true) {g : FuncId} {fn : Func} {c : Code} {t : AT} {res : List ARV} (hf : P.prog.funcs[g]? = some fn) (hb : fn.body = some c) (hnm : (fn.name == "runtime.NumGoroutine") = false) (C : CmpT P fn.ntmps c t)
    (hs : fn.results.size = res.length) (hC : ∀ (j : Nat) (r : ResultVar) (r' : ARV), fn.results[j]? = some r → res[j]? = some r' → resC P r r') {args : List AV} {h : List AO} {K : ARes → List AO → Prop} (hlen : args.length ≤ fn.ntmps)
    (k : wpT P h res K t [] (argF 0 args) h) : WC P g args h K := by
  intro φ w S vs V M R
  refine .inl ⟨run_callFunc hf hb hnm vs w, calls_of_wp_defers hf hb ?_⟩
  refine wpT_sound V hm hs hC C [] [] _ h φ w S _ k M (Ext.refl _ _ _ _) ?_ rfl trivial ?_
  · intro i x hx
    obtain ⟨_, hx⟩ := lk_argF args 0 i x hx
    simp only [Nat.sub_zero] at hx
    have hi : i < vs.size := by rw [← R.1]; exact (List.getElem?_eq_some_iff.1 hx).1
    refine ⟨vs[i], ?_, R.2 i x vs[i] hx (by simp [hi])⟩
    simp [hi, Array.getElem?_append]
  · have := R.1
    simp only [Array.size_append, Array.size_replicate]
    omega

/-- A deferred call of a function that defers nothing itself. -/
theorem WCD_of_body {P : Pg} (hm : P.prog.follows .mixedOrders = true) {g : FuncId} {F : AFun} (hF : FnC P g F) {args : List AV} {h : List AO} {K : ARes → List AO → Prop} (hlen : args.length ≤ F.nt)
    (k : wpA P h F.body (bodyQ h F.res K) (argF 0 args) h) : WCD P g args h K := by
  intro φ w S vs u V M R
  obtain ⟨fn, c, f1, f2, f3, f4, f5, f6, f7⟩ := hF.ex
  refine ⟨run_callFunc f1 f2 f3 vs w, ?_⟩
  have fin : ∀ a w', St F.nt [] h φ w S (fun f h' => ∃ xs, evRVs f h' F.res = some xs ∧ retK h K (packR xs) h') a w' → a.defers = [] ∧ ∃ v, (results fn a.tmps).run P.prog w' = .ok v w' ∧ Post h φ w S K (.returned v) w' := by
    intro a w' ⟨f, h', φ', S', ⟨xs, e, r⟩, M', E', F', hd, hN⟩
    obtain ⟨v, q1, q2⟩ := run_resultsA M' F' f6 f7 e
    refine ⟨hd, v, q1, ?_⟩
    rcases r with r | ⟨m, j, x', D, o, r⟩
    · exact ⟨_, h', φ', S', r, M', E', q2⟩
    · exact ⟨x', h'.take m, φ', _, r, sim_take M' (D.bel M), ext_take E' D.1, out_rel M' j o q2⟩
  refine callsD_of_wp f1 f2 (wp_mono (wpA_sound V M hm f5 _ _ w ⟨argF 0 args, h, φ, S, k, M, Ext.refl _ _ _ _, ?_, rfl, ?_⟩) ?_)
  · intro i x hx
    obtain ⟨_, hx⟩ := lk_argF args 0 i x hx
    simp only [Nat.sub_zero] at hx
    have hi : i < vs.size := by rw [← R.1]; exact (List.getElem?_eq_some_iff.1 hx).1
    refine ⟨vs[i], ?_, R.2 i x vs[i] hx (by simp [hi])⟩
    simp [hi, Array.getElem?_append]
  · have := R.1
    simp only [Array.size_append, Array.size_replicate]
    omega
  · intro e a w' q
    cases e with
    | normal => exact fin a w' q
    | ret => exact fin a w' q
    | panic ch =>
      obtain ⟨x, v, f, h', φ', S', rfl, q, M', E', R', hd⟩ := q
      exact ⟨hd, x, v, h', φ', S', rfl, q, M', E', R'⟩
    | exit id => obtain ⟨f, h', φ', S', q, _⟩ := q; exact q
    | goto l => exact q
    | outgrown => exact q
theorem WD_of {P : Pg} (hm : P.prog.follows .mixedOrders = true) {g : FuncId} {F : AFun} (hF : compF P.prog g = some F) {args : List AV} {h : List AO} {K : ARes → List AO → Prop} (hlen : args.length ≤ F.nt)
    (H : R ⟨P, h, F.res, K⟩ F.body [] (argF 0 args) h) : WCD P g args h K := WCD_of_body hm (compF_sound hF) hlen (R_open H)
end
end Go.Eng

/- The engine, part 30: slices.Clone, by its contract. -/
set_option linter.unusedVariables false
set_option linter.unusedSimpArgs false
namespace Go.Proofs
open Go.Shelf Go.RowKit Go.Lib
variable {P : Program} {ρ : Ren}
set_option maxHeartbeats 2000000 in
set_option maxRecDepth 100000 in
/-- slices.Clone of an empty row that is not nil, wherever it lies. -/
theorem clone_empty (L : SlLaysE0.n41 P ρ) (i0 : TypeInfo) (z : Value) (size bytes : Nat) (hi : P.info? (ρ.t 23) = some i0) (hz0 : i0.zero = some z) (hz1 : i0.size = size) (hz2 : i0.bytes = bytes) (hzs : z.cells.size = size) (hsz : 0 < size)
    (z23 : ∀ w, (Go.sizeOf (ρ.t 23)).run P w = .ok size w) (ad : Addr) (c : Nat) (w : World) :
    Calls P (ρ.f 41) #[.slice (some ad) 0 c] w fun e w' => ∃ v', e = .returned v' ∧ w'.ownsRow w.heap.size (ρ.t 23) size v' 0 [] ∧ Below w.heap.size w w' := by
  have mixed := L.mixed; have t4 := L.t4; have a4 := L.a4; have z4 := L.z4; have v4 := L.v4; have t22 := L.t22; have a22 := L.a22; have z22 := L.z22; have v22 := L.v22
  have nilq : ∀ (w : World) (a : Option Addr) (n c n' c' : Nat), (binOp .eql (ρ.t 22) (.slice a n c) (.slice none n' c')).run P w = .ok (.bool a.isNone) w := fun w a n c n' c' => Lib.run_eql_slice_nil w _ _ a n c n' c' L.t22
  have und : ∀ w, Sem.run P (underlying (ρ.t 22)) w = .ok (TypeDesc.slice (ρ.t 23)) w := run_underlying t22
  obtain ⟨_, _, FG⟩ := L.f41
  go_enter FG, SlBodyN.n41_ntmps ρ
  go_wp2_with (at_builtin; refine wpList_append_own _ rfl _ _ (ρ.t 22) rfl w.heap.size (ρ.t 23) i0 z size bytes t22 hi hz0 hz1 hz2 hzs hsz _ _ _ rfl (World.ownsRow_made w #[] 0 (Nat.le_refl _) (Nat.zero_le _) (by simp)) ad 0 c [] rfl ?a1 ?a2 ?a3 ?a4 ?a5 ?a6 ?_)
  case a1 => simp
  case a2 => intro j u e; simp at e
  case a3 => intro u e; simp at e
  case a4 => simp
  case a5 => simp
  case a6 => simp
  intro v' w1 hown hgrow hnil
  go_wp2
  go_ret
  exact ⟨v', rfl, by simpa using hown, ((Below.refl _ w).alloc (Nat.le_refl _) _).grown hgrow (by simp) (by intro k hk; simp [Value.ownBlock] at hk; omega)⟩
end Go.Proofs
namespace Go.Eng
open Go.Shelf Go.Proofs
section
variable {h : List AO} {φ : Nat → Loc} {w : World} {S : Nat → Nat → Prop}
/-- A block that nothing stands for yet is taken in. -/
theorem box_in (M : Sim h φ w S) {zs : List AV} {b : Nat} {arr : Array Value} {T : TypeId} (k1 : w.heap[b]? = some (.cells arr T (0, 0))) (k2 : zs.length ≤ arr.size) (k3 : ∀ (j : Nat) (y : AV), zs[j]? = some y → y.one = true)
    (k4 : ∀ (j : Nat) (y : AV) (u : Value), zs[j]? = some y → arr[j]? = some u → Rel h φ w S true y u) (e3 : ∀ j, ¬ S b j) (e4 : ∀ (i : Nat) (o : AO), h[i]? = some o → o.isDead = false → (φ i).blk ≠ b) :
    Sim (h ++ [.box zs]) (updφ φ h.length ⟨b, 0⟩) w S ∧ RExt h φ w S (h ++ [.box zs]) (updφ φ h.length ⟨b, 0⟩) w S ∧
    ∀ {h0 : List AO} {φ0 : Nat → Loc} {w0 : World} {S0 : Nat → Nat → Prop}, w0.heap.size ≤ b → Ext h0 φ0 w0 S0 h φ w S → Ext h0 φ0 w0 S0 (h ++ [.box zs]) (updφ φ h.length ⟨b, 0⟩) w S := by
  have old : ∀ (i : Nat) (o : AO), i < h.length → ((h ++ [AO.box zs])[i]? = some o ↔ h[i]? = some o) := fun i o hi => by rw [List.getElem?_append_left hi]
  have cases_ : ∀ (i : Nat) (o : AO), (h ++ [AO.box zs])[i]? = some o → (i < h.length ∧ h[i]? = some o) ∨ (i = h.length ∧ o = .box zs) := by
    intro i o ho
    rcases Nat.lt_trichotomy i h.length with hi | hi | hi
    · exact .inl ⟨hi, (old i o hi).1 ho⟩
    · subst hi
      simp at ho
      exact .inr ⟨rfl, ho.symm⟩
    · rw [List.getElem?_eq_none (by simp; omega)] at ho; cases ho
  have hφ : ∀ i, i < h.length → updφ φ h.length ⟨b, 0⟩ i = φ i := fun i hi => updφ_other _ _ _ (by omega)
  have R : RExt h φ w S (h ++ [.box zs]) (updφ φ h.length ⟨b, 0⟩) w S :=
    { len := by simp
      stab := fun _ _ k => k
      cell := fun _ _ _ => rfl
      same := fun i ⟨o, q1, q2⟩ => by
        have hi := (List.getElem?_eq_some_iff.1 q1).1
        exact ⟨⟨o, (old i o hi).2 q1, q2⟩, by rw [hφ i hi]⟩
      tok := fun i e sz n hn hi => .inl ⟨(old i _ hi).1 hn, hφ i hi⟩ }
  refine ⟨⟨fun i o ho => ?_, fun i j oi oj hi hj di dj ee => ?_, M.stab⟩, R, fun {h0 φ0 w0 S0} e1 E => ?_⟩
  · rcases cases_ i o ho with ⟨hi, ho⟩ | ⟨rfl, rfl⟩
    · rw [hφ i hi]
      exact (M.obj i o ho).rmono R rfl (fun _ k => k)
    · simp only [updφ_same]
      exact ⟨arr, T, k1, k2, k3, fun j x v hx hv => (k4 j x v hx hv).rmono R, e3⟩
  · rcases cases_ i oi hi with ⟨hi', hi⟩ | ⟨rfl, rfl⟩ <;> rcases cases_ j oj hj with ⟨hj', hj⟩ | ⟨rfl, rfl⟩
    · rw [hφ i hi', hφ j hj'] at ee
      exact M.inj i j oi oj hi hj di dj ee
    · rw [hφ i hi', updφ_same] at ee
      exact absurd ee (e4 i oi hi di)
    · rw [hφ j hj', updφ_same] at ee
      exact absurd ee.symm (e4 j oj hj dj)
    · rfl
  · exact
    { len := Nat.le_trans E.len (by simp)
      stab := E.stab
      cell := E.cell
      same := fun i hi => by
        obtain ⟨q1, q2⟩ := E.same i hi
        obtain ⟨r1, r2⟩ := R.same i q1
        exact ⟨r1, r2.trans q2⟩
      tok := fun i e sz n hn hi => by
        have hi' : i < h.length := Nat.lt_of_lt_of_le hi E.len
        rw [hφ i hi']
        exact E.tok i e sz n ((old i _ hi').1 hn) hi
      live := fun i o ho hd => by
        rcases cases_ i o ho with ⟨hi, ho⟩ | ⟨rfl, rfl⟩
        · rw [hφ i hi]; exact E.live i o ho hd
        · rw [updφ_same]; exact .inr e1
      frame := E.frame
      os := E.os
      tape := E.tape
      output := E.output
      size := E.size
      news := E.news }
end

def cellsL (es : List AV) : List AV := (es.map AV.cells).flatten
theorem cellsL_get {sz : Nat} : ∀ {es : List AV}, (∀ x ∈ es, x.cells.length = sz) → ∀ (j : Nat) (y : AV), (cellsL es)[j]? = some y → ∃ (i k : Nat) (x : AV), es[i]? = some x ∧ x.cells[k]? = some y ∧ j = i * sz + k
  | [], _, j, y, e => by simp [cellsL] at e
  | x :: es, hs, j, y, e => by
    simp only [cellsL, List.map_cons, List.flatten_cons] at e
    have hx := hs x (by simp)
    rw [List.getElem?_append] at e
    split at e
    · exact ⟨0, j, x, rfl, e, by omega⟩
    · obtain ⟨i, k, z, h1, h2, h3⟩ := cellsL_get (fun z hz => hs z (by simp [hz])) (j - x.cells.length) y e
      refine ⟨i + 1, k, z, h1, h2, ?_⟩
      rw [Nat.succ_mul]; omega
theorem cellsL_len {sz : Nat} : ∀ {es : List AV}, (∀ x ∈ es, x.cells.length = sz) → (cellsL es).length = es.length * sz
  | [], _ => by simp [cellsL]
  | x :: es, hs => by
    simp only [cellsL, List.map_cons, List.flatten_cons, List.length_append, List.length_cons]
    have := cellsL_len (es := es) (fun z hz => hs z (by simp [hz]))
    simp only [cellsL] at this
    rw [this, hs x (by simp), Nat.succ_mul]; omega

/-- slices.Clone of a read-only row. -/
theorem WC_clone {P : Pg} {ρ : Ren} (L : SlLaysE0.n41 P.prog ρ) {g : FuncId} (hg : ρ.f 41 = g) {fn : Func} {c : Code} (hf : P.prog.funcs[g]? = some fn) (hb : fn.body = some c) (hn : (fn.name == "runtime.NumGoroutine") = false)
    {i0 : TypeInfo} {z : Value} {sz bytes : Nat} (hi : P.prog.info? (ρ.t 23) = some i0) (hz0 : i0.zero = some z) (hz1 : i0.size = sz) (hz2 : i0.bytes = bytes) (hzs : z.cells.size = sz) (hsz : 0 < sz) (z23 : ∀ w, (Go.sizeOf (ρ.t 23)).run P.prog w = .ok sz w)
    {es : List AV} (hs : ∀ x ∈ es, x.cells.length = sz) (hm : es.length ≤ maxLen) (hbig : es.length * bytes ≤ 140737488355328) {h : List AO} {K : ARes → List AO → Prop}
    (k : if es = [] then K (.ok (.rsl [])) h else K (.ok (.msl h.length 0 es.length es.length)) (h ++ [.box (cellsL es)])) : WC P g [.rsl es] h K := by
  intro φ w S vs V M R
  obtain ⟨v, rfl, rv⟩ : ∃ v, vs = #[v] ∧ Rel h φ w S true (.rsl es) v := by
    have hl := R.1
    match vs, hl with
    | ⟨[v]⟩, _ => exact ⟨v, rfl, R.2 0 _ v rfl rfl⟩
  obtain ⟨A, cap, vals, rfl, hcap, Vv, hcell, hne⟩ := row_vals rv hsz hs
  refine .inl ⟨run_callFunc hf hb hn _ w, ?_⟩
  have rel0 : ∀ (A : Option Addr) (c : Nat) φ w S, Rel h φ w S true (.rsl []) (.slice A 0 c) := fun A c φ w S =>
    .rsl true [] A c 1 (fun _ _ => undef) (by simp) (by omega) (by simp) (fun i j x y hx => by simp at hx) (fun i j x y hx => by simp at hx)
  by_cases he : es = []
  · subst he
    rw [if_pos rfl] at k
    cases A with
    | none =>
      have := AnyE.slices_Clone_nil L 0 cap w
      rw [hg] at this
      refine this.mono ?_
      rintro e w' ⟨rfl, rfl⟩
      exact ⟨_, h, φ, S, k, M, Ext.refl _ _ _ _, rel0 _ _ _ _ _⟩
    | some ad =>
      have := clone_empty L i0 z sz bytes hi hz0 hz1 hz2 hzs hsz z23 ad cap w
      rw [hg] at this
      refine this.mono ?_
      rintro e w' ⟨v', rfl, ⟨_, how⟩, B⟩
      refine ⟨_, h, φ, S, k, sim_below M B, ext_below M B, ?_⟩
      rcases how with ⟨rfl, _⟩ | ⟨g', cp, cur, rfl, _⟩
      · exact rel0 _ _ _ _ _
      · exact rel0 _ _ _ _ _
  · rw [if_neg he] at k
    obtain ⟨ad, rfl⟩ := hne he
    have hpos : 0 < es.length := List.length_pos_iff.2 he
    have hvl : 0 < vals.length := by rw [Vv.1]; exact Nat.mul_pos hpos hsz
    have h0 := hcell ad rfl 0 _ (List.getElem?_eq_getElem hvl)
    have hsp := World.cell?_spot h0.1
    obtain ⟨b, o, s⟩ := ad
    have hs0 : s = none := by
      unfold Addr.add at hsp
      cases s with
      | none => rfl
      | some s => simp at hsp
    subst hs0
    have := AnyE.slices_Clone L i0 z sz bytes hi hz0 hz1 hz2 hzs hsz z23 b o es.length cap vals w Vv.1 hm hbig (fun j u e => by
      have := (hcell _ rfl j u e).1
      rw [Addr.add_lit] at this
      exact this) Vv.2.1
    rw [hg] at this
    refine this.mono ?_
    rintro e w' ⟨v', rfl, ⟨_, how⟩, _, B⟩
    rcases how with ⟨_, h0⟩ | ⟨g', cp, cur, rfl, q1, q2, q3, q4, q5, q6⟩
    · omega
    · have M' := sim_below M B
      have E' := ext_below M B
      have Vv' := Vv.mono E'
      obtain ⟨x1, x2, x3⟩ := box_in (zs := cellsL es) M' q2 (by rw [cellsL_len hs, q5]; exact Nat.mul_le_mul_right _ q3)
        (fun j y hy => by
          obtain ⟨i, k, x, h1, h2, _⟩ := cellsL_get hs j y hy
          obtain ⟨_, _, _, h3⟩ := Vv.2.2 i k x y h1 h2
          exact h3)
        (fun j y u hy hu => by
          obtain ⟨i, k, x, h1, h2, rfl⟩ := cellsL_get hs j y hy
          obtain ⟨u', h3, h4, _⟩ := Vv'.2.2 i k x y h1 h2
          have hlt : i * sz + k < es.length * sz := by rw [← Vv.1]; exact (List.getElem?_eq_some_iff.1 h3).1
          have : cur.toList[i * sz + k]? = some u' := by
            rw [← q6, List.getElem?_take, if_pos hlt] at h3
            exact h3
          rw [Array.getElem?_toList, hu] at this
          injection this with this
          rw [this]
          exact h4.up)
        (fun j hj => by have := M.stab _ _ hj; omega)
        (fun i o ho hd => by have := (M.obj i o ho).lt hd; omega)
      refine ⟨_, _, _, S, k, x1, x3 q1 E', ?_⟩
      have := Rel.msl (h := h ++ [.box (cellsL es)]) (φ := updφ φ h.length ⟨g', 0⟩) (w := w') (S := S) h.length 0 es.length es.length cp ⟨.box (cellsL es), by simp, rfl⟩ q3
      simpa using this
/-- slices.Clone of a read-only row, if nobody writes into what comes back. -/
theorem WC_cloneR {P : Pg} {ρ : Ren} (L : SlLaysE0.n41 P.prog ρ) {g : FuncId} (hg : ρ.f 41 = g) {fn : Func} {c : Code} (hf : P.prog.funcs[g]? = some fn) (hb : fn.body = some c) (hn : (fn.name == "runtime.NumGoroutine") = false)
    {i0 : TypeInfo} {z : Value} {sz bytes : Nat} (hi : P.prog.info? (ρ.t 23) = some i0) (hz0 : i0.zero = some z) (hz1 : i0.size = sz) (hz2 : i0.bytes = bytes) (hzs : z.cells.size = sz) (hsz : 0 < sz) (z23 : ∀ w, (Go.sizeOf (ρ.t 23)).run P.prog w = .ok sz w)
    {es : List AV} (hs : ∀ x ∈ es, x.cells.length = sz) (hm : es.length ≤ maxLen) (hbig : es.length * bytes ≤ 140737488355328) {h : List AO} {K : ARes → List AO → Prop}
    (k : K (.ok (.rsl es)) h) : WC P g [.rsl es] h K := by
  intro φ w S vs V M R
  obtain ⟨v, rfl, rv⟩ : ∃ v, vs = #[v] ∧ Rel h φ w S true (.rsl es) v := by
    have hl := R.1
    match vs, hl with
    | ⟨[v]⟩, _ => exact ⟨v, rfl, R.2 0 _ v rfl rfl⟩
  obtain ⟨A, cap, vals, rfl, hcap, Vv, hcell, hne⟩ := row_vals rv hsz hs
  refine .inl ⟨run_callFunc hf hb hn _ w, ?_⟩
  have rel0 : ∀ (A : Option Addr) (c : Nat) φ w S, Rel h φ w S true (.rsl []) (.slice A 0 c) := fun A c φ w S =>
    .rsl true [] A c 1 (fun _ _ => undef) (by simp) (by omega) (by simp) (fun i j x y hx => by simp at hx) (fun i j x y hx => by simp at hx)
  by_cases he : es = []
  · subst he
    cases A with
    | none =>
      have := AnyE.slices_Clone_nil L 0 cap w
      rw [hg] at this
      refine this.mono ?_
      rintro e w' ⟨rfl, rfl⟩
      exact ⟨_, h, φ, S, k, M, Ext.refl _ _ _ _, rel0 _ _ _ _ _⟩
    | some ad =>
      have := clone_empty L i0 z sz bytes hi hz0 hz1 hz2 hzs hsz z23 ad cap w
      rw [hg] at this
      refine this.mono ?_
      rintro e w' ⟨v', rfl, ⟨_, how⟩, B⟩
      refine ⟨_, h, φ, S, k, sim_below M B, ext_below M B, ?_⟩
      rcases how with ⟨rfl, _⟩ | ⟨g', cp, cur, rfl, _⟩
      · exact rel0 _ _ _ _ _
      · exact rel0 _ _ _ _ _
  · obtain ⟨ad, rfl⟩ := hne he
    have hpos : 0 < es.length := List.length_pos_iff.2 he
    have hvl : 0 < vals.length := by rw [Vv.1]; exact Nat.mul_pos hpos hsz
    have h0 := hcell ad rfl 0 _ (List.getElem?_eq_getElem hvl)
    have hsp := World.cell?_spot h0.1
    obtain ⟨b, o, s⟩ := ad
    have hs0 : s = none := by
      unfold Addr.add at hsp
      cases s with
      | none => rfl
      | some s => simp at hsp
    subst hs0
    have := AnyE.slices_Clone L i0 z sz bytes hi hz0 hz1 hz2 hzs hsz z23 b o es.length cap vals w Vv.1 hm hbig (fun j u e => by
      have := (hcell _ rfl j u e).1
      rw [Addr.add_lit] at this
      exact this) Vv.2.1
    rw [hg] at this
    refine this.mono ?_
    rintro e w' ⟨v', rfl, ⟨_, how⟩, _, B⟩
    rcases how with ⟨_, h0⟩ | ⟨g', cp, cur, rfl, q1, q2, q3, q4, q5, q6⟩
    · omega
    · have M' := sim_below M B
      have E' := ext_below M B
      have Vv' := Vv.mono E'
      have hg' : g' < w'.heap.size := (Array.getElem?_eq_some_iff.1 q2).1
      have R2 : RExt h φ w' S h φ w' (withBlk S g') := ⟨Nat.le_refl _, fun _ _ x => .inl x, fun _ _ _ => rfl, fun i hi => ⟨hi, rfl⟩, fun i e sz n hi _ => .inl ⟨hi, rfl⟩⟩
      have E2 : Ext h φ w S h φ w' (withBlk S g') :=
        { len := E'.len, stab := fun _ _ x => .inl x, cell := E'.cell, same := E'.same, tok := E'.tok, live := E'.live, frame := E'.frame, os := E'.os, tape := E'.tape, output := E'.output, size := E'.size,
          news := fun b o k => by
            rcases k with k | rfl
            · exact .inl k
            · exact .inr (.inl q1) }
      have M2 : Sim h φ w' (withBlk S g') := by
        refine ⟨fun i o ho => ?_, M'.inj, fun b o k => ?_⟩
        · cases hd : o.isDead with
          | true => cases o <;> simp [AO.isDead] at hd; trivial
          | false =>
            have hlt := (M.obj i o ho).lt hd
            refine (M'.obj i o ho).rmono R2 rfl (fun j hj => ?_)
            rcases hj with hj | hj
            · exact hj
            · omega
        · rcases k with k | rfl
          · exact M'.stab b o k
          · exact hg'
      refine ⟨_, h, φ, _, k, M2, E2, row_rel (Vv.mono E2) hsz hs q3 q2 q6 (fun j _ => .inr rfl) true⟩
/-- The same, in closed runs. -/
def cloneX (sz bytes : Nat) (es : List AV) (h : List AO) : Option (AV × List AO) :=
  if es.all (fun x => x.cells.length == sz) ∧ es.length ≤ maxLen ∧ es.length * bytes ≤ 140737488355328 then
    match es with
    | [] => some (.rsl [], h)
    | _ => some (.msl h.length 0 es.length es.length, h ++ [.box (cellsL es)])
  else none
end Go.Eng

/- The engine, part 31: functions that defer calls, compiled; sync.Once in closed runs. -/
set_option linter.unusedVariables false
set_option linter.unusedSimpArgs false
namespace Go.Eng

def hasDefer : Code → Bool
  | .region _ ops _ => ops.toList.any fun o => match o.op with
    | .defer _ => true
    | _ => false
  | .seq a b | .cond _ a b => hasDefer a || hasDefer b
  | .block _ a | .loop a | .scope a => hasDefer a
  | _ => false
/-- The call that is deferred by a region's last operation. -/
def lastDefer (ops : Array Oper) : Option (Opnd × List Opnd) :=
  match ops.back? with
  | some o => match o.op, o.guard, o.dst with
    | .defer cl, none, none => match cl.callee with
      | .value g => match cO g, cOL cl.args.toList with
        | some g', some l => some (g', l)
        | _, _ => none
      | _ => none
    | _, _, _ => none
  | none => none
def compA (P : Program) (N : Nat) (c : Code) : Option AC := (comp P N [] c [] (List.range N)).map Prod.fst
def compT (P : Program) (N : Nat) : Code → Option AT
  | .seq (.region id ops false) d => match lastDefer ops with
    | some (g, l) => match compOps P N ops ops.toList.dropLast, compT P N d with
      | some aops, some t => some (.defer aops g l t)
      | _, _ => none
    | none => match compA P N (.region id ops false), (if hasDefer d then compT P N d else (compA P N d).map .fin) with
      | some x, some t => some (.seq x t)
      | _, _ => none
  | .seq a d => if hasDefer a then none else match compA P N a, (if hasDefer d then compT P N d else (compA P N d).map .fin) with
    | some x, some t => some (.seq x t)
    | _, _ => none
  | .cond p a b => match cO p, compT P N a, compT P N b with
    | some q, some x, some y => some (.cond q x y)
    | _, _, _ => none
  | c => (compA P N c).map .fin

theorem compA_sound {P : Pg} {N : Nat} {c : Code} {x : AC} (e : compA P.prog N c = some x) : Cmp P N c x := by
  obtain ⟨⟨y, i⟩, h, rfl⟩ := Option.map_eq_some_iff.1 e
  exact comp_sound _ _ _ _ _ h
theorem lastDefer_sound {ops : Array Oper} {g : Opnd} {l : List Opnd} (e : lastDefer ops = some (g, l)) : ∃ o cl g0, ops.back? = some o ∧ o.op = .defer cl ∧ o.guard = none ∧ o.dst = none ∧ cl.callee = .value g0 ∧ cO g0 = some g ∧ cOL cl.args.toList = some l := by
  unfold lastDefer at e
  split at e
  case h_2 => cases e
  rename_i o ho
  split at e
  case h_2 => cases e
  rename_i cl h1 h2 h3
  split at e
  case h_2 => cases e
  rename_i g0 hc
  split at e
  case h_2 => cases e
  rename_i g' l' h4 h5
  injection e with e; injection e with e1 e2; subst e1 e2
  exact ⟨o, cl, g0, ho, h1, h2, h3, hc, h4, h5⟩
theorem compT_sound {P : Pg} {N : Nat} : ∀ (c : Code) (t : AT), compT P.prog N c = some t → CmpT P N c t := by
  intro c
  induction c with
  | seq a d iha ihd =>
    intro t e
    have tl : ∀ t', (if hasDefer d then compT P.prog N d else (compA P.prog N d).map .fin) = some t' → CmpT P N d t' := by
      intro t' e
      split at e
      · exact ihd t' e
      · obtain ⟨x, h, rfl⟩ := Option.map_eq_some_iff.1 e
        exact .fin _ _ (compA_sound h)
    unfold compT at e
    split at e
    · rename_i id ops d' heq
      injection heq with h1 h2
      subst h1 h2
      split at e
      · rename_i g l hl
        split at e
        case h_2 => cases e
        rename_i aops t' ha ht
        injection e with e
        subst e
        obtain ⟨o, cl, g0, k1, k2, k3, k4, k5, k6, k7⟩ := lastDefer_sound hl
        obtain ⟨n1, n2⟩ := compOps_sound _ _ ha
        have hsz : 0 < ops.size := by
          rcases Nat.eq_zero_or_pos ops.size with h | h
          · rw [Array.back?_eq_getElem?, Array.getElem?_eq_none (by omega)] at k1; cases k1
          · exact h
        have hlen : aops.length + 1 = ops.size := by
          rw [n1, List.length_dropLast, Array.length_toList]; omega
        refine .defer id ops aops o cl g0 g l d t' hlen (fun j ao o' h1 h2 => n2 j ao o' h1 ?_) ?_ k2 k3 k4 k5 k6 k7 (ihd t' ht)
        · have hj := (List.getElem?_eq_some_iff.1 h1).1
          rw [List.getElem?_dropLast, if_pos (by simp; omega)]
          simpa using h2
        · rw [Array.back?_eq_getElem?] at k1
          rw [← k1]; congr 1; omega
      · split at e
        case h_2 => cases e
        rename_i x t' hx ht
        injection e with e
        subst e
        exact .seq _ _ _ _ (compA_sound hx) (tl t' ht)
    · rename_i a' d' _ heq
      injection heq with h1 h2
      subst h1 h2
      split at e
      · cases e
      split at e
      case h_2 => cases e
      rename_i x t' hx ht
      injection e with e
      subst e
      exact .seq _ _ _ _ (compA_sound hx) (tl t' ht)
    · rename_i heq; cases heq
    · rename_i h _; exact absurd rfl (h _ _)
  | cond p a b iha ihb =>
    intro t e
    simp only [compT] at e
    split at e
    case h_2 => cases e
    rename_i q x y hq hx hy
    injection e with e
    subst e
    exact .cond _ _ _ _ _ _ hq (iha _ hx) (ihb _ hy)
  | _ =>
    intro t e
    simp only [compT] at e
    obtain ⟨x, h, rfl⟩ := Option.map_eq_some_iff.1 e
    exact .fin _ _ (compA_sound h)

structure ATFun where
  nt : Nat
  res : List ARV
  body : AT
  deriving Inhabited
def compTF (P : Program) (g : FuncId) : Option ATFun :=
  match P.funcs[g]? with
  | none => none
  | some fn => if fn.name == "runtime.NumGoroutine" then none else match fn.body with
    | none => none
    | some c => match compRes P fn.results.toList, compT P fn.ntmps c with
      | some rs, some t => some ⟨fn.ntmps, rs, t⟩
      | _, _ => none
theorem WT_of {P : Pg} (hm : P.prog.follows .mixedOrders = true) {g : FuncId} {F : ATFun} (e : compTF P.prog g = some F) {args : List AV} {h : List AO} {K : ARes → List AO → Prop} (hlen : args.length ≤ F.nt)
    (k : wpT P h F.res K F.body [] (argF 0 args) h) : WC P g args h K := by
  unfold compTF at e
  split at e
  · cases e
  rename_i fn hf
  split at e
  · cases e
  rename_i hn
  split at e
  · cases e
  rename_i c hb
  split at e
  case h_2 => cases e
  rename_i rs t hr ht
  injection e with e
  subst e
  obtain ⟨k1, k2⟩ := compRes_sound _ _ hr
  exact WC_of_tail hm hf hb (by simpa using hn) (compT_sound _ _ ht) (by simpa using k1.symm) (fun j r r' h1 h2 => k2 j r r' (by simpa using h1) h2) hlen k

/-! ### steps -/
section
variable {P : Pg} {Q : QT} {f : Fr} {h : List AO} {K : Fr → List AO → Prop} {r : List AOper}
theorem opsA_pl {d : Option Nat} {o : AOp} (x : AV) (h' : List AO) (e : evP f h o = some (x, h')) (k : opsA P Q r (put f d x) h' K) : opsA P Q (⟨d, .pl o, none⟩ :: r) f h K :=
  .inl ⟨rfl, x, h', e, k⟩
theorem opsA_call {d : Option Nat} {g : Opnd} {args : List Opnd} {fid : FuncId} {first caps : List AV} (e : ev f g = .fn fid first caps)
    (k : WC P fid (nrmL first ++ (nrmL (args.map (ev f)) ++ nrmL caps)) h fun res h' => match res with
      | .ok x => opsA P Q r (put f d x) h' K
      | .pan x => Q (.pan x) f h') : opsA P Q (⟨d, .call g args, none⟩ :: r) f h K :=
  .inl ⟨rfl, fid, first, caps, e, k⟩
end
mutual
theorem nrm_idem : ∀ x : AV, nrm (nrm x) = nrm x
  | .agg cs => by simp [nrm, nrmL_idem cs]
  | .tup cs => by simp [nrm, nrmL_idem cs]
  | .iface t x => by simp [nrm, nrm_idem x]
  | .fn g fs cs => by simp [nrm, nrmL_idem fs, nrmL_idem cs]
  | .esl => rfl
  | .osl _ _ => rfl
  | .undef => rfl
  | .bool _ => rfl
  | .int _ _ => rfl
  | .str _ => rfl
  | .nilp => rfl
  | .ptr _ _ => rfl
  | .rptr _ => rfl
  | .rsl _ => rfl
  | .msl _ _ _ _ => rfl
  | .nilmap => rfl
  | .map _ => rfl
  | .nilfn => rfl
  | .nilif => rfl
theorem nrmL_idem : ∀ l : List AV, nrmL (nrmL l) = nrmL l
  | [] => rfl
  | x :: l => by simp [nrmL, nrm_idem x, nrmL_idem l]
end
/-- sync.Once.Do, in closed runs: 'done', the lock, the semaphore lie at o, o + 1, o + 2. -/
def onceX (rc : CallT) (i o : Nat) (f : AV) (h : List AO) : Option (AV × List AO) :=
  match h[i]? with
  | some (.box cs) => match cs[o]?, cs[o + 1]? with
    | some (.int .u32 v), some (.int .i32 s) =>
      if v ≠ 0 then some (.tup [], h)
      else if s ≠ 0 then none
      else match rc f [] (h.set i (.box (cs.set (o + 1) (.int .i32 1)))) with
        | some (_, h') => match h'[i]? with
          | some (.box cs') => match cs'[o]?, cs'[o + 1]? with
            | some (.int .u32 _), some (.int .i32 s') => if s' = 1 then some (.tup [], h'.set i (.box ((cs'.set o (.int .u32 1)).set (o + 1) (.int .i32 0)))) else none
            | _, _ => none
          | _ => none
        | none => none
    | _, _ => none
  | _ => none
end Go.Eng

/- The engine, part 32: drawn regions in which calls leave the objects as they are. -/
set_option linter.unusedVariables false
set_option linter.unusedSimpArgs false
namespace Go.Eng
def quietOp (o : AOper) : Bool := match o.op with
  | .pl b => !b.eff
  | .call _ _ => true
/-- Between what reads and the call that may come at another time nothing is turned. -/
def segOk (ops : List AOper) (p : Nat × Nat) : Bool := (List.range ops.length).all fun j => !(decide (min p.1 p.2 ≤ j) && decide (j ≤ max p.1 p.2)) || (match ops[j]? with
  | some o => quietOp o
  | none => true)
def isCall : ASt → Bool
  | .pl _ => false
  | .call _ _ => true
def TrQ (P : Pg) : List AOper → Fr → List AO → List (Fr × List AO) → Fr → List AO → Prop
  | [], f, h, tr, f', h' => tr = [(f, h)] ∧ f' = f ∧ h' = h
  | op :: r, f, h, tr, f', h' => ∃ x h1 tr', op1 P f h op (fun res h2 => res = .ok x ∧ h2 = h1) ∧ (isCall op.op = true → h1 = h) ∧ tr = (f, h) :: tr' ∧ TrQ P r (put f op.dst x) h1 tr' f' h'
theorem TrQ.tr {P : Pg} : ∀ {ops : List AOper} {f : Fr} {h : List AO} {tr : List (Fr × List AO)} {f' : Fr} {h' : List AO}, TrQ P ops f h tr f' h' → Tr P ops f h tr f' h'
  | [], _, _, _, _, _, T => T
  | op :: r, f, h, tr, f', h', ⟨x, h1, tr', k1, _, k2, T⟩ => ⟨x, h1, tr', k1, k2, T.tr⟩
theorem TrQ.head {P : Pg} : ∀ {ops : List AOper} {f : Fr} {h : List AO} {tr : List (Fr × List AO)} {f' : Fr} {h' : List AO}, TrQ P ops f h tr f' h' → tr[0]? = some (f, h)
  | [], _, _, _, _, _, ⟨rfl, _⟩ => rfl
  | op :: r, f, h, tr, f', h', ⟨x, h1, tr', _, _, e, _⟩ => by rw [e]; rfl
theorem TrQ.step {P : Pg} : ∀ {ops : List AOper} {f : Fr} {h : List AO} {tr : List (Fr × List AO)} {f' : Fr} {h' : List AO}, TrQ P ops f h tr f' h' →
    ∀ (j : Nat) (o : AOper) (a b : Fr × List AO), ops[j]? = some o → quietOp o = true → tr[j]? = some a → tr[j + 1]? = some b → b.2 = a.2
  | [], _, _, _, _, _, _, j, o, a, b, ho, _, _, _ => by simp at ho
  | op :: r, f, h, tr, f', h', ⟨x, h1, tr', k1, k0, e, T⟩, j, o, a, b, ho, hq, ha, hb => by
    subst e
    cases j with
    | succ j => exact T.step j o a b (by simpa using ho) hq (by simpa using ha) (by simpa using hb)
    | zero =>
      simp only [List.getElem?_cons_zero, Option.some.injEq] at ho ha
      simp only [Nat.zero_add, List.getElem?_cons_succ] at hb
      rw [T.head] at hb
      injection hb with hb
      subst ho ha hb
      show h1 = h
      cases hs : op.op with
      | call c l => exact k0 (by rw [hs]; rfl)
      | pl b =>
        rcases k1 with ⟨_, k1⟩ | ⟨_, k1⟩
        · rw [hs] at k1
          obtain ⟨y, h2, e, _, e2⟩ := k1
          have : b.eff = false := by simpa [quietOp, hs] using hq
          rw [← e2]; exact evP_noeff this e
        · exact k1.2.symm
theorem TrQ.run {P : Pg} {ops : List AOper} {f : Fr} {h : List AO} {tr : List (Fr × List AO)} {f' : Fr} {h' : List AO} (T : TrQ P ops f h tr f' h') (hl : tr.length = ops.length + 1) (i : Nat) :
    ∀ (j : Nat) (a b : Fr × List AO), i ≤ j → (∀ k, i ≤ k → k < j → ∀ o, ops[k]? = some o → quietOp o = true) → tr[i]? = some a → tr[j]? = some b → b.2 = a.2 := by
  intro j
  induction j with
  | zero =>
    intro a b hij _ ha hb
    obtain rfl : i = 0 := by omega
    rw [ha] at hb; injection hb with hb; rw [hb]
  | succ j ih =>
    intro a b hij hq ha hb
    by_cases e : i = j + 1
    · subst e; rw [ha] at hb; injection hb with hb; rw [hb]
    · have hj := (List.getElem?_eq_some_iff.1 hb).1
      have hc : tr[j]? = some tr[j] := List.getElem?_eq_getElem (by omega)
      have ho : ops[j]? = some ops[j] := List.getElem?_eq_getElem (by omega)
      rw [T.step j _ _ b ho (hq j (by omega) (by omega) _ ho) hc hb]
      exact ih a _ (by omega) (fun k h1 h2 => hq k h1 (by omega)) ha hc
theorem TrQ.len {P : Pg} : ∀ {ops : List AOper} {f : Fr} {h : List AO} {tr : List (Fr × List AO)} {f' : Fr} {h' : List AO}, TrQ P ops f h tr f' h' → tr.length = ops.length + 1
  | [], _, _, _, _, _, ⟨rfl, _⟩ => rfl
  | op :: r, f, h, tr, f', h', ⟨x, h1, tr', _, _, e, T⟩ => by subst e; simp [T.len]
def OE (C : Ctx) (ops : List AOper) (keep : List Nat) (k : List KI) (f : Fr) (h : List AO) : Prop := ∃ tr f' h', TrQ C.P ops f h tr f' h' ∧ QK C k .normal (keepF keep f') h'
section
variable {C : Ctx} {k : List KI} {f : Fr} {h : List AO}
theorem R_regE {ops : List AOper} {re : List (Nat × Nat)} {keep : List Nat} (hs : re.all (segOk ops) = true) (H : OE C ops keep k f h) : R C (.regD ops re keep) k f h := by
  obtain ⟨tr, f', h', T, q⟩ := H
  unfold R
  simp only [wpA]
  refine ⟨tr, f', h', T.tr, fun p hp o Fi Fk Fk' h1 h2 h3 h4 => ?_, q⟩
  have hseg := (List.all_eq_true.1 hs) p hp
  simp only [segOk, List.all_eq_true, List.mem_range, Bool.or_eq_true, Bool.not_eq_true', Bool.and_eq_false_iff, decide_eq_false_iff_not] at hseg
  have quiet : ∀ j, min p.1 p.2 ≤ j → j ≤ max p.1 p.2 → ∀ o, ops[j]? = some o → quietOp o = true := by
    intro j h1 h2 o ho
    have := hseg j (List.getElem?_eq_some_iff.1 ho).1
    rw [ho] at this
    rcases this with (h | h) | h
    · exact absurd h1 h
    · exact absurd h2 h
    · exact h
  have hl := T.len
  have e1 : Fk.2 = Fi.2 := by
    rcases Nat.le_total p.1 p.2 with hle | hle
    · exact T.run hl p.1 p.2 Fi Fk hle (fun j a b => quiet j (by omega) (by omega)) h2 h3
    · exact (T.run hl p.2 p.1 Fk Fi hle (fun j a b => quiet j (by omega) (by omega)) h3 h2).symm
  have hk : p.2 < ops.length := by have := (List.getElem?_eq_some_iff.1 h4).1; omega
  have e2 : Fk'.2 = Fk.2 := T.step p.2 _ Fk Fk' (List.getElem?_eq_getElem hk) (quiet p.2 (by omega) (by omega) _ (List.getElem?_eq_getElem hk)) h3 h4
  rw [e2, e1]
  exact ⟨rfl, rfl⟩
@[simp] theorem OE_nil {keep : List Nat} : OE C [] keep k f h = QK C k .normal (keepF keep f) h := by
  apply propext
  constructor
  · rintro ⟨tr, f', h', ⟨_, rfl, rfl⟩, q⟩; exact q
  · intro q; exact ⟨_, _, _, ⟨rfl, rfl, rfl⟩, q⟩
def NE (C : Ctx) (d : Option Nat) (ops : List AOper) (keep : List Nat) (k : List KI) (f : Fr) (g : Option Bool) (s : Option (AV × List AO)) (h : List AO) : Prop := match g with
  | some true => match s with
    | some (x, h') => OE C ops keep k (put f d x) h'
    | none => False
  | some false => OE C ops keep k (put f d (.tup [])) h
  | none => False
@[simp] theorem OE_pl {o : AOp} {d : Option Nat} {g : Option (Nat × Bool)} {ops : List AOper} {keep : List Nat} : OE C (⟨d, .pl o, g⟩ :: ops) keep k f h = NE C d ops keep k f (gd f g) (evP f h o) h := by
  apply propext
  constructor
  · rintro ⟨tr, f', h', ⟨x, h1, tr', k1, _, rfl, k2⟩, h2⟩
    rw [op1_eq] at k1
    unfold P1 at k1
    split at k1
    · rename_i g1
      split at k1
      · rename_i g2
        obtain ⟨e1, e2⟩ := k1
        injection e1 with e1
        subst e1 e2
        rw [g1, g2]
        exact ⟨tr', f', h', k2, h2⟩
      · exact k1.elim
    · rename_i g1
      obtain ⟨e1, e2⟩ := k1
      injection e1 with e1
      subst e1 e2
      rw [g1]
      exact ⟨tr', f', h', k2, h2⟩
    · exact k1.elim
  · intro H
    unfold NE at H
    split at H
    · rename_i g1
      split at H
      · rename_i x h1 g2
        obtain ⟨tr', f', h', k2, h2⟩ := H
        exact ⟨_, f', h', ⟨x, h1, tr', by rw [op1_eq, g1, g2]; exact ⟨rfl, rfl⟩, fun e => by simp [isCall] at e, rfl, k2⟩, h2⟩
      · exact H.elim
    · rename_i g1
      obtain ⟨tr', f', h', k2, h2⟩ := H
      exact ⟨_, f', h', ⟨_, _, tr', by rw [op1_eq, g1]; exact ⟨rfl, rfl⟩, fun _ => rfl, rfl, k2⟩, h2⟩
    · exact H.elim
@[simp] theorem NE_t {d : Option Nat} {ops : List AOper} {keep : List Nat} {x : AV} {h h' : List AO} : NE C d ops keep k f (some true) (some (x, h')) h = OE C ops keep k (put f d x) h' := rfl
@[simp] theorem NE_f {d : Option Nat} {ops : List AOper} {keep : List Nat} {s : Option (AV × List AO)} {h : List AO} : NE C d ops keep k f (some false) s h = OE C ops keep k (put f d (.tup [])) h := rfl
def CE (C : Ctx) (d : Option Nat) (ops : List AOper) (keep : List Nat) (k : List KI) (f : Fr) (g : Option Bool) (fn : AV) (args : List AV) (h : List AO) : Prop := match g with
  | some true => match fn with
    | .fn fid first caps => ∃ x, WC C.P fid (nrmL first ++ (nrmL args ++ nrmL caps)) h (fun r h2 => r = .ok x ∧ h2 = h) ∧ OE C ops keep k (put f d x) h
    | _ => False
  | some false => OE C ops keep k (put f d (.tup [])) h
  | none => False
@[simp] theorem OE_call {c : Opnd} {l : List Opnd} {d : Option Nat} {g : Option (Nat × Bool)} {ops : List AOper} {keep : List Nat} : OE C (⟨d, .call c l, g⟩ :: ops) keep k f h = CE C d ops keep k f (gd f g) (ev f c) (l.map (ev f)) h := by
  apply propext
  constructor
  · rintro ⟨tr, f', h', ⟨x, h1, tr', k1, k0, rfl, k2⟩, h2⟩
    have : h1 = h := k0 rfl
    subst this
    rcases k1 with ⟨g1, fid, first, caps, g2, w⟩ | ⟨g1, g2, g3⟩
    · simp only at g1 g2
      simp only [CE, g1, g2]
      exact ⟨x, w, tr', f', h', k2, h2⟩
    · simp only at g1
      injection g2 with g2
      subst g2
      simp only [CE, g1]
      exact ⟨tr', f', h', k2, h2⟩
  · intro H
    unfold CE at H
    split at H
    · rename_i g1
      split at H
      · rename_i fid first caps g2
        obtain ⟨x, w, tr', f', h'', k2, h2⟩ := H
        exact ⟨_, f', h'', ⟨x, h, tr', .inl ⟨g1, fid, first, caps, g2, w⟩, fun _ => rfl, rfl, k2⟩, h2⟩
      · exact H.elim
    · rename_i g1
      obtain ⟨tr', f', h'', k2, h2⟩ := H
      exact ⟨_, f', h'', ⟨_, _, tr', .inr ⟨g1, rfl, rfl⟩, fun _ => rfl, rfl, k2⟩, h2⟩
    · exact H.elim
@[simp] theorem CE_t {d : Option Nat} {ops : List AOper} {keep : List Nat} {fid : FuncId} {first caps args : List AV} : CE C d ops keep k f (some true) (.fn fid first caps) args h =
    ∃ x, WC C.P fid (nrmL first ++ (nrmL args ++ nrmL caps)) h (fun r h2 => r = .ok x ∧ h2 = h) ∧ OE C ops keep k (put f d x) h := rfl
@[simp] theorem CE_f {d : Option Nat} {ops : List AOper} {keep : List Nat} {fn : AV} {args : List AV} : CE C d ops keep k f (some false) fn args h = OE C ops keep k (put f d (.tup [])) h := rfl
end
end Go.Eng

/- The engine, part 33: drawn regions, what is read and what calls do being told apart at the end. -/
set_option linter.unusedVariables false
set_option linter.unusedSimpArgs false
namespace Go.Eng
/-- The rest of a drawn region, the states ahead of the operations that are done being kept. -/
def OX (C : Ctx) (ops0 : List AOper) (re : List (Nat × Nat)) (acc : List (Fr × List AO)) (ops : List AOper) (keep : List Nat) (k : List KI) (f : Fr) (h : List AO) : Prop :=
  ∃ tr f' h', Tr C.P ops f h tr f' h' ∧ DrawOk ops0 re (acc ++ tr) ∧ QK C k .normal (keepF keep f') h'
section
variable {C : Ctx} {k : List KI} {f : Fr} {h : List AO} {ops0 : List AOper} {re : List (Nat × Nat)} {acc : List (Fr × List AO)}
theorem R_regX {ops : List AOper} {keep : List Nat} (H : OX C ops re [] ops keep k f h) : R C (.regD ops re keep) k f h := by
  obtain ⟨tr, f', h', T, D, q⟩ := H
  unfold R
  simp only [wpA]
  exact ⟨tr, f', h', T, by simpa using D, q⟩
@[simp] theorem OX_nil {keep : List Nat} : OX C ops0 re acc [] keep k f h = (DrawOk ops0 re (acc ++ [(f, h)]) ∧ QK C k .normal (keepF keep f) h) := by
  apply propext
  constructor
  · rintro ⟨tr, f', h', ⟨rfl, rfl, rfl⟩, D, q⟩; exact ⟨D, q⟩
  · rintro ⟨D, q⟩; exact ⟨_, _, _, ⟨rfl, rfl, rfl⟩, D, q⟩
theorem OX_cons {op : AOper} {ops : List AOper} {keep : List Nat} : OX C ops0 re acc (op :: ops) keep k f h ↔ ∃ x h1, op1 C.P f h op (fun res h2 => res = .ok x ∧ h2 = h1) ∧ OX C ops0 re (acc ++ [(f, h)]) ops keep k (put f op.dst x) h1 := by
  constructor
  · rintro ⟨tr, f', h', ⟨x, h1, tr', k1, rfl, k2⟩, D, q⟩
    exact ⟨x, h1, k1, tr', f', h', k2, by simpa using D, q⟩
  · rintro ⟨x, h1, k1, tr', f', h', k2, D, q⟩
    exact ⟨_, f', h', ⟨x, h1, tr', k1, rfl, k2⟩, by simpa using D, q⟩
def NX (C : Ctx) (ops0 : List AOper) (re : List (Nat × Nat)) (acc : List (Fr × List AO)) (d : Option Nat) (ops : List AOper) (keep : List Nat) (k : List KI) (f : Fr) (g : Option Bool) (s : Option (AV × List AO)) (h : List AO) : Prop := match g with
  | some true => match s with
    | some (x, h') => OX C ops0 re acc ops keep k (put f d x) h'
    | none => False
  | some false => OX C ops0 re acc ops keep k (put f d (.tup [])) h
  | none => False
@[simp] theorem OX_pl {o : AOp} {d : Option Nat} {g : Option (Nat × Bool)} {ops : List AOper} {keep : List Nat} : OX C ops0 re acc (⟨d, .pl o, g⟩ :: ops) keep k f h = NX C ops0 re (acc ++ [(f, h)]) d ops keep k f (gd f g) (evP f h o) h := by
  apply propext
  rw [OX_cons]
  constructor
  · rintro ⟨x, h1, k1, H⟩
    rw [op1_eq] at k1
    unfold P1 at k1
    split at k1
    · rename_i g1
      split at k1
      · rename_i g2
        obtain ⟨e1, e2⟩ := k1
        injection e1 with e1
        subst e1 e2
        rw [g1, g2]; exact H
      · exact k1.elim
    · rename_i g1
      obtain ⟨e1, e2⟩ := k1
      injection e1 with e1
      subst e1 e2
      rw [g1]; exact H
    · exact k1.elim
  · intro H
    unfold NX at H
    split at H
    · rename_i g1
      split at H
      · rename_i x h1 g2
        exact ⟨x, h1, by rw [op1_eq, g1, g2]; exact ⟨rfl, rfl⟩, H⟩
      · exact H.elim
    · rename_i g1
      exact ⟨_, _, by rw [op1_eq, g1]; exact ⟨rfl, rfl⟩, H⟩
    · exact H.elim
@[simp] theorem NX_t {d : Option Nat} {ops : List AOper} {keep : List Nat} {x : AV} {h h' : List AO} : NX C ops0 re acc d ops keep k f (some true) (some (x, h')) h = OX C ops0 re acc ops keep k (put f d x) h' := rfl
@[simp] theorem NX_f {d : Option Nat} {ops : List AOper} {keep : List Nat} {s : Option (AV × List AO)} {h : List AO} : NX C ops0 re acc d ops keep k f (some false) s h = OX C ops0 re acc ops keep k (put f d (.tup [])) h := rfl
def CX (C : Ctx) (ops0 : List AOper) (re : List (Nat × Nat)) (acc : List (Fr × List AO)) (d : Option Nat) (ops : List AOper) (keep : List Nat) (k : List KI) (f : Fr) (g : Option Bool) (fn : AV) (args : List AV) (h : List AO) : Prop := match g with
  | some true => match fn with
    | .fn fid first caps => ∃ x h', WC C.P fid (nrmL first ++ (nrmL args ++ nrmL caps)) h (fun r h2 => r = .ok x ∧ h2 = h') ∧ OX C ops0 re acc ops keep k (put f d x) h'
    | _ => False
  | some false => OX C ops0 re acc ops keep k (put f d (.tup [])) h
  | none => False
@[simp] theorem OX_call {c : Opnd} {l : List Opnd} {d : Option Nat} {g : Option (Nat × Bool)} {ops : List AOper} {keep : List Nat} : OX C ops0 re acc (⟨d, .call c l, g⟩ :: ops) keep k f h = CX C ops0 re (acc ++ [(f, h)]) d ops keep k f (gd f g) (ev f c) (l.map (ev f)) h := by
  apply propext
  rw [OX_cons]
  constructor
  · rintro ⟨x, h1, k1, H⟩
    rcases k1 with ⟨g1, fid, first, caps, g2, w⟩ | ⟨g1, g2, g3⟩
    · simp only at g1 g2
      simp only [CX, g1, g2]
      exact ⟨x, h1, w, H⟩
    · simp only at g1
      injection g2 with g2
      subst g2 g3
      simp only [CX, g1]
      exact H
  · intro H
    unfold CX at H
    split at H
    · rename_i g1
      split at H
      · rename_i fid first caps g2
        obtain ⟨x, h', w, q⟩ := H
        exact ⟨x, h', .inl ⟨g1, fid, first, caps, g2, w⟩, q⟩
      · exact H.elim
    · rename_i g1
      exact ⟨_, _, .inr ⟨g1, rfl, rfl⟩, H⟩
    · exact H.elim
@[simp] theorem CX_t {d : Option Nat} {ops : List AOper} {keep : List Nat} {fid : FuncId} {first caps args : List AV} : CX C ops0 re acc d ops keep k f (some true) (.fn fid first caps) args h =
    ∃ x h', WC C.P fid (nrmL first ++ (nrmL args ++ nrmL caps)) h (fun r h2 => r = .ok x ∧ h2 = h') ∧ OX C ops0 re acc ops keep k (put f d x) h' := rfl
@[simp] theorem CX_f {d : Option Nat} {ops : List AOper} {keep : List Nat} {fn : AV} {args : List AV} : CX C ops0 re acc d ops keep k f (some false) fn args h = OX C ops0 re acc ops keep k (put f d (.tup [])) h := rfl
end
end Go.Eng
