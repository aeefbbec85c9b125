/- The engine, part 17: what operations look at, and what they touch. -/
import Derived.Test.YtjljhmeadfejhaaE16
set_option linter.unusedVariables false
set_option linter.unusedSimpArgs false
namespace Go.Eng

def AOp.opnds : AOp → List Opnd
  | .mv x | .cvp x | .box x | .load _ x | .nilck x | .un _ x | .fld _ _ x | .fa _ x | .mkif _ x | .ext _ x | .lenS x | .lenL x | .conv _ x | .nop x | .tas _ _ x | .rng x | .nxt x => [x]
  | .pick c a b => [c, a, b]
  | .alloc _ | .mkmap => []
  | .build _ ps => ps.map fun p => p.2.2
  | .lit _ ps => ps
  | .store _ x y | .mm _ x y | .bin _ _ x y | .ia _ x y | .iaA _ _ x y | .ixS x y | .ixA _ x y | .append _ _ _ x y => [x, y]
  | .lookup _ _ _ m k => [m, k]
  | .mupd _ m k v => [m, k, v]
  | .mkfn _ fs cs => fs ++ cs
  | .call g l => g :: l
  | .slcS x lo hi | .slcL _ x lo hi => x :: (lo.toList ++ hi.toList)
  | .mksl _ _ _ n c => [n, c]
def ASt.opnds : ASt → List Opnd
  | .pl o => o.opnds
  | .call g l => g :: l
def tmpsOf : List Opnd → List Nat
  | [] => []
  | .t n :: l => n :: tmpsOf l
  | .c _ :: l => tmpsOf l
  | .m _ n :: l => n :: tmpsOf l
def AOper.uses (o : AOper) : List Nat := match o.guard with
  | none => tmpsOf o.op.opnds
  | some (t, _) => t :: tmpsOf o.op.opnds

theorem ev_congr {f g : Fr} {l : List Opnd} (H : ∀ t ∈ tmpsOf l, lk f t = lk g t) : ∀ x ∈ l, ev f x = ev g x := by
  induction l with
  | nil => intro x hx; simp at hx
  | cons y l ih =>
    intro x hx
    rcases List.mem_cons.1 hx with rfl | hx
    · cases x with
      | t n => simp only [ev]; rw [H n (by simp [tmpsOf])]
      | c v => rfl
      | m tbl n => simp only [ev]; rw [H n (by simp [tmpsOf])]
    · refine ih (fun t ht => H t ?_) x hx
      cases y <;> simp [tmpsOf, ht]

theorem bnd1_congr {f g : Fr} {d : Int} {b : Option Opnd} (H : ∀ x ∈ b.toList, ev f x = ev g x) : bnd1 f d b = bnd1 g d b := by
  cases b with
  | none => rfl
  | some o => simp only [bnd1]; rw [H o (by simp)]

theorem evP_congr {f g : Fr} {h : List AO} {o : AOp} (H : ∀ x ∈ o.opnds, ev f x = ev g x) : evP f h o = evP g h o := by
  cases o
  case build zs ps =>
    simp only [AOp.opnds, List.mem_map] at H
    simp only [evP]
    rw [List.map_congr_left (fun p hp => by rw [H p.2.2 ⟨p, hp, rfl⟩])]
  case lit sz ps =>
    simp only [AOp.opnds] at H
    have : ps.map (ev f) = ps.map (ev g) := List.map_congr_left H
    simp only [evP]
    split
    · rfl
    · rw [this]
  case mkfn g' fs cs =>
    simp only [AOp.opnds, List.mem_append] at H
    simp only [evP]
    rw [List.map_congr_left (l := fs) (fun p hp => H p (.inl hp)), List.map_congr_left (l := cs) (fun p hp => H p (.inr hp))]
  case slcS x lo hi =>
    simp only [AOp.opnds, List.mem_cons, List.mem_append] at H
    have e1 := fun d => bnd1_congr (d := d) (b := lo) (f := f) (g := g) (fun x hx => H x (.inr (.inl hx)))
    have e2 := fun d => bnd1_congr (d := d) (b := hi) (f := f) (g := g) (fun x hx => H x (.inr (.inr hx)))
    simp only [evP, e1, e2, H x (.inl rfl)]
  case slcL sz x lo hi =>
    simp only [AOp.opnds, List.mem_cons, List.mem_append] at H
    have e1 := fun d => bnd1_congr (d := d) (b := lo) (f := f) (g := g) (fun x hx => H x (.inr (.inl hx)))
    have e2 := fun d => bnd1_congr (d := d) (b := hi) (f := f) (g := g) (fun x hx => H x (.inr (.inr hx)))
    simp only [evP, e1, e2, H x (.inl rfl)]
  all_goals
    simp only [AOp.opnds, List.mem_cons, List.not_mem_nil, or_false, forall_eq_or_imp, forall_eq] at H
    first
      | rfl
      | (simp only [evP, H]; done)
      | (obtain ⟨H1, H2⟩ := H; simp only [evP, H1, H2]; done)
      | (obtain ⟨H1, H2, H3⟩ := H; simp only [evP, H1, H2, H3]; done)

theorem gd_congr {f g : Fr} {o : AOper} (H : ∀ t ∈ o.uses, lk f t = lk g t) : gd f o.guard = gd g o.guard := by
  cases hg : o.guard with
  | none => rfl
  | some p =>
    obtain ⟨t, want⟩ := p
    simp only [gd]
    rw [H t (by simp [AOper.uses, hg])]

theorem op1_congr {P : Pg} {f g : Fr} {h : List AO} {o : AOper} {K : ARes → List AO → Prop} (H : ∀ t ∈ o.uses, lk f t = lk g t) (k : op1 P f h o K) : op1 P g h o K := by
  have hE : ∀ x ∈ o.op.opnds, ev f x = ev g x := ev_congr fun t ht => H t (by unfold AOper.uses; split <;> simp [ht])
  unfold op1 at *
  rw [gd_congr H] at k
  rcases k with ⟨k1, k2⟩ | k
  · refine .inl ⟨k1, ?_⟩
    cases hs : o.op with
    | pl b =>
      rw [hs] at k2 hE
      simp only [st1] at k2 ⊢
      rw [← evP_congr hE]
      exact k2
    | call c l =>
      rw [hs] at k2 hE
      simp only [st1] at k2 ⊢
      rw [← hE c (by simp [ASt.opnds]), ← List.map_congr_left (l := l) (fun x hx => hE x (by simp [ASt.opnds, hx]))]
      exact k2
  · exact .inr k

/-- Does it turn, or make, objects? -/
def AOp.eff : AOp → Bool
  | .alloc _ | .box _ | .store _ _ _ | .mupd _ _ _ _ | .mkmap | .append _ _ _ _ _ | .call _ _ | .mksl _ _ _ _ _ | .rng _ | .nxt _ => true
  | _ => false
/-- Does it look at objects? -/
def AOp.rd : AOp → Bool
  | .load _ _ | .lookup _ _ _ _ _ | .cvp _ => true
  | _ => false
def ASt.eff : ASt → Bool
  | .pl o => o.eff
  | .call _ _ => true
def ASt.rd : ASt → Bool
  | .pl o => o.rd
  | .call _ _ => true

theorem evP_noeff {f : Fr} {h h' : List AO} {o : AOp} {x : AV} (hn : o.eff = false) (e : evP f h o = some (x, h')) : h' = h := by
  cases o <;> simp only [AOp.eff] at hn <;> first
    | (cases hn; done)
    | skip
  all_goals
    simp only [evP, P0] at e
    repeat' split at e
    all_goals first
      | (cases e; done)
      | (cases e; rfl)
      | (obtain ⟨_, _, e'⟩ := Option.map_eq_some_iff.1 e; cases e'; rfl)
theorem evP_pure {f : Fr} {h h' : List AO} {o : AOp} {x : AV} (hn : o.eff = false) (hr : o.rd = false) (e : evP f h o = some (x, h')) (g : List AO) : evP f g o = some (x, g) := by
  cases o <;> simp only [AOp.eff] at hn <;> simp only [AOp.rd] at hr <;> first
    | (cases hn; done)
    | (cases hr; done)
    | skip
  all_goals
    simp only [evP, P0] at e ⊢
    repeat' split at e
    all_goals first
      | (cases e; done)
      | (cases e; simp [*]; done)
      | (obtain ⟨_, h1, e'⟩ := Option.map_eq_some_iff.1 e; cases e'; simp [*]; done)

end Go.Eng
