/- YtjljhmeadfejhaaGreatME1: texts of this claim, merged. -/
import Derived.Maps.AppendAt
import Derived.WalkKit
/- The engine, part 1: abstract values and objects, and how they stand for the model's. -/
set_option linter.unusedVariables false
set_option linter.unusedSimpArgs false
namespace Go.Eng

/-- Abstract values: addresses are replaced by ids of abstract objects, or by the read-only trees that lie there. -/
inductive AV where
  | undef
  | bool (b : Bool)
  | int (k : IntKind) (n : Int)
  | str (s : ByteArray)
  | nilp
  | ptr (i o : Nat)
  | rptr (cs : List AV)
  | esl
  | rsl (es : List AV)
  | osl (t : Nat) (es : List AV)
  | msl (i o len cap : Nat)
  | nilmap
  | map (i : Nat)
  | fn (f : FuncId) (first caps : List AV)
  | nilfn
  | iface (t : TypeId) (x : AV)
  | nilif
  | agg (cs : List AV)
  | tup (xs : List AV)
  deriving Inhabited

/-- The cells of a value. -/
def AV.cells : AV → List AV
  | .agg cs => cs
  | x => [x]
/-- Is it the value of one cell? -/
def AV.one : AV → Bool
  | .agg _ | .tup _ | .undef => false
  | _ => true

/-- Abstract objects. -/
inductive AO where
  | box (cs : List AV)
  | tok (e : TypeId) (sz n : Nat)
  | map (es : List (AV × AV))
  | siter (s : ByteArray) (pos : Nat)
  | dead
  deriving Inhabited

def AO.isTok : AO → Bool
  | .tok .. => true
  | _ => false

/-- Where an object lies: its block; of a row that is appended to, its capacity. -/
structure Loc where
  blk : Nat
  cap : Nat

/-- An id of an object that is no token. -/
def nt (h : List AO) (i : Nat) : Prop := ∃ o, h[i]? = some o ∧ o.isTok = false

/-- The abstract value stands for the value; true: ids may occur; false: a read-only tree. -/
inductive Rel (h : List AO) (φ : Nat → Loc) (w : World) (S : Nat → Nat → Prop) : Bool → AV → Value → Prop
  | undef (m : Bool) (v : Value) : Rel h φ w S m .undef v
  | bool (m : Bool) (b : Bool) : Rel h φ w S m (.bool b) (.bool b)
  | int (m : Bool) (k : IntKind) (n : Int) : Rel h φ w S m (.int k n) (.int k n)
  | str (m : Bool) (s : ByteArray) : Rel h φ w S m (.str s) (.string s)
  | nilp (m : Bool) : Rel h φ w S m .nilp (.pointer none)
  | ptr (i o : Nat) (hi : nt h i) : Rel h φ w S true (.ptr i o) (.pointer (some ⟨(φ i).blk, o, none⟩))
  | rptr (m : Bool) (cs : List AV) (a : Addr) (f : Nat → Value)
      (hc : ∀ (j : Nat) (x : AV), cs[j]? = some x → x.one = true ∧ w.cell? (a.add j) = some (f j) ∧ S a.block (a.off + j))
      (hr : ∀ (j : Nat) (x : AV), cs[j]? = some x → Rel h φ w S false x (f j)) : Rel h φ w S m (.rptr cs) (.pointer (some a))
  | esl (m : Bool) (A : Option Addr) : Rel h φ w S m .esl (.slice A 0 0)
  | rsl (m : Bool) (es : List AV) (A : Option Addr) (c sz : Nat) (f : Nat → Nat → Value) (hl : es.length ≤ c) (hz : 0 < sz)
      (hs : ∀ x, x ∈ es → x.cells.length = sz)
      (hc : ∀ (i j : Nat) (x y : AV), es[i]? = some x → x.cells[j]? = some y → ∃ a, A = some a ∧ y.one = true ∧ w.cell? (a.add (i * sz + j)) = some (f i j) ∧ S a.block (a.off + (i * sz + j)))
      (hr : ∀ (i j : Nat) (x y : AV), es[i]? = some x → x.cells[j]? = some y → Rel h φ w S false y (f i j)) : Rel h φ w S m (.rsl es) (.slice A es.length c)
  | osl (t : Nat) (es : List AV) (v : Value) (ht : t < h.length) (hr : Rel h φ w S false (.rsl es) v)
      (hk : ∀ e sz n, h[t]? = some (.tok e sz n) → es.length ≤ n ∧ (es.length = n → v = .slice (some ⟨(φ t).blk, 0, none⟩) n (φ t).cap ∧ ∀ x, x ∈ es → x.cells.length = sz)) : Rel h φ w S true (.osl t es) v
  | msl (i o len cap c : Nat) (hi : nt h i) (hc : cap ≤ c) : Rel h φ w S true (.msl i o len cap) (.slice (some ⟨(φ i).blk, o, none⟩) len c)
  | nilmap (m : Bool) : Rel h φ w S m .nilmap (.map none)
  | map (i : Nat) (hi : nt h i) : Rel h φ w S true (.map i) (.map (some (φ i).blk))
  | fn (m : Bool) (g : FuncId) (fs cs : List AV) (us vs : Array Value) (hl' : fs.length = us.size) (hl : cs.length = vs.size)
      (hr' : ∀ (j : Nat) (x : AV) (v : Value), fs[j]? = some x → us[j]? = some v → Rel h φ w S m x v)
      (hr : ∀ (j : Nat) (x : AV) (v : Value), cs[j]? = some x → vs[j]? = some v → Rel h φ w S m x v) : Rel h φ w S m (.fn g fs cs) (.func (.func g) us vs)
  | nilfn (m : Bool) : Rel h φ w S m .nilfn .nilFunc
  | iface (m : Bool) (t : TypeId) (x : AV) (v : Value) (hr : Rel h φ w S m x v) : Rel h φ w S m (.iface t x) (.iface t v)
  | nilif (m : Bool) : Rel h φ w S m .nilif .nilIface
  | agg (m : Bool) (cs : List AV) (vs : Array Value) (hl : cs.length = vs.size) (h1 : ∀ (j : Nat) (x : AV), cs[j]? = some x → x.one = true)
      (hr : ∀ (j : Nat) (x : AV) (v : Value), cs[j]? = some x → vs[j]? = some v → Rel h φ w S m x v) : Rel h φ w S m (.agg cs) (.agg vs)
  | tup (m : Bool) (cs : List AV) (vs : Array Value) (hl : cs.length = vs.size)
      (hr : ∀ (j : Nat) (x : AV) (v : Value), cs[j]? = some x → vs[j]? = some v → Rel h φ w S m x v) : Rel h φ w S m (.tup cs) (.tuple vs)

/-- The object stands for block c. -/
def OR (h : List AO) (φ : Nat → Loc) (w : World) (S : Nat → Nat → Prop) (l : Loc) : AO → Prop
  | .box cs => ∃ arr T, w.heap[l.blk]? = some (.cells arr T (0, 0)) ∧ cs.length ≤ arr.size ∧ (∀ (j : Nat) (x : AV), cs[j]? = some x → x.one = true) ∧
      (∀ (j : Nat) (x : AV) (v : Value), cs[j]? = some x → arr[j]? = some v → Rel h φ w S true x v) ∧ ∀ j, ¬ S l.blk j
  | .tok e sz n => ∃ arr, w.heap[l.blk]? = some (.cells arr e (0, 0)) ∧ n ≤ l.cap ∧ l.cap ≤ maxLen ∧ arr.size = l.cap * sz ∧ ∀ j, n * sz ≤ j → ¬ S l.blk j
  | .map es => ∃ (arr : Array MapEntry) (clock : Nat), w.heap[l.blk]? = some (.map arr clock) ∧ es.length = arr.size ∧
      (∀ (j : Nat) x e, es[j]? = some x → arr[j]? = some e → Rel h φ w S false x.1 e.key ∧ Rel h φ w S true x.2 e.val) ∧ ∀ j, ¬ S l.blk j
  | .siter s pos => w.heap[l.blk]? = some (.stringIter s pos) ∧ ∀ j, ¬ S l.blk j
  | .dead => True

def AO.isDead : AO → Bool
  | .dead => true
  | _ => false

/-- The abstract heap stands for part of the world; S: cells that nobody writes any more. -/
structure Sim (h : List AO) (φ : Nat → Loc) (w : World) (S : Nat → Nat → Prop) : Prop where
  obj : ∀ i o, h[i]? = some o → OR h φ w S (φ i) o
  inj : ∀ i j oi oj, h[i]? = some oi → h[j]? = some oj → oi.isDead = false → oj.isDead = false → (φ i).blk = (φ j).blk → i = j
  stab : ∀ b o, S b o → b < w.heap.size

/-- From one state on to another one. -/
structure Ext (h : List AO) (φ : Nat → Loc) (w : World) (S : Nat → Nat → Prop) (h' : List AO) (φ' : Nat → Loc) (w' : World) (S' : Nat → Nat → Prop) : Prop where
  len : h.length ≤ h'.length
  stab : ∀ b o, S b o → S' b o
  cell : ∀ b o, S b o → w'.cell? ⟨b, o, none⟩ = w.cell? ⟨b, o, none⟩
  same : ∀ i, nt h i → nt h' i ∧ (φ' i).blk = (φ i).blk
  tok : ∀ (i : Nat) e sz n, h'[i]? = some (.tok e sz n) → i < h.length → (h[i]? = some (.tok e sz n) ∧ φ' i = φ i) ∨ ∃ e0 sz0 n0, h[i]? = some (.tok e0 sz0 n0) ∧ n0 < n
  live : ∀ (i : Nat) o, h'[i]? = some o → o.isDead = false → (∃ o0, h[i]? = some o0 ∧ o0.isDead = false ∧ (φ' i).blk = (φ i).blk) ∨ w.heap.size ≤ (φ' i).blk
  frame : ∀ b, b < w.heap.size → (∀ (i : Nat) o, h[i]? = some o → o.isDead = false → (φ i).blk ≠ b) → w'.heap[b]? = w.heap[b]?
  os : w'.os = w.os
  tape : w'.tape = w.tape
  output : w'.output = w.output
  size : w.heap.size ≤ w'.heap.size
  news : ∀ b o, S' b o → S b o ∨ w.heap.size ≤ b ∨ ∃ (i : Nat) (x : AO), h[i]? = some x ∧ x.isDead = false ∧ (φ i).blk = b

/-- What a value needs of the way from one state on to another one. -/
structure RExt (h : List AO) (φ : Nat → Loc) (w : World) (S : Nat → Nat → Prop) (h' : List AO) (φ' : Nat → Loc) (w' : World) (S' : Nat → Nat → Prop) : Prop where
  len : h.length ≤ h'.length
  stab : ∀ b o, S b o → S' b o
  cell : ∀ b o, S b o → w'.cell? ⟨b, o, none⟩ = w.cell? ⟨b, o, none⟩
  same : ∀ i, nt h i → nt h' i ∧ (φ' i).blk = (φ i).blk
  tok : ∀ (i : Nat) e sz n, h'[i]? = some (.tok e sz n) → i < h.length → (h[i]? = some (.tok e sz n) ∧ φ' i = φ i) ∨ ∃ e0 sz0 n0, h[i]? = some (.tok e0 sz0 n0) ∧ n0 < n

theorem Ext.rext {h : List AO} {φ : Nat → Loc} {w : World} {S : Nat → Nat → Prop} {h' : List AO} {φ' : Nat → Loc} {w' : World} {S' : Nat → Nat → Prop} (E : Ext h φ w S h' φ' w' S') : RExt h φ w S h' φ' w' S' :=
  ⟨E.len, E.stab, E.cell, E.same, E.tok⟩

theorem Ext.refl (h : List AO) (φ : Nat → Loc) (w : World) (S : Nat → Nat → Prop) : Ext h φ w S h φ w S where
  len := Nat.le_refl _
  stab := fun _ _ x => x
  cell := fun _ _ _ => rfl
  same := fun i hi => ⟨hi, rfl⟩
  tok := fun i e sz n hi _ => .inl ⟨hi, rfl⟩
  live := fun i o ho hd => .inl ⟨o, ho, hd, rfl⟩
  frame := fun _ _ _ => rfl
  os := rfl
  tape := rfl
  output := rfl
  size := Nat.le_refl _
  news := fun _ _ k => .inl k

section
variable {h h1 h2 : List AO} {φ φ1 φ2 : Nat → Loc} {w w1 w2 : World} {S S1 S2 : Nat → Nat → Prop}

theorem cell_ext (E : RExt h φ w S h1 φ1 w1 S1) {a : Addr} {v : Value} (hc : w.cell? a = some v) (hs : S a.block a.off) : w1.cell? a = some v := by
  have := World.cell?_spot hc
  obtain ⟨b, o, s⟩ := a
  simp only at this
  subst this
  rw [E.cell b o hs]; exact hc

theorem add_block (a : Addr) (n : Nat) : (a.add n).block = a.block := by unfold Addr.add; split <;> rfl
theorem add_off (a : Addr) (n : Nat) : (a.add n).off = a.off + n := by unfold Addr.add; split <;> simp_all

theorem cell_ext_add (E : RExt h φ w S h1 φ1 w1 S1) {a : Addr} {n : Nat} {v : Value} (hc : w.cell? (a.add n) = some v) (hs : S a.block (a.off + n)) : w1.cell? (a.add n) = some v :=
  cell_ext E hc (by rw [add_block, add_off]; exact hs)

theorem Rel.rmono (E : RExt h φ w S h1 φ1 w1 S1) {m : Bool} {x : AV} {v : Value} (r : Rel h φ w S m x v) : Rel h1 φ1 w1 S1 m x v := by
  induction r with
  | undef m v => exact .undef m v
  | bool m b => exact .bool m b
  | int m k n => exact .int m k n
  | str m s => exact .str m s
  | nilp m => exact .nilp m
  | ptr i o hi => obtain ⟨a, b⟩ := E.same i hi; rw [← b]; exact .ptr i o a
  | rptr m cs a f hc hr ih => exact .rptr m cs a f (fun j x hx => ⟨(hc j x hx).1, cell_ext_add E (hc j x hx).2.1 (hc j x hx).2.2, E.stab _ _ (hc j x hx).2.2⟩) ih
  | esl m A => exact .esl m A
  | rsl m es A c sz f hl hz hs hc hr ih =>
    refine .rsl m es A c sz f hl hz hs (fun i j x y hx hy => ?_) ih
    obtain ⟨a, e, h1, h2, h3⟩ := hc i j x y hx hy
    exact ⟨a, e, h1, cell_ext_add E h2 h3, E.stab _ _ h3⟩
  | osl t es v ht hr hk ih =>
    refine .osl t es v (Nat.lt_of_lt_of_le ht E.len) ih (fun e sz n hn => ?_)
    rcases E.tok t e sz n hn ht with ⟨h0, hφ⟩ | ⟨e0, sz0, n0, h0, hlt⟩
    · rw [hφ]; exact hk e sz n h0
    · obtain ⟨hle, _⟩ := hk e0 sz0 n0 h0
      exact ⟨by omega, fun he => by omega⟩
  | msl i o len cap c hi hc => obtain ⟨a, b⟩ := E.same i hi; rw [← b]; exact .msl i o len cap c a hc
  | nilmap m => exact .nilmap m
  | map i hi => obtain ⟨a, b⟩ := E.same i hi; rw [← b]; exact .map i a
  | fn m g fs cs us vs hl' hl hr' hr ih' ih => exact .fn m g fs cs us vs hl' hl ih' ih
  | nilfn m => exact .nilfn m
  | iface m t x v hr ih => exact .iface m t x v ih
  | nilif m => exact .nilif m
  | agg m cs vs hl h1 hr ih => exact .agg m cs vs hl h1 ih
  | tup m cs vs hl hr ih => exact .tup m cs vs hl ih

theorem Rel.mono (E : Ext h φ w S h1 φ1 w1 S1) {m : Bool} {x : AV} {v : Value} (r : Rel h φ w S m x v) : Rel h1 φ1 w1 S1 m x v := r.rmono E.rext

/-- A read-only tree may stand where ids may. -/
theorem Rel.up {m : Bool} {x : AV} {v : Value} (r : Rel h φ w S m x v) : Rel h φ w S true x v := by
  induction r with
  | undef m v => exact .undef _ v
  | bool m b => exact .bool _ b
  | int m k n => exact .int _ k n
  | str m s => exact .str _ s
  | nilp m => exact .nilp _
  | ptr i o hi => exact .ptr i o hi
  | rptr m cs a f hc hr ih => exact .rptr _ cs a f hc hr
  | esl m A => exact .esl _ A
  | rsl m es A c sz f hl hz hs hc hr ih => exact .rsl _ es A c sz f hl hz hs hc hr
  | osl t es v ht hr hk ih => exact .osl t es v ht hr hk
  | msl i o len cap c hi hc => exact .msl i o len cap c hi hc
  | nilmap m => exact .nilmap _
  | map i hi => exact .map i hi
  | fn m g fs cs us vs hl' hl hr' hr ih' ih => exact .fn _ g fs cs us vs hl' hl ih' ih
  | nilfn m => exact .nilfn _
  | iface m t x v hr ih => exact .iface _ t x v ih
  | nilif m => exact .nilif _
  | agg m cs vs hl h1 hr ih => exact .agg _ cs vs hl h1 ih
  | tup m cs vs hl hr ih => exact .tup _ cs vs hl ih

theorem Ext.trans (E : Ext h φ w S h1 φ1 w1 S1) (F : Ext h1 φ1 w1 S1 h2 φ2 w2 S2) : Ext h φ w S h2 φ2 w2 S2 where
  len := Nat.le_trans E.len F.len
  stab := fun b o x => F.stab b o (E.stab b o x)
  cell := fun b o x => (F.cell b o (E.stab b o x)).trans (E.cell b o x)
  same := fun i hi => ⟨(F.same i (E.same i hi).1).1, (F.same i (E.same i hi).1).2.trans (E.same i hi).2⟩
  tok := fun i e sz n hn hi => by
    rcases F.tok i e sz n hn (Nat.lt_of_lt_of_le hi E.len) with ⟨k1, k2⟩ | ⟨e0, sz0, n0, k1, k2⟩
    · rcases E.tok i e sz n k1 hi with ⟨k3, k4⟩ | ⟨e1, sz1, n1, k3, k4⟩
      · exact .inl ⟨k3, k2.trans k4⟩
      · exact .inr ⟨_, _, _, k3, k4⟩
    · rcases E.tok i e0 sz0 n0 k1 hi with ⟨k3, k4⟩ | ⟨e1, sz1, n1, k3, k4⟩
      · exact .inr ⟨_, _, _, k3, k2⟩
      · exact .inr ⟨_, _, _, k3, by omega⟩
  live := fun i o ho hd => by
    rcases F.live i o ho hd with ⟨o1, k1, k2, k3⟩ | k
    · rcases E.live i o1 k1 k2 with ⟨o2, k4, k5, k6⟩ | k
      · exact .inl ⟨o2, k4, k5, k3.trans k6⟩
      · exact .inr (by rw [k3]; exact k)
    · exact .inr (Nat.le_trans E.size k)
  frame := fun b hb hn => by
    rw [← E.frame b hb hn]
    refine F.frame b (Nat.lt_of_lt_of_le hb E.size) (fun i o ho hd => ?_)
    rcases E.live i o ho hd with ⟨o0, k1, k2, k3⟩ | k
    · rw [k3]; exact hn i o0 k1 k2
    · omega
  os := F.os.trans E.os
  tape := F.tape.trans E.tape
  output := F.output.trans E.output
  size := Nat.le_trans E.size F.size
  news := fun b o k => by
    rcases F.news b o k with k | k | ⟨i, x, k1, k2, k3⟩
    · exact E.news b o k
    · exact .inr (.inl (Nat.le_trans E.size k))
    · rcases E.live i x k1 k2 with ⟨x0, k4, k5, k6⟩ | k4
      · exact .inr (.inr ⟨i, x0, k4, k5, by rw [← k6]; exact k3⟩)
      · exact .inr (.inl (by rw [← k3]; exact k4))

/-- The objects stay what they are where their blocks do. -/
theorem OR.rmono (E : RExt h φ w S h1 φ1 w1 S1) {l : Loc} {o : AO} (r : OR h φ w S l o) (hb : w1.heap[l.blk]? = w.heap[l.blk]?) (hS : ∀ j, S1 l.blk j → S l.blk j) : OR h1 φ1 w1 S1 l o := by
  cases o with
  | box cs =>
    obtain ⟨arr, T, k1, k2, k3, k4, k5⟩ := r
    exact ⟨arr, T, hb.trans k1, k2, k3, fun j x v hx hv => (k4 j x v hx hv).rmono E, fun j hj => k5 j (hS j hj)⟩
  | tok e sz n =>
    obtain ⟨arr, k1, k2, k3, k4, k5⟩ := r
    exact ⟨arr, hb.trans k1, k2, k3, k4, fun j hj hS' => k5 j hj (hS j hS')⟩
  | map es =>
    obtain ⟨arr, clock, k1, k2, k3, k4⟩ := r
    exact ⟨arr, clock, hb.trans k1, k2, fun j x e hx he => ⟨(k3 j x e hx he).1.rmono E, (k3 j x e hx he).2.rmono E⟩, fun j hj => k4 j (hS j hj)⟩
  | siter s pos => exact ⟨hb.trans r.1, fun j hj => r.2 j (hS j hj)⟩
  | dead => trivial

theorem OR.mono (E : Ext h φ w S h1 φ1 w1 S1) {l : Loc} {o : AO} (r : OR h φ w S l o) (hb : w1.heap[l.blk]? = w.heap[l.blk]?) (hS : ∀ j, S1 l.blk j → S l.blk j) : OR h1 φ1 w1 S1 l o := r.rmono E.rext hb hS

theorem OR.lt {l : Loc} {o : AO} (r : OR h φ w S l o) (hd : o.isDead = false) : l.blk < w.heap.size := by
  cases o with
  | box cs => obtain ⟨arr, T, k1, _⟩ := r; exact (Array.getElem?_eq_some_iff.1 k1).1
  | tok e sz n => obtain ⟨arr, k1, _⟩ := r; exact (Array.getElem?_eq_some_iff.1 k1).1
  | map es => obtain ⟨arr, clock, k1, _⟩ := r; exact (Array.getElem?_eq_some_iff.1 k1).1
  | siter s pos => exact (Array.getElem?_eq_some_iff.1 r.1).1
  | dead => cases hd

end
end Go.Eng

/- The engine, part 2: operations, compiled from the program's own, and what they do to abstract values. -/
set_option linter.unusedVariables false
set_option linter.unusedSimpArgs false
namespace Go.Eng

inductive Opnd where
  | t (n : Nat)
  | c (x : AV)
  | m (tbl : List (TypeId × FuncId)) (n : Nat)
  deriving Inhabited

/-- What an (in)equality compares. -/
inductive EqK where
  | no | bool | ptr | fnc | ifc | mp | strct (fs : List (Nat × Nat))
  deriving Inhabited

inductive AOp where
  | mv (x : Opnd)
  | pick (c a b : Opnd)
  | alloc (zs : List AV)
  | box (x : Opnd)
  | build (zs : List AV) (ps : List (Nat × Nat × Opnd))
  | lit (sz : Nat) (ps : List Opnd)
  | load (k : Option Nat) (x : Opnd)
  | store (n : Nat) (x y : Opnd)
  | nilck (x : Opnd)
  | bin (op : BinOp) (e : EqK) (x y : Opnd)
  | un (op : UnOp) (x : Opnd)
  | fld (off : Nat) (k : Option Nat) (x : Opnd)
  | fa (off : Nat) (x : Opnd)
  | ia (sz : Nat) (x i : Opnd)
  | iaA (len sz : Nat) (x i : Opnd)
  | ixS (x i : Opnd)
  | ixA (len : Nat) (x i : Opnd)
  | lookup (ks : Bool) (z : AV) (ok : Bool) (m k : Opnd)
  | mupd (ks : Bool) (m k v : Opnd)
  | mkmap
  | mkif (t : TypeId) (x : Opnd)
  | mkfn (g : FuncId) (first caps : List Opnd)
  | ext (i : Nat) (x : Opnd)
  | lenS (x : Opnd)
  | lenL (x : Opnd)
  | append (e : TypeId) (sz bytes : Nat) (x y : Opnd)
  | call (g : Opnd) (args : List Opnd)
  | slcS (x : Opnd) (lo hi : Option Opnd)
  | slcL (sz : Nat) (x : Opnd) (lo hi : Option Opnd)
  | conv (k : IntKind) (x : Opnd)
  | nop (x : Opnd)
  | tas (t : TypeId) (z : AV) (x : Opnd)
  | mksl (sz bytes : Nat) (zs : List AV) (n c : Opnd)
  | rng (x : Opnd)
  | nxt (x : Opnd)
  | mm (mx : Bool) (x y : Opnd)
  | cvp (x : Opnd)
  deriving Inhabited

/-! ### frames -/
abbrev Fr := List (Nat × AV)
def lk : Fr → Nat → Option AV
  | [], _ => none
  | (j, x) :: f, i => if i = j then some x else lk f i
def lookM (t : TypeId) : List (TypeId × FuncId) → Option FuncId
  | [] => none
  | (u, g) :: l => if t = u then some g else lookM t l
/-- The method of a value behind an interface, bound to it. -/
def bindM (tbl : List (TypeId × FuncId)) : Option AV → AV
  | some (.iface t y) => match lookM t tbl with
    | some g => .fn g [y] []
    | none => .undef
  | _ => .undef
def ev (f : Fr) : Opnd → AV
  | .t n => (lk f n).getD .undef
  | .c x => x
  | .m tbl n => bindM tbl (lk f n)
def put (f : Fr) (d : Option Nat) (x : AV) : Fr :=
  match d with
  | some i => (i, x) :: f
  | none => f

/-! ### normal forms -/
mutual
/-- Read-only: append tokens forgotten; none: there are ids. -/
def ro : AV → Option AV
  | .esl => some (.rsl [])
  | .osl _ es => some (.rsl es)
  | .ptr _ _ | .msl _ _ _ _ | .map _ => none
  | .agg cs => (roL cs).map .agg
  | .tup cs => (roL cs).map .tup
  | .iface t x => (ro x).map (.iface t)
  | .fn g fs cs => (roL fs).bind fun fs' => (roL cs).map (.fn g fs')
  | x => some x
def roL : List AV → Option (List AV)
  | [] => some []
  | x :: l => (ro x).bind fun y => (roL l).map (y :: ·)
end
mutual
/-- As an argument: append tokens forgotten, ids kept. -/
def nrm : AV → AV
  | .esl => .rsl []
  | .osl _ es => .rsl es
  | .agg cs => .agg (nrmL cs)
  | .tup cs => .tup (nrmL cs)
  | .iface t x => .iface t (nrm x)
  | .fn g fs cs => .fn g (nrmL fs) (nrmL cs)
  | x => x
def nrmL : List AV → List AV
  | [] => []
  | x :: l => nrm x :: nrmL l
end

/-! ### plain operations -/
def setL (cs : List AV) (o : Nat) (ys : List AV) : List AV := cs.take o ++ ys ++ cs.drop (o + ys.length)
def fillA (cs : List AV) : List (Nat × Nat × AV) → Option (List AV)
  | [] => some cs
  | (o, n, x) :: r => if x.cells.length = n ∧ o + n ≤ cs.length ∧ x.cells.all AV.one then fillA (setL cs o x.cells) r else none
def loadA (k : Option Nat) (cs : List AV) : Option AV :=
  match k with
  | none => cs[0]?
  | some n => if n ≤ cs.length then some (.agg (cs.take n)) else none
/-- The cells that begin at an address. -/
def cellsAt (h : List AO) : AV → Option (List AV)
  | .ptr i o => match h[i]? with
    | some (.box cs) => if o ≤ cs.length then some (cs.drop o) else none
    | _ => none
  | .rptr cs => some cs
  | _ => none
def storeA (h : List AO) (n : Nat) (x y : AV) : Option (List AO) :=
  match x with
  | .ptr i o => match h[i]? with
    | some (.box cs) => if y.cells.length = n ∧ o + n ≤ cs.length ∧ y.cells.all AV.one then some (h.set i (.box (setL cs o y.cells))) else none
    | _ => none
  | _ => none
def binI (op : BinOp) (k : IntKind) (a b : Int) : Option AV :=
  match op with
  | .add => some (.int k (k.wrap (a + b)))
  | .sub => some (.int k (k.wrap (a - b)))
  | .mul => some (.int k (k.wrap (a * b)))
  | .quo => if b = 0 then none else some (.int k (k.wrap (a.tdiv b)))
  | .rem => if b = 0 then none else some (.int k (a.tmod b))
  | .and => some (.int k (k.wrap (BitVec.ofInt k.bits a &&& BitVec.ofInt k.bits b).toNat))
  | .or => some (.int k (k.wrap (BitVec.ofInt k.bits a ||| BitVec.ofInt k.bits b).toNat))
  | .xor => some (.int k (k.wrap (BitVec.ofInt k.bits a ^^^ BitVec.ofInt k.bits b).toNat))
  | .andNot => some (.int k (k.wrap (BitVec.ofInt k.bits a &&& ~~~ BitVec.ofInt k.bits b).toNat))
  | .eql => some (.bool (decide (a = b)))
  | .neq => some (.bool (decide (a ≠ b)))
  | .lss => some (.bool (decide (a < b)))
  | .leq => some (.bool (decide (a ≤ b)))
  | .gtr => some (.bool (decide (a > b)))
  | .geq => some (.bool (decide (a ≥ b)))
  | .shl | .shr => none
def shI (op : BinOp) (k : IntKind) (a b : Int) : Option AV :=
  if b < 0 then none else
  match op with
  | .shl => some (.int k (k.wrap (a * 2 ^ (min b.toNat k.bits))))
  | .shr => some (.int k (a.fdiv (2 ^ (min b.toNat k.bits))))
  | _ => none
def binS (op : BinOp) (a b : ByteArray) : Option AV :=
  match op with
  | .add => if a.size + b.size ≤ 9223372036854775807 then some (.str (a ++ b)) else none
  | .eql => some (.bool (decide (a = b)))
  | .neq => some (.bool (decide (a ≠ b)))
  | .lss => some (.bool (Op.bytesLess a.toList b.toList))
  | .leq => some (.bool (Op.bytesLess a.toList b.toList || decide (a = b)))
  | .gtr => some (.bool !(Op.bytesLess a.toList b.toList || decide (a = b)))
  | .geq => some (.bool !(Op.bytesLess a.toList b.toList))
  | _ => none
/-- Are two values, one of them nil, the same? -/
def nilEq : EqK → AV → AV → Option Bool
  | .ptr, .nilp, .nilp => some true
  | .ptr, .nilp, .ptr _ _ | .ptr, .ptr _ _, .nilp | .ptr, .nilp, .rptr _ | .ptr, .rptr _, .nilp => some false
  | .fnc, .nilfn, .nilfn => some true
  | .fnc, .nilfn, .fn _ _ _ | .fnc, .fn _ _ _, .nilfn => some false
  | .mp, .nilmap, .nilmap => some true
  | .mp, .nilmap, .map _ | .mp, .map _, .nilmap => some false
  | .ifc, .nilif, .nilif => some true
  | .ifc, .nilif, .iface _ _ | .ifc, .iface _ _, .nilif => some false
  | _, _, _ => none
/-- Two cells of plain types: 0 a number, 1 a text, 2 a truth. -/
def cellEq : Nat → AV → AV → Option Bool
  | 0, .int k a, .int k' b => if k = k' then some (decide (a = b)) else none
  | 1, .str a, .str b => some (decide (a = b))
  | 2, .bool a, .bool b => some (decide (a = b))
  | _, _, _ => none
def cellsEq (xs ys : List AV) : List (Nat × Nat) → Option Bool
  | [] => some true
  | (j, k) :: r => match xs[j]?, ys[j]? with
    | some x, some y => (cellEq k x y).bind fun b => if b then cellsEq xs ys r else some false
    | _, _ => none
def eqA (e : EqK) (x y : AV) : Option Bool :=
  match e, x, y with
  | .bool, .bool a, .bool b => some (decide (a = b))
  | .strct fs, .agg xs, .agg ys => cellsEq xs ys fs
  | e, x, y => nilEq e x y
def binA (op : BinOp) (e : EqK) (x y : AV) : Option AV :=
  match x, y with
  | .int k a, .int k' b => match op with
    | .shl | .shr => shI op k a b
    | _ => if k = k' then binI op k a b else none
  | .str a, .str b => binS op a b
  | x, y => match op with
    | .eql => (eqA e x y).map .bool
    | .neq => (eqA e x y).map fun b => .bool !b
    | _ => none
def unA (op : UnOp) (x : AV) : Option AV :=
  match op, x with
  | .not, .bool b => some (.bool !b)
  | .neg, .int k n => some (.int k (k.wrap (0 - n)))
  | _, _ => none
def elems : AV → Option (List AV)
  | .esl => some []
  | .rsl es | .osl _ es => some es
  | _ => none
def iaA_ (sz : Nat) (x : AV) (i : Int) : Option AV :=
  if i < 0 then none else
  match x with
  | .msl b o len _ => if i.toNat < len then some (.ptr b (o + i.toNat * sz)) else none
  | x => match elems x with
    | some es => match es[i.toNat]? with
      | some y => if y.cells.length = sz ∧ 0 < sz then some (.rptr y.cells) else none
      | none => none
    | none => none
def keyEq : AV → AV → Option Bool
  | .int k a, .int k' b => if k = k' then some (decide (a = b)) else none
  | .str a, .str b => some (decide (a = b))
  | _, _ => none
def findA (k : AV) : List (AV × AV) → Option (Option AV)
  | [] => some none
  | (a, v) :: r => match keyEq k a with
    | some true => some (some v)
    | some false => findA k r
    | none => none
def updA (k v : AV) : List (AV × AV) → Option (List (AV × AV))
  | [] => some [(k, v)]
  | (a, u) :: r => match keyEq k a with
    | some true => some ((k, v) :: r)
    | some false => (updA k v r).map ((a, u) :: ·)
    | none => none
def isKey : Bool → AV → Bool
  | false, .int _ _ | true, .str _ => true
  | _, _ => false
def appA (h : List AO) (e sz bytes : Nat) (x : AV) (ys : List AV) : Option (AV × List AO) :=
  if ¬ (0 < sz ∧ 0 < bytes ∧ ys.all (fun y => decide (y.cells.length = sz) && y.cells.all AV.one)) then none else
  match x with
  | .esl => match ys with
    | [] => some (.esl, h)
    | ys => if ys.length * bytes ≤ 140737488355328 then some (.osl h.length ys, h ++ [.tok e sz ys.length]) else none
  | .osl t es => match h[t]? with
    | some (.tok e' sz' n) => if e' = e ∧ sz' = sz ∧ n = es.length ∧ (es.length + ys.length) * bytes ≤ 140737488355328 then some (.osl t (es ++ ys), h.set t (.tok e sz (n + ys.length))) else none
    | _ => none
  | _ => none
def lenA : AV → Option Nat
  | .msl _ _ len _ => some len
  | x => (elems x).map List.length

def P0 (x : Option AV) (h : List AO) : Option (AV × List AO) := x.map fun y => (y, h)

/-- A bound of a cut. -/
def bnd1 (f : Fr) (d : Int) (b : Option Opnd) : Option Int :=
  match b with
  | none => some d
  | some o => match ev f o with
    | .int _ n => some n
    | _ => none
/-- A plain operation: no call. -/
def evP (f : Fr) (h : List AO) : AOp → Option (AV × List AO)
  | .mv x => some (ev f x, h)
  | .pick c a b => match ev f c with
    | .bool true => some (ev f a, h)
    | .bool false => some (ev f b, h)
    | _ => none
  | .alloc zs => some (.ptr h.length 0, h ++ [.box zs])
  | .box x => if (ev f x).cells.all AV.one then some (.ptr h.length 0, h ++ [.box (ev f x).cells]) else none
  | .build zs ps => P0 ((fillA zs (ps.map fun p => (p.1, p.2.1, ev f p.2.2))).map .agg) h
  | .lit sz ps => match ps with
    | [] => some (.esl, h)
    | ps => match roL (ps.map (ev f)) with
      | some es => if 0 < sz ∧ es.all (fun y => decide (y.cells.length = sz) && y.cells.all AV.one) then some (.rsl es, h) else none
      | none => none
  | .load k x => match cellsAt h (ev f x) with
    | some cs => P0 (loadA k cs) h
    | none => none
  | .store n x y => (storeA h n (ev f x) (ev f y)).map fun h' => (.undef, h')
  | .nilck x => match ev f x with
    | .ptr i o => some (.ptr i o, h)
    | .rptr cs => some (.rptr cs, h)
    | .fn g a b => some (.fn g a b, h)
    | .iface t y => some (.iface t y, h)
    | _ => none
  | .bin op e x y => P0 (binA op e (ev f x) (ev f y)) h
  | .un op x => P0 (unA op (ev f x)) h
  | .fld off k x => match ev f x with
    | .agg cs => if off ≤ cs.length then P0 (loadA k (cs.drop off)) h else none
    | _ => none
  | .fa off x => match ev f x with
    | .ptr i o => some (.ptr i (o + off), h)
    | .rptr cs => some (.rptr (cs.drop off), h)
    | _ => none
  | .ia sz x i => match ev f i with
    | .int _ n => P0 (iaA_ sz (ev f x) n) h
    | _ => none
  | .iaA len sz x i => match ev f x, ev f i with
    | .ptr b o, .int _ n => if 0 ≤ n ∧ n < len then some (.ptr b (o + n.toNat * sz), h) else none
    | .rptr cs, .int _ n => if 0 ≤ n ∧ n < len then some (.rptr (cs.drop (n.toNat * sz)), h) else none
    | _, _ => none
  | .ixS x i => match ev f x, ev f i with
    | .str s, .int _ n => if 0 ≤ n then (s.data.toList[n.toNat]?).map (fun b => (.int .u8 b.toNat, h)) else none
    | _, _ => none
  | .ixA len x i => match ev f x, ev f i with
    | .agg cs, .int _ n => if 0 ≤ n ∧ n < len then (cs[n.toNat]?).map (fun y => (y, h)) else none
    | _, _ => none
  | .lookup ks z ok m k =>
    let k' := ev f k
    if isKey ks k' then
      match ev f m with
      | .nilmap => some (if ok then .tup [z, .bool false] else z, h)
      | .map i => match h[i]? with
        | some (.map es) => match findA k' es with
          | some (some v) => some (if ok then .tup [v, .bool true] else v, h)
          | some none => some (if ok then .tup [z, .bool false] else z, h)
          | none => none
        | _ => none
      | _ => none
    else none
  | .mupd ks m k v =>
    let k' := ev f k
    if isKey ks k' then
      match ev f m with
      | .map i => match h[i]? with
        | some (.map es) => (updA k' (ev f v) es).map fun es' => (.undef, h.set i (.map es'))
        | _ => none
      | _ => none
    else none
  | .mkmap => some (.map h.length, h ++ [.map []])
  | .mkif t x => some (.iface t (ev f x), h)
  | .mkfn g fs cs => some (.fn g (fs.map (ev f)) (cs.map (ev f)), h)
  | .ext i x => match ev f x with
    | .tup xs => (xs[i]?).map fun y => (y, h)
    | _ => none
  | .lenS x => match ev f x with
    | .str s => some (.int .i64 s.size, h)
    | _ => none
  | .lenL x => (lenA (ev f x)).map fun (n : Nat) => (.int .i64 (n : Int), h)
  | .append e sz bytes x y => match elems (ev f y) with
    | some ys => appA h e sz bytes (ev f x) ys
    | none => none
  | .slcS x lo hi => match ev f x with
    | .str s =>
      match bnd1 f s.size hi, bnd1 f 0 lo with
      | some b, some a => if 0 ≤ a ∧ a ≤ b ∧ b ≤ s.size then some (.str (s.extract a.toNat b.toNat), h) else none
      | _, _ => none
    | _ => none
  | .slcL sz x lo hi => match elems (ev f x) with
    | some es =>
      match bnd1 f es.length hi, bnd1 f 0 lo with
      | some b, some a => if 0 ≤ a ∧ a ≤ b ∧ b ≤ es.length ∧ es.all (fun y => decide (y.cells.length = sz)) then some (.rsl ((es.take b.toNat).drop a.toNat), h) else none
      | _, _ => none
    | none => none
  | .conv k x => match ev f x with
    | .int _ n => some (.int k (k.wrap n), h)
    | _ => none
  | .nop x => match ev f x with
    | .str s => some (.str s, h)
    | _ => none
  | .tas t z x => match ev f x with
    | .iface u y => some (if u = t then .tup [y, .bool true] else .tup [z, .bool false], h)
    | .nilif => some (.tup [z, .bool false], h)
    | _ => none
  | .mksl sz bytes zs n c => match ev f n, ev f c with
    | .int .i64 a, .int .i64 b => if 0 ≤ a ∧ a ≤ b ∧ b * bytes ≤ 281474976710656 ∧ 0 < sz ∧ zs.length = sz ∧ zs.all AV.one ∧ b < 9223372036854775808 then
        some (.msl h.length 0 a.toNat b.toNat, h ++ [.box (List.replicate b.toNat zs).flatten]) else none
    | _, _ => none
  | .rng x => match ev f x with
    | .str s => some (.ptr h.length 0, h ++ [.siter s 0])
    | _ => none
  | .nxt x => match ev f x with
    | .ptr i 0 => match h[i]? with
      | some (.siter s pos) => if pos < s.size then some (.tup [.bool true, .int .i64 pos, .int .i32 (Utf8.decode s pos).1], h.set i (.siter s (pos + (Utf8.decode s pos).2))) else some (.tup [.bool false], h)
      | _ => none
    | _ => none
  | .call _ _ => none
  | .cvp x => match ev f x with
    | .ptr i o => match h[i]? with
      | some (.box cs) => if o < cs.length then some (.ptr i o, h) else none
      | _ => none
    | _ => none
  | .mm mx x y => match ev f x, ev f y with
    | .int k a, .int k' b => if k = k' then some (.int k (if mx then (if b > a then b else a) else if b < a then b else a), h) else none
    | _, _ => none

end Go.Eng

/- The engine, part 3: steps that turn one object; the compiler of operations. -/
set_option linter.unusedVariables false
set_option linter.unusedSimpArgs false
namespace Go.Eng

/-- One object, i0, is turned or new; its block is the one that it had, or a new one. -/
structure Step (h : List AO) (φ : Nat → Loc) (w : World) (S : Nat → Nat → Prop) (h' : List AO) (φ' : Nat → Loc) (w' : World) (S' : Nat → Nat → Prop) (i0 : Nat) (o' : AO) : Prop where
  at0 : h'[i0]? = some o'
  oth : ∀ i, i ≠ i0 → h'[i]? = h[i]?
  phi : ∀ i, i ≠ i0 → φ' i = φ i
  old : (∃ o, h[i0]? = some o ∧ o.isDead = false ∧ (φ' i0).blk = (φ i0).blk) ∨ (w.heap.size ≤ (φ' i0).blk)
  nt0 : nt h i0 → o'.isTok = false ∧ (φ' i0).blk = (φ i0).blk
  tok0 : ∀ e sz n, o' = .tok e sz n → i0 < h.length → ∃ e0 sz0 n0, h[i0]? = some (.tok e0 sz0 n0) ∧ n0 < n
  heap : ∀ b, b < w.heap.size → b ≠ (φ' i0).blk → w'.heap[b]? = w.heap[b]?
  stab : ∀ b o, S b o → S' b o
  new : ∀ b o, S' b o → S b o ∨ (b = (φ' i0).blk ∧ b < w'.heap.size)
  cell : ∀ o, S (φ' i0).blk o → w'.cell? ⟨(φ' i0).blk, o, none⟩ = w.cell? ⟨(φ' i0).blk, o, none⟩
  os : w'.os = w.os
  tape : w'.tape = w.tape
  output : w'.output = w.output
  size : w.heap.size ≤ w'.heap.size

section
variable {h h' : List AO} {φ φ' : Nat → Loc} {w w' : World} {S S' : Nat → Nat → Prop} {i0 : Nat} {o' : AO}

theorem Step.ext (T : Step h φ w S h' φ' w' S' i0 o') (M : Sim h φ w S) (hlen : h.length ≤ h'.length) : Ext h φ w S h' φ' w' S' where
  len := hlen
  stab := T.stab
  cell := fun b o hs => by
    by_cases hb : b = (φ' i0).blk
    · subst hb; exact T.cell o hs
    · exact World.cell?_of_block (T.heap b (M.stab b o hs) hb)
  same := fun i hi => by
    by_cases e : i = i0
    · subst e
      obtain ⟨k1, k2⟩ := T.nt0 hi
      exact ⟨⟨o', T.at0, k1⟩, k2⟩
    · obtain ⟨o, k1, k2⟩ := hi
      exact ⟨⟨o, (T.oth i e).trans k1, k2⟩, by rw [T.phi i e]⟩
  tok := fun i e sz n hn hi => by
    by_cases ei : i = i0
    · subst ei
      rw [T.at0] at hn
      injection hn with hn
      exact .inr (T.tok0 e sz n hn hi)
    · rw [T.oth i ei] at hn
      exact .inl ⟨hn, T.phi i ei⟩
  live := fun i o ho hd => by
    by_cases ei : i = i0
    · subst ei; exact T.old
    · rw [T.oth i ei] at ho
      exact .inl ⟨o, ho, hd, by rw [T.phi i ei]⟩
  frame := fun b hb hn => by
    refine T.heap b hb (fun e => ?_)
    rcases T.old with ⟨o, k1, k2, k3⟩ | k
    · exact hn i0 o k1 k2 (by rw [← k3, e])
    · omega
  os := T.os
  tape := T.tape
  output := T.output
  size := T.size
  news := fun b o k => by
    rcases T.new b o k with k | ⟨k, _⟩
    · exact .inl k
    · rcases T.old with ⟨x, k1, k2, k3⟩ | k1
      · exact .inr (.inr ⟨i0, x, k1, k2, by rw [← k3, k]⟩)
      · exact .inr (.inl (by rw [k]; exact k1))

theorem Step.sim (T : Step h φ w S h' φ' w' S' i0 o') (M : Sim h φ w S) (hlen : h.length ≤ h'.length) (hO : OR h' φ' w' S' (φ' i0) o') : Sim h' φ' w' S' where
  obj := fun i o ho => by
    by_cases ei : i = i0
    · subst ei
      rw [T.at0] at ho
      injection ho with ho
      subst ho
      exact hO
    · rw [T.oth i ei] at ho
      rw [T.phi i ei]
      have r := M.obj i o ho
      cases hd : o.isDead with
      | true => cases o <;> first | trivial | cases hd
      | false =>
        have hne : (φ i).blk ≠ (φ' i0).blk := by
          intro e
          rcases T.old with ⟨o1, k1, k2, k3⟩ | k
          · exact ei (M.inj i i0 o o1 ho k1 hd k2 (by rw [e, k3]))
          · have := r.lt hd
            omega
        exact r.mono (T.ext M hlen) (T.heap _ (r.lt hd) hne) (fun j hj => by
          rcases T.new _ _ hj with k | ⟨k, _⟩
          · exact k
          · exact absurd k hne)
  inj := fun i j oi oj hi hj di dj e => by
    have key : ∀ i o, i ≠ i0 → h'[i]? = some o → o.isDead = false → (φ' i).blk ≠ (φ' i0).blk := by
      intro i o ei ho hd e
      rw [T.oth i ei] at ho
      rw [T.phi i ei] at e
      rcases T.old with ⟨o1, k1, k2, k3⟩ | k
      · exact ei (M.inj i i0 o o1 ho k1 hd k2 (by rw [e, k3]))
      · have := (M.obj i o ho).lt hd
        omega
    by_cases ei : i = i0
    · by_cases ej : j = i0
      · rw [ei, ej]
      · exact absurd (by rw [← e, ei]) (key j oj ej hj dj)
    · by_cases ej : j = i0
      · exact absurd (by rw [e, ej]) (key i oi ei hi di)
      · rw [T.oth i ei] at hi
        rw [T.oth j ej] at hj
        rw [T.phi i ei, T.phi j ej] at e
        exact M.inj i j oi oj hi hj di dj e
  stab := fun b o hs => by
    rcases T.new b o hs with k | ⟨_, k⟩
    · exact Nat.lt_of_lt_of_le (M.stab b o k) T.size
    · exact k
end

def updφ (φ : Nat → Loc) (i : Nat) (l : Loc) : Nat → Loc := fun j => if j = i then l else φ j
@[simp] theorem updφ_same (φ : Nat → Loc) (i : Nat) (l : Loc) : updφ φ i l i = l := by simp [updφ]
theorem updφ_other (φ : Nat → Loc) (i : Nat) (l : Loc) {j : Nat} (h : j ≠ i) : updφ φ i l j = φ j := by simp [updφ, h]

section
variable {h : List AO} {φ : Nat → Loc} {w : World} {S : Nat → Nat → Prop}

/-- A new object in a new block. -/
theorem push_step (M : Sim h φ w S) (o : AO) (b : Obj) (c : Nat) (S' : Nat → Nat → Prop) (hS : ∀ x y, S x y → S' x y) (hn : ∀ x y, S' x y → S x y ∨ x = w.heap.size) :
    Step h φ w S (h ++ [o]) (updφ φ h.length ⟨w.heap.size, c⟩) (w.alloc b) S' h.length o where
  at0 := by simp
  oth := fun i hi => by
    rcases Nat.lt_or_ge i h.length with k | k
    · rw [List.getElem?_append_left k]
    · rw [List.getElem?_eq_none (show h.length ≤ i from k), List.getElem?_eq_none (by simp; omega)]
  phi := fun i hi => updφ_other _ _ _ hi
  old := .inr (by simp)
  nt0 := fun ⟨o, k, _⟩ => by simp at k
  tok0 := fun _ _ _ _ k => absurd k (Nat.lt_irrefl _)
  heap := fun b' hb hne => by show (w.heap.push b)[b']? = _; rw [Array.getElem?_push, if_neg (by omega)]
  stab := hS
  new := fun x y k => by
    rcases hn x y k with k | k
    · exact .inl k
    · exact .inr ⟨by simp [k], by simp [k]⟩
  cell := fun o hs => by
    have := M.stab _ _ hs
    simp at this
  os := rfl
  tape := rfl
  output := rfl
  size := by simp

/-- An object that is no token is turned, in its own block. -/
theorem turn_step (M : Sim h φ w S) {i : Nat} {o o' : AO} (ho : h[i]? = some o) (hd : o.isDead = false) (ht : o.isTok = false) (ht' : o'.isTok = false) (hS : ∀ j, ¬ S (φ i).blk j)
    {w' : World} (hb : ∀ b, b ≠ (φ i).blk → w'.heap[b]? = w.heap[b]?) (hs : w'.heap.size = w.heap.size) (h1 : w'.os = w.os) (h2 : w'.tape = w.tape) (h3 : w'.output = w.output) :
    Step h φ w S (h.set i o') φ w' S i o' where
  at0 := by
    have : i < h.length := (List.getElem?_eq_some_iff.1 ho).1
    simp [this]
  oth := fun j hj => by rw [List.getElem?_set_ne (Ne.symm hj)]
  phi := fun _ _ => rfl
  old := .inl ⟨o, ho, hd, rfl⟩
  nt0 := fun _ => ⟨ht', rfl⟩
  tok0 := fun e sz n k => by subst k; cases ht'
  heap := fun b _ hne => hb b hne
  stab := fun _ _ k => k
  new := fun _ _ k => .inl k
  cell := fun o k => absurd k (hS o)
  os := h1
  tape := h2
  output := h3
  size := by omega
end

/-! ### the compiler -/
def cv1 : Value → Option AV
  | .bool b => some (.bool b)
  | .int k n => some (.int k n)
  | .string s => some (.str s)
  | .pointer none => some .nilp
  | .slice none 0 0 => some .esl
  | .map none => some .nilmap
  | .nilFunc => some .nilfn
  | .nilIface => some .nilif
  | _ => none
def cvL : List Value → Option (List AV)
  | [] => some []
  | v :: l => (cv1 v).bind fun x => (cvL l).map (x :: ·)
def cv : Value → Option AV
  | .agg cs => (cvL cs.toList).map .agg
  | v => cv1 v
def cO : Operand → Option Opnd
  | .tmp t => some (.t t)
  | .const v => (cv v).map .c
  | .func f => some (.c (.fn f [] []))
  | .global _ => none
def cOL : List Operand → Option (List Opnd)
  | [] => some []
  | x :: l => (cO x).bind fun y => (cOL l).map (y :: ·)
def isAggD : TypeDesc → Bool
  | .struct _ | .array _ _ => true
  | _ => false
def aggK (P : Program) (t : TypeId) : Option (Option Nat) :=
  match P.underlying t, P.info? t with
  | some d, some i => some (if isAggD d then some i.size else none)
  | _, _ => none
def szOf (P : Program) (t : TypeId) : Option Nat := (P.info? t).map (·.size)
def zeroL (P : Program) (t : TypeId) : Option (List AV) :=
  match P.info? t with
  | some i => match i.zero with
    | some z => cvL z.cells.toList
    | none => none
  | none => none
def zeroV (P : Program) (t : TypeId) : Option AV :=
  match P.info? t with
  | some i => match i.zero with
    | some z => cv z
    | none => none
  | none => none
def cParts (P : Program) (fs : Array Field) : List (Nat × Operand) → Option (List (Nat × Nat × Opnd))
  | [] => some []
  | (i, x) :: r => match fs[i]?, cO x, cParts P fs r with
    | some f, some y, some l => match szOf P f.type with
      | some n => some ((f.offset, n, y) :: l)
      | none => none
    | _, _, _ => none
def cLit : Nat → List (Nat × Operand) → Option (List Opnd)
  | _, [] => some []
  | j, (i, x) :: r => if i = j then (cO x).bind fun y => (cLit (j + 1) r).map (y :: ·) else none
/-- The places of a struct's cells, if all its fields are plain and count. -/
def plainFields (P : Program) (fs : List Field) : Option (List (Nat × Nat)) :=
  match fs with
  | [] => some []
  | f :: r => if f.name = "_" then none else
    match P.underlying f.type with
    | some (.int _) => (plainFields P r).map ((f.offset, 0) :: ·)
    | some .string => (plainFields P r).map ((f.offset, 1) :: ·)
    | some .bool => (plainFields P r).map ((f.offset, 2) :: ·)
    | _ => none
def isC : Operand → Bool
  | .const _ => true
  | _ => false
def cEq (P : Program) (t : TypeId) (x y : Operand) : EqK :=
  match P.underlying t with
  | some .bool => .bool
  | some (.pointer _) => .ptr
  | some (.interface _) => if isC x || isC y then .ifc else .no
  | some (.func _ _ _) => .fnc
  | some (.map _ _) => .mp
  | some (.struct fs) => match plainFields P fs.toList with
    | some l => if P.stoodInHeld t || P.eqGuardType P.depth t then .no else .strct l
    | none => .no
  | _ => .no
def cOpt : Option Operand → Option (Option Opnd)
  | none => some none
  | some x => (cO x).map some

/-- A method's function, if it is one of the value itself. -/
def methOne (P : Program) (name : String) (t : TypeId) : Option (TypeId × FuncId) :=
  match P.info? t with
  | none => none
  | some i => match i.methods.find? (·.name == name) with
    | none => none
    | some m => match m.func, m.path.toList, P.underlying t with
      | some (g, false), [], some (.pointer _) => none
      | some (g, false), [], some _ => some (t, g)
      | _, _, _ => none
def methTab (P : Program) (name : String) : List (TypeId × FuncId) := (List.range P.types.size).filterMap (methOne P name)
def cOp (P : Program) (o : Oper) : Option AOp :=
  match o.op with
  | .move x | .assign x => (cO x).map .mv
  | .pick c a b => match cO c, cO a, cO b with
    | some c, some a, some b => some (.pick c a b)
    | _, _, _ => none
  | .alloc e => (zeroL P e).map .alloc
  | .box e x => (cO x).map .box
  | .build t ps => match P.underlying t, zeroL P t with
    | some (.struct fs), some zs => if fs.toList.all (fun f => (szOf P f.type).isSome) then (cParts P fs ps.toList).map (.build zs) else none
    | _, _ => none
  | .buildSlice t n ps => match P.underlying t with
    | some (.slice e) => match szOf P e, cLit 0 ps.toList, zeroL P e with
      | some sz, some l, some _ => if l.length = n ∧ n * sz ≤ 16777216 then some (.lit sz l) else none
      | _, _, _ => none
    | _ => none
  | .load t x => match aggK P t, cO x with
    | some k, some x => some (.load k x)
    | _, _ => none
  | .store t x y => match szOf P t, cO x, cO y with
    | some n, some x, some y => some (.store n x y)
    | _, _, _ => none
  | .nilCheck x => (cO x).map .nilck
  | .binOp op t x y _ => match cO x, cO y with
    | some x', some y' => some (.bin op (cEq P t x y) x' y')
    | _, _ => none
  | .unOp op _ x => (cO x).map (.un op)
  | .field t x i => match P.underlying t with
    | some (.struct fs) => match fs[i]? with
      | some f => match aggK P f.type, cO x with
        | some k, some x => some (.fld f.offset k x)
        | _, _ => none
      | none => none
    | _ => none
  | .fieldAddr t x i => match P.underlying t with
    | some (.struct fs) => match fs[i]? with
      | some f => match szOf P f.type, cO x with
        | some (_ + 1), some x => some (.fa f.offset x)
        | _, _ => none
      | none => none
    | _ => none
  | .indexAddr t x i => match P.underlying t with
    | some (.slice e) => match szOf P e, cO x, cO i with
      | some sz, some x, some i => some (.ia sz x i)
      | _, _, _ => none
    | some (.array n e) => match szOf P e, cO x, cO i with
      | some sz, some x, some i => some (.iaA n sz x i)
      | _, _, _ => none
    | _ => none
  | .index t x i => match P.underlying t with
    | some .string => match cO x, cO i with
      | some x, some i => some (.ixS x i)
      | _, _ => none
    | some (.array n e) => match aggK P e, szOf P e, cO x, cO i with
      | some none, some 1, some x, some i => some (.ixA n x i)
      | _, _, _, _ => none
    | _ => none
  | .lookup t m k ok => match P.underlying t with
    | some (.map kt e) => match P.underlying kt, zeroV P e, cO m, cO k with
      | some (.int _), some z, some m, some k => some (.lookup false z ok m k)
      | some .string, some z, some m, some k => some (.lookup true z ok m k)
      | _, _, _, _ => none
    | _ => none
  | .mapUpdate t m k v | .insert t m k v => match P.underlying t with
    | some (.map kt _) => match P.underlying kt, cO m, cO k, cO v with
      | some (.int _), some m, some k, some v => some (.mupd false m k v)
      | some .string, some m, some k, some v => some (.mupd true m k v)
      | _, _, _, _ => none
    | _ => none
  | .makeMap _ none => some .mkmap
  | .makeInterface t x => match P.underlying t, cO x with
    | some (.interface _), _ => none
    | some _, some x => some (.mkif t x)
    | _, _ => none
  | .makeFunc (.func g) fs cs => match cOL fs.toList, cOL cs.toList with
    | some fs, some cs => some (.mkfn g fs cs)
    | _, _ => none
  | .extract x i => (cO x).map (.ext i)
  | .slice t x lo hi none => match P.underlying t, cO x, cOpt lo, cOpt hi with
    | some .string, some x, some lo, some hi => some (.slcS x lo hi)
    | some (.slice e), some x, some lo, some hi => (szOf P e).map fun sz => .slcL sz x lo hi
    | _, _, _, _ => none
  | .convert src dst x => match P.underlying src, P.underlying dst, cO x with
    | some (.int _), some (.int k), some x => some (.conv k x)
    | some .string, some .string, some x => some (.nop x)
    | some (.pointer t), some .unsafePointer, some x => if (P.info? t).map (fun i => decide (i.size = 0)) = some false then some (.cvp x) else none
    | _, _, _ => none
  | .typeAssert x _ t true => match P.underlying t, zeroV P t, cO x with
    | some (.interface _), _, _ => none
    | some _, some z, some x => some (.tas t z x)
    | _, _, _ => none
  | .makeSlice t n c => match P.underlying t with
    | some (.slice e) => match P.info? e, zeroL P e, cO n, cO c with
      | some i, some zs, some n, some c => some (.mksl i.size i.bytes zs n c)
      | _, _, _, _ => none
    | _ => none
  | .range t x => match P.underlying t, cO x with
    | some .string, some x => some (.rng x)
    | _, _ => none
  | .next x true => (cO x).map .nxt
  | .call c => match c.callee with
    | .builtin .len => match c.argTypes[0]?, c.args[0]? with
      | some t, some x => match P.underlying t, cO x with
        | some .string, some x => some (.lenS x)
        | some (.slice _), some x => some (.lenL x)
        | _, _ => none
      | _, _ => none
    | .builtin .append => match c.argTypes.toList, c.args.toList with
      | [t, t'], [x, y] => if t = t' then match P.underlying t with
        | some (.slice e) => match P.info? e, cO x, cO y with
          | some i, some x, some y => if (i.zero.map (·.cells.size)) = some i.size then some (.append e i.size i.bytes x y) else none
          | _, _, _ => none
        | _ => none else none
      | _, _ => none
    | .builtin .min => match c.args.toList with
      | [x, y] => match cO x, cO y with
        | some x, some y => some (.mm false x y)
        | _, _ => none
      | _ => none
    | .builtin .max => match c.args.toList with
      | [x, y] => match cO x, cO y with
        | some x, some y => some (.mm true x y)
        | _, _ => none
      | _ => none
    | .invoke x name => match cO x, cOL c.args.toList with
      | some (.t n), some l => some (.call (.m (methTab P name) n) l)
      | _, _ => none
    | .value g => match cO g, cOL c.args.toList with
      | some g, some l => some (.call g l)
      | _, _ => none
    | _ => none
  | _ => none

end Go.Eng

/- The engine, part 4: what relates constants, cells, addresses. -/
set_option linter.unusedVariables false
set_option linter.unusedSimpArgs false
namespace Go.Eng

section
variable {h : List AO} {φ : Nat → Loc} {w : World} {S : Nat → Nat → Prop}

theorem rel_cv1 {v : Value} {x : AV} (e : cv1 v = some x) (m : Bool) : Rel h φ w S m x v ∧ x.one = true := by
  unfold cv1 at e
  split at e <;> first | (cases e; done) | (injection e with e; subst e)
  · exact ⟨.bool m _, rfl⟩
  · exact ⟨.int m _ _, rfl⟩
  · exact ⟨.str m _, rfl⟩
  · exact ⟨.nilp m, rfl⟩
  · exact ⟨.esl m _, rfl⟩
  · exact ⟨.nilmap m, rfl⟩
  · exact ⟨.nilfn m, rfl⟩
  · exact ⟨.nilif m, rfl⟩
theorem rel_cvL : ∀ {vs : List Value} {xs : List AV}, cvL vs = some xs → ∀ m : Bool, xs.length = vs.length ∧ (∀ (j : Nat) (x : AV), xs[j]? = some x → x.one = true) ∧ ∀ (j : Nat) (x : AV) (v : Value), xs[j]? = some x → vs[j]? = some v → Rel h φ w S m x v
  | [], xs, e, m => by
    injection e with e
    subst e
    exact ⟨rfl, fun j x hx => by simp at hx, fun j x v hx => by simp at hx⟩
  | v :: vs, xs, e, m => by
    simp only [cvL, Option.bind_eq_some_iff, Option.map_eq_some_iff] at e
    obtain ⟨y, hy, ys, hys, rfl⟩ := e
    obtain ⟨k1, k2, k3⟩ := rel_cvL hys m
    obtain ⟨k4, k5⟩ := rel_cv1 (h := h) (φ := φ) (w := w) (S := S) hy m
    refine ⟨by simp [k1], fun j x hx => ?_, fun j x u hx hu => ?_⟩
    · cases j with
      | zero => simp at hx; subst hx; exact k5
      | succ j => exact k2 j x (by simpa using hx)
    · cases j with
      | zero => simp at hx hu; subst hx hu; exact k4
      | succ j => exact k3 j x u (by simpa using hx) (by simpa using hu)
theorem rel_cv {v : Value} {x : AV} (e : cv v = some x) (m : Bool) : Rel h φ w S m x v := by
  unfold cv at e
  split at e
  · rename_i cs
    simp only [Option.map_eq_some_iff] at e
    obtain ⟨ys, hys, rfl⟩ := e
    obtain ⟨k1, k2, k3⟩ := rel_cvL (h := h) (φ := φ) (w := w) (S := S) hys m
    exact .agg m _ _ (by simpa using k1) k2 (fun j x u hx hu => k3 j x u hx (by simpa using hu))
  · exact (rel_cv1 e m).1

/-- The frame stands for the temporaries. -/
def FRel (h : List AO) (φ : Nat → Loc) (w : World) (S : Nat → Nat → Prop) (f : Fr) (a : Act) : Prop :=
  ∀ (i : Nat) (x : AV), lk f i = some x → ∃ v, a.tmps[i]? = some v ∧ Rel h φ w S true x v

theorem FRel.mono {h1 : List AO} {φ1 : Nat → Loc} {w1 : World} {S1 : Nat → Nat → Prop} {f : Fr} {a : Act} (F : FRel h φ w S f a) (E : Ext h φ w S h1 φ1 w1 S1) : FRel h1 φ1 w1 S1 f a := by
  intro i x hx
  obtain ⟨v, k1, k2⟩ := F i x hx
  exact ⟨v, k1, k2.mono E⟩

theorem rel_ev {f : Fr} {a : Act} (F : FRel h φ w S f a) {x : Operand} {y : Opnd} (e : cO x = some y) : Rel h φ w S true (ev f y) (a.eval x) := by
  cases x with
  | tmp t =>
    injection e with e
    subst e
    show Rel h φ w S true ((lk f t).getD .undef) (a.tmps.getD t undef)
    cases hl : lk f t with
    | none => exact .undef _ _
    | some z =>
      obtain ⟨v, k1, k2⟩ := F t z hl
      rw [show a.tmps.getD t undef = v by simp [Array.getD_eq_getD_getElem?, k1]]
      exact k2
  | const v =>
    simp only [cO, Option.map_eq_some_iff] at e
    obtain ⟨z, hz, rfl⟩ := e
    exact rel_cv hz true
  | global g => cases e
  | func g =>
    injection e with e
    subst e
    exact .fn true g [] [] #[] #[] rfl rfl (fun j x v hx => by simp at hx) (fun j x v hx => by simp at hx)

theorem FRel.put {f : Fr} {a : Act} (F : FRel h φ w S f a) (d : Option Nat) (x : AV) (v : Value) (r : Rel h φ w S true x v) (hd : ∀ i, d = some i → i < a.tmps.size) : FRel h φ w S (put f d x) (a.put d v) := by
  cases d with
  | none => exact F
  | some i =>
    intro j y hy
    simp only [Eng.put, lk] at hy
    have hi := hd i rfl
    split at hy
    · rename_i e
      subst e
      injection hy with hy
      subst hy
      exact ⟨v, by simp [Act.put, hi], r⟩
    · rename_i e
      obtain ⟨u, k1, k2⟩ := F j y hy
      exact ⟨u, by simp only [Act.put, Array.getElem?_setIfInBounds]; rw [if_neg (fun e' => e e'.symm)]; exact k1, k2⟩

/-! ### cells -/
theorem one_rel {m : Bool} {x : AV} {v : Value} (r : Rel h φ w S m x v) (h1 : x.one = true) : v.oneCell' = true ∧ v.cells = #[v] ∧ x.cells = [x] := by
  cases r <;> first | (cases h1; done) | exact ⟨rfl, rfl, rfl⟩ | skip
  rename_i hr hk
  cases hr
  exact ⟨rfl, rfl, rfl⟩
/-- Cell by cell. -/
theorem cells_rel {m : Bool} {x : AV} {v : Value} (r : Rel h φ w S m x v) (h1 : x.cells.all AV.one = true) : x.cells.length = v.cells.size ∧ (∀ (j : Nat) (y : AV), x.cells[j]? = some y → y.one = true) ∧
    (∀ u, u ∈ v.cells.toList → u.oneCell' = true) ∧
    ∀ (j : Nat) (y : AV) (u : Value), x.cells[j]? = some y → v.cells[j]? = some u → Rel h φ w S m y u := by
  have hone : ∀ (j : Nat) (y : AV), x.cells[j]? = some y → y.one = true := fun j y hy => List.all_eq_true.1 h1 y (List.mem_of_getElem? hy)
  by_cases hx : x.one = true
  · obtain ⟨k1, k2, k3⟩ := one_rel r hx
    rw [k2, k3]
    refine ⟨rfl, fun j y hy => hone j y (by rw [k3]; exact hy), fun u hu => ?_, fun j y u hy hu => ?_⟩
    · simp at hu; rw [hu]; exact k1
    · cases j with
      | zero => simp at hy hu; subst hy hu; exact r
      | succ j => simp at hy
  · cases r with
    | agg _ cs vs hl ho hr =>
      refine ⟨hl, hone, fun u hu => ?_, hr⟩
      obtain ⟨j, hj⟩ := List.getElem?_of_mem hu
      have hj' : vs[j]? = some u := by simpa [Value.cells] using hj
      have hlt : j < cs.length := by rw [hl]; exact (Array.getElem?_eq_some_iff.1 hj').1
      exact (one_rel (hr j _ u (List.getElem?_eq_getElem hlt) hj') (ho j _ (List.getElem?_eq_getElem hlt))).1
    | undef _ v => simp [AV.cells, AV.one] at h1
    | tup _ cs vs => simp [AV.cells, AV.one] at h1
    | _ => simp [AV.one] at hx

theorem add_add (a : Addr) (i j : Nat) : (a.add i).add j = a.add (i + j) := by
  unfold Addr.add
  by_cases h1 : i = 0 <;> by_cases h2 : j = 0 <;> simp [h1, h2, Nat.add_assoc]

/-- The cells that begin at an address. -/
theorem rel_cellsAt (M : Sim h φ w S) {x : AV} {v : Value} {cs : List AV} (e : cellsAt h x = some cs) (r : Rel h φ w S true x v) :
    ∃ a : Addr, v = .pointer (some a) ∧ ∀ (j : Nat) (y : AV), cs[j]? = some y → y.one = true ∧ ∃ u, w.cell? (a.add j) = some u ∧ Rel h φ w S true y u := by
  cases r with
  | ptr i o hi =>
    refine ⟨_, rfl, fun j y hy => ?_⟩
    simp only [cellsAt] at e
    split at e
    case h_2 => cases e
    rename_i cs0 hb
    split at e
    case isFalse => cases e
    injection e with e
    subst e
    obtain ⟨arr, T, k1, k2, k3, k4, k5⟩ := M.obj i _ hb
    rw [List.getElem?_drop] at hy
    have hlt : o + j < arr.size := Nat.lt_of_lt_of_le (List.getElem?_eq_some_iff.1 hy).1 k2
    refine ⟨k3 _ y hy, arr[o + j], ?_, k4 _ _ _ hy (by simp [hlt])⟩
    rw [Addr.add_lit]
    simp [World.cell?, k1, hlt]
  | rptr _ cs0 a f hc hr =>
    injection e with e
    subst e
    exact ⟨a, rfl, fun j y hy => ⟨(hc j y hy).1, f j, (hc j y hy).2.1, (hr j y hy).up⟩⟩
  | _ => cases e

theorem run_isAgg {P : Program} {t : TypeId} {k : Option Nat} (e : aggK P t = some k) (w : World) : ∃ i, P.info? t = some i ∧ (isAgg t).run P w = .ok k.isSome w ∧ ∀ n, k = some n → n = i.size := by
  unfold aggK at e
  split at e
  case h_2 => cases e
  rename_i d i hu hi
  injection e with e
  subst e
  refine ⟨i, hi, ?_, fun n hn => ?_⟩
  · simp only [isAgg, Sem.run_bind, run_underlying hu, Result.andThen_ok]
    cases d <;> rfl
  · split at hn
    · injection hn with hn; exact hn.symm
    · cases hn
end
end Go.Eng

/- The engine, part 5: plain operations do in the model what they do to abstract values. -/
set_option linter.unusedVariables false
set_option linter.unusedSimpArgs false
namespace Go.Eng

def RunsTo (P : Program) (o : Oper) (a : Act) (w : World) (v : Value) (w' : World) : Prop :=
  (execOp a.eval o).run P w = .ok (.value v) w' ∨ ((execOp a.eval o).run P w = .ok .skip w' ∧ v = undef)
def Fine (P : Program) (o : Oper) (a : Act) (h : List AO) (φ : Nat → Loc) (w : World) (S : Nat → Nat → Prop) (x : AV) (h' : List AO) : Prop :=
  ∃ v w' φ' S', RunsTo P o a w v w' ∧ Sim h' φ' w' S' ∧ Ext h φ w S h' φ' w' S' ∧ Rel h' φ' w' S' true x v

section
variable {P : Program} {o : Oper} {a : Act} {h : List AO} {φ : Nat → Loc} {w : World} {S : Nat → Nat → Prop} {f : Fr} {x : AV} {h' : List AO}

theorem fine_pure (M : Sim h φ w S) {v : Value} (hr : (execOp a.eval o).run P w = .ok (.value v) w) (r : Rel h φ w S true x v) : Fine P o a h φ w S x h :=
  ⟨v, w, φ, S, .inl hr, M, Ext.refl _ _ _ _, r⟩

theorem fine_move (M : Sim h φ w S) (F : FRel h φ w S f a) {y : Operand} {p : Opnd} (ho : o.op = .move y ∨ o.op = .assign y) (e : cO y = some p) : Fine P o a h φ w S (ev f p) h := by
  refine fine_pure M (v := a.eval y) ?_ (rel_ev F e)
  rcases ho with ho | ho <;> simp [execOp, ho]

theorem fine_pick (M : Sim h φ w S) (F : FRel h φ w S f a) {c y z : Operand} {pc py pz : Opnd} (ho : o.op = .pick c y z) (e1 : cO c = some pc) (e2 : cO y = some py) (e3 : cO z = some pz)
    (he : evP f h (.pick pc py pz) = some (x, h')) : Fine P o a h φ w S x h' := by
  have r1 := rel_ev F e1
  simp only [evP] at he
  split at he
  · rename_i hb
    rw [hb] at r1
    injection he with he; injection he with h1 h2; subst h1 h2
    generalize hv : a.eval c = vc at r1
    cases r1
    exact fine_pure M (v := a.eval y) (by simp [execOp, ho, hv, asBool]) (rel_ev F e2)
  · rename_i hb
    rw [hb] at r1
    injection he with he; injection he with h1 h2; subst h1 h2
    generalize hv : a.eval c = vc at r1
    cases r1
    exact fine_pure M (v := a.eval z) (by simp [execOp, ho, hv, asBool]) (rel_ev F e3)
  · cases he

/-- A new box. -/
theorem sim_box (M : Sim h φ w S) (cs : List AV) (arr : Array Value) (T : TypeId) (hl : cs.length = arr.size) (h1 : ∀ (j : Nat) (y : AV), cs[j]? = some y → y.one = true)
    (hr : ∀ (j : Nat) (y : AV) (u : Value), cs[j]? = some y → arr[j]? = some u → Rel h φ w S true y u) :
    Sim (h ++ [.box cs]) (updφ φ h.length ⟨w.heap.size, 0⟩) (w.alloc (.cells arr T)) S ∧ Ext h φ w S (h ++ [.box cs]) (updφ φ h.length ⟨w.heap.size, 0⟩) (w.alloc (.cells arr T)) S := by
  have st := push_step M (.box cs) (.cells arr T) 0 S (fun _ _ k => k) (fun _ _ k => .inl k)
  have E := st.ext M (by simp)
  refine ⟨st.sim M (by simp) ⟨arr, T, ?_, Nat.le_of_eq hl, h1, fun j y u hy hu => (hr j y u hy hu).mono E, fun j hj => ?_⟩, E⟩
  · simp only [updφ_same]; show (w.heap.push _)[w.heap.size]? = _; simp
  · simp only [updφ_same] at hj
    exact absurd (M.stab _ _ hj) (Nat.lt_irrefl _)
theorem rel_newptr (h : List AO) (cs : List AV) (φ : Nat → Loc) (w' : World) (S : Nat → Nat → Prop) (b : Nat) : Rel (h ++ [.box cs]) (updφ φ h.length ⟨b, 0⟩) w' S true (.ptr h.length 0) (.pointer (some ⟨b, 0, none⟩)) := by
  have := Rel.ptr (h := h ++ [.box cs]) (φ := updφ φ h.length ⟨b, 0⟩) (w := w') (S := S) h.length 0 ⟨.box cs, by simp, rfl⟩
  simpa using this

theorem fine_alloc (M : Sim h φ w S) {e : TypeId} {zs : List AV} (ho : o.op = .alloc e) (hz : zeroL P e = some zs) : Fine P o a h φ w S (.ptr h.length 0) (h ++ [.box zs]) := by
  unfold zeroL at hz
  split at hz
  case h_2 => cases hz
  rename_i i hi
  split at hz
  case h_2 => cases hz
  rename_i z hzz
  obtain ⟨k1, k2, k3⟩ := rel_cvL (h := h) (φ := φ) (w := w) (S := S) hz true
  obtain ⟨s1, s2⟩ := sim_box M zs z.cells e (by simpa using k1) k2 (fun j y u hy hu => k3 j y u hy (by simpa using hu))
  refine ⟨_, _, _, _, .inl ?_, s1, s2, rel_newptr _ _ _ _ _ _⟩
  simp [execOp, ho, Instr.alloc, zeroValue, typeInfo, hi, hzz, newVar, newRow]

theorem fine_box (M : Sim h φ w S) (F : FRel h φ w S f a) {e : TypeId} {y : Operand} {p : Opnd} (ho : o.op = .box e y) (e1 : cO y = some p) (h1 : (ev f p).cells.all AV.one = true) :
    Fine P o a h φ w S (.ptr h.length 0) (h ++ [.box (ev f p).cells]) := by
  obtain ⟨k1, k2, _, k3⟩ := cells_rel (rel_ev F e1) h1
  obtain ⟨s1, s2⟩ := sim_box M (ev f p).cells (a.eval y).cells e k1 k2 k3
  refine ⟨_, _, _, _, .inl ?_, s1, s2, rel_newptr _ _ _ _ _ _⟩
  simp [execOp, ho, Instr.box, newVar, newRow]

/-! ### build -/
theorem foldl_set (cs : Array Value) (off : Nat) : ∀ (us : List Value) (j : Nat), off + j + us.length ≤ cs.size →
    ((us.zipIdx j).foldl (fun c (p : Value × Nat) => c.setIfInBounds (off + p.2) p.1) cs).toList = cs.toList.take (off + j) ++ us ++ cs.toList.drop (off + j + us.length) := by
  intro us
  induction us generalizing cs with
  | nil => intro j hj; simp
  | cons u us ih =>
    intro j hj
    simp only [List.length_cons] at hj
    simp only [List.zipIdx_cons, List.foldl_cons]
    rw [ih _ (j + 1) (by simp; omega)]
    simp only [Array.toList_setIfInBounds, List.length_cons]
    apply List.ext_getElem?
    intro n
    simp only [List.getElem?_append, List.getElem?_take, List.getElem?_drop, List.getElem?_set, List.length_take, List.length_set, List.length_append, List.getElem?_cons, List.length_cons, Array.length_toList]
    have e1 : min (off + (j + 1)) cs.size = off + (j + 1) := by omega
    have e2 : min (off + j) cs.size = off + j := by omega
    rw [e1, e2]
    by_cases h1 : n < off + j
    · simp [show n < off + (j + 1) + us.length by omega, show n < off + (j + 1) by omega, show n < off + j + (us.length + 1) by omega, h1, show ¬ off + j = n by omega]
    · by_cases h2 : n = off + j
      · subst h2
        simp [show off + j < off + (j + 1) + us.length by omega, show off + j < off + (j + 1) by omega, show off + j < off + j + (us.length + 1) by omega, show off + j < cs.size by omega]
      · by_cases h3 : n < off + j + (us.length + 1)
        · simp only [show n < off + (j + 1) + us.length by omega, show ¬ n < off + (j + 1) by omega, h3, h1, show ¬ n - (off + j) = 0 by omega, if_true, if_false]
          congr 1
        · simp only [show ¬ n < off + (j + 1) + us.length by omega, h3, if_false]
          simp only [show ¬ off + j = off + (j + 1) + us.length + (n - (off + (j + 1) + us.length)) by omega, if_false]
          congr 1
          omega

theorem getElem?_setL {cs ys : List AV} {o : Nat} (hl : o + ys.length ≤ cs.length) (j : Nat) : (setL cs o ys)[j]? = if o ≤ j ∧ j < o + ys.length then ys[j - o]? else cs[j]? := by
  unfold setL
  simp only [List.getElem?_append, List.length_append, List.length_take, List.getElem?_take, List.getElem?_drop]
  have e : min o cs.length = o := by omega
  rw [e]
  by_cases h1 : j < o
  · simp [h1, show j < o + ys.length by omega, show ¬ o ≤ j by omega]
  · by_cases h2 : j < o + ys.length
    · simp [h1, h2, show o ≤ j by omega]
    · simp only [h1, h2, if_false, and_false]
      congr 1
      omega
theorem length_setL {cs ys : List AV} {o : Nat} (hl : o + ys.length ≤ cs.length) : (setL cs o ys).length = cs.length := by
  unfold setL; simp; omega

/-- Places one after the other: what Lean lists and the model's rows say of it. -/
theorem setL_rel {m : Bool} {cs ys : List AV} {o : Nat} {arr us : List Value} (hl : o + ys.length ≤ cs.length) (ha : cs.length ≤ arr.length) (hu : ys.length = us.length)
    (hr : ∀ (j : Nat) (y : AV) (u : Value), cs[j]? = some y → arr[j]? = some u → Rel h φ w S m y u) (hr' : ∀ (j : Nat) (y : AV) (u : Value), ys[j]? = some y → us[j]? = some u → Rel h φ w S m y u) :
    ∀ (j : Nat) (y : AV) (u : Value), (setL cs o ys)[j]? = some y → (arr.take o ++ us ++ arr.drop (o + us.length))[j]? = some u → Rel h φ w S m y u := by
  intro j y u hy hu'
  rw [getElem?_setL hl] at hy
  simp only [List.getElem?_append, List.length_append, List.length_take, List.getElem?_take, List.getElem?_drop] at hu'
  have e : min o arr.length = o := by omega
  rw [e] at hu'
  by_cases h1 : j < o
  · simp [h1, show j < o + us.length by omega] at hu'
    rw [if_neg (by omega)] at hy
    exact hr j y u hy hu'
  · by_cases h2 : j < o + us.length
    · simp [h1, h2] at hu'
      rw [if_pos (by omega)] at hy
      exact hr' _ y u hy hu'
    · simp only [h1, h2, if_false] at hu'
      rw [if_neg (by omega)] at hy
      rw [show o + us.length + (j - (o + us.length)) = j by omega] at hu'
      exact hr j y u hy hu'
theorem setL_one {cs ys : List AV} {o : Nat} (hl : o + ys.length ≤ cs.length) (h1 : ∀ (j : Nat) (y : AV), cs[j]? = some y → y.one = true) (h2 : ∀ (j : Nat) (y : AV), ys[j]? = some y → y.one = true) :
    ∀ (j : Nat) (y : AV), (setL cs o ys)[j]? = some y → y.one = true := by
  intro j y hy
  rw [getElem?_setL hl] at hy
  split at hy
  · exact h2 _ _ hy
  · exact h1 _ _ hy

theorem fill_rel (M : Sim h φ w S) (F : FRel h φ w S f a) (fs : Array Field) : ∀ (ps : List (Nat × Operand)) (l : List (Nat × Nat × Opnd)) (cs out : List AV) (arr : Array Value),
    cParts P fs ps = some l → fillA cs (l.map fun p => (p.1, p.2.1, ev f p.2.2)) = some out → cs.length = arr.size → (∀ (j : Nat) (y : AV), cs[j]? = some y → y.one = true) →
    (∀ (j : Nat) (y : AV) (u : Value), cs[j]? = some y → arr[j]? = some u → Rel h φ w S true y u) →
    ∀ places : Nat → Option (Nat × Nat), (∀ i fl, fs[i]? = some fl → ∃ n, szOf P fl.type = some n ∧ places i = some (fl.offset, n)) →
    ∃ out' : Array Value, Instr.fill places arr (ps.map fun p => (p.1, a.eval p.2)) = some out' ∧ out.length = out'.size ∧ (∀ (j : Nat) (y : AV), out[j]? = some y → y.one = true) ∧
      ∀ (j : Nat) (y : AV) (u : Value), out[j]? = some y → out'[j]? = some u → Rel h φ w S true y u
  | [], l, cs, out, arr, hp, hf, hl, h1, hr, places, _ => by
    injection hp with hp
    subst hp
    simp only [List.map_nil, fillA] at hf
    injection hf with hf
    subst hf
    exact ⟨arr, rfl, hl, h1, hr⟩
  | (i, y) :: ps, l, cs, out, arr, hp, hf, hl, h1, hr, places, hpl => by
    simp only [cParts] at hp
    split at hp
    case h_2 => cases hp
    rename_i fl z l' hfl hy hps
    split at hp
    case h_2 => cases hp
    rename_i n hn
    injection hp with hp
    subst hp
    simp only [List.map_cons, fillA] at hf
    split at hf
    case isFalse => cases hf
    rename_i hc
    obtain ⟨hc1, hc2, hc3⟩ := hc
    obtain ⟨n', hn', hpi⟩ := hpl i fl hfl
    rw [hn] at hn'
    injection hn' with hn'
    subst hn'
    obtain ⟨k1, k2, _, k3⟩ := cells_rel (rel_ev F hy) hc3
    have hlen : (a.eval y).cells.size = n := by omega
    simp only [List.map_cons, Instr.fill, hpi]
    rw [if_neg (by simp [hlen]; omega)]
    have hfold : ((a.eval y).cells.zipIdx.foldl (fun cs (p : Value × Nat) => cs.setIfInBounds (fl.offset + p.2) p.1) arr) = (arr.toList.take fl.offset ++ (a.eval y).cells.toList ++ arr.toList.drop (fl.offset + (a.eval y).cells.toList.length)).toArray := by
      apply Array.ext'
      rw [← Array.foldl_toList, Array.toList_zipIdx]
      have := foldl_set arr fl.offset (a.eval y).cells.toList 0 (by simp; omega)
      simpa using this
    rw [hfold]
    have hlt : fl.offset + (ev f z).cells.length ≤ cs.length := by omega
    refine fill_rel M F fs ps l' (setL cs fl.offset (ev f z).cells) out _ hps hf ?_ (setL_one hlt h1 k2) ?_ places hpl
    · rw [length_setL hlt]; simp; omega
    · have := setL_rel (m := true) (arr := arr.toList) (us := (a.eval y).cells.toList) hlt (Nat.le_of_eq (by simpa using hl)) (by simpa using k1) (fun j y u hy hu => hr j y u hy (by simpa using hu)) (fun j y u hy hu => k3 j y u hy (by simpa using hu))
      intro j y u hy hu
      exact this j y u hy (by simpa using hu)

theorem mapM_places (w : World) : ∀ (fs : List Field), (∀ f ∈ fs, (szOf P f.type).isSome = true) →
    (fs.mapM fun (f : Field) => (do pure (f.offset, ← sizeOf f.type) : Sem (Nat × Nat))).run P w = .ok (fs.map fun f => (f.offset, (szOf P f.type).getD 0)) w
  | [], _ => rfl
  | f :: fs, hf => by
    have h1 := hf f (by simp)
    cases hi : P.info? f.type with
    | none => simp [szOf, hi] at h1
    | some i =>
      simp only [List.mapM_cons, Sem.run_bind, sizeOf, typeInfo, run_program, Result.andThen_ok, hi, Sem.run_pure]
      have := mapM_places w fs (fun g hg => hf g (by simp [hg]))
      simp only [sizeOf, typeInfo] at this
      rw [this]
      simp [szOf, hi]

theorem fine_build (M : Sim h φ w S) (F : FRel h φ w S f a) {t : TypeId} {ps : Array (Nat × Operand)} {fs : Array Field} {zs : List AV} {l : List (Nat × Nat × Opnd)} (ho : o.op = .build t ps) (hu : P.underlying t = some (.struct fs)) (hz : zeroL P t = some zs)
    (hl : cParts P fs ps.toList = some l) (hall : ∀ f ∈ fs.toList, (szOf P f.type).isSome = true) {out : List AV} (he : fillA zs (l.map fun p => (p.1, p.2.1, ev f p.2.2)) = some out) : Fine P o a h φ w S (.agg out) h := by
  unfold zeroL at hz
  split at hz
  case h_2 => cases hz
  rename_i i hi
  split at hz
  case h_2 => cases hz
  rename_i z hzz
  obtain ⟨k1, k2, k3⟩ := rel_cvL (h := h) (φ := φ) (w := w) (S := S) hz true
  obtain ⟨out', e1, e2, e3, e4⟩ := fill_rel M F fs ps.toList l zs out z.cells hl he (by simpa using k1) k2 (fun j y u hy hu => k3 j y u hy (by simpa using hu)) (fun j => (fs.map fun f => (f.offset, (szOf P f.type).getD 0))[j]?) (fun j fl hfl => by
    have := hall fl (Array.mem_toList_iff.2 (Array.mem_of_getElem? hfl))
    obtain ⟨n, hn⟩ := Option.isSome_iff_exists.1 this
    exact ⟨n, hn, by simp [hfl, hn]⟩)
  refine fine_pure M (v := .agg out') ?_ (.agg true _ _ e2 e3 e4)
  have hm := mapM_places (P := P) w fs.toList hall
  simp only [execOp, ho, Instr.build, Sem.run_bind, zeroValue, typeInfo, run_program, Result.andThen_ok, hi, Sem.run_pure, hzz, run_underlying hu]
  rw [← Array.toList_mapM, Sem.run_map] at hm
  generalize hx : Sem.run P (Array.mapM _ fs) w = R at hm ⊢
  cases R with
  | halt e w' => cases hm
  | ok pl w' =>
    simp only [Result.andThen_ok, Result.ok.injEq] at hm
    obtain ⟨hm1, rfl⟩ := hm
    have hpl : pl = fs.map fun f => (f.offset, (szOf P f.type).getD 0) := Array.toList_inj.1 (by rw [hm1]; simp)
    subst hpl
    have e1' := e1
    simp only [Result.andThen_ok, Array.toList_map, e1', Sem.run_pure]

/-! ### a literal of a slice -/
theorem roL_get : ∀ {cs cs' : List AV}, roL cs = some cs' → cs'.length = cs.length ∧ ∀ (j : Nat) (y : AV), cs'[j]? = some y → ∃ x, cs[j]? = some x ∧ ro x = some y
  | [], cs', e => by
    injection e with e
    subst e
    exact ⟨rfl, fun j y hy => by simp at hy⟩
  | c :: cs, cs', e => by
    simp only [roL, Option.bind_eq_some_iff, Option.map_eq_some_iff] at e
    obtain ⟨y, hy, ys, hys, rfl⟩ := e
    obtain ⟨k1, k2⟩ := roL_get hys
    refine ⟨by simp [k1], fun j z hz => ?_⟩
    cases j with
    | zero => simp at hz; subst hz; exact ⟨c, rfl, hy⟩
    | succ j => exact k2 j z (by simpa using hz)
theorem ro_one {x y : AV} (e : ro x = some y) (h1 : x.one = true) : y.one = true := by
  cases x <;> simp only [ro, Option.some.injEq, Option.map_eq_some_iff, Option.bind_eq_some_iff] at e <;> first | (cases e; done) | (subst e; first | rfl | exact h1) | skip
  · obtain ⟨_, _, _, _, rfl⟩ := e; rfl
  · obtain ⟨_, _, rfl⟩ := e; rfl
  · cases h1
  · cases h1
theorem rel_rsl_nil (A : Option Addr) (m : Bool) : Rel h φ w S m (.rsl []) (.slice A 0 0) :=
  Rel.rsl m [] A 0 1 (fun _ _ => undef) (Nat.le_refl _) (by omega) (fun x hx => by simp at hx) (fun i j x y hx => by simp at hx) (fun i j x y hx => by simp at hx)
theorem ro_rel {m : Bool} {x : AV} {v : Value} (r : Rel h φ w S m x v) : ∀ y, ro x = some y → Rel h φ w S false y v := by
  induction r with
  | undef m v => intro y e; injection e with e; subst e; exact .undef _ v
  | bool m b => intro y e; injection e with e; subst e; exact .bool _ b
  | int m k n => intro y e; injection e with e; subst e; exact .int _ k n
  | str m s => intro y e; injection e with e; subst e; exact .str _ s
  | nilp m => intro y e; injection e with e; subst e; exact .nilp _
  | ptr i o hi => intro y e; cases e
  | rptr m cs a f hc hr ih => intro y e; injection e with e; subst e; exact .rptr _ cs a f hc hr
  | esl m A => intro y e; injection e with e; subst e; exact rel_rsl_nil A _
  | rsl m es A c sz f hl hz hs hc hr ih => intro y e; injection e with e; subst e; exact .rsl _ es A c sz f hl hz hs hc hr
  | osl t es v ht hr hk ih => intro y e; injection e with e; subst e; exact hr
  | msl i o len cap c hi hc => intro y e; cases e
  | nilmap m => intro y e; injection e with e; subst e; exact .nilmap _
  | map i hi => intro y e; cases e
  | fn m g fs cs us vs hl' hl hr' hr ih' ih =>
    intro y e
    simp only [ro, Option.map_eq_some_iff, Option.bind_eq_some_iff] at e
    obtain ⟨fs', hf, cs', hc, rfl⟩ := e
    obtain ⟨k1, k2⟩ := roL_get hf
    obtain ⟨k3, k4⟩ := roL_get hc
    refine .fn _ g _ _ us vs (by omega) (by omega) (fun j x v hx hv => ?_) (fun j x v hx hv => ?_)
    · obtain ⟨x0, e1, e2⟩ := k2 j x hx; exact ih' j x0 v e1 hv x e2
    · obtain ⟨x0, e1, e2⟩ := k4 j x hx; exact ih j x0 v e1 hv x e2
  | nilfn m => intro y e; injection e with e; subst e; exact .nilfn _
  | iface m t x v hr ih =>
    intro y e
    simp only [ro, Option.map_eq_some_iff] at e
    obtain ⟨x', hx, rfl⟩ := e
    exact .iface _ t x' v (ih x' hx)
  | nilif m => intro y e; injection e with e; subst e; exact .nilif _
  | agg m cs vs hl h1 hr ih =>
    intro y e
    simp only [ro, Option.map_eq_some_iff] at e
    obtain ⟨cs', hc, rfl⟩ := e
    obtain ⟨k3, k4⟩ := roL_get hc
    refine .agg _ _ vs (by omega) (fun j x hx => ?_) (fun j x v hx hv => ?_)
    · obtain ⟨x0, e1, e2⟩ := k4 j x hx; exact ro_one e2 (h1 j x0 e1)
    · obtain ⟨x0, e1, e2⟩ := k4 j x hx; exact ih j x0 v e1 hv x e2
  | tup m cs vs hl hr ih =>
    intro y e
    simp only [ro, Option.map_eq_some_iff] at e
    obtain ⟨cs', hc, rfl⟩ := e
    obtain ⟨k3, k4⟩ := roL_get hc
    refine .tup _ _ vs (by omega) (fun j x v hx hv => ?_)
    obtain ⟨x0, e1, e2⟩ := k4 j x hx; exact ih j x0 v e1 hv x e2

theorem nrmL_get : ∀ (cs : List AV) (j : Nat) (y : AV), (nrmL cs)[j]? = some y → ∃ x, cs[j]? = some x ∧ y = nrm x
  | [], j, y, hy => by simp [nrmL] at hy
  | c :: cs, j, y, hy => by
    cases j with
    | zero => simp [nrmL] at hy; exact ⟨c, rfl, hy.symm⟩
    | succ j => exact nrmL_get cs j y (by simpa [nrmL] using hy)
theorem nrmL_length : ∀ (cs : List AV), (nrmL cs).length = cs.length
  | [] => rfl
  | c :: cs => by simp [nrmL, nrmL_length cs]
theorem nrm_one {x : AV} (h1 : x.one = true) : (nrm x).one = true := by
  cases x <;> first | rfl | cases h1
theorem nrm_rel {m : Bool} {x : AV} {v : Value} (r : Rel h φ w S m x v) : Rel h φ w S m (nrm x) v := by
  induction r with
  | esl m A => exact rel_rsl_nil A _
  | osl t es v ht hr hk ih => exact hr.up
  | undef m v => exact .undef _ v
  | bool m b => exact .bool _ b
  | int m k n => exact .int _ k n
  | str m s => exact .str _ s
  | nilp m => exact .nilp _
  | ptr i o hi => exact .ptr i o hi
  | rptr m cs a f hc hr ih => exact .rptr _ cs a f hc hr
  | rsl m es A c sz f hl hz hs hc hr ih => exact .rsl _ es A c sz f hl hz hs hc hr
  | msl i o len cap c hi hc => exact .msl i o len cap c hi hc
  | nilmap m => exact .nilmap _
  | map i hi => exact .map i hi
  | fn m g fs cs us vs hl' hl hr' hr ih' ih =>
    refine .fn _ g _ _ us vs (by rw [nrmL_length]; exact hl') (by rw [nrmL_length]; exact hl) (fun j x v hx hv => ?_) (fun j x v hx hv => ?_)
    · obtain ⟨x0, e1, rfl⟩ := nrmL_get _ _ _ hx; exact ih' j x0 v e1 hv
    · obtain ⟨x0, e1, rfl⟩ := nrmL_get _ _ _ hx; exact ih j x0 v e1 hv
  | nilfn m => exact .nilfn _
  | iface m t x v hr ih => exact .iface _ t _ v ih
  | nilif m => exact .nilif _
  | agg m cs vs hl h1 hr ih =>
    refine .agg _ _ vs (by rw [nrmL_length]; exact hl) (fun j x hx => ?_) (fun j x v hx hv => ?_)
    · obtain ⟨x0, e1, rfl⟩ := nrmL_get _ _ _ hx; exact nrm_one (h1 j x0 e1)
    · obtain ⟨x0, e1, rfl⟩ := nrmL_get _ _ _ hx; exact ih j x0 v e1 hv
  | tup m cs vs hl hr ih =>
    refine .tup _ _ vs (by rw [nrmL_length]; exact hl) (fun j x v hx hv => ?_)
    obtain ⟨x0, e1, rfl⟩ := nrmL_get _ _ _ hx; exact ih j x0 v e1 hv

/-! ### loads and stores -/
theorem fine_load (M : Sim h φ w S) (F : FRel h φ w S f a) {t : TypeId} {y : Operand} {p : Opnd} {k : Option Nat} (ho : o.op = .load t y) (ek : aggK P t = some k) (e1 : cO y = some p) {cs : List AV} (hc : cellsAt h (ev f p) = some cs) (he : loadA k cs = some x) :
    Fine P o a h φ w S x h := by
  obtain ⟨ad, hv, hcell⟩ := rel_cellsAt M hc (rel_ev F e1)
  obtain ⟨i, hi, hagg, hsz⟩ := run_isAgg ek w
  cases k with
  | none =>
    simp only [loadA] at he
    obtain ⟨k1, u, k2, k3⟩ := hcell 0 x he
    have k2' : w.cell? ad = some u := by simpa [Addr.add] using k2
    refine fine_pure M (v := u) ?_ k3
    simp [execOp, ho, Instr.loadAt, hv, Instr.sureAddr, loadVar, hagg, k2']
  | some n =>
    obtain rfl := hsz n rfl
    simp only [loadA] at he
    split at he
    case isFalse => cases he
    rename_i hn
    injection he with he
    subst he
    have hex : ∀ j, j < i.size → ∃ u, w.cell? (ad.add j) = some u := fun j hj => by
      obtain ⟨k1, u, k2, k3⟩ := hcell j _ (List.getElem?_eq_getElem (by omega : j < cs.length))
      exact ⟨u, k2⟩
    have hl := run_loadCells (P := P) w ad i.size (fun j => (w.cell? (ad.add j)).getD undef) (fun j hj => by obtain ⟨u, hu⟩ := hex j hj; simp [hu])
    refine fine_pure M (v := .agg ((List.range i.size).map fun j => (w.cell? (ad.add j)).getD undef).toArray) ?_ (.agg true _ _ (by simp; omega) (fun j y hy => ?_) (fun j y u hy hu => ?_))
    · simp [execOp, ho, Instr.loadAt, hv, Instr.sureAddr, loadVar, hagg, Go.sizeOf, typeInfo, hi, hl]
    · rw [List.getElem?_take] at hy
      split at hy
      · exact (hcell j y hy).1
      · cases hy
    · rw [List.getElem?_take] at hy
      split at hy
      case isFalse => cases hy
      rename_i hj
      obtain ⟨k1, u', k2, k3⟩ := hcell j y hy
      simp [hj, k2] at hu
      subst hu
      exact k3

theorem setRow_other' (w : World) (g b : Nat) (cs : Array Value) (hne : b ≠ g) : (w.setRow g cs).heap[b]? = w.heap[b]? := by
  simp only [World.setRow, Array.getElem?_modify]
  rw [if_neg (fun e => hne e.symm)]

theorem fine_store (M : Sim h φ w S) (F : FRel h φ w S f a) {t : TypeId} {y z : Operand} {p q : Opnd} {n : Nat} (ho : o.op = .store t y z) (en : szOf P t = some n) (e1 : cO y = some p) (e2 : cO z = some q) (he : storeA h n (ev f p) (ev f q) = some h') :
    Fine P o a h φ w S .undef h' := by
  have r1 := rel_ev F e1
  have r2 := rel_ev F e2
  unfold storeA at he
  split at he
  case h_2 => cases he
  rename_i i off hx
  split at he
  case h_2 => cases he
  rename_i cs hb
  split at he
  case isFalse => cases he
  rename_i hc
  obtain ⟨hc1, hc2, hc3⟩ := hc
  injection he with he
  subst he
  rw [hx] at r1
  generalize hv : a.eval y = v at r1
  cases r1 with
  | ptr _ _ hi =>
    obtain ⟨arr, T, k1, k2, k3, k4, k5⟩ := M.obj i _ hb
    obtain ⟨c1, c2, c3, c4⟩ := cells_rel r2 hc3
    have hinf : ∃ ti, P.info? t = some ti ∧ ti.size = n := by
      cases hi : P.info? t with
      | none => simp [szOf, hi] at en
      | some ti => exact ⟨ti, rfl, by simpa [szOf, hi] using en⟩
    obtain ⟨ti, hti, hsz⟩ := hinf
    have hlt : off + (ev f q).cells.length ≤ cs.length := by omega
    have hst := run_storeCells_at P (φ i).blk off T (a.eval z).cells.toList 0 arr w k1 (by simp; omega) c3
    have st := turn_step M (o' := .box (setL cs off (ev f q).cells)) hb rfl rfl rfl k5 (w' := w.setRow (φ i).blk (arr.toList.take off ++ (a.eval z).cells.toList ++ arr.toList.drop (off + (a.eval z).cells.toList.length)).toArray)
      (fun b hb' => setRow_other' _ _ _ _ hb') (by simp [World.setRow]) rfl rfl rfl
    have E := st.ext M (by simp)
    refine ⟨undef, _, _, _, .inr ⟨?_, rfl⟩, st.sim M (by simp) ⟨_, T, setRow_heap w _ arr _ T (0, 0) k1, ?_, setL_one hlt k3 c2, fun j y u hy hu => ?_, k5⟩, E, .undef _ _⟩
    · simp only [Nat.add_zero] at hst
      simp [execOp, ho, Instr.storeAt, hv, Instr.sureAddr, storeVar, Go.sizeOf, typeInfo, hti, hsz, show (a.eval z).cells.size = n by omega, hst]
    · rw [length_setL hlt]; simp; omega
    · refine Rel.mono E ?_
      exact setL_rel (arr := arr.toList) (us := (a.eval z).cells.toList) hlt (by simpa using k2) (by simpa using c1) (fun j y u hy hu => k4 j y u hy (by simpa using hu)) (fun j y u hy hu => c4 j y u hy (by simpa using hu)) j y u hy (by simpa using hu)
end
end Go.Eng

/- The engine, part 6: plain operations, on. -/
set_option linter.unusedVariables false
set_option linter.unusedSimpArgs false
namespace Go.Eng
section
variable {P : Program} {o : Oper} {a : Act} {h : List AO} {φ : Nat → Loc} {w : World} {S : Nat → Nat → Prop} {f : Fr} {x : AV} {h' : List AO}

/-- A new block that nobody writes any more. -/
def withBlk (S : Nat → Nat → Prop) (b : Nat) : Nat → Nat → Prop := fun x y => S x y ∨ x = b
theorem sim_ro (M : Sim h φ w S) (b : Obj) : Sim h φ (w.alloc b) (withBlk S w.heap.size) ∧ Ext h φ w S h φ (w.alloc b) (withBlk S w.heap.size) := by
  have hh : ∀ k, k < w.heap.size → (w.alloc b).heap[k]? = w.heap[k]? := fun k hk => by show (w.heap.push b)[k]? = _; rw [Array.getElem?_push, if_neg (by omega)]
  have E : Ext h φ w S h φ (w.alloc b) (withBlk S w.heap.size) :=
    { len := Nat.le_refl _
      stab := fun _ _ k => .inl k
      cell := fun x y hs => World.cell?_of_block (hh x (M.stab _ _ hs))
      same := fun i hi => ⟨hi, rfl⟩
      tok := fun i e sz n hn _ => .inl ⟨hn, rfl⟩
      live := fun i o ho hd => .inl ⟨o, ho, hd, rfl⟩
      frame := fun k hk _ => hh k hk
      os := rfl
      tape := rfl
      output := rfl
      size := by simp
      news := fun b o k => by
        rcases k with k | k
        · exact .inl k
        · exact .inr (.inl (by omega)) }
  refine ⟨⟨fun i o ho => ?_, M.inj, fun x y hs => ?_⟩, E⟩
  · have r := M.obj i o ho
    cases hd : o.isDead with
    | true => cases o <;> first | trivial | cases hd
    | false =>
      have hl := r.lt hd
      exact r.mono E (hh _ hl) (fun j hj => by
        rcases hj with hj | hj
        · exact hj
        · omega)
  · rcases hs with hs | hs
    · exact Nat.lt_of_lt_of_le (M.stab _ _ hs) (by simp)
    · simp [hs]

theorem fill_lit (sz : Nat) (hz : 0 < sz) (places : Nat → Option (Nat × Nat)) (hp : ∀ i, places i = some (i * sz, sz)) : ∀ (vs : List Value) (j : Nat) (arr : Array Value), (j + vs.length) * sz ≤ arr.size → (∀ v ∈ vs, v.cells.size = sz) →
    ∃ out : Array Value, Instr.fill places arr ((vs.zipIdx j).map fun p => (p.2, p.1)) = some out ∧ out.size = arr.size ∧ (∀ (i k : Nat) (v : Value), vs[i]? = some v → k < sz → out[(j + i) * sz + k]? = v.cells[k]?) ∧ ∀ idx, idx < j * sz → out[idx]? = arr[idx]?
  | [], j, arr, _, _ => ⟨arr, rfl, rfl, fun i k v hv => by simp at hv, fun _ _ => rfl⟩
  | v :: vs, j, arr, hl, hv => by
    have hv0 := hv v (by simp)
    have e1 : (j + (vs.length + 1)) * sz = j * sz + (vs.length + 1) * sz := Nat.add_mul _ _ _
    have e2 : (vs.length + 1) * sz = vs.length * sz + sz := Nat.succ_mul _ _
    have hfit : j * sz + sz ≤ arr.size := by simp only [List.length_cons] at hl; omega
    simp only [List.zipIdx_cons, List.map_cons, Instr.fill, hp]
    rw [if_neg (by simp [hv0]; omega)]
    have hfold : (v.cells.zipIdx.foldl (fun cs (p : Value × Nat) => cs.setIfInBounds (j * sz + p.2) p.1) arr) = (arr.toList.take (j * sz) ++ v.cells.toList ++ arr.toList.drop (j * sz + v.cells.toList.length)).toArray := by
      apply Array.ext'
      rw [← Array.foldl_toList, Array.toList_zipIdx]
      have := foldl_set arr (j * sz) v.cells.toList 0 (by simp; omega)
      simpa using this
    rw [hfold]
    have hsize : (arr.toList.take (j * sz) ++ v.cells.toList ++ arr.toList.drop (j * sz + v.cells.toList.length)).toArray.size = arr.size := by simp [hv0]; omega
    obtain ⟨out, k1, k2, k3, k4⟩ := fill_lit sz hz places hp vs (j + 1) _ (by rw [hsize]; simp only [List.length_cons] at hl; rw [show j + 1 + vs.length = j + (vs.length + 1) by omega]; exact hl) (fun u hu => hv u (by simp [hu]))
    have e3 : (j + 1) * sz = j * sz + sz := Nat.succ_mul _ _
    refine ⟨out, k1, k2.trans hsize, fun i k u hu hk => ?_, fun idx hi => ?_⟩
    · cases i with
      | zero =>
        simp at hu
        subst hu
        rw [Nat.add_zero, k4 _ (by omega)]
        simp only [List.getElem?_toArray, List.getElem?_append, List.length_append, List.length_take, Array.length_toList, List.getElem?_take]
        have e4 : min (j * sz) arr.size = j * sz := by omega
        rw [e4]
        simp [hv0, show j * sz + k < j * sz + sz by omega]
        intro hbad; omega
      | succ i =>
        have := k3 i k u (by simpa using hu) hk
        rw [show j + (i + 1) = j + 1 + i by omega]
        exact this
    · rw [k4 idx (by omega)]
      simp only [List.getElem?_toArray, List.getElem?_append, List.length_append, List.length_take, Array.length_toList, List.getElem?_take]
      have e4 : min (j * sz) arr.size = j * sz := by omega
      rw [e4]
      simp [hi, show idx < j * sz + v.cells.size by omega]

theorem cLit_spec : ∀ (ps : List (Nat × Operand)) (j : Nat) (l : List Opnd), cLit j ps = some l → ps.map (·.1) = List.range' j ps.length ∧ l.length = ps.length ∧ ∀ (i : Nat) (p : Opnd), l[i]? = some p → ∃ q, ps[i]? = some q ∧ cO q.2 = some p
  | [], j, l, e => by
    injection e with e
    subst e
    exact ⟨rfl, rfl, fun i p hp => by simp at hp⟩
  | (i, x) :: ps, j, l, e => by
    simp only [cLit] at e
    split at e
    case isFalse => cases e
    rename_i hij
    subst hij
    simp only [Option.bind_eq_some_iff, Option.map_eq_some_iff] at e
    obtain ⟨y, hy, ys, hys, rfl⟩ := e
    obtain ⟨k1, k2, k3⟩ := cLit_spec ps (i + 1) ys hys
    refine ⟨by simp [k1, List.range'_succ], by simp [k2], fun n p hp => ?_⟩
    cases n with
    | zero => simp at hp; subst hp; exact ⟨_, rfl, hy⟩
    | succ n => exact k3 n p (by simpa using hp)

theorem all_cells {es : List AV} {sz : Nat} (h : es.all (fun y => decide (y.cells.length = sz) && y.cells.all AV.one) = true) : ∀ y ∈ es, y.cells.length = sz ∧ y.cells.all AV.one = true := by
  intro y hy
  have := List.all_eq_true.1 h y hy
  simp only [Bool.and_eq_true, decide_eq_true_eq] at this
  exact this

theorem fine_lit (M : Sim h φ w S) (F : FRel h φ w S f a) {t e : TypeId} {n sz : Nat} {ps : Array (Nat × Operand)} {l : List Opnd} {zs : List AV} (ho : o.op = .buildSlice t n ps) (hu : P.underlying t = some (.slice e)) (hsz : szOf P e = some sz)
    (hl : cLit 0 ps.toList = some l) (hz : zeroL P e = some zs) (hn : l.length = n ∧ n * sz ≤ 16777216) (he : evP f h (.lit sz l) = some (x, h')) : Fine P o a h φ w S x h' := by
  obtain ⟨ti, hti, htsz⟩ : ∃ ti, P.info? e = some ti ∧ ti.size = sz := by
    cases hi : P.info? e with
    | none => simp [szOf, hi] at hsz
    | some ti => exact ⟨ti, rfl, by simpa [szOf, hi] using hsz⟩
  obtain ⟨c1, c2, c3⟩ := cLit_spec _ _ _ hl
  have hzero : ∃ zv, ti.zero = some zv := by
    unfold zeroL at hz
    rw [hti] at hz
    simp only at hz
    split at hz
    · exact ⟨_, by assumption⟩
    · cases hz
  obtain ⟨zv, hzv⟩ := hzero
  cases l with
  | nil =>
    simp only [evP] at he
    injection he with he; injection he with h1 h2; subst h1 h2
    obtain rfl : n = 0 := by simpa using hn.1.symm
    have hps : ps.toList = [] := List.eq_nil_of_length_eq_zero (by simpa using c2.symm)
    obtain ⟨s1, s2⟩ := sim_ro M (.cells #[] e)
    refine ⟨_, _, _, _, .inl ?_, s1, s2, .esl _ (some ⟨w.heap.size, 0, none⟩)⟩
    simp [execOp, ho, Instr.buildSlice, run_underlying hu, Go.sizeOf, typeInfo, hti, Array.toList_map, hps, Instr.fill, newRow]
    congr 2
    exact Array.eq_empty_of_size_eq_zero (by simp)
  | cons p0 l0 =>
    generalize hL : p0 :: l0 = L at *
    have hev : evP f h (.lit sz L) = match roL (L.map (ev f)) with
      | some es => if 0 < sz ∧ es.all (fun y => decide (y.cells.length = sz) && y.cells.all AV.one) then some (.rsl es, h) else none
      | none => none := by rw [← hL]; rfl
    rw [hev] at he
    clear hev
    split at he
    case h_2 => cases he
    rename_i es hes
    split at he
    case isFalse => cases he
    rename_i hc
    obtain ⟨hz0, hall⟩ := hc
    injection he with he; injection he with h1 h2; subst h1 h2
    obtain ⟨r1, r2⟩ := roL_get hes
    have hall' := all_cells hall
    -- the parts, in the model
    let vs : List Value := ps.toList.map fun p => a.eval p.2
    have hvs : ∀ (i : Nat) (y : AV), es[i]? = some y → ∃ v, vs[i]? = some v ∧ Rel h φ w S false y v := by
      intro i y hy
      obtain ⟨x0, hx0, hro⟩ := r2 i y hy
      rw [List.getElem?_map] at hx0
      obtain ⟨p, hp, rfl⟩ := Option.map_eq_some_iff.1 hx0
      obtain ⟨q, hq, hcq⟩ := c3 i p hp
      exact ⟨a.eval q.2, by simp [vs, hq], ro_rel (rel_ev F hcq) y hro⟩
    have hlen : es.length = vs.length := by simp [vs, r1, c2]
    have hvn : vs.length = n := by have h1 := hn.1; simp only [vs, List.length_map]; omega
    have hsizes : ∀ v ∈ vs, v.cells.size = sz := by
      intro v hv
      obtain ⟨i, hi⟩ := List.getElem?_of_mem hv
      have hlt : i < es.length := by rw [hlen]; exact (List.getElem?_eq_some_iff.1 hi).1
      obtain ⟨v', hv', rv⟩ := hvs i _ (List.getElem?_eq_getElem hlt)
      rw [hi] at hv'
      injection hv' with hv'
      subst hv'
      obtain ⟨k1, _⟩ := cells_rel rv (hall' _ (List.getElem_mem hlt)).2
      rw [← k1]
      exact (hall' _ (List.getElem_mem hlt)).1
    have hparts : (ps.map fun p => (p.1, a.eval p.2)).toList = (vs.zipIdx 0).map fun p => (p.2, p.1) := by
      apply List.ext_getElem?
      intro i
      simp only [Array.toList_map, List.getElem?_map, List.getElem?_zipIdx, vs]
      cases hi : ps.toList[i]? with
      | none => simp [hi]
      | some p =>
        have := congrArg (fun l => l[i]?) c1
        simp only [List.getElem?_map, hi, Option.map_some] at this
        have hlt : i < ps.toList.length := (List.getElem?_eq_some_iff.1 hi).1
        rw [List.getElem?_range' (by simpa using hlt)] at this
        simp at this
        simp [hi, this]
    have hne : n * sz ≠ 0 := by
      have : 0 < n := by have := hn.1; rw [← hL] at this; simp at this; omega
      exact Nat.ne_of_gt (Nat.mul_pos this hz0)
    obtain ⟨out, f1, f2, f3, _⟩ := fill_lit sz hz0 (fun i => some (i * sz, sz)) (fun _ => rfl) vs 0 ((Array.range (n * sz)).map (zv.cells[· % zv.cells.size]!)) (by simp [hvn]) hsizes
    obtain ⟨s1, s2⟩ := sim_ro M (.cells out e)
    have hkey : ∀ (i j : Nat) (y z : AV), es[i]? = some y → y.cells[j]? = some z → j < sz ∧ ∃ u, out[i * sz + j]? = some u ∧ Rel h φ w S false z u ∧ z.one = true := by
      intro i j y z hy hz
      obtain ⟨v, hv, rv⟩ := hvs i y hy
      have hm := hall' y (List.mem_of_getElem? hy)
      obtain ⟨k1, k2, k3, k4⟩ := cells_rel rv hm.2
      have hj : j < sz := by rw [← hm.1]; exact (List.getElem?_eq_some_iff.1 hz).1
      have hlt : j < v.cells.size := by omega
      refine ⟨hj, v.cells[j], ?_, k4 j z _ hz (by simp [hlt]), k2 j z hz⟩
      have := f3 i j v hv hj
      rw [Nat.zero_add] at this
      rw [this]
      simp [hlt]
    refine ⟨.slice (some ⟨w.heap.size, 0, none⟩) es.length n, _, _, _, .inl ?_, s1, s2, ?_⟩
    · have hn2 : ¬ n * sz > 16777216 := by omega
      simp only [execOp, ho, Instr.buildSlice, Sem.run_bind, run_underlying hu, Go.sizeOf, typeInfo, run_program, Result.andThen_ok, hti, Sem.run_pure, htsz]
      rw [if_neg (by simpa using hn2)]
      simp only [hne, if_false, zeroValue, typeInfo, Sem.run_bind, run_program, Result.andThen_ok, hti, Sem.run_pure, hzv, hparts, f1, newRow, run_newObj, World.alloc_eq, hlen, hvn]
    · refine Rel.rsl true es (some ⟨w.heap.size, 0, none⟩) n sz (fun i j => (out[i * sz + j]?).getD undef) (by omega) hz0 (fun y hy => (hall' y hy).1) (fun i j y z hy hz => ?_) (fun i j y z hy hz => ?_)
      · obtain ⟨k1, u, k2, k3, k4⟩ := hkey i j y z hy hz
        refine ⟨_, rfl, k4, ?_, .inr rfl⟩
        rw [Addr.add_lit, Nat.zero_add, World.cell?_alloc_new, k2]
        rfl
      · obtain ⟨k1, u, k2, k3, k4⟩ := hkey i j y z hy hz
        rw [k2]
        exact k3.mono s2
end
end Go.Eng

/- The engine, part 7: plain operations: numbers, texts, addresses, maps, rows. -/
set_option linter.unusedVariables false
set_option linter.unusedSimpArgs false
namespace Go.Eng
section
variable {P : Program} {o : Oper} {a : Act} {h : List AO} {φ : Nat → Loc} {w : World} {S : Nat → Nat → Prop} {f : Fr} {x : AV} {h' : List AO}

theorem p0_some {y : Option AV} (e : P0 y h = some (x, h')) : y = some x ∧ h' = h := by
  unfold P0 at e
  rw [Option.map_eq_some_iff] at e
  obtain ⟨z, hz, e⟩ := e
  injection e with e1 e2
  exact ⟨by rw [hz, e1], e2.symm⟩

theorem fine_nilck (M : Sim h φ w S) (F : FRel h φ w S f a) {y : Operand} {p : Opnd} (ho : o.op = .nilCheck y) (e : cO y = some p) (he : evP f h (.nilck p) = some (x, h')) : Fine P o a h φ w S x h' := by
  have r := rel_ev F e
  simp only [evP] at he
  generalize hx : ev f p = X at r he
  generalize hv : a.eval y = v at r
  cases r <;> simp only at he <;> first | (cases he; done) | (injection he with he; injection he with h1 h2; subst h1 h2)
  · exact fine_pure M (by simp [execOp, ho, hv]) (.ptr _ _ (by assumption))
  · rename_i cs ad fv hc hr
    exact fine_pure M (v := .pointer (some ad)) (by simp [execOp, ho, hv]) (.rptr _ _ ad fv hc hr)
  · rename_i g fs cs us vs hl' hl hr' hr
    exact fine_pure M (by simp [execOp, ho, hv]) (.fn _ g fs cs us vs hl' hl hr' hr)
  · rename_i t x v hr
    exact fine_pure M (by simp [execOp, ho, hv]) (.iface _ t x v hr)

theorem run_binI {op : BinOp} {k : IntKind} {n m : Int} {y : AV} (e : binI op k n m = some y) (t : TypeId) : ∃ v, (binOp op t (.int k n) (.int k m)).run P w = .ok v w ∧ Rel h φ w S true y v := by
  have hi : ∀ q : Int, AV.int k q = y → ∀ r : Result Value, r = .ok (.int k q) w → ∃ v, r = .ok v w ∧ Rel h φ w S true y v := fun q hy r hr => ⟨_, hr, hy ▸ .int _ _ _⟩
  have hb : ∀ q : Bool, AV.bool q = y → ∀ r : Result Value, r = .ok (.bool q) w → ∃ v, r = .ok v w ∧ Rel h φ w S true y v := fun q hy r hr => ⟨_, hr, hy ▸ .bool _ _⟩
  cases op
  case quo =>
    simp only [binI] at e
    split at e
    · cases e
    · rename_i h0
      exact hi _ (Option.some.inj e) _ (by simp [binOp, Op.intDiv, h0])
  case rem =>
    simp only [binI] at e
    split at e
    · cases e
    · rename_i h0
      exact hi _ (Option.some.inj e) _ (by simp [binOp, Op.intDiv, h0])
  case shl => cases e
  case shr => cases e
  case add => exact hi _ (Option.some.inj e) _ (by simp [binOp, Op.intArith])
  case sub => exact hi _ (Option.some.inj e) _ (by simp [binOp, Op.intArith])
  case mul => exact hi _ (Option.some.inj e) _ (by simp [binOp, Op.intArith])
  case and => exact hi _ (Option.some.inj e) _ (by simp [binOp, Op.intBits])
  case or => exact hi _ (Option.some.inj e) _ (by simp [binOp, Op.intBits])
  case xor => exact hi _ (Option.some.inj e) _ (by simp [binOp, Op.intBits])
  case andNot => exact hi _ (Option.some.inj e) _ (by simp [binOp, Op.intBits])
  case eql => exact hb _ (Option.some.inj e) _ (by simp [binOp, Op.intCmp]; rfl)
  case neq => exact hb _ (Option.some.inj e) _ (by simp [binOp, Op.intCmp]; rfl)
  case lss => exact hb _ (Option.some.inj e) _ (by simp [binOp, Op.intCmp])
  case leq => exact hb _ (Option.some.inj e) _ (by simp [binOp, Op.intCmp])
  case gtr => exact hb _ (Option.some.inj e) _ (by simp [binOp, Op.intCmp])
  case geq => exact hb _ (Option.some.inj e) _ (by simp [binOp, Op.intCmp])
theorem run_shI {op : BinOp} {k k' : IntKind} {n m : Int} {y : AV} (e : shI op k n m = some y) (t : TypeId) : ∃ v, (binOp op t (.int k n) (.int k' m)).run P w = .ok v w ∧ Rel h φ w S true y v := by
  unfold shI at e
  split at e
  · cases e
  rename_i h0
  split at e
  · injection e with e; subst e
    exact ⟨_, by simp [binOp, Op.shift, h0], .int _ _ _⟩
  · injection e with e; subst e
    exact ⟨_, by simp [binOp, Op.shift, h0], .int _ _ _⟩
  · cases e
theorem toList_beq (a b : ByteArray) : (a.toList == b.toList) = decide (a = b) := by
  rw [ByteArray.toList_eq, ByteArray.toList_eq]
  by_cases e : a = b
  · subst e; simp
  · have : a.data.toList ≠ b.data.toList := fun h => e (by cases a; cases b; simp only [ByteArray.mk.injEq]; exact Array.toList_inj.1 h)
    rw [decide_eq_false e]; simpa using this
theorem run_binS {op : BinOp} {n m : ByteArray} {y : AV} (e : binS op n m = some y) (t : TypeId) : ∃ v, (binOp op t (.string n) (.string m)).run P w = .ok v w ∧ Rel h φ w S true y v := by
  have hb : ∀ q : Bool, AV.bool q = y → ∀ r : Result Value, r = .ok (.bool q) w → ∃ v, r = .ok v w ∧ Rel h φ w S true y v := fun q hy r hr => ⟨_, hr, hy ▸ .bool _ _⟩
  cases op
  case add =>
    simp only [binS] at e
    split at e
    · rename_i h0
      injection e with e; subst e
      refine ⟨.string (n ++ m), ?_, .str _ _⟩
      simp only [binOp, Op.stringOp]
      rw [if_neg (by simp only [show IntKind.i64.max = 9223372036854775807 from rfl]; omega)]
      rfl
    · cases e
  case eql => exact hb _ (Option.some.inj e) _ (by simp [binOp, Op.stringOp, toList_beq])
  case neq => exact hb _ (Option.some.inj e) _ (by simp [binOp, Op.stringOp, toList_beq])
  case lss => exact hb _ (Option.some.inj e) _ (by simp [binOp, Op.stringOp, toList_beq])
  case leq => exact hb _ (Option.some.inj e) _ (by simp [binOp, Op.stringOp, toList_beq])
  case gtr => exact hb _ (Option.some.inj e) _ (by simp [binOp, Op.stringOp, toList_beq])
  case geq => exact hb _ (Option.some.inj e) _ (by simp [binOp, Op.stringOp, toList_beq])
  all_goals cases e

/-! ### equality -/
theorem eqGuard_plain {op : BinOp} {t : TypeId} {x y : Operand} {u v : Value} (h1 : ∀ p q, u = .agg p → v = .agg q → False) (h2 : u = .nilIface → v = .nilIface → False) (w : World) :
    (eqGuard op t x y u v).run P w = .ok () w := by
  cases u <;> cases v <;> first | exact (h1 _ _ rfl rfl).elim | exact (h2 rfl rfl).elim | (cases op <;> rfl)

theorem rel_int_inv {m : Bool} {k : IntKind} {n : Int} {v : Value} (r : Rel h φ w S m (.int k n) v) : v = .int k n := by cases r; rfl
theorem rel_bool_inv {m : Bool} {b : Bool} {v : Value} (r : Rel h φ w S m (.bool b) v) : v = .bool b := by cases r; rfl
theorem rel_str_inv {m : Bool} {b : ByteArray} {v : Value} (r : Rel h φ w S m (.str b) v) : v = .string b := by cases r; rfl

def KindIs (P : Program) (t : TypeId) : Nat → Prop
  | 0 => ∃ k, P.underlying t = some (.int k)
  | 1 => P.underlying t = some .string
  | 2 => P.underlying t = some .bool
  | _ => False
theorem cellEq_run {P : Program} {t : TypeId} {k : Nat} (ht : KindIs P t k) {x y : AV} {b : Bool} (e : cellEq k x y = some b) {u v : Value} {m : Bool}
    (r1 : Rel h φ w S m x u) (r2 : Rel h φ w S m y v) (d : Nat) (w' : World) : (Op.equalIn (d + 1) t u v).run P w' = .ok b w' := by
  unfold cellEq at e
  split at e
  · split at e
    case isFalse => cases e
    rename_i hk
    subst hk
    injection e with e
    subst e
    obtain rfl := rel_int_inv r1
    obtain rfl := rel_int_inv r2
    obtain ⟨k', ht⟩ := ht
    rw [run_equalIn_int w' d t _ k' _ _ ht]; rfl
  · injection e with e
    subst e
    obtain rfl := rel_str_inv r1
    obtain rfl := rel_str_inv r2
    rw [run_equalIn_string w' d t _ _ ht, toList_beq]
  · injection e with e
    subst e
    rename_i a b
    obtain rfl := rel_bool_inv r1
    obtain rfl := rel_bool_inv r2
    rw [run_equalIn_bool' w' d t _ _ ht]
    cases a <;> cases b <;> rfl
  · cases e
theorem part_plain {P : Program} {t : TypeId} {k : Nat} (ht : KindIs P t k) {vs : Array Value} {off : Nat} {u : Value} (hu : vs[off]? = some u) (w' : World) : (part t vs off).run P w' = .ok u w' := by
  unfold KindIs at ht
  split at ht
  · obtain ⟨k', ht⟩ := ht
    simp [part, isAgg, run_underlying ht, hu]
  · simp [part, isAgg, run_underlying ht, hu]
  · simp [part, isAgg, run_underlying ht, hu]
  · exact ht.elim
theorem cellsEq_run {P : Program} (d : Nat) {xs ys : List AV} {us vs : Array Value} {m : Bool} (l1 : xs.length = us.size) (l2 : ys.length = vs.size)
    (r1 : ∀ (j : Nat) (x : AV) (v : Value), xs[j]? = some x → us[j]? = some v → Rel h φ w S m x v) (r2 : ∀ (j : Nat) (x : AV) (v : Value), ys[j]? = some x → vs[j]? = some v → Rel h φ w S m x v) :
    ∀ (fs : List Field) (l : List (Nat × Nat)) (b : Bool), plainFields P fs = some l → cellsEq xs ys l = some b → ∀ w', (Op.eqFields (d + 1) us vs fs).run P w' = .ok b w'
  | [], l, b, hl, he, w' => by
    injection hl with hl
    subst hl
    injection he with he
    subst he
    rfl
  | f :: fs, l, b, hl, he, w' => by
    simp only [plainFields] at hl
    split at hl
    · cases hl
    rename_i hname
    have key : ∃ k l', KindIs P f.type k ∧ plainFields P fs = some l' ∧ l = (f.offset, k) :: l' := by
      split at hl
      · rename_i k hk; obtain ⟨l', h1, h2⟩ := Option.map_eq_some_iff.1 hl; exact ⟨0, l', ⟨k, hk⟩, h1, h2.symm⟩
      · rename_i hk; obtain ⟨l', h1, h2⟩ := Option.map_eq_some_iff.1 hl; exact ⟨1, l', hk, h1, h2.symm⟩
      · rename_i hk; obtain ⟨l', h1, h2⟩ := Option.map_eq_some_iff.1 hl; exact ⟨2, l', hk, h1, h2.symm⟩
      · cases hl
    obtain ⟨k, l', hk, hl', rfl⟩ := key
    simp only [cellsEq] at he
    split at he
    case h_2 => cases he
    rename_i x y hx hy
    obtain ⟨b0, e1, e2⟩ := Option.bind_eq_some_iff.1 he
    have hlx : f.offset < us.size := by rw [← l1]; exact (List.getElem?_eq_some_iff.1 hx).1
    have hly : f.offset < vs.size := by rw [← l2]; exact (List.getElem?_eq_some_iff.1 hy).1
    have hu : us[f.offset]? = some us[f.offset] := by simp [hlx]
    have hv : vs[f.offset]? = some vs[f.offset] := by simp [hly]
    have hc := cellEq_run (P := P) hk e1 (r1 _ x _ hx hu) (r2 _ y _ hy hv) d w'
    simp only [Op.eqFields, ne_eq, hname, not_false_eq_true, if_true, Sem.run_bind, part_plain hk hu, part_plain hk hv, Result.andThen_ok, hc]
    cases b0 with
    | true =>
      simp only [if_true] at e2
      simpa using cellsEq_run d l1 l2 r1 r2 fs l' b hl' e2 w'
    | false =>
      simp at e2
      subst e2
      simp

def EqSays (P : Program) (t : TypeId) (p q : Operand) : EqK → Prop
  | .no => True
  | .bool => P.underlying t = some .bool
  | .ptr => ∃ q, P.underlying t = some (.pointer q)
  | .fnc => ∃ q r s, P.underlying t = some (.func q r s)
  | .ifc => (∃ q, P.underlying t = some (.interface q)) ∧ (isC p || isC q) = true
  | .mp => ∃ q r, P.underlying t = some (.map q r)
  | .strct l => ∃ fs, P.underlying t = some (.struct fs) ∧ plainFields P fs.toList = some l ∧ P.stoodInHeld t = false ∧ P.eqGuardType P.depth t = false
theorem cEq_inv {t : TypeId} {p q : Operand} {k : EqK} (e : cEq P t p q = k) : EqSays P t p q k := by
  unfold cEq at e
  split at e
  · subst e; assumption
  · subst e; exact ⟨_, by assumption⟩
  · split at e
    · subst e; exact ⟨⟨_, by assumption⟩, by assumption⟩
    · subst e; trivial
  · subst e; exact ⟨_, _, _, by assumption⟩
  · subst e; exact ⟨_, _, by assumption⟩
  · split at e
    · split at e
      · subst e; trivial
      · rename_i hh; subst e; exact ⟨_, by assumption, by assumption, by simpa using hh⟩
    · subst e; trivial
  · subst e; trivial

theorem eqGuard_nilif {op : BinOp} {t : TypeId} {p q : Operand} (hc : (isC p || isC q) = true) (w : World) : (eqGuard op t p q .nilIface .nilIface).run P w = .ok () w := by
  cases p <;> cases q <;> first | (simp [isC] at hc; done) | (cases op <;> rfl)

theorem eqIn_nil {t : TypeId} {p q : Operand} {K : EqK} {x y : AV} {b : Bool} {u v : Value} (hE : EqSays P t p q K) (e : nilEq K x y = some b) (r1 : Rel h φ w S true x u) (r2 : Rel h φ w S true y v) (d : Nat) (w' : World) :
    (Op.equalIn (d + 1) t u v).run P w' = .ok b w' := by
  unfold nilEq at e
  split at e <;> first | (cases e; done) | skip
  all_goals (injection e with e; subst e; cases r1; cases r2)
  all_goals first
    | (obtain ⟨el, hu⟩ := hE; simp [Op.equalIn, run_underlying hu]; done)
    | (obtain ⟨el, el2, hu⟩ := hE; simp [Op.equalIn, run_underlying hu]; done)
    | (obtain ⟨el, el2, el3, hu⟩ := hE; simp [Op.equalIn, run_underlying hu]; done)
    | (obtain ⟨⟨el, hu⟩, hc⟩ := hE; simp [Op.equalIn, run_underlying hu]; done)

/-- What an (in)equality comes to, kind by kind. -/
theorem run_eqA {t : TypeId} {p q : Operand} {x y : AV} {b : Bool} {u v : Value} (e : eqA (cEq P t p q) x y = some b) (r1 : Rel h φ w S true x u) (r2 : Rel h φ w S true y v) :
    (Op.equal t u v).run P w = .ok b w ∧ (∀ op, (eqGuard op t p q u v).run P w = .ok () w) ∧ binOp .eql t u v = (do pure (.bool (← Op.equal t u v))) ∧ binOp .neq t u v = (do pure (.bool (!(← Op.equal t u v)))) := by
  have hE := cEq_inv (P := P) (t := t) (p := p) (q := q) rfl
  generalize hk : cEq P t p q = K at e hE
  cases K with
  | no => simp [eqA, nilEq] at e
  | bool =>
    cases x <;> cases y <;> simp only [eqA, nilEq] at e <;> first | (cases e; done) | skip
    injection e with e; subst e
    rename_i a b
    obtain rfl := rel_bool_inv r1
    obtain rfl := rel_bool_inv r2
    refine ⟨?_, fun op => eqGuard_plain (by intro p q h; cases h) (by intro h; cases h) w, rfl, rfl⟩
    have := run_equalIn_bool' (P := P) w 9999 t a b hE
    unfold Op.equal Op.maxDepth
    rw [this]
    cases a <;> cases b <;> rfl
  | strct l =>
    obtain ⟨fs, hu, hl, k1, k2⟩ := hE
    cases x <;> cases y <;> simp only [eqA, nilEq] at e <;> first | (cases e; done) | skip
    cases r1 with
    | agg _ _ us l1 _ q1 =>
      cases r2 with
      | agg _ _ vs l2 _ q2 =>
        have hf : P.fieldsOf t = fs := by simp [Program.fieldsOf, hu]
        refine ⟨?_, fun op => run_eqGuard_agg w op t p q us vs k2, rfl, rfl⟩
        unfold Op.equal Op.maxDepth
        rw [run_equalIn_struct w 9999 t us vs (by rw [hf]; exact hu) k1, hf]
        exact cellsEq_run 9998 l1 l2 q1 q2 _ _ _ hl e w
  | ptr =>
    refine ⟨eqIn_nil hE (by cases x <;> cases y <;> simpa [eqA] using e) r1 r2 9999 w, fun op => ?_, ?_, ?_⟩
    all_goals (cases x <;> cases y <;> simp only [eqA, nilEq] at e <;> first | (cases e; done) | (cases r1; cases r2; first | rfl | (exact eqGuard_plain (by intro p q h; cases h) (by intro h; cases h) w)))
  | fnc =>
    refine ⟨eqIn_nil hE (by cases x <;> cases y <;> simpa [eqA] using e) r1 r2 9999 w, fun op => ?_, ?_, ?_⟩
    all_goals (cases x <;> cases y <;> simp only [eqA, nilEq] at e <;> first | (cases e; done) | (cases r1; cases r2; first | rfl | (exact eqGuard_plain (by intro p q h; cases h) (by intro h; cases h) w)))
  | mp =>
    refine ⟨eqIn_nil hE (by cases x <;> cases y <;> simpa [eqA] using e) r1 r2 9999 w, fun op => ?_, ?_, ?_⟩
    all_goals (cases x <;> cases y <;> simp only [eqA, nilEq] at e <;> first | (cases e; done) | (cases r1; cases r2; first | rfl | (exact eqGuard_plain (by intro p q h; cases h) (by intro h; cases h) w)))
  | ifc =>
    refine ⟨eqIn_nil hE (by cases x <;> cases y <;> simpa [eqA] using e) r1 r2 9999 w, fun op => ?_, ?_, ?_⟩
    all_goals (cases x <;> cases y <;> simp only [eqA, nilEq] at e <;> first | (cases e; done) | (cases r1; cases r2; first | rfl | exact eqGuard_nilif hE.2 w | (exact eqGuard_plain (by intro p q h; cases h) (by intro h h'; first | (cases h; done) | (cases h'; done)) w)))

theorem fine_bin (M : Sim h φ w S) (F : FRel h φ w S f a) {op : BinOp} {t t' : TypeId} {p q : Operand} {p' q' : Opnd} (ho : o.op = .binOp op t p q t') (e1 : cO p = some p') (e2 : cO q = some q') (he : binA op (cEq P t p q) (ev f p') (ev f q') = some x) : Fine P o a h φ w S x h := by
  have r1 := rel_ev F e1
  have r2 := rel_ev F e2
  have hplain : ∀ v, (∀ P' Q', a.eval p = .agg P' → a.eval q = .agg Q' → False) → (a.eval p = .nilIface → a.eval q = .nilIface → False) → (binOp op t (a.eval p) (a.eval q)).run P w = .ok v w → (execOp a.eval o).run P w = .ok (.value v) w := by
    intro v h1 h2 hr
    simp [execOp, ho, eqGuard_plain h1 h2 w, hr]
  unfold binA at he
  split at he
  · rename_i k n k' m hx hy
    rw [hx] at r1; rw [hy] at r2
    have u1 := rel_int_inv r1
    have u2 := rel_int_inv r2
    have fin : ∀ v, (binOp op t (.int k n) (.int k' m)).run P w = .ok v w → Rel h φ w S true x v → Fine P o a h φ w S x h := fun v hr r => fine_pure M (hplain v (by rw [u1]; intro _ _ h; cases h) (by rw [u1]; intro h; cases h) (by rw [u1, u2]; exact hr)) r
    split at he
    · obtain ⟨v, hr, r⟩ := run_shI (h := h) (φ := φ) (S := S) (P := P) (w := w) (k' := k') he t; exact fin v hr r
    · obtain ⟨v, hr, r⟩ := run_shI (h := h) (φ := φ) (S := S) (P := P) (w := w) (k' := k') he t; exact fin v hr r
    · split at he
      case isFalse => cases he
      rename_i hk
      subst hk
      obtain ⟨v, hr, r⟩ := run_binI (h := h) (φ := φ) (S := S) (P := P) (w := w) he t
      exact fin v hr r
  · rename_i n m hx hy
    rw [hx] at r1; rw [hy] at r2
    have u1 := rel_str_inv r1
    have u2 := rel_str_inv r2
    obtain ⟨v, hr, r⟩ := run_binS (h := h) (φ := φ) (S := S) (P := P) (w := w) he t
    exact fine_pure M (hplain v (by rw [u1]; intro _ _ h; cases h) (by rw [u1]; intro h; cases h) (by rw [u1, u2]; exact hr)) r
  · split at he
    · obtain ⟨b, hb, rfl⟩ := Option.map_eq_some_iff.1 he
      obtain ⟨k1, k2, k3, k4⟩ := run_eqA hb r1 r2
      exact fine_pure M (v := .bool b) (by simp [execOp, ho, k2, k3, k1]) (.bool _ _)
    · obtain ⟨b, hb, rfl⟩ := Option.map_eq_some_iff.1 he
      obtain ⟨k1, k2, k3, k4⟩ := run_eqA hb r1 r2
      exact fine_pure M (v := .bool !b) (by simp [execOp, ho, k2, k4, k1]) (.bool _ _)
    · cases he
end
end Go.Eng

/- The engine, part 8: plain operations: addresses, maps, rows. -/
set_option linter.unusedVariables false
set_option linter.unusedSimpArgs false
namespace Go.Eng
section
variable {P : Program} {o : Oper} {a : Act} {h : List AO} {φ : Nat → Loc} {w : World} {S : Nat → Nat → Prop} {f : Fr} {x : AV} {h' : List AO}

theorem fine_un (M : Sim h φ w S) (F : FRel h φ w S f a) {op : UnOp} {t : TypeId} {y : Operand} {p : Opnd} (ho : o.op = .unOp op t y) (e : cO y = some p) (he : unA op (ev f p) = some x) : Fine P o a h φ w S x h := by
  have r := rel_ev F e
  unfold unA at he
  split at he
  · rename_i hx
    rw [hx] at r
    have u := rel_bool_inv r
    injection he with he; subst he
    exact fine_pure M (by simp [execOp, ho, u, Op.unary]) (.bool _ _)
  · rename_i hx
    rw [hx] at r
    have u := rel_int_inv r
    injection he with he; subst he
    exact fine_pure M (by simp [execOp, ho, u, Op.unary, Op.intArith]) (.int _ _ _)
  · cases he

/-- A part of a struct's value. -/
theorem run_part {t : TypeId} {k : Option Nat} (ek : aggK P t = some k) {cs : List AV} {vs : Array Value} {off : Nat} (hl : cs.length = vs.size) (h1 : ∀ (j : Nat) (y : AV), cs[j]? = some y → y.one = true)
    (hr : ∀ (j : Nat) (y : AV) (v : Value), cs[j]? = some y → vs[j]? = some v → Rel h φ w S true y v) (ho : off ≤ cs.length) (he : loadA k (cs.drop off) = some x) :
    ∃ v, (part t vs off).run P w = .ok v w ∧ Rel h φ w S true x v := by
  obtain ⟨i, hi, hagg, hsz⟩ := run_isAgg ek w
  cases k with
  | none =>
    simp only [loadA, List.getElem?_drop, Nat.add_zero] at he
    have hlt : off < vs.size := by rw [← hl]; exact (List.getElem?_eq_some_iff.1 he).1
    exact ⟨vs[off], by simp [part, hagg, hlt], hr off x _ he (by simp [hlt])⟩
  | some n =>
    obtain rfl := hsz n rfl
    simp only [loadA] at he
    split at he
    case isFalse => cases he
    rename_i hn
    injection he with he
    subst he
    simp only [List.length_drop] at hn
    refine ⟨.agg (vs.extract off (off + i.size)), by simp [part, hagg, Go.sizeOf, typeInfo, hi], .agg true _ _ (by simp; omega) (fun j y hy => ?_) (fun j y v hy hv => ?_)⟩
    · rw [List.getElem?_take] at hy
      split at hy
      · rw [List.getElem?_drop] at hy; exact h1 _ y hy
      · cases hy
    · rw [List.getElem?_take] at hy
      split at hy
      case isFalse => cases hy
      rename_i hj
      rw [List.getElem?_drop] at hy
      rw [Array.getElem?_extract] at hv
      split at hv
      · exact hr _ y v hy hv
      · cases hv

theorem fine_fld (M : Sim h φ w S) (F : FRel h φ w S f a) {t : TypeId} {y : Operand} {p : Opnd} {i : Nat} {fs : Array Field} {fl : Field} {k : Option Nat} (ho : o.op = .field t y i) (hu : P.underlying t = some (.struct fs)) (hf : fs[i]? = some fl)
    (ek : aggK P fl.type = some k) (e : cO y = some p) (he : evP f h (.fld fl.offset k p) = some (x, h')) : Fine P o a h φ w S x h' := by
  have r := rel_ev F e
  simp only [evP] at he
  split at he
  case h_2 => cases he
  rename_i cs hx
  rw [hx] at r
  split at he
  case isFalse => cases he
  rename_i hoff
  have hp0 := p0_some he; clear he; obtain ⟨he, rfl⟩ := hp0
  generalize hv : a.eval y = v at r
  cases r with
  | agg _ _ vs l h1 q =>
    obtain ⟨u, k1, k2⟩ := run_part ek l h1 q hoff he
    exact fine_pure M (by simp [execOp, ho, Instr.field, run_underlying hu, hf, hv, asAgg, k1]) k2

theorem fine_fa (M : Sim h φ w S) (F : FRel h φ w S f a) {t : TypeId} {y : Operand} {p : Opnd} {i n : Nat} {fs : Array Field} {fl : Field} (ho : o.op = .fieldAddr t y i) (hu : P.underlying t = some (.struct fs)) (hf : fs[i]? = some fl)
    (es : szOf P fl.type = some (n + 1)) (e : cO y = some p) (he : evP f h (.fa fl.offset p) = some (x, h')) : Fine P o a h φ w S x h' := by
  have r := rel_ev F e
  have hi : ∃ ti, P.info? fl.type = some ti ∧ ti.size = n + 1 := by
    cases hi : P.info? fl.type with
    | none => simp [szOf, hi] at es
    | some ti => exact ⟨ti, rfl, by simpa [szOf, hi] using es⟩
  obtain ⟨ti, hti, hsz⟩ := hi
  have hrun : ∀ ad, a.eval y = .pointer (some ad) → (execOp a.eval o).run P w = .ok (.value (.pointer (some (ad.add fl.offset)))) w := by
    intro ad hv
    simp [execOp, ho, Instr.fieldAt, run_underlying hu, hf, hv, Instr.sureAddr, fieldPlace, Go.sizeOf, typeInfo, hti, hsz]
  simp only [evP] at he
  split at he
  · rename_i j off hx
    rw [hx] at r
    injection he with he; injection he with h1 h2; subst h1 h2
    generalize hv : a.eval y = v at r
    cases r with
    | ptr _ _ hi =>
      refine fine_pure M (hrun _ hv) ?_
      rw [Addr.add_lit]
      exact .ptr _ _ hi
  · rename_i cs hx
    rw [hx] at r
    injection he with he; injection he with h1 h2; subst h1 h2
    generalize hv : a.eval y = v at r
    cases r with
    | rptr _ _ ad g hc hr =>
      refine fine_pure M (hrun _ hv) (.rptr _ _ _ (fun j => g (fl.offset + j)) (fun j y hy => ?_) (fun j y hy => ?_))
      · rw [List.getElem?_drop] at hy
        obtain ⟨k1, k2, k3⟩ := hc _ y hy
        rw [add_add, add_block, add_off]
        exact ⟨k1, k2, by rw [Nat.add_assoc]; exact k3⟩
      · rw [List.getElem?_drop] at hy
        exact hr _ y hy
  · cases he

theorem szOf_inv {t : TypeId} {n : Nat} (es : szOf P t = some n) : ∃ ti, P.info? t = some ti ∧ ti.size = n := by
  cases hi : P.info? t with
  | none => simp [szOf, hi] at es
  | some ti => exact ⟨ti, rfl, by simpa [szOf, hi] using es⟩

/-- A slice that can be read. -/
theorem rel_elems {x : AV} {v : Value} {es : List AV} (e : elems x = some es) (r : Rel h φ w S true x v) : ∃ A c, v = .slice A es.length c ∧ es.length ≤ c ∧ Rel h φ w S false (.rsl es) v := by
  cases r <;> simp only [elems] at e <;> first | (cases e; done) | (injection e with e; subst e)
  · exact ⟨_, 0, rfl, Nat.le_refl _, rel_rsl_nil _ _⟩
  · rename_i A c sz g hl hz hs hc hr
    exact ⟨A, c, rfl, hl, .rsl _ _ A c sz g hl hz hs hc hr⟩
  · rename_i t ht hr hk
    cases hr with
    | rsl _ _ A c sz g hl hz hs hc hr => exact ⟨A, c, rfl, hl, .rsl _ _ A c sz g hl hz hs hc hr⟩

theorem fine_ia (M : Sim h φ w S) (F : FRel h φ w S f a) {t e : TypeId} {y z : Operand} {p q : Opnd} {sz : Nat} (ho : o.op = .indexAddr t y z) (hu : P.underlying t = some (.slice e)) (es : szOf P e = some sz) (e1 : cO y = some p) (e2 : cO z = some q)
    (he : evP f h (.ia sz p q) = some (x, h')) : Fine P o a h φ w S x h' := by
  have r := rel_ev F e1
  have r2 := rel_ev F e2
  obtain ⟨ti, hti, hsz⟩ := szOf_inv es
  simp only [evP] at he
  split at he
  case h_2 => cases he
  rename_i k n hq
  rw [hq] at r2
  have u2 := rel_int_inv r2
  have hp0 := p0_some he; clear he; obtain ⟨he, rfl⟩ := hp0
  unfold iaA_ at he
  split at he
  · cases he
  rename_i hn
  have hrun : ∀ ad len cap, a.eval y = .slice (some ad) len cap → n.toNat < len → (execOp a.eval o).run P w = .ok (.value (.pointer (some (ad.add (n.toNat * sz))))) w := by
    intro ad len cap hv hlt
    have h0 : 0 ≤ n ∧ n < (len : Int) := by omega
    simp [execOp, ho, Instr.indexAt, u2, asIntOf, run_underlying hu, hv, h0, Go.sizeOf, typeInfo, hti, hsz]
  split at he
  · rename_i b off len cap hx
    rw [hx] at r
    split at he
    case isFalse => cases he
    rename_i hlt
    injection he with he; subst he
    generalize hv : a.eval y = v at r
    cases r with
    | msl _ _ _ _ _ hi _ =>
      refine fine_pure M (hrun _ _ _ hv hlt) ?_
      rw [Addr.add_lit]
      exact .ptr _ _ hi
  · split at he
    case h_2 => cases he
    rename_i es' hes
    obtain ⟨A, c, hv, hl, rr⟩ := rel_elems hes r
    split at he
    case h_2 => cases he
    rename_i ye hy
    split at he
    case isFalse => cases he
    rename_i hcond
    injection he with he; subst he
    rw [hv] at rr
    have hlt : n.toNat < es'.length := (List.getElem?_eq_some_iff.1 hy).1
    cases rr with
    | rsl _ _ _ _ sz' g _ hz hs hc hr =>
      have hsz' : sz' = sz := by rw [← hs ye (List.mem_of_getElem? hy)]; exact hcond.1
      subst hsz'
      have h0 : ∃ y0, ye.cells[0]? = some y0 := ⟨_, List.getElem?_eq_getElem (by omega)⟩
      obtain ⟨y0, hy0⟩ := h0
      obtain ⟨ad, rfl, _⟩ := hc _ 0 ye y0 hy hy0
      refine fine_pure M (hrun _ _ _ hv hlt) (.rptr _ _ _ (fun j => g n.toNat j) (fun j z hz' => ?_) (fun j z hz' => hr _ j ye z hy hz'))
      obtain ⟨ad', e', k1, k2, k3⟩ := hc _ j ye z hy hz'
      injection e' with e'
      subst e'
      rw [add_add, add_block, add_off]
      exact ⟨k1, k2, by rw [Nat.add_assoc]; exact k3⟩
end
end Go.Eng

/- The engine, part 9: plain operations: texts, maps, interfaces, functions, tuples. -/
set_option linter.unusedVariables false
set_option linter.unusedSimpArgs false
namespace Go.Eng
section
variable {P : Program} {o : Oper} {a : Act} {h : List AO} {φ : Nat → Loc} {w : World} {S : Nat → Nat → Prop} {f : Fr} {x : AV} {h' : List AO}

theorem fine_iaA (M : Sim h φ w S) (F : FRel h φ w S f a) {t e : TypeId} {y z : Operand} {p q : Opnd} {sz len : Nat} (ho : o.op = .indexAddr t y z) (hu : P.underlying t = some (.array len e)) (es : szOf P e = some sz) (e1 : cO y = some p) (e2 : cO z = some q)
    (he : evP f h (.iaA len sz p q) = some (x, h')) : Fine P o a h φ w S x h' := by
  have r := rel_ev F e1
  have r2 := rel_ev F e2
  obtain ⟨ti, hti, hsz⟩ := szOf_inv es
  have hrun : ∀ ad k (n : Int), a.eval y = .pointer (some ad) → a.eval z = .int k n → 0 ≤ n ∧ n < len → (execOp a.eval o).run P w = .ok (.value (.pointer (some (ad.add (n.toNat * sz))))) w := by
    intro ad k n hv hz h0
    simp [execOp, ho, Instr.indexAt, hz, asIntOf, run_underlying hu, hv, Instr.sureAddr, h0, Go.sizeOf, typeInfo, hti, hsz]
  simp only [evP] at he
  split at he
  · rename_i b off k n hx hq
    rw [hx] at r; rw [hq] at r2
    have u2 := rel_int_inv r2
    split at he
    case isFalse => cases he
    rename_i h0
    injection he with he; injection he with h1 h2; subst h1 h2
    generalize hv : a.eval y = v at r
    cases r with
    | ptr _ _ hi =>
      refine fine_pure M (hrun _ _ _ hv u2 h0) ?_
      rw [Addr.add_lit]
      exact .ptr _ _ hi
  · rename_i cs k n hx hq
    rw [hx] at r; rw [hq] at r2
    have u2 := rel_int_inv r2
    split at he
    case isFalse => cases he
    rename_i h0
    injection he with he; injection he with h1 h2; subst h1 h2
    generalize hv : a.eval y = v at r
    cases r with
    | rptr _ _ ad g hc hr =>
      refine fine_pure M (hrun _ _ _ hv u2 h0) (.rptr _ _ _ (fun j => g (n.toNat * sz + j)) (fun j y hy => ?_) (fun j y hy => ?_))
      · rw [List.getElem?_drop] at hy
        obtain ⟨k1, k2, k3⟩ := hc _ y hy
        rw [add_add, add_block, add_off]
        exact ⟨k1, k2, by rw [Nat.add_assoc]; exact k3⟩
      · rw [List.getElem?_drop] at hy
        exact hr _ y hy
  · cases he

theorem fine_ixS (M : Sim h φ w S) (F : FRel h φ w S f a) {t : TypeId} {y z : Operand} {p q : Opnd} (ho : o.op = .index t y z) (hu : P.underlying t = some .string) (e1 : cO y = some p) (e2 : cO z = some q)
    (he : evP f h (.ixS p q) = some (x, h')) : Fine P o a h φ w S x h' := by
  have r := rel_ev F e1
  have r2 := rel_ev F e2
  simp only [evP] at he
  split at he
  case h_2 => cases he
  rename_i s k n hx hq
  rw [hx] at r; rw [hq] at r2
  have u1 := rel_str_inv r
  have u2 := rel_int_inv r2
  split at he
  case isFalse => cases he
  rename_i h0
  obtain ⟨b, hb, he⟩ := Option.map_eq_some_iff.1 he
  injection he with h1 h2; subst h1 h2
  have hlt : n.toNat < s.size := by
    have := (List.getElem?_eq_some_iff.1 hb).1
    rw [Array.length_toList] at this
    exact this
  have hb' : s[n.toNat]? = some b := by
    rw [getElem?_pos s n.toNat hlt]
    have := (List.getElem?_eq_some_iff.1 hb).2
    rw [← this]
    simp [ByteArray.getElem_eq_getElem_data]
  exact fine_pure M (by simp [execOp, ho, Instr.index, u2, asIntOf, run_underlying hu, u1, h0, hb']) (.int _ _ _)

theorem fine_ixA (M : Sim h φ w S) (F : FRel h φ w S f a) {t e : TypeId} {len : Nat} {y z : Operand} {p q : Opnd} (ho : o.op = .index t y z) (hu : P.underlying t = some (.array len e)) (ek : aggK P e = some none) (es : szOf P e = some 1) (e1 : cO y = some p) (e2 : cO z = some q)
    (he : evP f h (.ixA len p q) = some (x, h')) : Fine P o a h φ w S x h' := by
  have r := rel_ev F e1
  have r2 := rel_ev F e2
  obtain ⟨ti, hti, hsz⟩ := szOf_inv es
  simp only [evP] at he
  split at he
  case h_2 => cases he
  rename_i cs k n hx hq
  rw [hx] at r; rw [hq] at r2
  have u2 := rel_int_inv r2
  split at he
  case isFalse => cases he
  rename_i h0
  obtain ⟨b, hb, he⟩ := Option.map_eq_some_iff.1 he
  injection he with h1 h2; subst h1 h2
  generalize hv : a.eval y = v at r
  cases r with
  | agg _ _ vs l h1 g =>
    have hlt : n.toNat < cs.length := (List.getElem?_eq_some_iff.1 hb).1
    obtain ⟨u, k1, k2⟩ := run_part (P := P) (w := w) (off := n.toNat) ek l h1 g (by omega) (show loadA none (cs.drop n.toNat) = some b by simp [loadA, hb])
    exact fine_pure M (by simp [execOp, ho, Instr.index, u2, asIntOf, run_underlying hu, hv, h0, Go.sizeOf, typeInfo, hti, hsz, k1]) k2

theorem fine_mkif (M : Sim h φ w S) (F : FRel h φ w S f a) {t : TypeId} {y : Operand} {p : Opnd} {d : TypeDesc} (ho : o.op = .makeInterface t y) (hu : P.underlying t = some d) (hd : ∀ q, d ≠ .interface q) (e : cO y = some p) : Fine P o a h φ w S (.iface t (ev f p)) h := by
  refine fine_pure M (v := .iface t (a.eval y)) ?_ (.iface _ _ _ _ (rel_ev F e))
  simp only [execOp, ho, Instr.makeInterface, Sem.run_bind, run_underlying hu, Result.andThen_ok]
  cases d <;> first | rfl | exact absurd rfl (hd _)

theorem rel_evL (F : FRel h φ w S f a) : ∀ {ys : List Operand} {ps : List Opnd}, cOL ys = some ps → ps.length = ys.length ∧ ∀ (j : Nat) (x : AV) (v : Value), (ps.map (ev f))[j]? = some x → (ys.map a.eval)[j]? = some v → Rel h φ w S true x v
  | [], ps, e => by
    injection e with e
    subst e
    exact ⟨rfl, fun j x v hx => by simp at hx⟩
  | y :: ys, ps, e => by
    simp only [cOL, Option.bind_eq_some_iff, Option.map_eq_some_iff] at e
    obtain ⟨p, hp, ps', hps, rfl⟩ := e
    obtain ⟨k1, k2⟩ := rel_evL F hps
    refine ⟨by simp [k1], fun j x v hx hv => ?_⟩
    cases j with
    | zero => simp at hx hv; subst hx hv; exact rel_ev F hp
    | succ j => exact k2 j x v (by simpa using hx) (by simpa using hv)

theorem fine_mkfn (M : Sim h φ w S) (F : FRel h φ w S f a) {g : FuncId} {fs cs : Array Operand} {ps qs : List Opnd} (ho : o.op = .makeFunc (.func g) fs cs) (e1 : cOL fs.toList = some ps) (e2 : cOL cs.toList = some qs) : Fine P o a h φ w S (.fn g (ps.map (ev f)) (qs.map (ev f))) h := by
  obtain ⟨k1, k2⟩ := rel_evL F e1
  obtain ⟨k3, k4⟩ := rel_evL F e2
  refine fine_pure M (v := .func (.func g) (fs.map a.eval) (cs.map a.eval)) (by simp [execOp, ho, Instr.makeFunc]) (.fn _ _ _ _ _ _ (by simpa using k1) (by simpa using k3) (fun j x v hx hv => k2 j x v hx (by simpa using hv)) (fun j x v hx hv => k4 j x v hx (by simpa using hv)))

theorem fine_ext (M : Sim h φ w S) (F : FRel h φ w S f a) {y : Operand} {p : Opnd} {i : Nat} (ho : o.op = .extract y i) (e : cO y = some p) (he : evP f h (.ext i p) = some (x, h')) : Fine P o a h φ w S x h' := by
  have r := rel_ev F e
  simp only [evP] at he
  split at he
  case h_2 => cases he
  rename_i xs hx
  rw [hx] at r
  obtain ⟨b, hb, he⟩ := Option.map_eq_some_iff.1 he
  injection he with h1 h2; subst h1 h2
  generalize hv : a.eval y = v at r
  cases r with
  | tup _ _ vs l g =>
    have hlt : i < vs.size := by rw [← l]; exact (List.getElem?_eq_some_iff.1 hb).1
    exact fine_pure M (v := vs[i]) (by simp [execOp, ho, Instr.extract, hv, hlt]) (g i b _ hb (by simp [hlt]))

theorem fine_lenS (M : Sim h φ w S) (F : FRel h φ w S f a) {c : Call} {t : TypeId} {y : Operand} {p : Opnd} (ho : o.op = .call c) (hc : c.callee = .builtin .len) (ht : c.argTypes[0]? = some t) (ha : c.args[0]? = some y) (hu : P.underlying t = some .string) (e : cO y = some p) (he : evP f h (.lenS p) = some (x, h')) :
    Fine P o a h φ w S x h' := by
  have r := rel_ev F e
  simp only [evP] at he
  split at he
  case h_2 => cases he
  rename_i s hx
  rw [hx] at r
  have u := rel_str_inv r
  injection he with he; injection he with h1 h2; subst h1 h2
  exact fine_pure M (by simp [execOp, ho, resolve, hc, invoke, builtin, Builtin.len_, ht, ha, run_underlying hu, u, goInt]) (.int _ _ _)

theorem fine_lenL (M : Sim h φ w S) (F : FRel h φ w S f a) {c : Call} {t e : TypeId} {y : Operand} {p : Opnd} (ho : o.op = .call c) (hc : c.callee = .builtin .len) (ht : c.argTypes[0]? = some t) (ha : c.args[0]? = some y) (hu : P.underlying t = some (.slice e)) (e1 : cO y = some p) (he : evP f h (.lenL p) = some (x, h')) :
    Fine P o a h φ w S x h' := by
  have r := rel_ev F e1
  simp only [evP] at he
  obtain ⟨n, hn, he⟩ := Option.map_eq_some_iff.1 he
  injection he with h1 h2; subst h1 h2
  have key : ∃ A c, a.eval y = .slice A n c := by
    unfold lenA at hn
    split at hn
    · rename_i hx
      rw [hx] at r
      injection hn with hn
      subst hn
      generalize hv : a.eval y = v at r
      cases r
      exact ⟨_, _, rfl⟩
    · obtain ⟨es, hes, rfl⟩ := Option.map_eq_some_iff.1 hn
      obtain ⟨A, c, hv, _⟩ := rel_elems hes r
      exact ⟨A, c, hv⟩
  obtain ⟨A, cp, hv⟩ := key
  exact fine_pure M (by simp [execOp, ho, resolve, hc, invoke, builtin, Builtin.len_, ht, ha, run_underlying hu, hv, goInt]) (.int _ _ _)

theorem fine_conv (M : Sim h φ w S) (F : FRel h φ w S f a) {s d : TypeId} {k k' : IntKind} {y : Operand} {p : Opnd} (ho : o.op = .convert s d y) (hu : P.underlying s = some (.int k')) (hu2 : P.underlying d = some (.int k)) (e : cO y = some p) (he : evP f h (.conv k p) = some (x, h')) : Fine P o a h φ w S x h' := by
  have r := rel_ev F e
  simp only [evP] at he
  split at he
  case h_2 => cases he
  rename_i q n hx
  rw [hx] at r
  have u := rel_int_inv r
  injection he with he; injection he with h1 h2; subst h1 h2
  exact fine_pure M (by simp [execOp, ho, convert, run_underlying hu, run_underlying hu2, u, Conv.intToInt]) (.int _ _ _)

theorem fine_nop (M : Sim h φ w S) (F : FRel h φ w S f a) {s d : TypeId} {y : Operand} {p : Opnd} (ho : o.op = .convert s d y) (hu : P.underlying s = some .string) (hu2 : P.underlying d = some .string) (e : cO y = some p) (he : evP f h (.nop p) = some (x, h')) : Fine P o a h φ w S x h' := by
  have r := rel_ev F e
  simp only [evP] at he
  split at he
  case h_2 => cases he
  rename_i n hx
  rw [hx] at r
  have u := rel_str_inv r
  injection he with he; injection he with h1 h2; subst h1 h2
  exact fine_pure M (by simp [execOp, ho, convert, run_underlying hu, run_underlying hu2, u]) (.str _ _)

theorem zeroV_inv {t : TypeId} {z : AV} (e : zeroV P t = some z) : ∃ v, (∀ w', (zeroValue t).run P w' = .ok v w') ∧ ∀ m : Bool, ∀ (h : List AO) (φ : Nat → Loc) (w : World) (S : Nat → Nat → Prop), Rel h φ w S m z v := by
  unfold zeroV at e
  split at e
  case h_2 => cases e
  rename_i i hi
  split at e
  case h_2 => cases e
  rename_i v hv
  exact ⟨v, fun w' => by simp [zeroValue, typeInfo, hi, hv], fun m h φ w S => rel_cv e m⟩

theorem rel_tup2 {x y : AV} {u v : Value} (r1 : Rel h φ w S true x u) (r2 : Rel h φ w S true y v) : Rel h φ w S true (.tup [x, y]) (.tuple #[u, v]) := by
  refine .tup _ _ _ rfl (fun j z q hz hq => ?_)
  match j with
  | 0 => simp at hz hq; subst hz hq; exact r1
  | 1 => simp at hz hq; subst hz hq; exact r2
  | j + 2 => simp at hz

theorem fine_tas (M : Sim h φ w S) (F : FRel h φ w S f a) {t t0 : TypeId} {y : Operand} {p : Opnd} {z : AV} {d : TypeDesc} (ho : o.op = .typeAssert y t0 t true) (hu : P.underlying t = some d) (hd : ∀ q, d ≠ .interface q) (hz : zeroV P t = some z) (e : cO y = some p) (he : evP f h (.tas t z p) = some (x, h')) : Fine P o a h φ w S x h' := by
  have r := rel_ev F e
  obtain ⟨zv, hz1, hz2⟩ := zeroV_inv hz
  simp only [evP] at he
  split at he
  · rename_i t1 y1 hx
    rw [hx] at r
    injection he with he; injection he with h1 h2; subst h1 h2
    generalize hv : a.eval y = v at r
    cases r with
    | iface _ _ _ v' r' =>
      by_cases ht : t1 = t
      · subst ht
        refine fine_pure M (v := .tuple #[v', .bool true]) ?_ (by rw [if_pos rfl]; exact rel_tup2 r' (.bool _ _))
        simp only [execOp, ho, Instr.typeAssert, hv, Sem.run_bind, run_underlying hu, Result.andThen_ok]
        cases d <;> first | exact absurd rfl (hd _) | simp
      · refine fine_pure M (v := .tuple #[zv, .bool false]) ?_ (by rw [if_neg ht]; exact rel_tup2 (hz2 _ _ _ _ _) (.bool _ _))
        simp only [execOp, ho, Instr.typeAssert, hv, Sem.run_bind, run_underlying hu, Result.andThen_ok]
        cases d <;> first | exact absurd rfl (hd _) | simp [ht, hz1]
  · rename_i hx
    rw [hx] at r
    injection he with he; injection he with h1 h2; subst h1 h2
    generalize hv : a.eval y = v at r
    cases r
    refine fine_pure M (v := .tuple #[zv, .bool false]) ?_ (rel_tup2 (hz2 _ _ _ _ _) (.bool _ _))
    simp only [execOp, ho, Instr.typeAssert, hv, Sem.run_bind, run_underlying hu, Result.andThen_ok]
    cases d <;> first | exact absurd rfl (hd _) | simp [hz1]
  · cases he
end
end Go.Eng
