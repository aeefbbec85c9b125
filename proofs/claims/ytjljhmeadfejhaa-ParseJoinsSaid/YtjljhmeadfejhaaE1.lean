/- The engine, part 1: abstract values and objects, and how they stand for the model's. -/
import Derived.Maps.AppendAt
import Derived.WalkKit
set_option linter.unusedVariables false
set_option linter.unusedSimpArgs false
namespace Go.Eng

/-- Abstract values: addresses are replaced by ids of abstract objects, or by the read-only trees that lie there. -/
inductive AV where
  | undef
  | bool (b : Bool)
  | int (k : IntKind) (n : Int)
  | str (s : ByteArray)
  | nilp
  | ptr (i o : Nat)
  | rptr (cs : List AV)
  | esl
  | rsl (es : List AV)
  | osl (t : Nat) (es : List AV)
  | msl (i o len cap : Nat)
  | nilmap
  | map (i : Nat)
  | fn (f : FuncId) (first caps : List AV)
  | nilfn
  | iface (t : TypeId) (x : AV)
  | nilif
  | agg (cs : List AV)
  | tup (xs : List AV)
  deriving Inhabited

/-- The cells of a value. -/
def AV.cells : AV → List AV
  | .agg cs => cs
  | x => [x]
/-- Is it the value of one cell? -/
def AV.one : AV → Bool
  | .agg _ | .tup _ | .undef => false
  | _ => true

/-- Abstract objects. -/
inductive AO where
  | box (cs : List AV)
  | tok (e : TypeId) (sz n : Nat)
  | map (es : List (AV × AV))
  | siter (s : ByteArray) (pos : Nat)
  | dead
  deriving Inhabited

def AO.isTok : AO → Bool
  | .tok .. => true
  | _ => false

/-- Where an object lies: its block; of a row that is appended to, its capacity. -/
structure Loc where
  blk : Nat
  cap : Nat

/-- An id of an object that is no token. -/
def nt (h : List AO) (i : Nat) : Prop := ∃ o, h[i]? = some o ∧ o.isTok = false

/-- The abstract value stands for the value; true: ids may occur; false: a read-only tree. -/
inductive Rel (h : List AO) (φ : Nat → Loc) (w : World) (S : Nat → Nat → Prop) : Bool → AV → Value → Prop
  | undef (m : Bool) (v : Value) : Rel h φ w S m .undef v
  | bool (m : Bool) (b : Bool) : Rel h φ w S m (.bool b) (.bool b)
  | int (m : Bool) (k : IntKind) (n : Int) : Rel h φ w S m (.int k n) (.int k n)
  | str (m : Bool) (s : ByteArray) : Rel h φ w S m (.str s) (.string s)
  | nilp (m : Bool) : Rel h φ w S m .nilp (.pointer none)
  | ptr (i o : Nat) (hi : nt h i) : Rel h φ w S true (.ptr i o) (.pointer (some ⟨(φ i).blk, o, none⟩))
  | rptr (m : Bool) (cs : List AV) (a : Addr) (f : Nat → Value)
      (hc : ∀ (j : Nat) (x : AV), cs[j]? = some x → x.one = true ∧ w.cell? (a.add j) = some (f j) ∧ S a.block (a.off + j))
      (hr : ∀ (j : Nat) (x : AV), cs[j]? = some x → Rel h φ w S false x (f j)) : Rel h φ w S m (.rptr cs) (.pointer (some a))
  | esl (m : Bool) (A : Option Addr) : Rel h φ w S m .esl (.slice A 0 0)
  | rsl (m : Bool) (es : List AV) (A : Option Addr) (c sz : Nat) (f : Nat → Nat → Value) (hl : es.length ≤ c) (hz : 0 < sz)
      (hs : ∀ x, x ∈ es → x.cells.length = sz)
      (hc : ∀ (i j : Nat) (x y : AV), es[i]? = some x → x.cells[j]? = some y → ∃ a, A = some a ∧ y.one = true ∧ w.cell? (a.add (i * sz + j)) = some (f i j) ∧ S a.block (a.off + (i * sz + j)))
      (hr : ∀ (i j : Nat) (x y : AV), es[i]? = some x → x.cells[j]? = some y → Rel h φ w S false y (f i j)) : Rel h φ w S m (.rsl es) (.slice A es.length c)
  | osl (t : Nat) (es : List AV) (v : Value) (ht : t < h.length) (hr : Rel h φ w S false (.rsl es) v)
      (hk : ∀ e sz n, h[t]? = some (.tok e sz n) → es.length ≤ n ∧ (es.length = n → v = .slice (some ⟨(φ t).blk, 0, none⟩) n (φ t).cap ∧ ∀ x, x ∈ es → x.cells.length = sz)) : Rel h φ w S true (.osl t es) v
  | msl (i o len cap c : Nat) (hi : nt h i) (hc : cap ≤ c) : Rel h φ w S true (.msl i o len cap) (.slice (some ⟨(φ i).blk, o, none⟩) len c)
  | nilmap (m : Bool) : Rel h φ w S m .nilmap (.map none)
  | map (i : Nat) (hi : nt h i) : Rel h φ w S true (.map i) (.map (some (φ i).blk))
  | fn (m : Bool) (g : FuncId) (fs cs : List AV) (us vs : Array Value) (hl' : fs.length = us.size) (hl : cs.length = vs.size)
      (hr' : ∀ (j : Nat) (x : AV) (v : Value), fs[j]? = some x → us[j]? = some v → Rel h φ w S m x v)
      (hr : ∀ (j : Nat) (x : AV) (v : Value), cs[j]? = some x → vs[j]? = some v → Rel h φ w S m x v) : Rel h φ w S m (.fn g fs cs) (.func (.func g) us vs)
  | nilfn (m : Bool) : Rel h φ w S m .nilfn .nilFunc
  | iface (m : Bool) (t : TypeId) (x : AV) (v : Value) (hr : Rel h φ w S m x v) : Rel h φ w S m (.iface t x) (.iface t v)
  | nilif (m : Bool) : Rel h φ w S m .nilif .nilIface
  | agg (m : Bool) (cs : List AV) (vs : Array Value) (hl : cs.length = vs.size) (h1 : ∀ (j : Nat) (x : AV), cs[j]? = some x → x.one = true)
      (hr : ∀ (j : Nat) (x : AV) (v : Value), cs[j]? = some x → vs[j]? = some v → Rel h φ w S m x v) : Rel h φ w S m (.agg cs) (.agg vs)
  | tup (m : Bool) (cs : List AV) (vs : Array Value) (hl : cs.length = vs.size)
      (hr : ∀ (j : Nat) (x : AV) (v : Value), cs[j]? = some x → vs[j]? = some v → Rel h φ w S m x v) : Rel h φ w S m (.tup cs) (.tuple vs)

/-- The object stands for block c. -/
def OR (h : List AO) (φ : Nat → Loc) (w : World) (S : Nat → Nat → Prop) (l : Loc) : AO → Prop
  | .box cs => ∃ arr T, w.heap[l.blk]? = some (.cells arr T (0, 0)) ∧ cs.length ≤ arr.size ∧ (∀ (j : Nat) (x : AV), cs[j]? = some x → x.one = true) ∧
      (∀ (j : Nat) (x : AV) (v : Value), cs[j]? = some x → arr[j]? = some v → Rel h φ w S true x v) ∧ ∀ j, ¬ S l.blk j
  | .tok e sz n => ∃ arr, w.heap[l.blk]? = some (.cells arr e (0, 0)) ∧ n ≤ l.cap ∧ l.cap ≤ maxLen ∧ arr.size = l.cap * sz ∧ ∀ j, n * sz ≤ j → ¬ S l.blk j
  | .map es => ∃ (arr : Array MapEntry) (clock : Nat), w.heap[l.blk]? = some (.map arr clock) ∧ es.length = arr.size ∧
      (∀ (j : Nat) x e, es[j]? = some x → arr[j]? = some e → Rel h φ w S false x.1 e.key ∧ Rel h φ w S true x.2 e.val) ∧ ∀ j, ¬ S l.blk j
  | .siter s pos => w.heap[l.blk]? = some (.stringIter s pos) ∧ ∀ j, ¬ S l.blk j
  | .dead => True

def AO.isDead : AO → Bool
  | .dead => true
  | _ => false

/-- The abstract heap stands for part of the world; S: cells that nobody writes any more. -/
structure Sim (h : List AO) (φ : Nat → Loc) (w : World) (S : Nat → Nat → Prop) : Prop where
  obj : ∀ i o, h[i]? = some o → OR h φ w S (φ i) o
  inj : ∀ i j oi oj, h[i]? = some oi → h[j]? = some oj → oi.isDead = false → oj.isDead = false → (φ i).blk = (φ j).blk → i = j
  stab : ∀ b o, S b o → b < w.heap.size

/-- From one state on to another one. -/
structure Ext (h : List AO) (φ : Nat → Loc) (w : World) (S : Nat → Nat → Prop) (h' : List AO) (φ' : Nat → Loc) (w' : World) (S' : Nat → Nat → Prop) : Prop where
  len : h.length ≤ h'.length
  stab : ∀ b o, S b o → S' b o
  cell : ∀ b o, S b o → w'.cell? ⟨b, o, none⟩ = w.cell? ⟨b, o, none⟩
  same : ∀ i, nt h i → nt h' i ∧ (φ' i).blk = (φ i).blk
  tok : ∀ (i : Nat) e sz n, h'[i]? = some (.tok e sz n) → i < h.length → (h[i]? = some (.tok e sz n) ∧ φ' i = φ i) ∨ ∃ e0 sz0 n0, h[i]? = some (.tok e0 sz0 n0) ∧ n0 < n
  live : ∀ (i : Nat) o, h'[i]? = some o → o.isDead = false → (∃ o0, h[i]? = some o0 ∧ o0.isDead = false ∧ (φ' i).blk = (φ i).blk) ∨ w.heap.size ≤ (φ' i).blk
  frame : ∀ b, b < w.heap.size → (∀ (i : Nat) o, h[i]? = some o → o.isDead = false → (φ i).blk ≠ b) → w'.heap[b]? = w.heap[b]?
  os : w'.os = w.os
  tape : w'.tape = w.tape
  output : w'.output = w.output
  size : w.heap.size ≤ w'.heap.size
  news : ∀ b o, S' b o → S b o ∨ w.heap.size ≤ b ∨ ∃ (i : Nat) (x : AO), h[i]? = some x ∧ x.isDead = false ∧ (φ i).blk = b

/-- What a value needs of the way from one state on to another one. -/
structure RExt (h : List AO) (φ : Nat → Loc) (w : World) (S : Nat → Nat → Prop) (h' : List AO) (φ' : Nat → Loc) (w' : World) (S' : Nat → Nat → Prop) : Prop where
  len : h.length ≤ h'.length
  stab : ∀ b o, S b o → S' b o
  cell : ∀ b o, S b o → w'.cell? ⟨b, o, none⟩ = w.cell? ⟨b, o, none⟩
  same : ∀ i, nt h i → nt h' i ∧ (φ' i).blk = (φ i).blk
  tok : ∀ (i : Nat) e sz n, h'[i]? = some (.tok e sz n) → i < h.length → (h[i]? = some (.tok e sz n) ∧ φ' i = φ i) ∨ ∃ e0 sz0 n0, h[i]? = some (.tok e0 sz0 n0) ∧ n0 < n

theorem Ext.rext {h : List AO} {φ : Nat → Loc} {w : World} {S : Nat → Nat → Prop} {h' : List AO} {φ' : Nat → Loc} {w' : World} {S' : Nat → Nat → Prop} (E : Ext h φ w S h' φ' w' S') : RExt h φ w S h' φ' w' S' :=
  ⟨E.len, E.stab, E.cell, E.same, E.tok⟩

theorem Ext.refl (h : List AO) (φ : Nat → Loc) (w : World) (S : Nat → Nat → Prop) : Ext h φ w S h φ w S where
  len := Nat.le_refl _
  stab := fun _ _ x => x
  cell := fun _ _ _ => rfl
  same := fun i hi => ⟨hi, rfl⟩
  tok := fun i e sz n hi _ => .inl ⟨hi, rfl⟩
  live := fun i o ho hd => .inl ⟨o, ho, hd, rfl⟩
  frame := fun _ _ _ => rfl
  os := rfl
  tape := rfl
  output := rfl
  size := Nat.le_refl _
  news := fun _ _ k => .inl k

section
variable {h h1 h2 : List AO} {φ φ1 φ2 : Nat → Loc} {w w1 w2 : World} {S S1 S2 : Nat → Nat → Prop}

theorem cell_ext (E : RExt h φ w S h1 φ1 w1 S1) {a : Addr} {v : Value} (hc : w.cell? a = some v) (hs : S a.block a.off) : w1.cell? a = some v := by
  have := World.cell?_spot hc
  obtain ⟨b, o, s⟩ := a
  simp only at this
  subst this
  rw [E.cell b o hs]; exact hc

theorem add_block (a : Addr) (n : Nat) : (a.add n).block = a.block := by unfold Addr.add; split <;> rfl
theorem add_off (a : Addr) (n : Nat) : (a.add n).off = a.off + n := by unfold Addr.add; split <;> simp_all

theorem cell_ext_add (E : RExt h φ w S h1 φ1 w1 S1) {a : Addr} {n : Nat} {v : Value} (hc : w.cell? (a.add n) = some v) (hs : S a.block (a.off + n)) : w1.cell? (a.add n) = some v :=
  cell_ext E hc (by rw [add_block, add_off]; exact hs)

theorem Rel.rmono (E : RExt h φ w S h1 φ1 w1 S1) {m : Bool} {x : AV} {v : Value} (r : Rel h φ w S m x v) : Rel h1 φ1 w1 S1 m x v := by
  induction r with
  | undef m v => exact .undef m v
  | bool m b => exact .bool m b
  | int m k n => exact .int m k n
  | str m s => exact .str m s
  | nilp m => exact .nilp m
  | ptr i o hi => obtain ⟨a, b⟩ := E.same i hi; rw [← b]; exact .ptr i o a
  | rptr m cs a f hc hr ih => exact .rptr m cs a f (fun j x hx => ⟨(hc j x hx).1, cell_ext_add E (hc j x hx).2.1 (hc j x hx).2.2, E.stab _ _ (hc j x hx).2.2⟩) ih
  | esl m A => exact .esl m A
  | rsl m es A c sz f hl hz hs hc hr ih =>
    refine .rsl m es A c sz f hl hz hs (fun i j x y hx hy => ?_) ih
    obtain ⟨a, e, h1, h2, h3⟩ := hc i j x y hx hy
    exact ⟨a, e, h1, cell_ext_add E h2 h3, E.stab _ _ h3⟩
  | osl t es v ht hr hk ih =>
    refine .osl t es v (Nat.lt_of_lt_of_le ht E.len) ih (fun e sz n hn => ?_)
    rcases E.tok t e sz n hn ht with ⟨h0, hφ⟩ | ⟨e0, sz0, n0, h0, hlt⟩
    · rw [hφ]; exact hk e sz n h0
    · obtain ⟨hle, _⟩ := hk e0 sz0 n0 h0
      exact ⟨by omega, fun he => by omega⟩
  | msl i o len cap c hi hc => obtain ⟨a, b⟩ := E.same i hi; rw [← b]; exact .msl i o len cap c a hc
  | nilmap m => exact .nilmap m
  | map i hi => obtain ⟨a, b⟩ := E.same i hi; rw [← b]; exact .map i a
  | fn m g fs cs us vs hl' hl hr' hr ih' ih => exact .fn m g fs cs us vs hl' hl ih' ih
  | nilfn m => exact .nilfn m
  | iface m t x v hr ih => exact .iface m t x v ih
  | nilif m => exact .nilif m
  | agg m cs vs hl h1 hr ih => exact .agg m cs vs hl h1 ih
  | tup m cs vs hl hr ih => exact .tup m cs vs hl ih

theorem Rel.mono (E : Ext h φ w S h1 φ1 w1 S1) {m : Bool} {x : AV} {v : Value} (r : Rel h φ w S m x v) : Rel h1 φ1 w1 S1 m x v := r.rmono E.rext

/-- A read-only tree may stand where ids may. -/
theorem Rel.up {m : Bool} {x : AV} {v : Value} (r : Rel h φ w S m x v) : Rel h φ w S true x v := by
  induction r with
  | undef m v => exact .undef _ v
  | bool m b => exact .bool _ b
  | int m k n => exact .int _ k n
  | str m s => exact .str _ s
  | nilp m => exact .nilp _
  | ptr i o hi => exact .ptr i o hi
  | rptr m cs a f hc hr ih => exact .rptr _ cs a f hc hr
  | esl m A => exact .esl _ A
  | rsl m es A c sz f hl hz hs hc hr ih => exact .rsl _ es A c sz f hl hz hs hc hr
  | osl t es v ht hr hk ih => exact .osl t es v ht hr hk
  | msl i o len cap c hi hc => exact .msl i o len cap c hi hc
  | nilmap m => exact .nilmap _
  | map i hi => exact .map i hi
  | fn m g fs cs us vs hl' hl hr' hr ih' ih => exact .fn _ g fs cs us vs hl' hl ih' ih
  | nilfn m => exact .nilfn _
  | iface m t x v hr ih => exact .iface _ t x v ih
  | nilif m => exact .nilif _
  | agg m cs vs hl h1 hr ih => exact .agg _ cs vs hl h1 ih
  | tup m cs vs hl hr ih => exact .tup _ cs vs hl ih

theorem Ext.trans (E : Ext h φ w S h1 φ1 w1 S1) (F : Ext h1 φ1 w1 S1 h2 φ2 w2 S2) : Ext h φ w S h2 φ2 w2 S2 where
  len := Nat.le_trans E.len F.len
  stab := fun b o x => F.stab b o (E.stab b o x)
  cell := fun b o x => (F.cell b o (E.stab b o x)).trans (E.cell b o x)
  same := fun i hi => ⟨(F.same i (E.same i hi).1).1, (F.same i (E.same i hi).1).2.trans (E.same i hi).2⟩
  tok := fun i e sz n hn hi => by
    rcases F.tok i e sz n hn (Nat.lt_of_lt_of_le hi E.len) with ⟨k1, k2⟩ | ⟨e0, sz0, n0, k1, k2⟩
    · rcases E.tok i e sz n k1 hi with ⟨k3, k4⟩ | ⟨e1, sz1, n1, k3, k4⟩
      · exact .inl ⟨k3, k2.trans k4⟩
      · exact .inr ⟨_, _, _, k3, k4⟩
    · rcases E.tok i e0 sz0 n0 k1 hi with ⟨k3, k4⟩ | ⟨e1, sz1, n1, k3, k4⟩
      · exact .inr ⟨_, _, _, k3, k2⟩
      · exact .inr ⟨_, _, _, k3, by omega⟩
  live := fun i o ho hd => by
    rcases F.live i o ho hd with ⟨o1, k1, k2, k3⟩ | k
    · rcases E.live i o1 k1 k2 with ⟨o2, k4, k5, k6⟩ | k
      · exact .inl ⟨o2, k4, k5, k3.trans k6⟩
      · exact .inr (by rw [k3]; exact k)
    · exact .inr (Nat.le_trans E.size k)
  frame := fun b hb hn => by
    rw [← E.frame b hb hn]
    refine F.frame b (Nat.lt_of_lt_of_le hb E.size) (fun i o ho hd => ?_)
    rcases E.live i o ho hd with ⟨o0, k1, k2, k3⟩ | k
    · rw [k3]; exact hn i o0 k1 k2
    · omega
  os := F.os.trans E.os
  tape := F.tape.trans E.tape
  output := F.output.trans E.output
  size := Nat.le_trans E.size F.size
  news := fun b o k => by
    rcases F.news b o k with k | k | ⟨i, x, k1, k2, k3⟩
    · exact E.news b o k
    · exact .inr (.inl (Nat.le_trans E.size k))
    · rcases E.live i x k1 k2 with ⟨x0, k4, k5, k6⟩ | k4
      · exact .inr (.inr ⟨i, x0, k4, k5, by rw [← k6]; exact k3⟩)
      · exact .inr (.inl (by rw [← k3]; exact k4))

/-- The objects stay what they are where their blocks do. -/
theorem OR.rmono (E : RExt h φ w S h1 φ1 w1 S1) {l : Loc} {o : AO} (r : OR h φ w S l o) (hb : w1.heap[l.blk]? = w.heap[l.blk]?) (hS : ∀ j, S1 l.blk j → S l.blk j) : OR h1 φ1 w1 S1 l o := by
  cases o with
  | box cs =>
    obtain ⟨arr, T, k1, k2, k3, k4, k5⟩ := r
    exact ⟨arr, T, hb.trans k1, k2, k3, fun j x v hx hv => (k4 j x v hx hv).rmono E, fun j hj => k5 j (hS j hj)⟩
  | tok e sz n =>
    obtain ⟨arr, k1, k2, k3, k4, k5⟩ := r
    exact ⟨arr, hb.trans k1, k2, k3, k4, fun j hj hS' => k5 j hj (hS j hS')⟩
  | map es =>
    obtain ⟨arr, clock, k1, k2, k3, k4⟩ := r
    exact ⟨arr, clock, hb.trans k1, k2, fun j x e hx he => ⟨(k3 j x e hx he).1.rmono E, (k3 j x e hx he).2.rmono E⟩, fun j hj => k4 j (hS j hj)⟩
  | siter s pos => exact ⟨hb.trans r.1, fun j hj => r.2 j (hS j hj)⟩
  | dead => trivial

theorem OR.mono (E : Ext h φ w S h1 φ1 w1 S1) {l : Loc} {o : AO} (r : OR h φ w S l o) (hb : w1.heap[l.blk]? = w.heap[l.blk]?) (hS : ∀ j, S1 l.blk j → S l.blk j) : OR h1 φ1 w1 S1 l o := r.rmono E.rext hb hS

theorem OR.lt {l : Loc} {o : AO} (r : OR h φ w S l o) (hd : o.isDead = false) : l.blk < w.heap.size := by
  cases o with
  | box cs => obtain ⟨arr, T, k1, _⟩ := r; exact (Array.getElem?_eq_some_iff.1 k1).1
  | tok e sz n => obtain ⟨arr, k1, _⟩ := r; exact (Array.getElem?_eq_some_iff.1 k1).1
  | map es => obtain ⟨arr, clock, k1, _⟩ := r; exact (Array.getElem?_eq_some_iff.1 k1).1
  | siter s pos => exact (Array.getElem?_eq_some_iff.1 r.1).1
  | dead => cases hd

end
end Go.Eng
