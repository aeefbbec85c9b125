/- The engine, part 3: steps that turn one object; the compiler of operations. -/
import Derived.Test.YtjljhmeadfejhaaE2
set_option linter.unusedVariables false
set_option linter.unusedSimpArgs false
namespace Go.Eng

/-- One object, i0, is turned or new; its block is the one that it had, or a new one. -/
structure Step (h : List AO) (φ : Nat → Loc) (w : World) (S : Nat → Nat → Prop) (h' : List AO) (φ' : Nat → Loc) (w' : World) (S' : Nat → Nat → Prop) (i0 : Nat) (o' : AO) : Prop where
  at0 : h'[i0]? = some o'
  oth : ∀ i, i ≠ i0 → h'[i]? = h[i]?
  phi : ∀ i, i ≠ i0 → φ' i = φ i
  old : (∃ o, h[i0]? = some o ∧ o.isDead = false ∧ (φ' i0).blk = (φ i0).blk) ∨ (w.heap.size ≤ (φ' i0).blk)
  nt0 : nt h i0 → o'.isTok = false ∧ (φ' i0).blk = (φ i0).blk
  tok0 : ∀ e sz n, o' = .tok e sz n → i0 < h.length → ∃ e0 sz0 n0, h[i0]? = some (.tok e0 sz0 n0) ∧ n0 < n
  heap : ∀ b, b < w.heap.size → b ≠ (φ' i0).blk → w'.heap[b]? = w.heap[b]?
  stab : ∀ b o, S b o → S' b o
  new : ∀ b o, S' b o → S b o ∨ (b = (φ' i0).blk ∧ b < w'.heap.size)
  cell : ∀ o, S (φ' i0).blk o → w'.cell? ⟨(φ' i0).blk, o, none⟩ = w.cell? ⟨(φ' i0).blk, o, none⟩
  os : w'.os = w.os
  tape : w'.tape = w.tape
  output : w'.output = w.output
  size : w.heap.size ≤ w'.heap.size

section
variable {h h' : List AO} {φ φ' : Nat → Loc} {w w' : World} {S S' : Nat → Nat → Prop} {i0 : Nat} {o' : AO}

theorem Step.ext (T : Step h φ w S h' φ' w' S' i0 o') (M : Sim h φ w S) (hlen : h.length ≤ h'.length) : Ext h φ w S h' φ' w' S' where
  len := hlen
  stab := T.stab
  cell := fun b o hs => by
    by_cases hb : b = (φ' i0).blk
    · subst hb; exact T.cell o hs
    · exact World.cell?_of_block (T.heap b (M.stab b o hs) hb)
  same := fun i hi => by
    by_cases e : i = i0
    · subst e
      obtain ⟨k1, k2⟩ := T.nt0 hi
      exact ⟨⟨o', T.at0, k1⟩, k2⟩
    · obtain ⟨o, k1, k2⟩ := hi
      exact ⟨⟨o, (T.oth i e).trans k1, k2⟩, by rw [T.phi i e]⟩
  tok := fun i e sz n hn hi => by
    by_cases ei : i = i0
    · subst ei
      rw [T.at0] at hn
      injection hn with hn
      exact .inr (T.tok0 e sz n hn hi)
    · rw [T.oth i ei] at hn
      exact .inl ⟨hn, T.phi i ei⟩
  live := fun i o ho hd => by
    by_cases ei : i = i0
    · subst ei; exact T.old
    · rw [T.oth i ei] at ho
      exact .inl ⟨o, ho, hd, by rw [T.phi i ei]⟩
  frame := fun b hb hn => by
    refine T.heap b hb (fun e => ?_)
    rcases T.old with ⟨o, k1, k2, k3⟩ | k
    · exact hn i0 o k1 k2 (by rw [← k3, e])
    · omega
  os := T.os
  tape := T.tape
  output := T.output
  size := T.size
  news := fun b o k => by
    rcases T.new b o k with k | ⟨k, _⟩
    · exact .inl k
    · rcases T.old with ⟨x, k1, k2, k3⟩ | k1
      · exact .inr (.inr ⟨i0, x, k1, k2, by rw [← k3, k]⟩)
      · exact .inr (.inl (by rw [k]; exact k1))

theorem Step.sim (T : Step h φ w S h' φ' w' S' i0 o') (M : Sim h φ w S) (hlen : h.length ≤ h'.length) (hO : OR h' φ' w' S' (φ' i0) o') : Sim h' φ' w' S' where
  obj := fun i o ho => by
    by_cases ei : i = i0
    · subst ei
      rw [T.at0] at ho
      injection ho with ho
      subst ho
      exact hO
    · rw [T.oth i ei] at ho
      rw [T.phi i ei]
      have r := M.obj i o ho
      cases hd : o.isDead with
      | true => cases o <;> first | trivial | cases hd
      | false =>
        have hne : (φ i).blk ≠ (φ' i0).blk := by
          intro e
          rcases T.old with ⟨o1, k1, k2, k3⟩ | k
          · exact ei (M.inj i i0 o o1 ho k1 hd k2 (by rw [e, k3]))
          · have := r.lt hd
            omega
        exact r.mono (T.ext M hlen) (T.heap _ (r.lt hd) hne) (fun j hj => by
          rcases T.new _ _ hj with k | ⟨k, _⟩
          · exact k
          · exact absurd k hne)
  inj := fun i j oi oj hi hj di dj e => by
    have key : ∀ i o, i ≠ i0 → h'[i]? = some o → o.isDead = false → (φ' i).blk ≠ (φ' i0).blk := by
      intro i o ei ho hd e
      rw [T.oth i ei] at ho
      rw [T.phi i ei] at e
      rcases T.old with ⟨o1, k1, k2, k3⟩ | k
      · exact ei (M.inj i i0 o o1 ho k1 hd k2 (by rw [e, k3]))
      · have := (M.obj i o ho).lt hd
        omega
    by_cases ei : i = i0
    · by_cases ej : j = i0
      · rw [ei, ej]
      · exact absurd (by rw [← e, ei]) (key j oj ej hj dj)
    · by_cases ej : j = i0
      · exact absurd (by rw [e, ej]) (key i oi ei hi di)
      · rw [T.oth i ei] at hi
        rw [T.oth j ej] at hj
        rw [T.phi i ei, T.phi j ej] at e
        exact M.inj i j oi oj hi hj di dj e
  stab := fun b o hs => by
    rcases T.new b o hs with k | ⟨_, k⟩
    · exact Nat.lt_of_lt_of_le (M.stab b o k) T.size
    · exact k
end

def updφ (φ : Nat → Loc) (i : Nat) (l : Loc) : Nat → Loc := fun j => if j = i then l else φ j
@[simp] theorem updφ_same (φ : Nat → Loc) (i : Nat) (l : Loc) : updφ φ i l i = l := by simp [updφ]
theorem updφ_other (φ : Nat → Loc) (i : Nat) (l : Loc) {j : Nat} (h : j ≠ i) : updφ φ i l j = φ j := by simp [updφ, h]

section
variable {h : List AO} {φ : Nat → Loc} {w : World} {S : Nat → Nat → Prop}

/-- A new object in a new block. -/
theorem push_step (M : Sim h φ w S) (o : AO) (b : Obj) (c : Nat) (S' : Nat → Nat → Prop) (hS : ∀ x y, S x y → S' x y) (hn : ∀ x y, S' x y → S x y ∨ x = w.heap.size) :
    Step h φ w S (h ++ [o]) (updφ φ h.length ⟨w.heap.size, c⟩) (w.alloc b) S' h.length o where
  at0 := by simp
  oth := fun i hi => by
    rcases Nat.lt_or_ge i h.length with k | k
    · rw [List.getElem?_append_left k]
    · rw [List.getElem?_eq_none (show h.length ≤ i from k), List.getElem?_eq_none (by simp; omega)]
  phi := fun i hi => updφ_other _ _ _ hi
  old := .inr (by simp)
  nt0 := fun ⟨o, k, _⟩ => by simp at k
  tok0 := fun _ _ _ _ k => absurd k (Nat.lt_irrefl _)
  heap := fun b' hb hne => by show (w.heap.push b)[b']? = _; rw [Array.getElem?_push, if_neg (by omega)]
  stab := hS
  new := fun x y k => by
    rcases hn x y k with k | k
    · exact .inl k
    · exact .inr ⟨by simp [k], by simp [k]⟩
  cell := fun o hs => by
    have := M.stab _ _ hs
    simp at this
  os := rfl
  tape := rfl
  output := rfl
  size := by simp

/-- An object that is no token is turned, in its own block. -/
theorem turn_step (M : Sim h φ w S) {i : Nat} {o o' : AO} (ho : h[i]? = some o) (hd : o.isDead = false) (ht : o.isTok = false) (ht' : o'.isTok = false) (hS : ∀ j, ¬ S (φ i).blk j)
    {w' : World} (hb : ∀ b, b ≠ (φ i).blk → w'.heap[b]? = w.heap[b]?) (hs : w'.heap.size = w.heap.size) (h1 : w'.os = w.os) (h2 : w'.tape = w.tape) (h3 : w'.output = w.output) :
    Step h φ w S (h.set i o') φ w' S i o' where
  at0 := by
    have : i < h.length := (List.getElem?_eq_some_iff.1 ho).1
    simp [this]
  oth := fun j hj => by rw [List.getElem?_set_ne (Ne.symm hj)]
  phi := fun _ _ => rfl
  old := .inl ⟨o, ho, hd, rfl⟩
  nt0 := fun _ => ⟨ht', rfl⟩
  tok0 := fun e sz n k => by subst k; cases ht'
  heap := fun b _ hne => hb b hne
  stab := fun _ _ k => k
  new := fun _ _ k => .inl k
  cell := fun o k => absurd k (hS o)
  os := h1
  tape := h2
  output := h3
  size := by omega
end

/-! ### the compiler -/
def cv1 : Value → Option AV
  | .bool b => some (.bool b)
  | .int k n => some (.int k n)
  | .string s => some (.str s)
  | .pointer none => some .nilp
  | .slice none 0 0 => some .esl
  | .map none => some .nilmap
  | .nilFunc => some .nilfn
  | .nilIface => some .nilif
  | _ => none
def cvL : List Value → Option (List AV)
  | [] => some []
  | v :: l => (cv1 v).bind fun x => (cvL l).map (x :: ·)
def cv : Value → Option AV
  | .agg cs => (cvL cs.toList).map .agg
  | v => cv1 v
def cO : Operand → Option Opnd
  | .tmp t => some (.t t)
  | .const v => (cv v).map .c
  | .func f => some (.c (.fn f [] []))
  | .global _ => none
def cOL : List Operand → Option (List Opnd)
  | [] => some []
  | x :: l => (cO x).bind fun y => (cOL l).map (y :: ·)
def isAggD : TypeDesc → Bool
  | .struct _ | .array _ _ => true
  | _ => false
def aggK (P : Program) (t : TypeId) : Option (Option Nat) :=
  match P.underlying t, P.info? t with
  | some d, some i => some (if isAggD d then some i.size else none)
  | _, _ => none
def szOf (P : Program) (t : TypeId) : Option Nat := (P.info? t).map (·.size)
def zeroL (P : Program) (t : TypeId) : Option (List AV) :=
  match P.info? t with
  | some i => match i.zero with
    | some z => cvL z.cells.toList
    | none => none
  | none => none
def zeroV (P : Program) (t : TypeId) : Option AV :=
  match P.info? t with
  | some i => match i.zero with
    | some z => cv z
    | none => none
  | none => none
def cParts (P : Program) (fs : Array Field) : List (Nat × Operand) → Option (List (Nat × Nat × Opnd))
  | [] => some []
  | (i, x) :: r => match fs[i]?, cO x, cParts P fs r with
    | some f, some y, some l => match szOf P f.type with
      | some n => some ((f.offset, n, y) :: l)
      | none => none
    | _, _, _ => none
def cLit : Nat → List (Nat × Operand) → Option (List Opnd)
  | _, [] => some []
  | j, (i, x) :: r => if i = j then (cO x).bind fun y => (cLit (j + 1) r).map (y :: ·) else none
/-- The places of a struct's cells, if all its fields are plain and count. -/
def plainFields (P : Program) (fs : List Field) : Option (List (Nat × Nat)) :=
  match fs with
  | [] => some []
  | f :: r => if f.name = "_" then none else
    match P.underlying f.type with
    | some (.int _) => (plainFields P r).map ((f.offset, 0) :: ·)
    | some .string => (plainFields P r).map ((f.offset, 1) :: ·)
    | some .bool => (plainFields P r).map ((f.offset, 2) :: ·)
    | _ => none
def isC : Operand → Bool
  | .const _ => true
  | _ => false
def cEq (P : Program) (t : TypeId) (x y : Operand) : EqK :=
  match P.underlying t with
  | some .bool => .bool
  | some (.pointer _) => .ptr
  | some (.interface _) => if isC x || isC y then .ifc else .no
  | some (.func _ _ _) => .fnc
  | some (.map _ _) => .mp
  | some (.struct fs) => match plainFields P fs.toList with
    | some l => if P.stoodInHeld t || P.eqGuardType P.depth t then .no else .strct l
    | none => .no
  | _ => .no
def cOpt : Option Operand → Option (Option Opnd)
  | none => some none
  | some x => (cO x).map some

/-- A method's function, if it is one of the value itself. -/
def methOne (P : Program) (name : String) (t : TypeId) : Option (TypeId × FuncId) :=
  match P.info? t with
  | none => none
  | some i => match i.methods.find? (·.name == name) with
    | none => none
    | some m => match m.func, m.path.toList, P.underlying t with
      | some (g, false), [], some (.pointer _) => none
      | some (g, false), [], some _ => some (t, g)
      | _, _, _ => none
def methTab (P : Program) (name : String) : List (TypeId × FuncId) := (List.range P.types.size).filterMap (methOne P name)
def cOp (P : Program) (o : Oper) : Option AOp :=
  match o.op with
  | .move x | .assign x => (cO x).map .mv
  | .pick c a b => match cO c, cO a, cO b with
    | some c, some a, some b => some (.pick c a b)
    | _, _, _ => none
  | .alloc e => (zeroL P e).map .alloc
  | .box e x => (cO x).map .box
  | .build t ps => match P.underlying t, zeroL P t with
    | some (.struct fs), some zs => if fs.toList.all (fun f => (szOf P f.type).isSome) then (cParts P fs ps.toList).map (.build zs) else none
    | _, _ => none
  | .buildSlice t n ps => match P.underlying t with
    | some (.slice e) => match szOf P e, cLit 0 ps.toList, zeroL P e with
      | some sz, some l, some _ => if l.length = n ∧ n * sz ≤ 16777216 then some (.lit sz l) else none
      | _, _, _ => none
    | _ => none
  | .load t x => match aggK P t, cO x with
    | some k, some x => some (.load k x)
    | _, _ => none
  | .store t x y => match szOf P t, cO x, cO y with
    | some n, some x, some y => some (.store n x y)
    | _, _, _ => none
  | .nilCheck x => (cO x).map .nilck
  | .binOp op t x y _ => match cO x, cO y with
    | some x', some y' => some (.bin op (cEq P t x y) x' y')
    | _, _ => none
  | .unOp op _ x => (cO x).map (.un op)
  | .field t x i => match P.underlying t with
    | some (.struct fs) => match fs[i]? with
      | some f => match aggK P f.type, cO x with
        | some k, some x => some (.fld f.offset k x)
        | _, _ => none
      | none => none
    | _ => none
  | .fieldAddr t x i => match P.underlying t with
    | some (.struct fs) => match fs[i]? with
      | some f => match szOf P f.type, cO x with
        | some (_ + 1), some x => some (.fa f.offset x)
        | _, _ => none
      | none => none
    | _ => none
  | .indexAddr t x i => match P.underlying t with
    | some (.slice e) => match szOf P e, cO x, cO i with
      | some sz, some x, some i => some (.ia sz x i)
      | _, _, _ => none
    | some (.array n e) => match szOf P e, cO x, cO i with
      | some sz, some x, some i => some (.iaA n sz x i)
      | _, _, _ => none
    | _ => none
  | .index t x i => match P.underlying t with
    | some .string => match cO x, cO i with
      | some x, some i => some (.ixS x i)
      | _, _ => none
    | some (.array n e) => match aggK P e, szOf P e, cO x, cO i with
      | some none, some 1, some x, some i => some (.ixA n x i)
      | _, _, _, _ => none
    | _ => none
  | .lookup t m k ok => match P.underlying t with
    | some (.map kt e) => match P.underlying kt, zeroV P e, cO m, cO k with
      | some (.int _), some z, some m, some k => some (.lookup false z ok m k)
      | some .string, some z, some m, some k => some (.lookup true z ok m k)
      | _, _, _, _ => none
    | _ => none
  | .mapUpdate t m k v | .insert t m k v => match P.underlying t with
    | some (.map kt _) => match P.underlying kt, cO m, cO k, cO v with
      | some (.int _), some m, some k, some v => some (.mupd false m k v)
      | some .string, some m, some k, some v => some (.mupd true m k v)
      | _, _, _, _ => none
    | _ => none
  | .makeMap _ none => some .mkmap
  | .makeInterface t x => match P.underlying t, cO x with
    | some (.interface _), _ => none
    | some _, some x => some (.mkif t x)
    | _, _ => none
  | .makeFunc (.func g) fs cs => match cOL fs.toList, cOL cs.toList with
    | some fs, some cs => some (.mkfn g fs cs)
    | _, _ => none
  | .extract x i => (cO x).map (.ext i)
  | .slice t x lo hi none => match P.underlying t, cO x, cOpt lo, cOpt hi with
    | some .string, some x, some lo, some hi => some (.slcS x lo hi)
    | some (.slice e), some x, some lo, some hi => (szOf P e).map fun sz => .slcL sz x lo hi
    | _, _, _, _ => none
  | .convert src dst x => match P.underlying src, P.underlying dst, cO x with
    | some (.int _), some (.int k), some x => some (.conv k x)
    | some .string, some .string, some x => some (.nop x)
    | some (.pointer t), some .unsafePointer, some x => if (P.info? t).map (fun i => decide (i.size = 0)) = some false then some (.cvp x) else none
    | _, _, _ => none
  | .typeAssert x _ t true => match P.underlying t, zeroV P t, cO x with
    | some (.interface _), _, _ => none
    | some _, some z, some x => some (.tas t z x)
    | _, _, _ => none
  | .makeSlice t n c => match P.underlying t with
    | some (.slice e) => match P.info? e, zeroL P e, cO n, cO c with
      | some i, some zs, some n, some c => some (.mksl i.size i.bytes zs n c)
      | _, _, _, _ => none
    | _ => none
  | .range t x => match P.underlying t, cO x with
    | some .string, some x => some (.rng x)
    | _, _ => none
  | .next x true => (cO x).map .nxt
  | .call c => match c.callee with
    | .builtin .len => match c.argTypes[0]?, c.args[0]? with
      | some t, some x => match P.underlying t, cO x with
        | some .string, some x => some (.lenS x)
        | some (.slice _), some x => some (.lenL x)
        | _, _ => none
      | _, _ => none
    | .builtin .append => match c.argTypes.toList, c.args.toList with
      | [t, t'], [x, y] => if t = t' then match P.underlying t with
        | some (.slice e) => match P.info? e, cO x, cO y with
          | some i, some x, some y => if (i.zero.map (·.cells.size)) = some i.size then some (.append e i.size i.bytes x y) else none
          | _, _, _ => none
        | _ => none else none
      | _, _ => none
    | .builtin .min => match c.args.toList with
      | [x, y] => match cO x, cO y with
        | some x, some y => some (.mm false x y)
        | _, _ => none
      | _ => none
    | .builtin .max => match c.args.toList with
      | [x, y] => match cO x, cO y with
        | some x, some y => some (.mm true x y)
        | _, _ => none
      | _ => none
    | .invoke x name => match cO x, cOL c.args.toList with
      | some (.t n), some l => some (.call (.m (methTab P name) n) l)
      | _, _ => none
    | .value g => match cO g, cOL c.args.toList with
      | some g, some l => some (.call g l)
      | _, _ => none
    | _ => none
  | _ => none

end Go.Eng
