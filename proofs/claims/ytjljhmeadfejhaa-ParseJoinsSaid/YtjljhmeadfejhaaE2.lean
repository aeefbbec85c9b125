/- The engine, part 2: operations, compiled from the program's own, and what they do to abstract values. -/
import Derived.Test.YtjljhmeadfejhaaE1
set_option linter.unusedVariables false
set_option linter.unusedSimpArgs false
namespace Go.Eng

inductive Opnd where
  | t (n : Nat)
  | c (x : AV)
  | m (tbl : List (TypeId × FuncId)) (n : Nat)
  deriving Inhabited

/-- What an (in)equality compares. -/
inductive EqK where
  | no | bool | ptr | fnc | ifc | mp | strct (fs : List (Nat × Nat))
  deriving Inhabited

inductive AOp where
  | mv (x : Opnd)
  | pick (c a b : Opnd)
  | alloc (zs : List AV)
  | box (x : Opnd)
  | build (zs : List AV) (ps : List (Nat × Nat × Opnd))
  | lit (sz : Nat) (ps : List Opnd)
  | load (k : Option Nat) (x : Opnd)
  | store (n : Nat) (x y : Opnd)
  | nilck (x : Opnd)
  | bin (op : BinOp) (e : EqK) (x y : Opnd)
  | un (op : UnOp) (x : Opnd)
  | fld (off : Nat) (k : Option Nat) (x : Opnd)
  | fa (off : Nat) (x : Opnd)
  | ia (sz : Nat) (x i : Opnd)
  | iaA (len sz : Nat) (x i : Opnd)
  | ixS (x i : Opnd)
  | ixA (len : Nat) (x i : Opnd)
  | lookup (ks : Bool) (z : AV) (ok : Bool) (m k : Opnd)
  | mupd (ks : Bool) (m k v : Opnd)
  | mkmap
  | mkif (t : TypeId) (x : Opnd)
  | mkfn (g : FuncId) (first caps : List Opnd)
  | ext (i : Nat) (x : Opnd)
  | lenS (x : Opnd)
  | lenL (x : Opnd)
  | append (e : TypeId) (sz bytes : Nat) (x y : Opnd)
  | call (g : Opnd) (args : List Opnd)
  | slcS (x : Opnd) (lo hi : Option Opnd)
  | slcL (sz : Nat) (x : Opnd) (lo hi : Option Opnd)
  | conv (k : IntKind) (x : Opnd)
  | nop (x : Opnd)
  | tas (t : TypeId) (z : AV) (x : Opnd)
  | mksl (sz bytes : Nat) (zs : List AV) (n c : Opnd)
  | rng (x : Opnd)
  | nxt (x : Opnd)
  | mm (mx : Bool) (x y : Opnd)
  | cvp (x : Opnd)
  deriving Inhabited

/-! ### frames -/
abbrev Fr := List (Nat × AV)
def lk : Fr → Nat → Option AV
  | [], _ => none
  | (j, x) :: f, i => if i = j then some x else lk f i
def lookM (t : TypeId) : List (TypeId × FuncId) → Option FuncId
  | [] => none
  | (u, g) :: l => if t = u then some g else lookM t l
/-- The method of a value behind an interface, bound to it. -/
def bindM (tbl : List (TypeId × FuncId)) : Option AV → AV
  | some (.iface t y) => match lookM t tbl with
    | some g => .fn g [y] []
    | none => .undef
  | _ => .undef
def ev (f : Fr) : Opnd → AV
  | .t n => (lk f n).getD .undef
  | .c x => x
  | .m tbl n => bindM tbl (lk f n)
def put (f : Fr) (d : Option Nat) (x : AV) : Fr :=
  match d with
  | some i => (i, x) :: f
  | none => f

/-! ### normal forms -/
mutual
/-- Read-only: append tokens forgotten; none: there are ids. -/
def ro : AV → Option AV
  | .esl => some (.rsl [])
  | .osl _ es => some (.rsl es)
  | .ptr _ _ | .msl _ _ _ _ | .map _ => none
  | .agg cs => (roL cs).map .agg
  | .tup cs => (roL cs).map .tup
  | .iface t x => (ro x).map (.iface t)
  | .fn g fs cs => (roL fs).bind fun fs' => (roL cs).map (.fn g fs')
  | x => some x
def roL : List AV → Option (List AV)
  | [] => some []
  | x :: l => (ro x).bind fun y => (roL l).map (y :: ·)
end
mutual
/-- As an argument: append tokens forgotten, ids kept. -/
def nrm : AV → AV
  | .esl => .rsl []
  | .osl _ es => .rsl es
  | .agg cs => .agg (nrmL cs)
  | .tup cs => .tup (nrmL cs)
  | .iface t x => .iface t (nrm x)
  | .fn g fs cs => .fn g (nrmL fs) (nrmL cs)
  | x => x
def nrmL : List AV → List AV
  | [] => []
  | x :: l => nrm x :: nrmL l
end

/-! ### plain operations -/
def setL (cs : List AV) (o : Nat) (ys : List AV) : List AV := cs.take o ++ ys ++ cs.drop (o + ys.length)
def fillA (cs : List AV) : List (Nat × Nat × AV) → Option (List AV)
  | [] => some cs
  | (o, n, x) :: r => if x.cells.length = n ∧ o + n ≤ cs.length ∧ x.cells.all AV.one then fillA (setL cs o x.cells) r else none
def loadA (k : Option Nat) (cs : List AV) : Option AV :=
  match k with
  | none => cs[0]?
  | some n => if n ≤ cs.length then some (.agg (cs.take n)) else none
/-- The cells that begin at an address. -/
def cellsAt (h : List AO) : AV → Option (List AV)
  | .ptr i o => match h[i]? with
    | some (.box cs) => if o ≤ cs.length then some (cs.drop o) else none
    | _ => none
  | .rptr cs => some cs
  | _ => none
def storeA (h : List AO) (n : Nat) (x y : AV) : Option (List AO) :=
  match x with
  | .ptr i o => match h[i]? with
    | some (.box cs) => if y.cells.length = n ∧ o + n ≤ cs.length ∧ y.cells.all AV.one then some (h.set i (.box (setL cs o y.cells))) else none
    | _ => none
  | _ => none
def binI (op : BinOp) (k : IntKind) (a b : Int) : Option AV :=
  match op with
  | .add => some (.int k (k.wrap (a + b)))
  | .sub => some (.int k (k.wrap (a - b)))
  | .mul => some (.int k (k.wrap (a * b)))
  | .quo => if b = 0 then none else some (.int k (k.wrap (a.tdiv b)))
  | .rem => if b = 0 then none else some (.int k (a.tmod b))
  | .and => some (.int k (k.wrap (BitVec.ofInt k.bits a &&& BitVec.ofInt k.bits b).toNat))
  | .or => some (.int k (k.wrap (BitVec.ofInt k.bits a ||| BitVec.ofInt k.bits b).toNat))
  | .xor => some (.int k (k.wrap (BitVec.ofInt k.bits a ^^^ BitVec.ofInt k.bits b).toNat))
  | .andNot => some (.int k (k.wrap (BitVec.ofInt k.bits a &&& ~~~ BitVec.ofInt k.bits b).toNat))
  | .eql => some (.bool (decide (a = b)))
  | .neq => some (.bool (decide (a ≠ b)))
  | .lss => some (.bool (decide (a < b)))
  | .leq => some (.bool (decide (a ≤ b)))
  | .gtr => some (.bool (decide (a > b)))
  | .geq => some (.bool (decide (a ≥ b)))
  | .shl | .shr => none
def shI (op : BinOp) (k : IntKind) (a b : Int) : Option AV :=
  if b < 0 then none else
  match op with
  | .shl => some (.int k (k.wrap (a * 2 ^ (min b.toNat k.bits))))
  | .shr => some (.int k (a.fdiv (2 ^ (min b.toNat k.bits))))
  | _ => none
def binS (op : BinOp) (a b : ByteArray) : Option AV :=
  match op with
  | .add => if a.size + b.size ≤ 9223372036854775807 then some (.str (a ++ b)) else none
  | .eql => some (.bool (decide (a = b)))
  | .neq => some (.bool (decide (a ≠ b)))
  | .lss => some (.bool (Op.bytesLess a.toList b.toList))
  | .leq => some (.bool (Op.bytesLess a.toList b.toList || decide (a = b)))
  | .gtr => some (.bool !(Op.bytesLess a.toList b.toList || decide (a = b)))
  | .geq => some (.bool !(Op.bytesLess a.toList b.toList))
  | _ => none
/-- Are two values, one of them nil, the same? -/
def nilEq : EqK → AV → AV → Option Bool
  | .ptr, .nilp, .nilp => some true
  | .ptr, .nilp, .ptr _ _ | .ptr, .ptr _ _, .nilp | .ptr, .nilp, .rptr _ | .ptr, .rptr _, .nilp => some false
  | .fnc, .nilfn, .nilfn => some true
  | .fnc, .nilfn, .fn _ _ _ | .fnc, .fn _ _ _, .nilfn => some false
  | .mp, .nilmap, .nilmap => some true
  | .mp, .nilmap, .map _ | .mp, .map _, .nilmap => some false
  | .ifc, .nilif, .nilif => some true
  | .ifc, .nilif, .iface _ _ | .ifc, .iface _ _, .nilif => some false
  | _, _, _ => none
/-- Two cells of plain types: 0 a number, 1 a text, 2 a truth. -/
def cellEq : Nat → AV → AV → Option Bool
  | 0, .int k a, .int k' b => if k = k' then some (decide (a = b)) else none
  | 1, .str a, .str b => some (decide (a = b))
  | 2, .bool a, .bool b => some (decide (a = b))
  | _, _, _ => none
def cellsEq (xs ys : List AV) : List (Nat × Nat) → Option Bool
  | [] => some true
  | (j, k) :: r => match xs[j]?, ys[j]? with
    | some x, some y => (cellEq k x y).bind fun b => if b then cellsEq xs ys r else some false
    | _, _ => none
def eqA (e : EqK) (x y : AV) : Option Bool :=
  match e, x, y with
  | .bool, .bool a, .bool b => some (decide (a = b))
  | .strct fs, .agg xs, .agg ys => cellsEq xs ys fs
  | e, x, y => nilEq e x y
def binA (op : BinOp) (e : EqK) (x y : AV) : Option AV :=
  match x, y with
  | .int k a, .int k' b => match op with
    | .shl | .shr => shI op k a b
    | _ => if k = k' then binI op k a b else none
  | .str a, .str b => binS op a b
  | x, y => match op with
    | .eql => (eqA e x y).map .bool
    | .neq => (eqA e x y).map fun b => .bool !b
    | _ => none
def unA (op : UnOp) (x : AV) : Option AV :=
  match op, x with
  | .not, .bool b => some (.bool !b)
  | .neg, .int k n => some (.int k (k.wrap (0 - n)))
  | _, _ => none
def elems : AV → Option (List AV)
  | .esl => some []
  | .rsl es | .osl _ es => some es
  | _ => none
def iaA_ (sz : Nat) (x : AV) (i : Int) : Option AV :=
  if i < 0 then none else
  match x with
  | .msl b o len _ => if i.toNat < len then some (.ptr b (o + i.toNat * sz)) else none
  | x => match elems x with
    | some es => match es[i.toNat]? with
      | some y => if y.cells.length = sz ∧ 0 < sz then some (.rptr y.cells) else none
      | none => none
    | none => none
def keyEq : AV → AV → Option Bool
  | .int k a, .int k' b => if k = k' then some (decide (a = b)) else none
  | .str a, .str b => some (decide (a = b))
  | _, _ => none
def findA (k : AV) : List (AV × AV) → Option (Option AV)
  | [] => some none
  | (a, v) :: r => match keyEq k a with
    | some true => some (some v)
    | some false => findA k r
    | none => none
def updA (k v : AV) : List (AV × AV) → Option (List (AV × AV))
  | [] => some [(k, v)]
  | (a, u) :: r => match keyEq k a with
    | some true => some ((k, v) :: r)
    | some false => (updA k v r).map ((a, u) :: ·)
    | none => none
def isKey : Bool → AV → Bool
  | false, .int _ _ | true, .str _ => true
  | _, _ => false
def appA (h : List AO) (e sz bytes : Nat) (x : AV) (ys : List AV) : Option (AV × List AO) :=
  if ¬ (0 < sz ∧ 0 < bytes ∧ ys.all (fun y => decide (y.cells.length = sz) && y.cells.all AV.one)) then none else
  match x with
  | .esl => match ys with
    | [] => some (.esl, h)
    | ys => if ys.length * bytes ≤ 140737488355328 then some (.osl h.length ys, h ++ [.tok e sz ys.length]) else none
  | .osl t es => match h[t]? with
    | some (.tok e' sz' n) => if e' = e ∧ sz' = sz ∧ n = es.length ∧ (es.length + ys.length) * bytes ≤ 140737488355328 then some (.osl t (es ++ ys), h.set t (.tok e sz (n + ys.length))) else none
    | _ => none
  | _ => none
def lenA : AV → Option Nat
  | .msl _ _ len _ => some len
  | x => (elems x).map List.length

def P0 (x : Option AV) (h : List AO) : Option (AV × List AO) := x.map fun y => (y, h)

/-- A bound of a cut. -/
def bnd1 (f : Fr) (d : Int) (b : Option Opnd) : Option Int :=
  match b with
  | none => some d
  | some o => match ev f o with
    | .int _ n => some n
    | _ => none
/-- A plain operation: no call. -/
def evP (f : Fr) (h : List AO) : AOp → Option (AV × List AO)
  | .mv x => some (ev f x, h)
  | .pick c a b => match ev f c with
    | .bool true => some (ev f a, h)
    | .bool false => some (ev f b, h)
    | _ => none
  | .alloc zs => some (.ptr h.length 0, h ++ [.box zs])
  | .box x => if (ev f x).cells.all AV.one then some (.ptr h.length 0, h ++ [.box (ev f x).cells]) else none
  | .build zs ps => P0 ((fillA zs (ps.map fun p => (p.1, p.2.1, ev f p.2.2))).map .agg) h
  | .lit sz ps => match ps with
    | [] => some (.esl, h)
    | ps => match roL (ps.map (ev f)) with
      | some es => if 0 < sz ∧ es.all (fun y => decide (y.cells.length = sz) && y.cells.all AV.one) then some (.rsl es, h) else none
      | none => none
  | .load k x => match cellsAt h (ev f x) with
    | some cs => P0 (loadA k cs) h
    | none => none
  | .store n x y => (storeA h n (ev f x) (ev f y)).map fun h' => (.undef, h')
  | .nilck x => match ev f x with
    | .ptr i o => some (.ptr i o, h)
    | .rptr cs => some (.rptr cs, h)
    | .fn g a b => some (.fn g a b, h)
    | .iface t y => some (.iface t y, h)
    | _ => none
  | .bin op e x y => P0 (binA op e (ev f x) (ev f y)) h
  | .un op x => P0 (unA op (ev f x)) h
  | .fld off k x => match ev f x with
    | .agg cs => if off ≤ cs.length then P0 (loadA k (cs.drop off)) h else none
    | _ => none
  | .fa off x => match ev f x with
    | .ptr i o => some (.ptr i (o + off), h)
    | .rptr cs => some (.rptr (cs.drop off), h)
    | _ => none
  | .ia sz x i => match ev f i with
    | .int _ n => P0 (iaA_ sz (ev f x) n) h
    | _ => none
  | .iaA len sz x i => match ev f x, ev f i with
    | .ptr b o, .int _ n => if 0 ≤ n ∧ n < len then some (.ptr b (o + n.toNat * sz), h) else none
    | .rptr cs, .int _ n => if 0 ≤ n ∧ n < len then some (.rptr (cs.drop (n.toNat * sz)), h) else none
    | _, _ => none
  | .ixS x i => match ev f x, ev f i with
    | .str s, .int _ n => if 0 ≤ n then (s.data.toList[n.toNat]?).map (fun b => (.int .u8 b.toNat, h)) else none
    | _, _ => none
  | .ixA len x i => match ev f x, ev f i with
    | .agg cs, .int _ n => if 0 ≤ n ∧ n < len then (cs[n.toNat]?).map (fun y => (y, h)) else none
    | _, _ => none
  | .lookup ks z ok m k =>
    let k' := ev f k
    if isKey ks k' then
      match ev f m with
      | .nilmap => some (if ok then .tup [z, .bool false] else z, h)
      | .map i => match h[i]? with
        | some (.map es) => match findA k' es with
          | some (some v) => some (if ok then .tup [v, .bool true] else v, h)
          | some none => some (if ok then .tup [z, .bool false] else z, h)
          | none => none
        | _ => none
      | _ => none
    else none
  | .mupd ks m k v =>
    let k' := ev f k
    if isKey ks k' then
      match ev f m with
      | .map i => match h[i]? with
        | some (.map es) => (updA k' (ev f v) es).map fun es' => (.undef, h.set i (.map es'))
        | _ => none
      | _ => none
    else none
  | .mkmap => some (.map h.length, h ++ [.map []])
  | .mkif t x => some (.iface t (ev f x), h)
  | .mkfn g fs cs => some (.fn g (fs.map (ev f)) (cs.map (ev f)), h)
  | .ext i x => match ev f x with
    | .tup xs => (xs[i]?).map fun y => (y, h)
    | _ => none
  | .lenS x => match ev f x with
    | .str s => some (.int .i64 s.size, h)
    | _ => none
  | .lenL x => (lenA (ev f x)).map fun (n : Nat) => (.int .i64 (n : Int), h)
  | .append e sz bytes x y => match elems (ev f y) with
    | some ys => appA h e sz bytes (ev f x) ys
    | none => none
  | .slcS x lo hi => match ev f x with
    | .str s =>
      match bnd1 f s.size hi, bnd1 f 0 lo with
      | some b, some a => if 0 ≤ a ∧ a ≤ b ∧ b ≤ s.size then some (.str (s.extract a.toNat b.toNat), h) else none
      | _, _ => none
    | _ => none
  | .slcL sz x lo hi => match elems (ev f x) with
    | some es =>
      match bnd1 f es.length hi, bnd1 f 0 lo with
      | some b, some a => if 0 ≤ a ∧ a ≤ b ∧ b ≤ es.length ∧ es.all (fun y => decide (y.cells.length = sz)) then some (.rsl ((es.take b.toNat).drop a.toNat), h) else none
      | _, _ => none
    | none => none
  | .conv k x => match ev f x with
    | .int _ n => some (.int k (k.wrap n), h)
    | _ => none
  | .nop x => match ev f x with
    | .str s => some (.str s, h)
    | _ => none
  | .tas t z x => match ev f x with
    | .iface u y => some (if u = t then .tup [y, .bool true] else .tup [z, .bool false], h)
    | .nilif => some (.tup [z, .bool false], h)
    | _ => none
  | .mksl sz bytes zs n c => match ev f n, ev f c with
    | .int .i64 a, .int .i64 b => if 0 ≤ a ∧ a ≤ b ∧ b * bytes ≤ 281474976710656 ∧ 0 < sz ∧ zs.length = sz ∧ zs.all AV.one ∧ b < 9223372036854775808 then
        some (.msl h.length 0 a.toNat b.toNat, h ++ [.box (List.replicate b.toNat zs).flatten]) else none
    | _, _ => none
  | .rng x => match ev f x with
    | .str s => some (.ptr h.length 0, h ++ [.siter s 0])
    | _ => none
  | .nxt x => match ev f x with
    | .ptr i 0 => match h[i]? with
      | some (.siter s pos) => if pos < s.size then some (.tup [.bool true, .int .i64 pos, .int .i32 (Utf8.decode s pos).1], h.set i (.siter s (pos + (Utf8.decode s pos).2))) else some (.tup [.bool false], h)
      | _ => none
    | _ => none
  | .call _ _ => none
  | .cvp x => match ev f x with
    | .ptr i o => match h[i]? with
      | some (.box cs) => if o < cs.length then some (.ptr i o, h) else none
      | _ => none
    | _ => none
  | .mm mx x y => match ev f x, ev f y with
    | .int k a, .int k' b => if k = k' then some (.int k (if mx then (if b > a then b else a) else if b < a then b else a), h) else none
    | _, _ => none

end Go.Eng
