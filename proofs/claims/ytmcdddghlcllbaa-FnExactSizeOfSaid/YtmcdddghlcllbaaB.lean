/- The abstract machine: single operations, regions, code, calls. Only definitions. -/
import Derived.Test.YtmcdddghlcllbaaA
import Derived.Laws.Sem
set_option autoImplicit false
namespace Go.Proofs.Ytmcdddghlcllbaa.Den

/-! ## Constants and types -/

def absC : Value → C
  | .int k n => .int k n
  | .bool b => .bool b
  | .string s => .str s
  | .pointer none => .nilp
  | .nilIface => .nili
  | .slice none 0 0 => .nils
  | .func (.func f) ⟨[]⟩ ⟨[]⟩ => .fn f
  | _ => .top

def absV : Value → V
  | .agg cs => if cs.all (·.oneCell') then .agg (cs.toList.map absC) else .any
  | .tuple ⟨[]⟩ => .tup []
  | .tuple _ => .any
  | v => .one (absC v)

def V.cells : V → Option (List C)
  | .one c => some [c]
  | .agg l => some l
  | .tup _ | .any => .none

/-- The kind of data that a variable of a Go type holds (the first argument bounds the depth). -/
def tyOf (P : Program) : Nat → TypeId → Option Ty
  | 0, _ => .none
  | d + 1, T => match P.underlying T with
    | some (.int k) => some (.int k)
    | some .bool => some .bool
    | some .string => some .str
    | some (.slice E) => match tyOf P d E with
      | some t => some (.slice t)
      | .none => .none
    | some (.struct fs) => chain (fs.toList.map fun f => tyOf P d f.type)
    | some (.array n E) => if n ≤ 8 then chain (List.replicate n (tyOf P d E)) else .none
    | _ => .none
where
  chain : List (Option Ty) → Option Ty
    | [] => some .unit
    | [t] => t
    | some t :: r => match chain r with
      | some u => some (.pair t u)
      | .none => .none
    | .none :: _ => .none

def depth0 : Nat := 8

def isAggT (P : Program) (T : TypeId) : Option Bool :=
  match P.underlying T with
  | some (.struct _) | some (.array _ _) => some true
  | some _ => some false
  | .none => .none

def sizeT (P : Program) (T : TypeId) : Option Nat := (P.info? T).map (·.size)

/-! ## Single operations -/

structure Test where
  p : Prop
  d : Decidable p

def test (p : Prop) [d : Decidable p] : Test := ⟨p, d⟩

structure Eff where
  tests : List Test
  v : V
  wr : List (Nat × O)

def ok (v : V) : Option Eff := some ⟨[], v, []⟩
def okC (c : C) : Option Eff := some ⟨[], .one c, []⟩

def undefV : V := .tup []

def takeCells (P : Program) (T : TypeId) (cells : List C) (off : Nat) : Option V :=
  match isAggT P T, sizeT P T with
  | some true, some n => if off + n ≤ cells.length then some (.agg ((cells.drop off).take n)) else .none
  | some false, _ => match cells[off]? with
    | some c => some (.one c)
    | .none => .none
  | _, _ => .none

def putCells (cells : List C) (off : Nat) (new : List C) : List C :=
  cells.take off ++ new ++ cells.drop (off + new.length)

def deads (g : List Nat) : List (Nat × O) := g.map fun j => (j, .dead)

def stLoad (P : Program) (h : Hp) (T : TypeId) : V → Option Eff
  | .one (.ptr id off) => match h id with
    | .box cells => (takeCells P T cells off).bind ok
    | _ => .none
  | .one (.ep id i off) => match h id with
    | .arr t l => (takeCells P T (encD t (rdT t l i)) off).bind ok
    | _ => .none
  | .one (.cptr t x off) => (takeCells P T (encD t x) off).bind ok
  | .one (.rep t x i off) => match h POOL with
    | .pool u pl => if u = t then (takeCells P T (encD u (rdT u (refL pl x) i)) off).bind ok else .none
    | _ => .none
  | _ => .none

def stStore (P : Program) (h : Hp) (T : TypeId) (a v : V) : Option Eff :=
  match v.cells, sizeT P T with
  | some new, some n =>
    if new.length = n then
      match a with
      | .one (.ptr id off) => match h id with
        | .box cells => if off + n ≤ cells.length then some ⟨[], undefV, [(id, .box (putCells cells off new))]⟩ else .none
        | _ => .none
      | .one (.ep id i off) => match h id with
        | .arr t l =>
          if off + n ≤ t.size then
            match decD t (putCells (encD t (rdT t l i)) off new) h with
            | some (x, [], g) => if g.contains id then .none else some ⟨[], undefV, (id, .arr t (l.set i x)) :: deads g⟩
            | _ => .none
          else .none
        | _ => .none
      | .one (.rep t x i off) => match h POOL with
        | .pool u pl =>
          if u = t ∧ off + n ≤ u.size then
            match decD u (putCells (encD u (rdT u (refL pl x) i)) off new) h with
            | some (y, [], []) => some ⟨[], undefV, [(POOL, .pool u (refSet pl x ((refL pl x).set i y)))]⟩
            | _ => .none
          else .none
        | _ => .none
      | _ => .none
    else .none
  | _, _ => .none

def fieldOffs (P : Program) (S : TypeId) (f : Nat) : Option (Nat × TypeId) :=
  match P.underlying S with
  | some (.struct fs) => match fs[f]? with
    | some fd => some (fd.offset, fd.type)
    | .none => .none
  | _ => .none

/-- Whether an address leads to memory that is still the call's own (or to plain data). -/
def alive (h : Hp) : C → Bool
  | .ptr id _ => match h id with
    | .box _ => true
    | _ => false
  | .ep id _ _ => match h id with
    | .arr _ _ => true
    | _ => false
  | .cptr _ _ _ => true
  | .rep t _ _ _ => match h POOL with
    | .pool u _ => decide (u = t)
    | _ => false
  | _ => false

def addOff (o : Nat) : C → C
  | .ptr id off => .ptr id (off + o)
  | .ep id i off => .ep id i (off + o)
  | .cptr t x off => .cptr t x (off + o)
  | .rep t x i off => .rep t x i (off + o)
  | c => c

def stFieldAddr (P : Program) (h : Hp) (S : TypeId) (f : Nat) : V → Option Eff
  | .one c => if alive h c = true then (fieldOffs P S f).bind fun (o, T) => if sizeT P T = some 0 then .none else if (sizeT P T).isSome then okC (addOff o c) else .none else .none
  | _ => .none

def stField (P : Program) (S : TypeId) (f : Nat) : V → Option Eff
  | .agg cells => (fieldOffs P S f).bind fun (o, T) => (takeCells P T cells o).bind ok
  | _ => .none

def lenL (n : Nat) (lo hi : Option Nat) : Nat :=
  match lo, hi with
  | .none, .none => n
  | .none, some j => j
  | some i, .none => n - i
  | some i, some j => j - i

def addLo (lo : Option Nat) (i : Nat) : Nat :=
  match lo with
  | .none => i
  | some j => j + i

def stIndexAddr (P : Program) (h : Hp) (T : TypeId) (x i : V) : Option Eff :=
  match P.underlying T, i with
  | some (.slice E), .one (.int _ n) =>
    match x with
    | .one (.list t l) => if sizeT P E = some t.size then some ⟨[test (0 ≤ n), test (n < (l.length : Int))], .one (.cptr t (rdT t l n.toNat) 0), []⟩ else .none
    | .one (.sl id lo hi) => match h id with
      | .arr t l => if sizeT P E = some t.size then some ⟨[test (0 ≤ n), test (n < (lenL l.length lo hi : Int))], .one (.ep id (addLo lo n.toNat) 0), []⟩ else .none
      | .fro t l => if sizeT P E = some t.size then some ⟨[test (0 ≤ n), test (n < (lenL l.length lo hi : Int))], .one (.cptr t (rdT t l (addLo lo n.toNat)) 0), []⟩ else .none
      | .al t k m => match lo, hi with
        | .none, .none => if sizeT P E = some t.size then some ⟨[test (0 ≤ n), test (n < (m : Int))], .one (.rep t (k + 1) n.toNat 0), []⟩ else .none
        | _, _ => .none
      | _ => .none
    | .one (.ref t x) => match h POOL with
      | .pool u pl => if u = t ∧ sizeT P E = some t.size then some ⟨[test (0 ≤ n), test (n < ((refL pl x).length : Int))], .one (.rep t x n.toNat 0), []⟩ else .none
      | _ => .none
    | _ => .none
  | _, _ => .none

def bt (s : ByteArray) (i : Nat) : Int := ((s.data.getD i 0).toNat : Int)

def stIndex (P : Program) (T : TypeId) (x i : V) : Option Eff :=
  match P.underlying T, x, i with
  | some .string, .one (.str s), .one (.int _ n) => some ⟨[test (0 ≤ n), test (n < (s.size : Int))], .one (.int .u8 (bt s n.toNat)), []⟩
  | some (.array len E), .agg cells, .one (.int _ n) =>
    match sizeT P E with
    | some sz => if 0 ≤ n then if n < (len : Int) then (takeCells P E cells (n.toNat * sz)).bind ok else .none else .none
    | .none => .none
  | _, _, _ => .none

/-- The bounds of a slice expression over n elements: the tests and the new ends. -/
def bounds (n : Nat) (lo hi : Option V) : Option (List Test × Option Nat × Option Nat) :=
  match lo, hi with
  | .none, .none => some ([], .none, .none)
  | some (.one (.int _ a)), .none => some ([test (0 ≤ a), test (a ≤ (n : Int))], some a.toNat, .none)
  | .none, some (.one (.int _ b)) => some ([test (0 ≤ b), test (b ≤ (n : Int))], .none, some b.toNat)
  | some (.one (.int _ a)), some (.one (.int _ b)) => some ([test (0 ≤ b), test (b ≤ (n : Int)), test (0 ≤ a), test (a ≤ b)], some a.toNat, some b.toNat)
  | _, _ => .none

def cutS (lo hi : Option Nat) (s : ByteArray) : ByteArray :=
  match lo, hi with
  | .none, .none => s
  | .none, some j => s.extract 0 j
  | some i, .none => s.extract i s.size
  | some i, some j => s.extract i j

def stSlice (P : Program) (h : Hp) (T : TypeId) (x : V) (lo hi : Option V) : Option Eff :=
  match P.underlying T, x with
  | some .string, .one (.str s) => (bounds s.size lo hi).bind fun (ts, a, b) => some ⟨ts, .one (.str (cutS a b s)), []⟩
  | some (.slice E), .one (.list t l) => if sizeT P E = some t.size then (bounds l.length lo hi).bind fun (ts, a, b) => some ⟨ts, .one (.list t (cutL a b l)), []⟩ else .none
  | some (.slice E), .one (.sl id .none .none) => match h id with
    | .arr t l => if sizeT P E = some t.size then (bounds l.length lo hi).bind fun (ts, a, b) => some ⟨ts, .one (.sl id a b), []⟩ else .none
    | .fro t l => if sizeT P E = some t.size then (bounds l.length lo hi).bind fun (ts, a, b) => some ⟨ts, .one (.list t (cutL a b l)), []⟩ else .none
    | _ => .none
  | _, _ => .none

def sizeN (s t : ByteArray) : Prop := (s.size + t.size : Nat) ≤ 9223372036854775807
instance (s t : ByteArray) : Decidable (sizeN s t) := inferInstanceAs (Decidable (_ ≤ _))

def scalarT (P : Program) (T : TypeId) : Bool :=
  match P.underlying T with
  | some (.int _) | some .bool | some .string => true
  | _ => false

/-- Whether a type is compared cell by cell (bools, numbers, texts; structs and arrays of them, without blank fields), and how many cells it has. -/
def flatEq (P : Program) (T : TypeId) : Option Nat :=
  match P.underlying T with
  | some (.int _) | some .bool | some .string => some 1
  | some (.struct fs) => if P.stoodInHeld T then .none else if P.eqGuardType P.depth T then .none else walk fs.toList 0
  | some (.array n E) => if scalarT P E ∧ sizeT P E = some 1 ∧ n ≤ 8 ∧ P.eqGuardType P.depth T = false then some n else .none
  | _ => .none
where
  walk : List Field → Nat → Option Nat
    | [], n => some n
    | f :: r, n => if f.name ≠ "_" ∧ f.offset = n ∧ scalarT P f.type then walk r (n + 1) else .none

/-- Equality of two cells of a scalar type. -/
def eqS (P : Program) (T : TypeId) (c d : C) : Option Bool :=
  match P.underlying T, c, d with
  | some (.int _), .int k a, .int k' b => if k = k' then some (a == b) else .none
  | some .bool, .bool a, .bool b => some (a == b)
  | some .string, .str a, .str b => some (a.toList == b.toList)
  | _, _, _ => .none

def eqFs (P : Program) : List Field → Nat → List C → List C → Option Bool
  | [], _, _, _ => some true
  | f :: r, n, c :: cs, d :: ds => if f.name ≠ "_" ∧ f.offset = n then
      match eqS P f.type c d with
      | some a => if r.isEmpty = true then some a else match eqFs P r (n + 1) cs ds with
        | some b => some (a && b)
        | .none => .none
      | .none => .none
    else .none
  | _, _, _, _ => .none

def eqIs (P : Program) (E : TypeId) : Nat → List C → List C → Option Bool
  | 0, _, _ => some true
  | n + 1, c :: cs, d :: ds => match eqS P E c d with
      | some a => if n = 0 then some a else match eqIs P E n cs ds with
        | some b => some (a && b)
        | .none => .none
      | .none => .none
  | _, _, _ => .none

/-- Equality of two structs or arrays of scalars. -/
def eqV (P : Program) (T : TypeId) (xs ys : List C) : Option Bool :=
  match P.underlying T with
  | some (.struct fs) => if P.stoodInHeld T then .none else if P.eqGuardType P.depth T then .none else eqFs P fs.toList 0 xs ys
  | some (.array n E) => if scalarT P E ∧ sizeT P E = some 1 ∧ P.eqGuardType P.depth T = false then eqIs P E n xs ys else .none
  | _ => .none

def cmpI : BinOp → Int → Int → Option Bool
  | .eql, x, y => some (x == y)
  | .neq, x, y => some (x != y)
  | .lss, x, y => some (decide (x < y))
  | .leq, x, y => some (decide (x ≤ y))
  | .gtr, x, y => some (decide (x > y))
  | .geq, x, y => some (decide (x ≥ y))
  | _, _, _ => .none

def bitsI (k : IntKind) (f : BitVec k.bits → BitVec k.bits → BitVec k.bits) (x y : Int) : Int :=
  k.wrap (f (BitVec.ofInt k.bits x) (BitVec.ofInt k.bits y)).toNat

def binI (op : BinOp) (k : IntKind) (x y : Int) : Option Eff :=
  match op with
  | .add => okC (.int k (k.wrap (x + y)))
  | .sub => okC (.int k (k.wrap (x - y)))
  | .mul => okC (.int k (k.wrap (x * y)))
  | .quo => some ⟨[test (y ≠ 0)], .one (.int k (k.wrap (x.tdiv y))), []⟩
  | .rem => some ⟨[test (y ≠ 0)], .one (.int k (x.tmod y)), []⟩
  | .and => okC (.int k (bitsI k (· &&& ·) x y))
  | .or => okC (.int k (bitsI k (· ||| ·) x y))
  | .xor => okC (.int k (bitsI k (· ^^^ ·) x y))
  | .andNot => okC (.int k (bitsI k (fun a b => a &&& ~~~b) x y))
  | _ => match cmpI op x y with
    | some b => okC (.bool b)
    | .none => .none

def strS (op : BinOp) (x y : ByteArray) : Option Eff :=
  match op with
  | .add => some ⟨[test (sizeN x y)], .one (.str (x ++ y)), []⟩
  | .eql => okC (.bool (x.toList == y.toList))
  | .neq => okC (.bool (!(x.toList == y.toList)))
  | .lss => okC (.bool (Op.bytesLess x.toList y.toList))
  | .leq => okC (.bool (Op.bytesLess x.toList y.toList || x.toList == y.toList))
  | .gtr => okC (.bool (!(Op.bytesLess x.toList y.toList || x.toList == y.toList)))
  | .geq => okC (.bool (!Op.bytesLess x.toList y.toList))
  | _ => .none

def isNil : C → Option Bool
  | .nils | .nilp => some true
  | .ptr _ _ | .ep _ _ _ | .cptr _ _ _ => some false
  | _ => .none

def isConst : Operand → Bool
  | .const _ => true
  | _ => false

def stBin (P : Program) (op : BinOp) (T : TypeId) (cst : Bool) (x y : V) : Option Eff :=
  match x, y with
  | .one (.int k a), .one (.int k' b) =>
    match op with
    | .shl => some ⟨[test (0 ≤ b)], .one (.int k (k.wrap (a * 2 ^ (min b.toNat k.bits)))), []⟩
    | .shr => some ⟨[test (0 ≤ b)], .one (.int k (a.fdiv (2 ^ (min b.toNat k.bits)))), []⟩
    | op => if k = k' then binI op k a b else .none
  | .one (.str a), .one (.str b) => strS op a b
  | .one (.bool a), .one (.bool b) =>
    match P.underlying T with
    | some .bool => match op with
      | .eql => okC (.bool (a == b))
      | .neq => okC (.bool (!(a == b)))
      | _ => .none
    | _ => .none
  | .one .nili, .one .nili =>
    if cst = true then
      match P.underlying T with
      | some (.interface _) => match op with
        | .eql => okC (.bool true)
        | .neq => okC (.bool false)
        | _ => .none
      | _ => .none
    else .none
  | .agg xs, .agg ys =>
    match op with
    | .eql => (eqV P T xs ys).bind fun b => okC (.bool b)
    | .neq => (eqV P T xs ys).bind fun b => okC (.bool (!b))
    | _ => .none
  | _, _ => .none

def stUn (op : UnOp) : V → Option Eff
  | .one (.int k n) => match op with
    | .neg => okC (.int k (k.wrap (0 - n)))
    | .xor => okC (.int k (bitsI k (· ^^^ ·) (if k.signed then -1 else k.max) n))
    | _ => .none
  | .one (.bool b) => match op with
    | .not => okC (.bool (!b))
    | _ => .none
  | _ => .none

def bytesOf (l : List Int) : ByteArray := ⟨(l.map fun n => UInt8.ofNat n.toNat).toArray⟩
def byteList (s : ByteArray) : List Int := s.data.toList.map fun b => (b.toNat : Int)

def stConvert (P : Program) (h : Hp) (n : Nat) (src dst : TypeId) (x : V) : Option Eff :=
  match P.underlying src, P.underlying dst, x with
  | some (.int _), some (.int k), .one (.int _ m) => okC (.int k (k.wrap m))
  | some .string, some .string, .one (.str s) => okC (.str s)
  | some (.slice E), some .string, .one c => match P.underlying E with
    | some (.int .u8) => match asList (.int .u8) c h with
      | some (l, _) => okC (.str (bytesOf l))
      | .none => .none
    | _ => .none
  | some .string, some (.slice E), .one (.str s) => match P.underlying E with
    | some (.int .u8) => some ⟨[], .one (.sl n .none .none), [(n, .arr (.int .u8) (byteList s))]⟩
    | _ => .none
  | _, _, _ => .none

def zeroCells (P : Program) (T : TypeId) : Option (List C) :=
  match P.info? T with
  | some i => match i.zero with
    | some z => if z.cells.all (·.oneCell') then some (z.cells.toList.map absC) else .none
    | .none => .none
  | .none => .none

/-- Cells of zero, as many as asked. -/
def zrow (z : List C) (n : Nat) : List C := (List.range n).map fun j => z.getD (j % z.length) .top

def fillC : List (Nat × Nat) → List C → List (Nat × V) → Option (List C)
  | _, cells, [] => some cells
  | places, cells, (i, v) :: r =>
    match places[i]?, v.cells with
    | some (off, sz), some new => if new.length = sz ∧ off + sz ≤ cells.length then fillC places (putCells cells off new) r else .none
    | _, _ => .none

def decN (t : Ty) (h : Hp) : Nat → List C → Option (List t.D × List Nat)
  | 0, [] => some ([], [])
  | 0, _ => .none
  | n + 1, cells => match decD t cells h with
    | some (x, r, g) => match decN t h n r with
      | some (l, g') => some (x :: l, g ++ g')
      | .none => .none
    | .none => .none

def placesOf (P : Program) (fs : List Field) : Option (List (Nat × Nat)) :=
  match fs with
  | [] => some []
  | f :: r => match sizeT P f.type, placesOf P r with
    | some n, some l => some ((f.offset, n) :: l)
    | _, _ => .none

def stBuild (P : Program) (T : TypeId) (parts : List (Nat × V)) : Option Eff :=
  match zeroCells P T, P.underlying T with
  | some z, some (.struct fs) => match placesOf P fs.toList with
    | some pl => (fillC pl z parts).bind fun cells => ok (.agg cells)
    | .none => .none
  | some z, some (.array n E) => match sizeT P E with
    | some sz => (fillC ((List.range n).map fun i => (i * sz, sz)) z parts).bind fun cells => ok (.agg cells)
    | .none => .none
  | _, _ => .none

/-- The first array of the call's own, of the pool's kind, among cells. -/
def absOf (u : Ty) (h : Hp) : List C → Option (Nat × List u.D)
  | [] => .none
  | .sl id .none .none :: r => match h id with
    | .arr t l => if e : t = u then some (id, castL e l) else absOf u h r
    | _ => absOf u h r
  | _ :: r => absOf u h r

/-- Elements put together: their data; where a pool is at hand, slices of its kind among them are places in it, and an array of the call's own is taken into it. -/
def newRows (P : Program) (h : Hp) (n : Nat) (t0 : Ty) (len : Nat) (cells : List C) : Option (List (Nat × O)) :=
  if len = 0 then match decN t0 h len cells with
    | some (l, g) => if g.contains n then .none else some (deads g ++ [(n, .arr t0 l)])
    | .none => .none
  else match h POOL with
  | .pool u pl =>
    if Ty.toRef u t0 = t0 then
      match decN t0 h len cells with
      | some (l, g) => if g.contains n then .none else some (deads g ++ [(n, .arr t0 l)])
      | .none => .none
    else if u.noRef = true then
      match absOf u h cells with
      | .none => match decN (Ty.toRef u t0) h len cells with
        | some (l, []) => some [(n, .arr (Ty.toRef u t0) l)]
        | _ => .none
      | some (B, l1) => match decN (Ty.toRef u t0) (fun i => if i = B then .al u pl.length l1.length else if i = POOL then .pool u (pl ++ [l1]) else h i) len cells with
        | some (l, []) => if B = n then .none else some [(POOL, .pool u (pl ++ [l1])), (B, .al u pl.length l1.length), (n, .arr (Ty.toRef u t0) l)]
        | _ => .none
    else .none
  | _ => match decN t0 h len cells with
    | some (l, g) => if g.contains n then .none else some (deads g ++ [(n, .arr t0 l)])
    | .none => .none

def stBuildSlice (P : Program) (h : Hp) (n : Nat) (T : TypeId) (len : Nat) (parts : List (Nat × V)) : Option Eff :=
  match P.underlying T with
  | some (.slice E) => match tyOf P depth0 E, sizeT P E, zeroCells P E with
    | some t, some sz, some z =>
      if sz = t.size ∧ 0 < sz ∧ z.length = sz ∧ len * sz ≤ 16777216 then
        match fillC ((List.range len).map fun i => (i * sz, sz)) (zrow z (len * sz)) parts with
        | some cells => match newRows P h n t len cells with
          | some wr => some ⟨[], .one (.sl n .none .none), wr⟩
          | .none => .none
        | .none => .none
      else .none
    | _, _, _ => .none
  | _ => .none

def zeroD (t : Ty) (z : List C) : Option t.D :=
  match decD t z (fun _ => .none) with
  | some (x, [], _) => some x
  | _ => .none

def big : Nat := 1099511627776

def stMakeSlice (P : Program) (n : Nat) (T : TypeId) (len cap : V) : Option Eff :=
  match P.underlying T, len, cap with
  | some (.slice E), .one (.int .i64 a), .one (.int .i64 b) => match tyOf P depth0 E, P.info? E, zeroCells P E with
    | some t, some inf, some z => match zeroD t z with
      | some x => if inf.size = t.size ∧ 0 < t.size ∧ z.length = t.size ∧ inf.bytes ≤ 128 then
          some ⟨[test (0 ≤ a), test (a ≤ b), test (b ≤ (big : Int))], .one (.sl n .none .none), [(n, .arr t (List.replicate a.toNat x))]⟩ else .none
      | .none => .none
    | _, _, _ => .none
  | _, _, _ => .none

/-- The elements that a slice cell shows, to be copied. -/
def rowsOf (t : Ty) (c : C) (h : Hp) : Option (List t.D) :=
  match asList t c h with
  | some (l, _) => some l
  | .none => match c with
    | .sl id lo hi => match h id with
      | .arr t' l => if e : t' = t then some (cutL lo hi (castL e l)) else .none
      | _ => .none
    | _ => .none

def stAppend (P : Program) (h : Hp) (n : Nat) (T : TypeId) (x y : V) : Option Eff :=
  match P.underlying T with
  | some (.slice E) => match P.info? E, zeroCells P E with
    | some inf, some z =>
      if 0 < inf.size ∧ inf.bytes ≤ 128 ∧ z.length = inf.size then
        match x, y with
        | .one .nils, .one c => match tyOf P depth0 E with
          | some t => match asList t c h with
            | some (l2, _) => if inf.size = t.size then some ⟨[test (l2.length ≤ big)], .one (.sl n .none .none), [(n, .arr t l2)]⟩ else .none
            | .none => .none
          | .none => .none
        | .one (.sl id lo hi), .one c => match h id with
          | .arr t l => match rowsOf t c h with
            | some l2 => if inf.size = t.size then
                some ⟨[test (lenL l.length lo hi + l2.length ≤ big)], .one (.sl n .none .none), [(id, .dead), (n, .arr t (cutL lo hi l ++ l2))]⟩ else .none
            | .none => .none
          | _ => .none
        | _, _ => .none
      else .none
    | _, _ => .none
  | _ => .none

def stLen (P : Program) (h : Hp) (T : TypeId) (x : V) : Option Eff :=
  match P.underlying T, x with
  | some .string, .one (.str s) => okC (.int .i64 (s.size : Int))
  | some (.slice _), .one (.list _ l) => okC (.int .i64 (l.length : Int))
  | some (.slice _), .one .nils => okC (.int .i64 0)
  | some (.slice _), .one (.sl id lo hi) => match h id with
    | .arr _ l => okC (.int .i64 (lenL l.length lo hi : Int))
    | .fro _ l => okC (.int .i64 (lenL l.length lo hi : Int))
    | .al _ _ m => match lo, hi with
      | .none, .none => okC (.int .i64 (m : Int))
      | _, _ => .none
    | _ => .none
  | some (.slice _), .one (.ref t x) => match h POOL with
    | .pool u pl => if u = t then okC (.int .i64 ((refL pl x).length : Int)) else .none
    | _ => .none
  | _, _ => .none

/-! ### Maps -/

def eqD : (t : Ty) → t.D → t.D → Bool
  | .int _, a, b => (show Int from a) == (show Int from b)
  | .bool, a, b => (show Bool from a) == (show Bool from b)
  | .str, a, b => (show ByteArray from a).toList == (show ByteArray from b).toList
  | .unit, _, _ => true
  | .pair s t, a, b => eqD s a.1 b.1 && eqD t a.2 b.2
  | .slice _, _, _ => false
  | .ref _, _, _ => false

def mget {k v : Ty} (l : List (k.D × v.D)) (x : k.D) : Option v.D :=
  match l with
  | [] => .none
  | e :: r => if eqD k x e.1 = true then some e.2 else mget r x

def mput {k v : Ty} (l : List (k.D × v.D)) (x : k.D) (y : v.D) : List (k.D × v.D) :=
  match l with
  | [] => [(x, y)]
  | e :: r => if eqD k x e.1 = true then (x, y) :: r else e :: mput r x y

/-- Keys that are numbers, or pairs of them (arrays of length two). -/
def keyOk (P : Program) (K : TypeId) : Ty → Bool
  | .int k => match P.underlying K with
    | some (.int k') => decide (k' = k)
    | _ => false
  | .pair (.int a) (.int b) => match P.underlying K with
    | some (.array 2 E) => (match P.underlying E with
      | some (.int c) => decide (c = a) && decide (c = b)
      | _ => false) && decide (sizeT P E = some 1)
    | _ => false
  | _ => false

/-- Elements that are numbers or bools, and their zero. -/
def elemOk (P : Program) (E : TypeId) : (v : Ty) → Option v.D
  | .int k => match (P.info? E).bind (·.zero) with
    | some (.int k' n) => if k' = k then some n else .none
    | _ => .none
  | .bool => match (P.info? E).bind (·.zero) with
    | some (.bool b) => some b
    | _ => .none
  | _ => .none

/-- A value as a key, or as an element. -/
def flatV : (t : Ty) → V → Option t.D
  | .int k, .one (.int k' n) => if k' = k then some n else .none
  | .bool, .one (.bool b) => some b
  | .pair (.int a) (.int b), .agg [.int a' m, .int b' n] => if a' = a ∧ b' = b then some (m, n) else .none
  | _, _ => .none

def oneD : (t : Ty) → t.D → C
  | .int k, n => .int k n
  | .bool, b => .bool b
  | _, _ => .top

def stMakeMap (P : Program) (n : Nat) (T : TypeId) : Option Eff :=
  match P.underlying T with
  | some (.map K E) => match tyOf P depth0 K, tyOf P depth0 E with
    | some k, some v => if keyOk P K k = true ∧ (elemOk P E v).isSome = true then some ⟨[], .one (.map n), [(n, .map k v [])]⟩ else .none
    | _, _ => .none
  | _ => .none

def stLookup (P : Program) (h : Hp) (T : TypeId) (x i : V) (commaOk : Bool) : Option Eff :=
  match P.underlying T, x with
  | some (.map K E), .one (.map id) => match h id with
    | .map k v l => match elemOk P E v, flatV k i with
      | some z, some key => if keyOk P K k = true then
          (if commaOk = true then ok (.tup [(false, [oneD v ((mget l key).getD z)]), (false, [.bool (mget l key).isSome])])
            else okC (oneD v ((mget l key).getD z)))
        else .none
      | _, _ => .none
    | _ => .none
  | _, _ => .none

def stMapUpdate (P : Program) (h : Hp) (T : TypeId) (x i y : V) : Option Eff :=
  match P.underlying T, x with
  | some (.map K E), .one (.map id) => match h id with
    | .map k v l => match elemOk P E v, flatV k i, flatV v y with
      | some _, some key, some val => if keyOk P K k = true then some ⟨[], undefV, [(id, .map k v (mput l key val))]⟩ else .none
      | _, _, _ => .none
    | _ => .none
  | _, _ => .none

def pickV (c : Bool) : V → V → V
  | .one (.bool a), .one (.bool b) => .one (.bool (if c = true then a else b))
  | .one (.int k a), .one (.int k' b) => if k = k' then .one (.int k (if c = true then a else b)) else (if c = true then .one (.int k a) else .one (.int k' b))
  | .one (.str a), .one (.str b) => .one (.str (if c = true then a else b))
  | a, b => if c = true then a else b

def clsC : C → List V → Option C
  | f, [] => some f
  | f, .one c :: r => clsC (.cl f c) r
  | _, _ => .none

/-- One operation that calls no function of the program. -/
def step (P : Program) (e : Operand → V) (h : Hp) (n : Nat) : Op → Option Eff
  | .move x | .assign x => ok (e x)
  | .pick c a b => match e c with
    | .one (.bool cb) => ok (pickV cb (e a) (e b))
    | _ => .none
  | .alloc T => match zeroCells P T with
    | some z => some ⟨[], .one (.ptr n 0), [(n, .box z)]⟩
    | .none => .none
  | .box _ x => match (e x).cells with
    | some cs => some ⟨[], .one (.ptr n 0), [(n, .box cs)]⟩
    | .none => .none
  | .build T parts => stBuild P T (parts.toList.map fun (i, x) => (i, e x))
  | .buildSlice T len parts => stBuildSlice P h n T len (parts.toList.map fun (i, x) => (i, e x))
  | .load T a => stLoad P h T (e a)
  | .store T a v => stStore P h T (e a) (e v)
  | .binOp op T x y _ => stBin P op T (isConst x || isConst y) (e x) (e y)
  | .unOp op _ x => stUn op (e x)
  | .convert s d x => stConvert P h n s d (e x)
  | .slice T x lo hi .none => stSlice P h T (e x) (lo.map e) (hi.map e)
  | .fieldAddr S x f => stFieldAddr P h S f (e x)
  | .field S x f => stField P S f (e x)
  | .indexAddr T x i => stIndexAddr P h T (e x) (e i)
  | .index T x i => stIndex P T (e x) (e i)
  | .extract t i => match e t with
    | .tup l => match l[i]? with
      | some (true, cs) => ok (.agg cs)
      | some (false, [c]) => okC c
      | _ => .none
    | _ => .none
  | .makeSlice T a b => stMakeSlice P n T (e a) (e b)
  | .makeFunc (.func f) first caps => match first.toList with
    | [] => match clsC (.fn f) (caps.toList.map e) with
      | some c => okC c
      | .none => .none
    | _ => .none
  | .nilCheck x => match e x with
    | .one c => if alive h c = true then okC c else .none
    | _ => .none
  | .makeMap T .none => stMakeMap P n T
  | .lookup T x i c => stLookup P h T (e x) (e i) c
  | .mapUpdate T x i y => stMapUpdate P h T (e x) (e i) (e y)
  | .insert T x i y => stMapUpdate P h T (e x) (e i) (e y)
  | .call { callee := .builtin b, args, argTypes } => match b, args.toList, argTypes.toList with
    | .len, [x], [T] => stLen P h T (e x)
    | .append, [x, y], [T, U] => if T = U then stAppend P h n T (e x) (e y) else .none
    | .min, [x, y], _ => match e x, e y with
      | .one (.int k a), .one (.int _ b) => okC (.int k (if b < a then b else a))
      | _, _ => .none
    | .max, [x, y], _ => match e x, e y with
      | .one (.int k a), .one (.int _ b) => okC (.int k (if b > a then b else a))
      | _, _ => .none
    | _, _, _ => .none
  | _ => .none

end Go.Proofs.Ytmcdddghlcllbaa.Den
