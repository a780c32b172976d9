/- The abstract machine of these proofs: values, objects, shapes, and the evaluation of a Go function's code over them. Only definitions; nothing about the program is assumed. -/
import Derived.Orders
import Derived.Laws.Cells
import Derived.Test.YtmcdddghlcllbaaT0
set_option autoImplicit false
namespace Go.Proofs.Ytmcdddghlcllbaa.Den

/-- Kinds of plain data: what a variable of a Go type holds, without addresses. A struct is the chain of its fields' cells. -/
inductive Ty where
  | int (k : IntKind) | bool | str | unit
  | pair (a b : Ty)
  | slice (t : Ty)
  | ref (t : Ty)
  deriving DecidableEq

@[reducible] def Ty.D : Ty → Type
  | .int _ => Int
  | .bool => Bool
  | .str => ByteArray
  | .unit => Unit
  | .pair a b => a.D × b.D
  | .slice t => List t.D
  | .ref _ => Nat

def Ty.zero : (t : Ty) → t.D
  | .int _ => (0 : Int)
  | .bool => false
  | .str => ByteArray.empty
  | .unit => ()
  | .pair a b => (a.zero, b.zero)
  | .slice _ => []
  | .ref _ => (0 : Nat)

def Ty.size : Ty → Nat
  | .int _ | .bool | .str | .slice _ | .ref _ => 1
  | .unit => 0
  | .pair a b => a.size + b.size

/-- Whether data of a kind are plain through and through: no place in the pool among them. -/
def Ty.noRef : Ty → Bool
  | .ref _ => false
  | .pair a b => a.noRef && b.noRef
  | .slice t => t.noRef
  | _ => true

/-- The kind of the data that places in the pool stand for. -/
def Ty.unref : Ty → Ty
  | .ref t => .slice t
  | .pair a b => .pair a.unref b.unref
  | t => t

/-- Slices of one kind in a struct told as places in the pool. -/
def Ty.toRef (u : Ty) : Ty → Ty
  | .slice t => if t = u then .ref t else .slice t
  | .pair a b => .pair (Ty.toRef u a) (Ty.toRef u b)
  | t => t

/-- All places are of one pool's kind, and none stands deeper. -/
def Ty.refsOf (u : Ty) : Ty → Bool
  | .ref t => decide (t = u) && u.noRef
  | .pair a b => Ty.refsOf u a && Ty.refsOf u b
  | .slice t => t.noRef
  | _ => true

/-- What a place in the pool holds: nothing (place 0), or an array. -/
def refL {α : Type} (pl : List (List α)) : Nat → List α
  | 0 => []
  | k + 1 => pl.getD k []

/-- The pool with one array changed. -/
def refSet {α : Type} (pl : List (List α)) : Nat → List α → List (List α)
  | 0, _ => pl
  | k + 1, l => pl.set k l

/-- An element of a list, the zero value behind its end. -/
def rdT (t : Ty) (l : List t.D) (i : Nat) : t.D := l.getD i t.zero

/-- What one cell holds. -/
inductive C where
  | top
  | int (k : IntKind) (n : Int) | bool (b : Bool) | str (s : ByteArray)
  | list (t : Ty) (l : List t.D)
  | ptr (id off : Nat)
  | ep (id i off : Nat)
  | cptr (t : Ty) (x : t.D) (off : Nat)
  | ref (t : Ty) (x : Nat)
  | rep (t : Ty) (x i off : Nat)
  | sl (id : Nat) (lo hi : Option Nat)
  | nils | nilp | nili
  | fn (f : Nat) | cl (f c : C)
  | map (id : Nat)

/-- What a slot holds. -/
inductive V where
  | one (c : C) | agg (l : List C) | tup (l : List (Bool × List C)) | any

/-- An object of the call's own. -/
inductive O where
  | none | dead
  | box (cells : List C)
  | arr (t : Ty) (l : List t.D)
  | fro (t : Ty) (l : List t.D)
  | map (k v : Ty) (l : List (k.D × v.D))
  | pool (t : Ty) (l : List (List t.D))
  | al (t : Ty) (k n : Nat)
  | gone

/-- The number under which the pool is found. -/
def POOL : Nat := 400

abbrev Hp := Nat → O

/-- The cells of a datum. -/
def encD : (t : Ty) → t.D → List C
  | .int k, n => [.int k n]
  | .bool, b => [.bool b]
  | .str, s => [.str s]
  | .unit, _ => []
  | .pair a b, x => encD a x.1 ++ encD b x.2
  | .slice t, l => [.list t l]
  | .ref t, x => [.ref t x]

def castD {t u : Ty} (h : t = u) (x : t.D) : u.D := h ▸ x
def castL {t u : Ty} (h : t = u) (x : List t.D) : List u.D := h ▸ x

def cutL {α : Type} (lo hi : Option Nat) (l : List α) : List α :=
  match lo, hi with
  | .none, .none => l
  | .none, some j => l.take j
  | some i, .none => l.drop i
  | some i, some j => (l.take j).drop i

/-- The elements that a slice cell shows, as plain data, and the object that it has to leave for that. -/
def asList (t : Ty) (c : C) (h : Hp) : Option (List t.D × List Nat) :=
  match c with
  | .list t' l => if e : t' = t then some (castL e l, []) else .none
  | .nils => some ([], [])
  | .sl id lo hi => match h id with
    | .arr t' l => if e : t' = t then (if t.noRef = true then some (cutL lo hi (castL e l), [id]) else .none) else .none
    | .fro t' l => if e : t' = t then some (cutL lo hi (castL e l), []) else .none
    | _ => .none
  | _ => .none

/-- A datum out of cells; what is left of them; the objects that are given away. -/
def decD : (t : Ty) → List C → Hp → Option (t.D × List C × List Nat)
  | .int k, .int k' n :: r, _ => if k' = k then some (n, r, []) else .none
  | .bool, .bool b :: r, _ => some (b, r, [])
  | .str, .str s :: r, _ => some (s, r, [])
  | .unit, r, _ => some ((), r, [])
  | .pair a b, r, h => match decD a r h with
    | some (x, r1, g1) => match decD b r1 h with
      | some (y, r2, g2) => some ((x, y), r2, g1 ++ g2)
      | .none => .none
    | .none => .none
  | .slice t, c :: r, h => match asList t c h with
    | some (l, g) => some (l, r, g)
    | .none => .none
  | .ref t, .ref t' x :: r, _ => if t' = t then some (x, r, []) else .none
  | .ref _, .nils :: r, _ => some ((0 : Nat), r, [])
  | .ref t, .sl id .none .none :: r, h => match h id with
    | .al t' k _ => if t' = t then some (k + 1, r, []) else .none
    | _ => .none
  | _, _, _ => .none

/-- Data of plain kind, with empty slices, as data with places in the pool. -/
def convD : (t : Ty) → t.unref.D → Option t.D
  | .ref _, l => match l with
    | [] => some (0 : Nat)
    | _ => .none
  | .pair a b, x => match convD a x.1, convD b x.2 with
    | some p, some q => some (p, q)
    | _, _ => .none
  | .int _, x => some x
  | .bool, x => some x
  | .str, x => some x
  | .unit, x => some x
  | .slice _, x => some x

def convL (t : Ty) : List t.unref.D → Option (List t.D)
  | [] => some []
  | x :: r => match convD t x, convL t r with
    | some y, some l => some (y :: l)
    | _, _ => .none

/-- Data with places in the pool, the places taken for what they hold. -/
def resD (u : Ty) (pl : List (List u.D)) : (t : Ty) → t.D → t.unref.D
  | .ref t, x => if e : u = t then castL e (refL pl x) else []
  | .pair a b, x => (resD u pl a x.1, resD u pl b x.2)
  | .int _, x => x
  | .bool, x => x
  | .str, x => x
  | .unit, x => x
  | .slice _, x => x

/-! ## Shapes: what a call is handed and gives back, what a loop's head holds -/

inductive CSh where
  | int (k : IntKind) | bool | str
  | list (t : Ty) | arr (t : Ty) | map (k v : Ty) | cp (t : Ty) | nili
  | ref (t : Ty) | arrp (t u : Ty)

inductive PSh where
  | cptr (t : Ty) | box (cs : List CSh)

inductive Sh where
  | c (s : CSh) | agg (t : Ty) | aggc (cs : List CSh) | p (s : PSh)
  | fn (f : Nat) (caps : List PSh)
  | any

@[reducible] def CSh.D : CSh → Type
  | .int _ => Int
  | .bool => Bool
  | .str => ByteArray
  | .list t => List t.D
  | .arr t => List t.D
  | .map k v => List (k.D × v.D)
  | .cp t => t.D
  | .nili => Unit
  | .ref _ => Nat
  | .arrp t u => List t.D × List (List u.D)

@[reducible] def CSh.DL : List CSh → Type
  | [] => Unit
  | s :: r => s.D × CSh.DL r

@[reducible] def PSh.D : PSh → Type
  | .cptr t => t.D
  | .box cs => CSh.DL cs

@[reducible] def PSh.DL : List PSh → Type
  | [] => Unit
  | s :: r => s.D × PSh.DL r

@[reducible] def Sh.D : Sh → Type
  | .c s => s.D
  | .agg t => t.D
  | .aggc cs => CSh.DL cs
  | .p s => s.D
  | .fn _ caps => PSh.DL caps
  | .any => Unit

@[reducible] def Sh.DL : List Sh → Type
  | [] => Unit
  | s :: r => s.D × Sh.DL r

/-- The cell of a datum of a shape; the objects that it needs, numbered from n on. -/
def encC : (s : CSh) → s.D → Nat → C × List O
  | .int k, x, _ => (.int k x, [])
  | .bool, x, _ => (.bool x, [])
  | .str, x, _ => (.str x, [])
  | .list t, x, _ => (.list t x, [])
  | .arr t, x, n => (.sl n .none .none, [.arr t x])
  | .map k v, x, n => (.map n, [.map k v x])
  | .cp t, x, _ => (.cptr t x 0, [])
  | .nili, _, _ => (.nili, [])
  | .ref t, x, _ => (.ref t x, [])
  | .arrp t u, x, n => (.sl n .none .none, [.arr t x.1, .pool u x.2])

def encCs : (s : List CSh) → CSh.DL s → Nat → List C × List O
  | [], _, _ => ([], [])
  | s :: r, x, n =>
    let a := encC s x.1 n
    let b := encCs r x.2 (n + a.2.length)
    (a.1 :: b.1, a.2 ++ b.2)

def encP : (s : PSh) → s.D → Nat → C × List O
  | .cptr t, x, _ => (.cptr t x 0, [])
  | .box cs, x, n =>
    let a := encCs cs x (n + 1)
    (.ptr n 0, .box a.1 :: a.2)

def encPs : (f : C) → (s : List PSh) → PSh.DL s → Nat → C × List O
  | f, [], _, _ => (f, [])
  | f, s :: r, x, n =>
    let a := encP s x.1 n
    let b := encPs (.cl f a.1) r x.2 (n + a.2.length)
    (b.1, a.2 ++ b.2)

def encS : (s : Sh) → s.D → Nat → V × List O
  | .c s, x, n => let a := encC s x n; (.one a.1, a.2)
  | .agg t, x, _ => (.agg (encD t x), [])
  | .aggc cs, x, n => let a := encCs cs x n; (.agg a.1, a.2)
  | .p s, x, n => let a := encP s x n; (.one a.1, a.2)
  | .fn f caps, x, n => let a := encPs (.fn f) caps x n; (.one a.1, a.2)
  | .any, _, _ => (.any, [])

def encSs : (s : List Sh) → Sh.DL s → Nat → List V × List O
  | [], _, _ => ([], [])
  | s :: r, x, n =>
    let a := encS s x.1 n
    let b := encSs r x.2 (n + a.2.length)
    (a.1 :: b.1, a.2 ++ b.2)

/-- Where an object of the new numbering comes from: nowhere (an empty array that has no memory), or an object of the old one, from an element on. -/
inductive Src where
  | nil | of (id : Nat) (lo hi : Option Nat)

/-- What decoding gives: the data, the objects taken over in order, the objects that become plain data. -/
structure Dec (α : Type) where
  x : α
  src : List Src
  lent : List Nat

def decC (h : Hp) : (s : CSh) → C → Option (Dec s.D)
  | .int k, .int k' n => if k' = k then some ⟨n, [], []⟩ else .none
  | .bool, .bool b => some ⟨b, [], []⟩
  | .str, .str s => some ⟨s, [], []⟩
  | .list t, c => match asList t c h with
    | some (l, g) => some ⟨l, [], g⟩
    | .none => .none
  | .arr _, .nils => some ⟨[], [.nil], []⟩
  | .arr t, .sl id lo hi => match h id with
    | .arr t' l => if e : t' = t then some ⟨cutL lo hi (castL e l), [.of id lo hi], []⟩ else .none
    | _ => .none
  | .map k v, .map id => match h id with
    | .map k' v' l => if e : k' = k ∧ v' = v then some ⟨e.1 ▸ e.2 ▸ l, [.of id .none .none], []⟩ else .none
    | _ => .none
  | .cp t, .cptr t' x 0 => if e : t' = t then some ⟨castD e x, [], []⟩ else .none
  | .nili, .nili => some ⟨(), [], []⟩
  | .ref t, c => match decD (.ref t) [c] h with
    | some (x, _, _) => some ⟨x, [], []⟩
    | .none => .none
  | .arrp _ _, .nils => match h POOL with
    | .none => some ⟨([], []), [.nil, .of POOL .none .none], []⟩
    | _ => .none
  | .arrp t u, .sl id .none .none => match h id with
    | .arr t' l =>
      if e : t' = t then match h POOL with
        | .pool u' pl => if e2 : u' = u ∧ Ty.refsOf u t = true then some ⟨(castL e l, e2.1 ▸ pl), [.of id .none .none, .of POOL .none .none], []⟩ else .none
        | _ => .none
      else if e : t' = t.unref then match h POOL with
        | .none => if Ty.refsOf u t = true then match convL t (castL e l) with
          | some l' => some ⟨(l', []), [.of id .none .none, .of POOL .none .none], []⟩
          | .none => .none else .none
        | _ => .none
      else .none
    | _ => .none
  | _, _ => .none

def decCs (h : Hp) : (s : List CSh) → List C → Option (Dec (CSh.DL s))
  | [], [] => some ⟨(), [], []⟩
  | s :: r, c :: cs => match decC h s c with
    | some a => match decCs h r cs with
      | some b => some ⟨(a.x, b.x), a.src ++ b.src, a.lent ++ b.lent⟩
      | .none => .none
    | .none => .none
  | _, _ => .none

def decP (h : Hp) : (s : PSh) → C → Option (Dec s.D)
  | .cptr t, .cptr t' x 0 => if e : t' = t then some ⟨castD e x, [], []⟩ else .none
  | .cptr t, .ptr id 0 => match h id with
    | .box cells => if t.noRef = true then match decD t cells h with
      | some (x, [], g) => some ⟨x, [], id :: g⟩
      | _ => .none else .none
    | _ => .none
  | .box cs, .ptr id 0 => match h id with
    | .box cells => match decCs h cs cells with
      | some a => some ⟨a.x, .of id .none .none :: a.src, a.lent⟩
      | .none => .none
    | _ => .none
  | _, _ => .none

/-- The captured variables of a function value, the last one first. -/
def C.parts : C → Option (Nat × List C)
  | .fn f => some (f, [])
  | .cl f c => match f.parts with
    | some (g, l) => some (g, l ++ [c])
    | .none => .none
  | _ => .none

def decPs (h : Hp) : (s : List PSh) → List C → Option (Dec (PSh.DL s))
  | [], [] => some ⟨(), [], []⟩
  | s :: r, c :: cs => match decP h s c with
    | some a => match decPs h r cs with
      | some b => some ⟨(a.x, b.x), a.src ++ b.src, a.lent ++ b.lent⟩
      | .none => .none
    | .none => .none
  | _, _ => .none

def decS (h : Hp) : (s : Sh) → V → Option (Dec s.D)
  | .c s, .one c => decC h s c
  | .agg t, .agg cells => if t.noRef = true then match decD t cells h with
    | some (x, [], g) => some ⟨x, [], g⟩
    | _ => .none else .none
  | .aggc cs, .agg cells => decCs h cs cells
  | .p s, .one c => decP h s c
  | .fn f caps, .one c => match c.parts with
    | some (g, l) => if g = f then decPs h caps l else .none
    | .none => .none
  | .any, _ => some ⟨(), [], []⟩
  | _, _ => .none

def decSs (h : Hp) : (s : List Sh) → List V → Option (Dec (Sh.DL s))
  | [], [] => some ⟨(), [], []⟩
  | s :: r, c :: cs => match decS h s c with
    | some a => match decSs h r cs with
      | some b => some ⟨(a.x, b.x), a.src ++ b.src, a.lent ++ b.lent⟩
      | .none => .none
    | .none => .none
  | _, _ => .none

end Go.Proofs.Ytmcdddghlcllbaa.Den
