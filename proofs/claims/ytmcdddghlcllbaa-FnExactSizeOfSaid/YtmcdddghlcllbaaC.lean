/- The abstract machine: regions, code, calls, functions. Only definitions. -/
import Derived.Test.YtmcdddghlcllbaaB
set_option autoImplicit false
namespace Go.Proofs.Ytmcdddghlcllbaa.Den

structure St where
  fr : List V
  hp : List O

def O.isPool : O → Bool
  | .pool _ _ | .gone => true
  | _ => false

/-- The pool's own place in the row of objects shows nothing; the pool is found under its own number. -/
def O.hide : O → O
  | .pool _ _ | .gone => .none
  | o => o

def poolOf : List O → O
  | [] => .none
  | .pool u l :: _ => .pool u l
  | .gone :: _ => .gone
  | _ :: r => poolOf r

def look (l : List O) : Hp := fun i => if i = POOL then poolOf l else (l.getD i .none).hide

def St.h (s : St) : Hp := look s.hp

def evalO (fr : List V) : Operand → V
  | .tmp t => fr.getD t undefV
  | .const v => absV v
  | .global _ => .any
  | .func f => .one (.fn f)

def putS (fr : List V) (d : Option Nat) (v : V) : List V :=
  match d with
  | .none => fr
  | some t => fr.set t v

def setPool (q : O) : List O → List O
  | [] => [q]
  | .pool _ _ :: r => q :: r
  | .gone :: r => q :: r
  | o :: r => o :: setPool q r

def dropPools : List O → List O
  | [] => []
  | o :: r => o.hide :: dropPools r

def upd (hp : List O) (i : Nat) (o : O) : List O :=
  if i = POOL then (if o.isPool = true then setPool o hp else dropPools hp)
  else if i < hp.length then (if (hp.getD i .none).isPool = true then setPool (poolOf hp) (hp.set i o) else hp.set i o)
  else hp ++ List.replicate (i - hp.length) .none ++ [o]

def applyWr : List O → List (Nat × O) → List O
  | hp, [] => hp
  | hp, (i, o) :: r => applyWr (upd hp i o) r

/-- Pools are written under the pool's number alone. -/
def wrOk : List (Nat × O) → Bool
  | [] => true
  | (i, o) :: r => (if i = POOL then (match o with
    | .pool _ _ | .none => true
    | _ => false) else !o.isPool) && wrOk r

def guardT {R : Type} : List Test → Option R → Option R
  | [], x => x
  | t :: r, x => @ite _ t.p t.d (guardT r x) .none

/-! ## Calls -/

def CSh.n : CSh → Nat
  | .arr _ | .map _ _ => 1
  | .arrp _ _ => 2
  | _ => 0
def CSh.ns : List CSh → Nat
  | [] => 0
  | s :: r => s.n + CSh.ns r
def PSh.n : PSh → Nat
  | .cptr _ => 0
  | .box cs => 1 + CSh.ns cs
def PSh.ns : List PSh → Nat
  | [] => 0
  | s :: r => s.n + PSh.ns r
def Sh.n : Sh → Nat
  | .c s => s.n
  | .agg _ => 0
  | .aggc cs => CSh.ns cs
  | .p s => s.n
  | .fn _ caps => PSh.ns caps
  | .any => 0

def Ty.plain : Ty → Bool
  | .slice _ | .ref _ => false
  | .pair a b => a.plain && b.plain
  | _ => true

/-- Whether data of a shape can hold no slice. -/
def Sh.plain : Sh → Bool
  | .c (.int _) | .c .bool | .c .str => true
  | .agg t => t.plain
  | .any => true
  | _ => false

def CSh.pool : CSh → Bool
  | .arrp _ _ => true
  | _ => false
def PSh.pool : PSh → Bool
  | .box cs => cs.any CSh.pool
  | _ => false
/-- Whether a pool goes with data of a shape. -/
def Sh.pool : Sh → Bool
  | .c s => s.pool
  | .aggc cs => cs.any CSh.pool
  | .p s => s.pool
  | .fn _ caps => caps.any PSh.pool
  | _ => false

def CSh.hasRef : CSh → Bool
  | .ref _ => true
  | .arr t => !t.noRef
  | _ => false
def PSh.hasRef : PSh → Bool
  | .box cs => cs.any CSh.hasRef
  | _ => false
/-- Whether places in a pool stand in data of a shape that brings no pool itself. -/
def Sh.hasRef : Sh → Bool
  | .c s => s.hasRef
  | .aggc cs => cs.any CSh.hasRef
  | .p s => s.hasRef
  | .fn _ caps => caps.any PSh.hasRef
  | _ => false

/-- A function as it is called: its number, what it is handed, which arguments come back changed, what it returns, and what it computes (with a bound on the rounds). -/
structure Fc where
  fid : Nat
  args : List Sh
  outs : List (Nat × Sh)
  res : List Sh
  f : Nat → Sh.DL args → Option (Sh.DL (outs.map (·.2) ++ res))

def renC (ρ : Nat → Nat) : C → C
  | .ptr i o => .ptr (ρ i) o
  | .ep i j o => .ep (ρ i) j o
  | .sl i a b => .sl (ρ i) a b
  | .map i => .map (ρ i)
  | .cl f c => .cl (renC ρ f) (renC ρ c)
  | c => c

def renV (ρ : Nat → Nat) : V → V
  | .one c => .one (renC ρ c)
  | .agg l => .agg (l.map (renC ρ))
  | .tup l => .tup (l.map fun p => (p.1, p.2.map (renC ρ)))
  | .any => .any

def renO (ρ : Nat → Nat) : O → O
  | .box cs => .box (cs.map (renC ρ))
  | o => o

def Src.id? : Src → Option Nat
  | .nil => .none
  | .of i _ _ => some i

def srcIds (l : List Src) : List Nat := l.filterMap Src.id?

def nodupB : List Nat → Bool
  | [] => true
  | x :: r => !r.contains x && nodupB r

def srcOk (src : List Src) (lent : List Nat) : Bool :=
  nodupB (srcIds src) && ((srcIds src).all fun i => !lent.contains i) && decide (src.length < POOL)

/-- Where places in a pool are handed on, the pool is. -/
def needP (shs : List Sh) (src : List Src) : Bool := !(shs.any Sh.hasRef) || (srcIds src).contains POOL

/-- Where the objects of each argument begin. -/
def heads : List Sh → Nat → List Nat
  | [], _ => []
  | s :: r, n => n :: heads r (n + s.n)

def headIds (args : List Sh) (src : List Src) : List (Nat × Sh) → Option (List Nat)
  | [] => some []
  | (a, _) :: r => match (heads args 0)[a]? with
    | some p => match src[p]? with
      | some (.of i .none .none) => match headIds args src r with
        | some l => some (i :: l)
        | .none => .none
      | _ => .none
    | .none => .none

/-- The caller's numbers of the objects that come back: an argument's object keeps its own, the others are new. -/
def renOf : List (Nat × Nat) → Nat → Nat → Nat
  | [], n, j => n + j
  | (p, i) :: r, n, j => if j = p then i else renOf r n j

def resV : List V → V
  | [.one c] => .one c
  | [.agg l] => .agg l
  | vs => .tup (vs.map fun
    | .one c => (false, [c])
    | .agg l => (true, l)
    | _ => (false, []))

def numbered : Nat → List O → List (Nat × O)
  | _, [] => []
  | n, o :: r => (n, o) :: numbered (n + 1) r

def froze (h : Hp) : List Nat → List (Nat × O)
  | [] => []
  | i :: r => match h i with
    | .arr t l => (i, .fro t l) :: froze h r
    | _ => (i, .dead) :: froze h r

def isPlain (fc : Fc) : Bool := fc.outs.isEmpty && fc.res.all Sh.plain

def callEnd (fc : Fc) (h : Hp) (n : Nat) (ids : List Nat) (src : List Src) (lent : List Nat) (y : Sh.DL (fc.outs.map (·.2) ++ fc.res)) : V × List (Nat × O) :=
  let e := encSs (fc.outs.map (·.2) ++ fc.res) y 0
  let ρ := renOf ((heads (fc.outs.map (·.2)) 0).zip ids) n
  (resV ((e.1.drop fc.outs.length).map (renV ρ)),
    deads ((srcIds src).filter fun i => !ids.contains i && i != POOL) ++ (if isPlain fc = true then [] else froze h lent) ++
      (numbered 0 e.2).map fun p => match p.2 with
        | .pool u l => (POOL, .pool u l)
        | o => (ρ p.1, renO ρ o))

def callOk (fc : Fc) (src : List Src) (lent : List Nat) (ids : List Nat) (n : Nat) : Bool :=
  srcOk src lent && needP fc.args src && nodupB ids && nodupB (heads (fc.outs.map (·.2)) 0) && ((srcIds src).all fun i => i < n || i == POOL) && (lent.all fun i => i < n) && (ids.all fun i => i < n) && fc.outs.all fun p => 0 < p.2.n

def O.noPool : O → Bool
  | .none => true
  | _ => false

/-- One pool at most goes about: one that is handed over comes back; a new one comes where there is none. -/
def poolOk (h : Hp) (n : Nat) (src : List Src) (os : List O) (hs : List Nat) : Bool :=
  (hs.all fun j => !(os.getD j .none).isPool) &&   decide (n + os.length < POOL) && decide (os.countP O.isPool ≤ 1) && (if (srcIds src).contains POOL then os.any O.isPool else (!os.any O.isPool || (h POOL).noPool))

def denCall {R : Type} (k : Nat) (g : Nat) (vs : List V) (h : Hp) (n : Nat) (K : V → List (Nat × O) → Option R) : List Fc → Option R
  | [] => .none
  | fc :: r =>
    if fc.fid = g then
      match decSs h fc.args vs with
      | some d => match headIds fc.args d.src fc.outs with
          | some ids => if callOk fc d.src d.lent ids n = true then
              (fc.f k d.x).bind fun y => if poolOk h n d.src (encSs (fc.outs.map (·.2) ++ fc.res) y 0).2 (heads (fc.outs.map (·.2)) 0) = true then K (callEnd fc h n ids d.src d.lent y).1 (callEnd fc h n ids d.src d.lent y).2 else .none
            else .none
          | .none => .none
      | .none => denCall k g vs h n K r
    else denCall k g vs h n K r

def callee? (v : V) (args : List V) : Option (Nat × List V) :=
  match v with
  | .one c => match c.parts with
    | some (g, l) => some (g, args ++ l.map .one)
    | .none => .none
  | _ => .none

def denOp {R : Type} (P : Program) (tbl : List Fc) (k : Nat) (o : Op) (s : St) (K : V → List (Nat × O) → Option R) : Option R :=
  match o with
  | .call { callee := .value f, args, .. } => match callee? (evalO s.fr f) (args.toList.map (evalO s.fr)) with
    | some (g, vs) => if s.hp.length < POOL then denCall k g vs s.h s.hp.length (fun v wr => if wrOk wr = true then K v wr else .none) tbl else .none
    | .none => .none
  | o => if s.hp.length < POOL then match step P (evalO s.fr) s.h s.hp.length o with
    | some e => if wrOk e.wr = true then guardT e.tests (K e.v e.wr) else .none
    | .none => .none else .none

/-! ### Tests against nil: both ways where the data do not tell -/

/-- An operation that asks whether a slice is nil: how many elements that slice shows. -/
def nilTest (P : Program) (e : Operand → V) (h : Hp) : Op → Option Nat
  | .binOp .eql T x y _ => match P.underlying T with
    | some (.slice _) => match e y with
      | .one .nils => match e x with
        | .one (.list _ l) => some l.length
        | .one (.sl id lo hi) => match h id with
          | .arr _ l => some (lenL l.length lo hi)
          | .fro _ l => some (lenL l.length lo hi)
          | _ => .none
        | _ => .none
      | _ => .none
    | _ => .none
  | _ => .none

/-- The answer of two ways that must answer alike. -/
noncomputable def both {R : Type} (a b : Option R) : Option R := @ite _ (a = b) (Classical.propDecidable _) a .none

/-- A slice of n elements is nil or not; one with elements is not. -/
noncomputable def forkN {R : Type} (n : Nat) (f : Bool → Option R) : Option R := if n = 0 then both (f true) (f false) else f false

noncomputable def denOpF {R : Type} (P : Program) (tbl : List Fc) (k : Nat) (o : Op) (s : St) (K : V → List (Nat × O) → Option R) : Option R :=
  match nilTest P (evalO s.fr) s.h o with
  | some n => forkN n fun b => K (.one (.bool b)) []
  | .none => denOp P tbl k o s K

/-! ## Regions -/

noncomputable def denOps {R : Type} (P : Program) (tbl : List Fc) (k : Nat) (ops : Array Oper) : List Oper → (St → Option R) → St → Option R
  | [], K, s => K s
  | o :: r, K, s =>
    match o.guard with
    | .none => denOpF P tbl k o.op s fun v wr => denOps P tbl k ops r K ⟨putS s.fr o.dst v, applyWr s.hp wr⟩
    | some (j, want) =>
      match (ops[j]?).bind (·.dst) with
      | .none => .none
      | some d => match s.fr.getD d undefV with
        | .one (.bool b) =>
          if b = true then
            (if want then denOpF P tbl k o.op ⟨s.fr.set d (.one (.bool true)), s.hp⟩ fun v wr => denOps P tbl k ops r K ⟨putS (s.fr.set d (.one (.bool true))) o.dst v, applyWr s.hp wr⟩
              else denOps P tbl k ops r K ⟨putS (s.fr.set d (.one (.bool true))) o.dst undefV, s.hp⟩)
          else
            (if want then denOps P tbl k ops r K ⟨putS (s.fr.set d (.one (.bool false))) o.dst undefV, s.hp⟩
              else denOpF P tbl k o.op ⟨s.fr.set d (.one (.bool false)), s.hp⟩ fun v wr => denOps P tbl k ops r K ⟨putS (s.fr.set d (.one (.bool false))) o.dst v, applyWr s.hp wr⟩)
        | .tup [] => denOps P tbl k ops r K ⟨putS s.fr o.dst undefV, s.hp⟩
        | _ => .none

/-! ## Code -/

inductive Ex where
  | normal | exit (id : Nat) | ret

/-- Whether what stands behind such code may be cut off into a function of its own. -/
def cutB : Code → Bool
  | .cond .. | .block .. | .loop _ => true
  | .seq _ b => cutB b
  | .region _ ops _ => ops.any fun o => o.guard.isSome
  | _ => false

/-- The numbers that a code uses: one for each loop and for each place where it may be cut. -/
def nl : Code → Nat
  | .seq a b => nl a + nl b + (if cutB a then 1 else 0)
  | .cond _ a b => nl a + nl b
  | .block _ c => nl c
  | .loop c => nl c + 1
  | _ => 0

def isCut (c : Code) : Nat := if cutB c then 1 else 0

/-- Whether number m is a loop's (the count begins with n). -/
def loopB (m : Nat) : Code → Nat → Bool
  | .seq a b, n => if m < n + isCut a then false else if m < n + isCut a + nl a then loopB m a (n + isCut a) else loopB m b (n + isCut a + nl a)
  | .cond _ a b, n => if m < n + nl a then loopB m a n else loopB m b (n + nl a)
  | .block _ c, n => loopB m c n
  | .loop c, n => if m = n then true else loopB m c (n + 1)
  | _, _ => false

structure Lp (R : Type) where
  sh : List (Nat × Sh)
  /-- Slots that show one of the objects as well: the slot, the object's number. -/
  al : List (Nat × Nat)
  f : Nat → Sh.DL (sh.map (·.2)) → Option R

def isArr : O → Bool
  | .arr _ _ => true
  | _ => false

def alOne (h : Hp) : V → Option Src → Bool
  | .one (.sl id lo hi), some (.of id' lo' hi') => decide (id = id') && decide (lo = lo') && decide (hi = hi') && isArr (h id)
  | .one .nils, some .nil => true
  | _, _ => false

def alOk (h : Hp) (fr : List V) (src : List Src) (al : List (Nat × Nat)) : Bool := al.all fun p => alOne h (fr.getD p.1 undefV) src[p.2]?

/-- A pool that is at hand is kept. -/
def poolKept (h : Hp) (src : List Src) : Bool :=
  match h POOL with
  | .none => true
  | _ => (srcIds src).contains POOL

def denL {R : Type} (lps : List (Option (Lp R))) (k n : Nat) (s : St) : Option R :=
  match lps[n]? with
  | some (some lp) => match decSs s.h (lp.sh.map (·.2)) (lp.sh.map fun p => s.fr.getD p.1 undefV) with
    | some d => if (srcOk d.src d.lent && alOk s.h s.fr d.src lp.al && poolKept s.h d.src && needP (lp.sh.map (·.2)) d.src) = true then lp.f k d.x else .none
    | .none => .none
  | _ => .none

/-- Whether number n is taken by a function of its own. -/
def taken {R : Type} (lps : List (Option (Lp R))) (n : Nat) : Bool :=
  match lps[n]? with
  | some (some _) => true
  | _ => false

def setAll : List V → List (Nat × Sh) → List V → List V
  | fr, p :: r, v :: vs => setAll (fr.set p.1 v) r vs
  | fr, _, _ => fr

def setAl : List V → List (Nat × Nat) → List V
  | fr, [] => fr
  | fr, p :: r => setAl (fr.set p.1 (.one (.sl p.2 .none .none))) r

def headSt (ntmps : Nat) (sh : List (Nat × Sh)) (al : List (Nat × Nat)) (x : Sh.DL (sh.map (·.2))) : St :=
  let e := encSs (sh.map (·.2)) x 0
  ⟨setAl (setAll (List.replicate ntmps .any) sh e.1) al, e.2⟩

def refine (fr : List V) (c : Operand) (b : Bool) : List V :=
  match c with
  | .tmp t => fr.set t (.one (.bool b))
  | _ => fr

abbrev Kont (R : Type) := Nat → Ex → St → Option R

/-! ### Regions whose order is open -/

def C.ids : C → List Nat
  | .ptr i _ | .ep i _ _ | .sl i _ _ | .map i => [i]
  | .ref _ _ | .rep _ _ _ _ => [POOL]
  | .cl f c => f.ids ++ c.ids
  | _ => []

def V.ids : V → List Nat
  | .one c => c.ids
  | .agg l => l.flatMap C.ids
  | .tup l => l.flatMap fun p => p.2.flatMap C.ids
  | .any => []

/-- The objects that cells lead to, and those that lie in boxes among them. -/
def deepIds (h : Hp) (l : List Nat) : List Nat :=
  l ++ l.flatMap fun i => match h i with
    | .box cs => cs.flatMap C.ids
    | _ => []

/-- The objects that an operation looks at, its operands leading to some. -/
def rdIds (o : Op) (h : Hp) (l : List Nat) : List Nat :=
  match o with
  | .move _ | .assign _ => []
  | .call { callee := .value _, .. } => POOL :: deepIds h l
  | .buildSlice _ len _ => if len = 0 then l else POOL :: l
  | _ => l

structure Trace where
  no : Nat
  reads : List Nat
  writes : List Nat

def meets (a b : List Nat) : Bool := a.any fun x => b.contains x

def clash (a b : Trace) : Bool := meets a.writes b.reads || meets a.writes b.writes || meets b.writes a.reads

def maskOf (acc : List Nat) : List Edge → Nat
  | [] => 0
  | e :: r => if Region.binds .any e = true then (2 ^ e.on ||| acc.getD e.on 0) ||| maskOf acc r else maskOf acc r

/-- For each operation the set of those that are done before it in every order. -/
def masks : List Nat → List Oper → List Nat
  | acc, [] => acc
  | acc, o :: r => masks (acc ++ [maskOf acc o.after.toList]) r

def pairsOk (before : List Nat) : List Trace → Bool
  | [] => true
  | a :: r => (r.all fun b => !clash a b || (before.getD b.no 0).testBit a.no) && pairsOk before r

/-- Two operations of a region that touch one temporary are ordered. -/
def apartOk (ops : Array Oper) (before : List Nat) : Nat → List Oper → Bool
  | _, [] => true
  | i, o :: r => (rest o i (i + 1) r) && apartOk ops before (i + 1) r
where
  rest (o : Oper) (i : Nat) : Nat → List Oper → Bool
    | _, [] => true
    | j, q :: r => (Oper.apart ops o q || (before.getD j 0).testBit i) && rest o i (j + 1) r

def edgesOk : Nat → List Oper → Bool
  | _, [] => true
  | i, o :: r => (o.after.toList.all fun e => !Region.binds .any e || decide (e.on < i)) && edgesOk (i + 1) r

def drawOk (P : Program) (ops : Array Oper) : Bool :=
  P.follows .mixedOrders && edgesOk 0 ops.toList && apartOk ops (masks [] ops.toList) 0 ops.toList

def denOpsD {R : Type} (P : Program) (tbl : List Fc) (k : Nat) (ops : Array Oper) : Nat → List Oper → List Trace → (St → Option R) → St → Option R
  | _, [], tr, K, s => if pairsOk (masks [] ops.toList) tr.reverse = true then K s else .none
  | i, o :: r, tr, K, s =>
    let rd (s : St) : List Nat := rdIds o.op s.h (o.op.operands.toList.flatMap fun x => (evalO s.fr x).ids)
    match o.guard with
    | .none => denOp P tbl k o.op s fun v wr => denOpsD P tbl k ops (i + 1) r (⟨i, rd s, wr.map (·.1)⟩ :: tr) K ⟨putS s.fr o.dst v, applyWr s.hp wr⟩
    | some (j, want) =>
      match (ops[j]?).bind (·.dst) with
      | .none => .none
      | some d => match s.fr.getD d undefV with
        | .one (.bool b) =>
          if b = true then
            (if want then denOp P tbl k o.op ⟨s.fr.set d (.one (.bool true)), s.hp⟩ fun v wr => denOpsD P tbl k ops (i + 1) r (⟨i, rd s, wr.map (·.1)⟩ :: tr) K ⟨putS (s.fr.set d (.one (.bool true))) o.dst v, applyWr s.hp wr⟩
              else denOpsD P tbl k ops (i + 1) r tr K ⟨putS (s.fr.set d (.one (.bool true))) o.dst undefV, s.hp⟩)
          else
            (if want then denOpsD P tbl k ops (i + 1) r tr K ⟨putS (s.fr.set d (.one (.bool false))) o.dst undefV, s.hp⟩
              else denOp P tbl k o.op ⟨s.fr.set d (.one (.bool false)), s.hp⟩ fun v wr => denOpsD P tbl k ops (i + 1) r (⟨i, rd s, wr.map (·.1)⟩ :: tr) K ⟨putS (s.fr.set d (.one (.bool false))) o.dst v, applyWr s.hp wr⟩)
        | .tup [] => denOpsD P tbl k ops (i + 1) r tr K ⟨putS s.fr o.dst undefV, s.hp⟩
        | _ => .none

/-! ### Code -/

section
variable {R : Type} (P : Program) (tbl : List Fc) (lps : List (Option (Lp R)))

def kSeq (next : Nat → St → Option R) (K : Kont R) : Kont R := fun k e s =>
  match e with
  | .normal => next k s
  | .exit i => K k (.exit i) s
  | .ret => K k .ret s

def kBlock (id : Nat) (K : Kont R) : Kont R := fun k e s =>
  match e with
  | .normal => K k .normal s
  | .exit i => if i = id then K k .normal s else K k (.exit i) s
  | .ret => K k .ret s

noncomputable def den : Code → Nat → Nat → Kont R → St → Option R
  | .skip, k, _, K, s => K k .normal s
  | .ret, k, _, K, s => K k .ret s
  | .exit id, k, _, K, s => K k (.exit id) s
  | .seq a b, k, n, K, s =>
    if (cutB a && taken lps n) = true then den a k (n + 1) (kSeq (fun k' s' => denL lps k' n s') K) s
    else den a k (n + isCut a) (kSeq (fun k' s' => den b k' (n + isCut a + nl a) K s') K) s
  | .cond c a b, k, n, K, s => match evalO s.fr c with
    | .one (.bool x) => if x = true then den a k n K ⟨refine s.fr c true, s.hp⟩ else den b k (n + nl a) K ⟨refine s.fr c false, s.hp⟩
    | _ => .none
  | .block id c, k, n, K, s => den c k n (kBlock id K) s
  | .loop _, k, n, _, s => denL lps k n s
  | .region _ ops false, k, _, K, s => denOps P tbl k ops ops.toList (K k .normal) s
  | .region _ ops true, k, _, K, s => if drawOk P ops = true then denOpsD P tbl k ops 0 ops.toList [] (K k .normal) s else .none
  | _, _, _, _, _ => .none

def kLoop (n : Nat) (K : Kont R) : Kont R := kSeq (fun k s => denL lps k n s) K

/-- Loop number m (its body, the number of its first inner one, what follows it), or the code that stands behind cut number m. -/
noncomputable def loopAt (m : Nat) : Code → Nat → Kont R → Option ((Code × Nat × Kont R) ⊕ (Code × Nat × Kont R))
  | .seq a b, n, K =>
    if m < n + isCut a then some (.inr (b, n + isCut a + nl a, K))
    else if m < n + isCut a + nl a then
      loopAt m a (n + isCut a) (if (cutB a && taken lps n) = true then kSeq (fun k' s' => denL lps k' n s') K else kSeq (fun k' s' => den P tbl lps b k' (n + isCut a + nl a) K s') K)
    else loopAt m b (n + isCut a + nl a) K
  | .cond _ a b, n, K => if m < n + nl a then loopAt m a n K else loopAt m b (n + nl a) K
  | .block id c, n, K => loopAt m c n (kBlock id K)
  | .loop c, n, K => if m = n then some (.inl (c, n + 1, K)) else loopAt m c (n + 1) (kLoop lps n K)
  | _, _, _ => .none

/-- What number m comes to: a loop in one round, a cut at once. -/
noncomputable def lpVal (code : Code) (K : Kont R) (ntmps m : Nat) (lp : Lp R) (k : Nat) (x : Sh.DL (lp.sh.map (·.2))) : Option R :=
  match loopAt P tbl lps m code 0 K with
  | some (.inl (c, n, K')) => den P tbl lps c k n (kLoop lps m K') (headSt ntmps lp.sh lp.al x)
  | some (.inr (c, n, K')) => den P tbl lps c k n K' (headSt ntmps lp.sh lp.al x)
  | .none => .none
end

/-! ### Functions -/

def resultVs (P : Program) (s : St) : List ResultVar → Option (List V)
  | [] => some []
  | .tmp t :: r => match resultVs P s r with
    | some l => some (s.fr.getD t undefV :: l)
    | .none => .none
  | .cell a T :: r => match stLoad P s.h T (s.fr.getD a undefV), resultVs P s r with
    | some ⟨[], v, []⟩, some l => some (v :: l)
    | _, _ => .none

/-- What the arguments that come back changed are at the end. -/
def outVs (fr : List V) (outs : List (Nat × Sh)) : List V := outs.map fun p => fr.getD p.1 undefV

/-- The code writes none of these slots. -/
def opsFree (pins : List Nat) : List Oper → Bool
  | [] => true
  | o :: r => (match o.dst with
    | some t => !pins.contains t
    | .none => true) && opsFree pins r

def codeFree (pins : List Nat) : Code → Bool
  | .seq a b => codeFree pins a && codeFree pins b
  | .cond _ a b => codeFree pins a && codeFree pins b
  | .block _ c => codeFree pins c
  | .loop c => codeFree pins c
  | .region _ ops _ => opsFree pins ops.toList
  | _ => true

def isBox : Sh → Bool
  | .p (.box _) => true
  | _ => false

def isRef : Sh → Bool
  | .p (.box _) => true
  | .c (.map _ _) => true
  | _ => false

def notAny : Sh → Bool
  | .any => false
  | _ => true

/-- Arrays with places in the pool as plain data: what they hold is looked up in the pool, and nobody writes it any more. -/
def settleO (u : Ty) (pl : List (List u.D)) : O → O
  | .arr t l => if t.noRef = true then .arr t l else if Ty.refsOf u t = true then .fro t.unref (l.map (resD u pl t)) else .dead
  | .pool _ _ => .gone
  | .al _ _ _ => .dead
  | o => o

def settle (hp : List O) : Option (List O) :=
  match poolOf hp with
  | .pool u pl => some (hp.map (settleO u pl))
  | _ => .none

def finish1 (P : Program) (fc : Fc) (results : List ResultVar) (s : St) : Option (Sh.DL (fc.outs.map (·.2) ++ fc.res)) :=
  match resultVs P s results with
    | some vs => match decSs s.h (fc.outs.map (·.2) ++ fc.res) (outVs s.fr fc.outs ++ vs) with
      | some d => if (srcOk d.src d.lent && (!fc.args.any Sh.pool || poolKept s.h d.src) && needP (fc.outs.map (·.2) ++ fc.res) d.src) = true then some d.x else .none
      | .none => .none
    | .none => .none

def finish (P : Program) (fc : Fc) (results : List ResultVar) : Kont (Sh.DL (fc.outs.map (·.2) ++ fc.res)) := fun _ e s =>
  match e with
  | .exit _ => .none
  | _ => match finish1 P fc results s with
    | some x => some x
    | .none => if fc.args.any Sh.pool = true then .none else match settle s.hp with
      | some hp => finish1 P fc results ⟨s.fr, hp⟩
      | .none => .none

def startSt (ntmps : Nat) (args : List Sh) (x : Sh.DL args) : St :=
  let e := encSs args x 0
  ⟨e.1 ++ List.replicate (ntmps - e.1.length) undefV, e.2⟩

/-- What a function's code comes to, with the loops taken by their own functions. -/
noncomputable def denF (P : Program) (tbl : List Fc) (fc : Fc) (fn : Func) (lps : List (Option (Lp (Sh.DL (fc.outs.map (·.2) ++ fc.res))))) (k : Nat) (x : Sh.DL fc.args) : Option (Sh.DL (fc.outs.map (·.2) ++ fc.res)) :=
  match fn.body with
  | some code => den P tbl lps code k 0 (finish P fc fn.results.toList) (startSt fn.ntmps fc.args x)
  | .none => .none

def codeOf (fn : Func) : Code := match fn.body with
  | some c => c
  | .none => .skip

def lpOk (P : Program) (tbl : List Fc) (fc : Fc) (fn : Func) (lps : List (Option (Lp (Sh.DL (fc.outs.map (·.2) ++ fc.res))))) (m : Nat) (lp : Lp (Sh.DL (fc.outs.map (·.2) ++ fc.res))) : Prop :=
  (loopB m (codeOf fn) 0 = true ∧ (∀ y, lp.f 0 y = .none) ∧ ∀ k y, lp.f (k + 1) y = lpVal P tbl lps (codeOf fn) (finish P fc fn.results.toList) fn.ntmps m lp k y) ∨
  (loopB m (codeOf fn) 0 = false ∧ ∀ k y, lp.f k y = lpVal P tbl lps (codeOf fn) (finish P fc fn.results.toList) fn.ntmps m lp k y)

def lpsOk (P : Program) (tbl : List Fc) (fc : Fc) (fn : Func) (lps : List (Option (Lp (Sh.DL (fc.outs.map (·.2) ++ fc.res))))) : Nat → List (Option (Lp (Sh.DL (fc.outs.map (·.2) ++ fc.res)))) → Prop
  | _, [] => True
  | m, .none :: r => lpsOk P tbl fc fn lps (m + 1) r
  | m, some lp :: r => lpOk P tbl fc fn lps m lp ∧ lpsOk P tbl fc fn lps (m + 1) r

end Go.Proofs.Ytmcdddghlcllbaa.Den
