/- What the abstract machine's values, objects and states say about the memory of a Go run. Definitions and laws about them; nothing about the program is assumed. -/
import Derived.Test.YtmcdddghlcllbaaC
import Derived.Laws.AppendOwn
import Derived.Below
set_option autoImplicit false
set_option linter.unusedVariables false
namespace Go.Proofs.Ytmcdddghlcllbaa.Den

inductive Loc where
  | un | dead | nil
  | box (b : Nat)
  | arr (b o sz cap n : Nat)
  | fro (b o sz cap n : Nat)
  | inn (b o sz cap n : Nat)
  | map (b : Nat)

/-- The block that an object owns. -/
def Loc.own : Loc → Option Nat
  | .box b | .arr b _ _ _ _ | .map b => some b
  | _ => .none

structure Env where
  imm : Nat → Option Obj
  loc : Nat → Loc
  /-- Where the pool's arrays lie. -/
  vl : Nat → Loc

/-- Data in memory that nobody writes. -/
def RelD (imm : Nat → Option Obj) : (t : Ty) → t.D → List Value → Prop
  | .int k, n, vs => vs = [.int k n]
  | .bool, b, vs => vs = [.bool b]
  | .str, s, vs => vs = [.string s]
  | .unit, _, vs => vs = []
  | .pair a b, x, vs => ∃ u v, vs = u ++ v ∧ RelD imm a x.1 u ∧ RelD imm b x.2 v
  | .slice t, l, vs => ∃ a c, vs = [.slice a l.length c] ∧ l.length ≤ c ∧
      (l = [] ∨ ∃ b o cs E fz, a = some ⟨b, o, none⟩ ∧ imm b = some (.cells cs E fz) ∧
        ∀ i (h : i < l.length), RelD imm t l[i] ((cs.toList.drop (o + i * t.size)).take t.size))
  | .ref _, _, _ => False

/-- A slice value over n elements from cell o of block b on, of which a part is shown. -/
def SlAt (b o sz cap n : Nat) (lo hi : Option Nat) (x : Value) : Prop :=
  lo.getD 0 ≤ hi.getD n ∧ hi.getD n ≤ n ∧ ∃ a, x = .slice (some a) (hi.getD n - lo.getD 0) (cap - lo.getD 0) ∧ (cap - lo.getD 0 = 0 ∨ a = ⟨b, o + lo.getD 0 * sz, none⟩)

def RelC (e : Env) : C → Value → Prop
  | .top, x => x.oneCell' = true
  | .int k n, x => x = .int k n
  | .bool b, x => x = .bool b
  | .str s, x => x = .string s
  | .list t l, x => RelD e.imm (.slice t) l [x]
  | .ptr id off, x => match e.loc id with
    | .dead => x.oneCell' = true
    | .box b => x = .pointer (some ⟨b, off, none⟩)
    | _ => False
  | .ep id i off, x => match e.loc id with
    | .dead | .fro .. | .inn .. => x.oneCell' = true
    | .arr b o sz cap n => i < n ∧ x = .pointer (some ⟨b, o + i * sz + off, none⟩)
    | _ => False
  | .cptr t y off, x => ∃ b o cs E fz, x = .pointer (some ⟨b, o + off, none⟩) ∧ e.imm b = some (.cells cs E fz) ∧ RelD e.imm t y ((cs.toList.drop o).take t.size)
  | .sl id lo hi, x => match e.loc id with
    | .dead => x.oneCell' = true
    | .nil => lo.getD 0 = 0 ∧ hi.getD 0 = 0 ∧ x = .slice none 0 0
    | .arr b o sz cap n | .fro b o sz cap n | .inn b o sz cap n => SlAt b o sz cap n lo hi x
    | _ => False
  | .ref _ 0, x => ∃ a c, x = .slice a 0 c
  | .ref t (k + 1), x => match e.vl k with
    | .dead => x.oneCell' = true
    | .nil => x = .slice none 0 0
    | .arr b o sz cap n => sz = t.size ∧ SlAt b o sz cap n .none .none x
    | _ => False
  | .rep _ 0 _ _, _ => False
  | .rep t (k + 1) i off, x => match e.vl k with
    | .dead => x.oneCell' = true
    | .arr b o sz cap n => sz = t.size ∧ i < n ∧ x = .pointer (some ⟨b, o + i * sz + off, none⟩)
    | _ => False
  | .nils, x => x = .slice none 0 0
  | .nilp, x => x = .pointer none
  | .nili, x => x = .nilIface
  | .fn f, x => x = .func (.func f) #[] #[]
  | .cl f c, x => ∃ g caps v, x = .func (.func g) #[] (caps.push v) ∧ RelC e f (.func (.func g) #[] caps) ∧ RelC e c v
  | .map id, x => match e.loc id with
    | .dead => x.oneCell' = true
    | .map b => x = .map (some b)
    | _ => False

inductive RelCs (e : Env) : List C → List Value → Prop where
  | nil : RelCs e [] []
  | cons {c : C} {v : Value} {l : List C} {r : List Value} : RelC e c v → RelCs e l r → RelCs e (c :: l) (v :: r)

def RelT (e : Env) (p : Bool × List C) (v : Value) : Prop :=
  if p.1 = true then ∃ cs, v = .agg cs ∧ RelCs e p.2 cs.toList else ∃ c, p.2 = [c] ∧ RelC e c v

inductive RelTs (e : Env) : List (Bool × List C) → List Value → Prop where
  | nil : RelTs e [] []
  | cons {c : Bool × List C} {v : Value} {l : List (Bool × List C)} {r : List Value} : RelT e c v → RelTs e l r → RelTs e (c :: l) (v :: r)

def RelV (e : Env) : V → Value → Prop
  | .one c, x => RelC e c x
  | .agg l, x => ∃ cs, x = .agg cs ∧ RelCs e l cs.toList
  | .tup l, x => ∃ vs, x = .tuple vs ∧ RelTs e l vs.toList
  | .any, _ => True

inductive RelVs (e : Env) : List V → List Value → Prop where
  | nil : RelVs e [] []
  | cons {c : V} {v : Value} {l : List V} {r : List Value} : RelV e c v → RelVs e l r → RelVs e (c :: l) (v :: r)

def Unfz (fz : Nat × Nat) (n : Nat) : Prop := ∀ o, o < n → ¬ (fz.1 ≤ o ∧ o < fz.2)

/-- A key or an element of a map. -/
def RelKV (imm : Nat → Option Obj) : (t : Ty) → t.D → Value → Prop
  | .int k, n, v => v = .int k n
  | .bool, b, v => v = .bool b
  | .str, s, v => v = .string s
  | .unit, _, v => v = .agg #[]
  | .slice t, l, v => RelD imm (.slice t) l [v]
  | .ref _, _, _ => False
  | .pair a b, x, v => ∃ cs, v = .agg cs ∧ RelD imm (.pair a b) x cs.toList

inductive RelM (e : Env) (k v : Ty) : List (k.D × v.D) → List MapEntry → Prop where
  | nil : RelM e k v [] []
  | cons {x : k.D} {y : v.D} {m : MapEntry} {l : List (k.D × v.D)} {r : List MapEntry} :
    RelKV e.imm k x m.key → RelKV e.imm v y m.val → RelM e k v l r → RelM e k v ((x, y) :: l) (m :: r)

def Rows0 (imm : Nat → Option Obj) (t : Ty) (l : List t.D) (cs : List Value) (o : Nat) : Prop :=
  ∀ i (h : i < l.length), RelD imm t l[i] ((cs.drop (o + i * t.size)).take t.size)

/-- Elements in the call's own memory. -/
def RowsC (e : Env) (t : Ty) (l : List t.D) (cs : List Value) (o : Nat) : Prop :=
  ∀ i (h : i < l.length), RelCs e (encD t l[i]) ((cs.drop (o + i * t.size)).take t.size)

/-- An array of the call's own. -/
def RelArr (e : Env) (w : World) (L : Loc) (t : Ty) (l : List t.D) : Prop :=
  (L = .nil ∧ l = []) ∨ ∃ b o cap cs E fz, L = .arr b o t.size cap l.length ∧ l.length ≤ cap ∧ w.heap[b]? = some (.cells cs E fz) ∧ Unfz fz cs.size ∧
      o + cap * t.size ≤ cs.size ∧ RowsC e t l cs.toList o

def RelO (e : Env) (w : World) (L : Loc) : O → Prop
  | .none => L = .un
  | .dead => L = .dead
  | .box cells => ∃ b cs E fz, L = .box b ∧ w.heap[b]? = some (.cells cs E fz) ∧ Unfz fz cs.size ∧ RelCs e cells cs.toList
  | .arr t l => RelArr e w L t l
  | .fro t l => (L = .nil ∧ l = []) ∨ ∃ b o cap cs E fz, L = .fro b o t.size cap l.length ∧ l.length ≤ cap ∧ e.imm b = some (.cells cs E fz) ∧ Rows0 e.imm t l cs.toList o
  | .map k v l => ∃ b es clock, L = .map b ∧ w.heap[b]? = some (.map es clock) ∧ RelM e k v l es.toList
  | .pool u pl => L = .un ∧ (∀ k, pl.length ≤ k → e.vl k = .un) ∧ ∀ k (h : k < pl.length), RelArr e w (e.vl k) u pl[k]
  | .al t k n => (L = .nil ∧ n = 0 ∧ e.vl k = .nil) ∨ ∃ b o cap, L = .inn b o t.size cap n ∧ e.vl k = .arr b o t.size cap n ∧ n ≤ cap
  | .gone => L = .un

def RelH (e : Env) (w : World) (h : Hp) : Prop := ∀ id, RelO e w (e.loc id) (h id)

structure Sep (A : Nat → Prop) (e : Env) (w : World) : Prop where
  imm : ∀ b o, e.imm b = some o → w.heap[b]? = some o
  own : ∀ id b, (e.loc id).own = some b → A b ∧ e.imm b = .none
  inj : ∀ i j b, (e.loc i).own = some b → (e.loc j).own = some b → i = j
  vown : ∀ k b, (e.vl k).own = some b → A b ∧ e.imm b = .none
  vinj : ∀ k j b, (e.vl k).own = some b → (e.vl j).own = some b → k = j
  vdis : ∀ i k b, (e.loc i).own = some b → (e.vl k).own = some b → False
  tb : Tb e.imm

structure Frm (A : Nat → Prop) (w0 w : World) : Prop where
  os : w.os = w0.os
  tape : w.tape = w0.tape
  output : w.output = w0.output
  size : w0.heap.size ≤ w.heap.size
  block : ∀ b, ¬ A b → w.heap[b]? = w0.heap[b]?

/-- The world and the unwritten blocks with which a call began. -/
structure Start where
  w : World
  imm : Nat → Option Obj
  vl : Nat → Loc

structure Mem (A : Nat → Prop) (w0 : Start) (e : Env) (h : Hp) (w : World) : Prop where
  hp : RelH e w h
  sep : Sep A e w
  frm : Frm A w0.w w
  new : ∀ b, w.heap.size ≤ b → A b
  old : ∀ b o, e.imm b = some o → w0.imm b = some o ∨ A b
  keep : ∀ b o, w0.imm b = some o → e.imm b = some o
  np : h POOL = .none → ∀ k, e.vl k = .un
  vkeep : ∀ k, w0.vl k ≠ .un → e.vl k = w0.vl k
  vlt : ∀ k b, (e.vl k).own = some b → b < w.heap.size
  one : ∀ i u pl, h i = .pool u pl → i = POOL
  pk : h POOL = .none ∨ h POOL = .gone ∨ ∃ u pl, h POOL = .pool u pl

/-- The slots that a call's code never writes, and how many slots there are. -/
structure Pins where
  n : Nat
  l : List (Nat × Value)

structure Rel (pins : Pins) (A : Nat → Prop) (w0 : Start) (e : Env) (s : St) (a : Act) (w : World) : Prop where
  pin : ∀ p ∈ pins.l, a.tmps.getD p.1 undef = p.2
  siz : a.tmps.size = pins.n
  len : s.fr.length = a.tmps.size
  fr : ∀ i, RelV e (s.fr.getD i undefV) (a.tmps.getD i undef)
  defers : a.defers = []
  mem : Mem A w0 e s.h w

/-! ## What stays true as memory grows -/

inductive LocLe : Loc → Loc → Prop where
  | refl (l : Loc) : LocLe l l
  | un (l : Loc) : LocLe .un l
  | dead (l : Loc) : LocLe l .dead
  | fro (b o sz cap n : Nat) : LocLe (.arr b o sz cap n) (.fro b o sz cap n)
  | inn (b o sz cap n : Nat) : LocLe (.arr b o sz cap n) (.inn b o sz cap n)

theorem LocLe.trans {a b c : Loc} (h : LocLe a b) (k : LocLe b c) : LocLe a c := by
  cases h with
  | refl => exact k
  | un => exact .un _
  | dead =>
    cases k with
    | refl => exact .dead _
    | dead => exact .dead _
  | fro =>
    cases k with
    | refl => exact .fro ..
    | dead => exact .dead _
  | inn =>
    cases k with
    | refl => exact .inn ..
    | dead => exact .dead _

structure Le (e e' : Env) : Prop where
  imm : ∀ b o, e.imm b = some o → e'.imm b = some o
  loc : ∀ i, LocLe (e.loc i) (e'.loc i)
  vl : ∀ k, e.vl k ≠ .un → e'.vl k = e.vl k

theorem Le.refl (e : Env) : Le e e := ⟨fun _ _ h => h, fun _ => .refl _, fun _ _ => rfl⟩
theorem Le.trans {a b c : Env} (h : Le a b) (k : Le b c) : Le a c := ⟨fun i o x => k.imm i o (h.imm i o x), fun i => (h.loc i).trans (k.loc i), fun i hi => by rw [← h.vl i hi]; exact k.vl i (by rw [h.vl i hi]; exact hi)⟩

theorem RelD.mono {imm imm' : Nat → Option Obj} (h : ∀ b o, imm b = some o → imm' b = some o) : ∀ (t : Ty) (x : t.D) (vs : List Value), RelD imm t x vs → RelD imm' t x vs
  | .int _, _, _, r => r
  | .bool, _, _, r => r
  | .str, _, _, r => r
  | .unit, _, _, r => r
  | .pair a b, _, _, ⟨u, v, e, ru, rv⟩ => ⟨u, v, e, RelD.mono h a _ _ ru, RelD.mono h b _ _ rv⟩
  | .slice t, _, _, ⟨a, c, e, hc, r⟩ => ⟨a, c, e, hc, r.imp id fun ⟨b, o, cs, E, fz, ha, hb, hr⟩ => ⟨b, o, cs, E, fz, ha, h _ _ hb, fun i hi => RelD.mono h t _ _ (hr i hi)⟩⟩
  | .ref _, _, _, r => r

theorem RelKV.mono {imm imm' : Nat → Option Obj} (h : ∀ b o, imm b = some o → imm' b = some o) : ∀ (t : Ty) (x : t.D) (v : Value), RelKV imm t x v → RelKV imm' t x v
  | .int _, _, _, r => r
  | .bool, _, _, r => r
  | .str, _, _, r => r
  | .unit, _, _, r => r
  | .slice t, l, v, r => RelD.mono h (.slice t) l [v] r
  | .ref _, _, _, r => r
  | .pair a b, x, v, ⟨cs, hv, r⟩ => ⟨cs, hv, RelD.mono h (.pair a b) x _ r⟩

theorem RelD.len {imm : Nat → Option Obj} : ∀ (t : Ty) (x : t.D) (vs : List Value), RelD imm t x vs → vs.length = t.size
  | .int _, _, _, r => by cases r; rfl
  | .bool, _, _, r => by cases r; rfl
  | .str, _, _, r => by cases r; rfl
  | .unit, _, _, r => by cases r; rfl
  | .pair a b, _, _, ⟨u, v, e, ru, rv⟩ => by subst e; simp [Ty.size, RelD.len a _ _ ru, RelD.len b _ _ rv]
  | .slice t, _, _, ⟨a, c, e, _⟩ => by subst e; rfl
  | .ref _, _, _, r => r.elim

theorem oneCell_of_RelC (e : Env) : ∀ (c : C) (x : Value), RelC e c x → x.oneCell' = true
  | .top, _, h => h
  | .int _ _, _, h => by cases h; rfl
  | .bool _, _, h => by cases h; rfl
  | .str _, _, h => by cases h; rfl
  | .list t l, x, ⟨a, c, hx, _⟩ => by cases hx; rfl
  | .ptr id off, x, h => by
    simp only [RelC] at h
    split at h
    · exact h
    · cases h; rfl
    · exact h.elim
  | .ep id i off, x, h => by
    simp only [RelC] at h
    split at h
    · exact h
    · exact h
    · exact h
    · obtain ⟨_, rfl⟩ := h; rfl
    · exact h.elim
  | .ref t 0, x, ⟨a, c, hx⟩ => by cases hx; rfl
  | .ref t (k + 1), x, h => by
    simp only [RelC] at h
    split at h
    · exact h
    · cases h; rfl
    · obtain ⟨_, _, _, a, rfl, _⟩ := h; rfl
    · exact h.elim
  | .rep t 0 i off, x, h => h.elim
  | .rep t (k + 1) i off, x, h => by
    simp only [RelC] at h
    split at h
    · exact h
    · obtain ⟨_, _, rfl⟩ := h; rfl
    · exact h.elim
  | .cptr t y off, x, ⟨b, o, cs, E, fz, hx, _⟩ => by cases hx; rfl
  | .sl id lo hi, x, h => by
    simp only [RelC] at h
    split at h
    · exact h
    · obtain ⟨_, _, rfl⟩ := h; rfl
    · obtain ⟨_, _, a, rfl, _⟩ := h; rfl
    · obtain ⟨_, _, a, rfl, _⟩ := h; rfl
    · obtain ⟨_, _, a, rfl, _⟩ := h; rfl
    · exact h.elim
  | .nils, _, h => by cases h; rfl
  | .nilp, _, h => by cases h; rfl
  | .nili, _, h => by cases h; rfl
  | .fn f, _, h => by cases h; rfl
  | .cl f c, _, ⟨g, caps, v, hx, _⟩ => by cases hx; rfl
  | .map id, x, h => by
    simp only [RelC] at h
    split at h
    · exact h
    · cases h; rfl
    · exact h.elim

theorem RelC.mono {e e' : Env} (h : Le e e') : ∀ (c : C) (x : Value), RelC e c x → RelC e' c x
  | .top, _, r => r
  | .int _ _, _, r => r
  | .bool _, _, r => r
  | .str _, _, r => r
  | .list t l, x, r => RelD.mono h.imm (.slice t) l [x] r
  | .ptr id off, x, r => by
    have h1 := oneCell_of_RelC _ _ _ r
    simp only [RelC] at r ⊢
    have hl := h.loc id
    generalize e.loc id = L at r hl
    generalize e'.loc id = L' at hl
    cases hl with
    | refl => exact r
    | un => exact r.elim
    | dead => exact h1
    | fro => exact r.elim
    | inn => exact r.elim
  | .ep id i off, x, r => by
    have h1 := oneCell_of_RelC _ _ _ r
    simp only [RelC] at r ⊢
    have hl := h.loc id
    generalize e.loc id = L at r hl
    generalize e'.loc id = L' at hl
    cases hl with
    | refl => exact r
    | un => exact r.elim
    | dead => exact h1
    | fro => exact h1
    | inn => exact h1
  | .ref t 0, _, r => r
  | .ref t (k + 1), x, r => by
    have hne : e.vl k ≠ .un := fun hh => by simp [RelC, hh] at r
    simp only [RelC, h.vl k hne] at r ⊢; exact r
  | .rep t 0 _ _, _, r => r
  | .rep t (k + 1) i off, x, r => by
    have hne : e.vl k ≠ .un := fun hh => by simp [RelC, hh] at r
    simp only [RelC, h.vl k hne] at r ⊢; exact r
  | .cptr t y off, x, ⟨b, o, cs, E, fz, hx, hb, hr⟩ => ⟨b, o, cs, E, fz, hx, h.imm _ _ hb, RelD.mono h.imm t _ _ hr⟩
  | .sl id lo hi, x, r => by
    have h1 := oneCell_of_RelC _ _ _ r
    simp only [RelC] at r ⊢
    have hl := h.loc id
    generalize e.loc id = L at r hl
    generalize e'.loc id = L' at hl
    cases hl with
    | refl => exact r
    | un => exact r.elim
    | dead => exact h1
    | fro => exact r
    | inn => exact r
  | .nils, _, r => r
  | .nilp, _, r => r
  | .nili, _, r => r
  | .fn _, _, r => r
  | .cl f c, _, ⟨g, caps, v, hx, rf, rc⟩ => ⟨g, caps, v, hx, RelC.mono h f _ rf, RelC.mono h c _ rc⟩
  | .map id, x, r => by
    have h1 := oneCell_of_RelC _ _ _ r
    simp only [RelC] at r ⊢
    have hl := h.loc id
    generalize e.loc id = L at r hl
    generalize e'.loc id = L' at hl
    cases hl with
    | refl => exact r
    | un => exact r.elim
    | dead => exact h1
    | fro => exact r.elim
    | inn => exact r.elim

theorem RelCs.mono {e e' : Env} (h : Le e e') {l : List C} {r : List Value} (k : RelCs e l r) : RelCs e' l r := by
  induction k with
  | nil => exact .nil
  | cons a _ ih => exact .cons (RelC.mono h _ _ a) ih

theorem RelT.mono {e e' : Env} (h : Le e e') {p : Bool × List C} {v : Value} (k : RelT e p v) : RelT e' p v := by
  unfold RelT at *
  split
  · rename_i hp; rw [if_pos hp] at k; obtain ⟨cs, hv, r⟩ := k; exact ⟨cs, hv, r.mono h⟩
  · rename_i hp; rw [if_neg hp] at k; obtain ⟨c, hc, r⟩ := k; exact ⟨c, hc, RelC.mono h _ _ r⟩

theorem RelTs.mono {e e' : Env} (h : Le e e') {l : List (Bool × List C)} {r : List Value} (k : RelTs e l r) : RelTs e' l r := by
  induction k with
  | nil => exact .nil
  | cons a _ ih => exact .cons (a.mono h) ih

theorem RelV.mono {e e' : Env} (h : Le e e') : ∀ (v : V) (x : Value), RelV e v x → RelV e' v x
  | .one c, x, r => RelC.mono h c x r
  | .agg l, x, ⟨cs, hx, r⟩ => ⟨cs, hx, r.mono h⟩
  | .tup l, x, ⟨vs, hx, r⟩ => ⟨vs, hx, r.mono h⟩
  | .any, _, _ => trivial

theorem RelVs.mono {e e' : Env} (h : Le e e') {l : List V} {r : List Value} (k : RelVs e l r) : RelVs e' l r := by
  induction k with
  | nil => exact .nil
  | cons a _ ih => exact .cons (RelV.mono h _ _ a) ih

theorem RelM.mono {e e' : Env} (h : Le e e') {k v : Ty} {l : List (k.D × v.D)} {r : List MapEntry} (q : RelM e k v l r) : RelM e' k v l r := by
  induction q with
  | nil => exact .nil
  | cons a b _ ih => exact .cons (RelKV.mono h.imm _ _ _ a) (RelKV.mono h.imm _ _ _ b) ih

theorem Rows0.mono {imm imm' : Nat → Option Obj} (h : ∀ b o, imm b = some o → imm' b = some o) {t : Ty} {l : List t.D} {cs : List Value} {o : Nat} (r : Rows0 imm t l cs o) : Rows0 imm' t l cs o :=
  fun i hi => RelD.mono h t _ _ (r i hi)

theorem RowsC.mono {e e' : Env} (h : Le e e') {t : Ty} {l : List t.D} {cs : List Value} {o : Nat} (r : RowsC e t l cs o) : RowsC e' t l cs o :=
  fun i hi => (r i hi).mono h

theorem RelArr.mono {e e' : Env} {w w' : World} {L : Loc} {t : Ty} {l : List t.D} (h : Le e e') (hw : ∀ b, L.own = some b → w'.heap[b]? = w.heap[b]?) (r : RelArr e w L t l) : RelArr e' w' L t l := by
  rcases r with r | ⟨b, o, cap, cs, E, fz, rfl, hn, hb, hu, hs, hr⟩
  · exact .inl r
  · exact .inr ⟨b, o, cap, cs, E, fz, rfl, hn, by rw [hw b rfl]; exact hb, hu, hs, hr.mono h⟩

/-- An object in a world that agrees at the object's own block (and, for the pool, at its arrays'). -/
theorem RelO.mono {e e' : Env} {w w' : World} {L : Loc} {o : O} (h : Le e e') (hw : ∀ b, L.own = some b → w'.heap[b]? = w.heap[b]?)
    (hp : ∀ u pl, o = .pool u pl → e'.vl = e.vl ∧ ∀ k b, (e.vl k).own = some b → w'.heap[b]? = w.heap[b]?) (r : RelO e w L o) : RelO e' w' L o := by
  cases o with
  | none => exact r
  | dead => exact r
  | gone => exact r
  | box cells => obtain ⟨b, cs, E, fz, rfl, hb, hu, hr⟩ := r; exact ⟨b, cs, E, fz, rfl, by rw [hw b rfl]; exact hb, hu, hr.mono h⟩
  | arr t l => exact RelArr.mono h hw r
  | fro t l =>
    rcases r with r | ⟨b, o, cap, cs, E, fz, rfl, hn, hb, hr⟩
    · exact .inl r
    · exact .inr ⟨b, o, cap, cs, E, fz, rfl, hn, h.imm _ _ hb, hr.mono h.imm⟩
  | map k v l => obtain ⟨b, es, ck, rfl, hb, hr⟩ := r; exact ⟨b, es, ck, rfl, by rw [hw b rfl]; exact hb, hr.mono h⟩
  | pool u pl =>
    obtain ⟨h1, h2, h3⟩ := r
    obtain ⟨he, hb⟩ := hp u pl rfl
    exact ⟨h1, fun k hk => by rw [he]; exact h2 k hk, fun k hk => by rw [he]; exact RelArr.mono h (hb k) (h3 k hk)⟩
  | al t k n =>
    rcases r with ⟨h1, h2, h3⟩ | ⟨b, o, cap, h1, h2, h4⟩
    · exact .inl ⟨h1, h2, by rw [h.vl k (by rw [h3]; exact fun hh => by cases hh)]; exact h3⟩
    · exact .inr ⟨b, o, cap, h1, by rw [h.vl k (by rw [h2]; exact fun hh => by cases hh)]; exact h2, h4⟩

theorem RelArr.own_lt {e : Env} {w : World} {L : Loc} {t : Ty} {l : List t.D} {b : Nat} (r : RelArr e w L t l) (hb : L.own = some b) : b < w.heap.size := by
  rcases r with ⟨rfl, _⟩ | ⟨b', o, cap, cs, E, fz, rfl, hn, h, _⟩
  · cases hb
  · cases hb; exact (Array.getElem?_eq_some_iff.1 h).1

theorem RelO.own_lt {e : Env} {w : World} {L : Loc} {o : O} {b : Nat} (r : RelO e w L o) (hb : L.own = some b) : b < w.heap.size := by
  have key : ∀ x, w.heap[b]? = some x → b < w.heap.size := fun x hx => (Array.getElem?_eq_some_iff.1 hx).1
  cases o with
  | none => cases r; cases hb
  | dead => cases r; cases hb
  | box cells => obtain ⟨b', cs, E, fz, rfl, h, _⟩ := r; cases hb; exact key _ h
  | arr t l => exact RelArr.own_lt r hb
  | pool u pl => rw [r.1] at hb; cases hb
  | gone => cases r; cases hb
  | al t k n =>
    rcases r with ⟨rfl, _⟩ | ⟨b', o, cap, rfl, _⟩
    · cases hb
    · cases hb
  | fro t l =>
    rcases r with ⟨rfl, _⟩ | ⟨b', o, cap, cs, E, fz, rfl, _⟩
    · cases hb
    · cases hb
  | map k v l => obtain ⟨b', es, ck, rfl, h, _⟩ := r; cases hb; exact key _ h

/-! ## Cells of data -/

theorem RelCs_append {e : Env} {l l' : List C} {r r' : List Value} (h : RelCs e l r) (k : RelCs e l' r') : RelCs e (l ++ l') (r ++ r') := by
  induction h with
  | nil => exact k
  | cons a _ ih => exact .cons a ih

theorem RelCs.length {e : Env} {l : List C} {r : List Value} (h : RelCs e l r) : l.length = r.length := by
  induction h with
  | nil => rfl
  | cons _ _ ih => simp [ih]

theorem RelCs.get {e : Env} {l : List C} {r : List Value} (h : RelCs e l r) : ∀ (i : Nat) (c : C), l[i]? = some c → ∃ v, r[i]? = some v ∧ RelC e c v := by
  induction h with
  | nil => intro i c hc; simp at hc
  | cons a _ ih =>
    intro i c hc
    cases i with
    | zero => simp at hc; subst hc; exact ⟨_, rfl, a⟩
    | succ i => exact ih i c (by simpa using hc)

theorem RelCs.drop {e : Env} {l : List C} {r : List Value} (h : RelCs e l r) : ∀ n, RelCs e (l.drop n) (r.drop n) := by
  induction h with
  | nil => intro n; simp; exact .nil
  | cons a b ih =>
    intro n
    cases n with
    | zero => exact .cons a b
    | succ n => simpa using ih n

theorem RelCs.take {e : Env} {l : List C} {r : List Value} (h : RelCs e l r) : ∀ n, RelCs e (l.take n) (r.take n) := by
  induction h with
  | nil => intro n; simp; exact .nil
  | cons a b ih =>
    intro n
    cases n with
    | zero => exact .nil
    | succ n => simp; exact .cons a (ih n)

theorem RelCs.one {e : Env} {l : List C} {r : List Value} (h : RelCs e l r) : ∀ v ∈ r, v.oneCell' = true := by
  induction h with
  | nil => simp
  | cons a _ ih => intro v hv; rcases List.mem_cons.1 hv with rfl | hv; exact oneCell_of_RelC _ _ _ a; exact ih v hv

/-- The cells of a datum that lies in memory. -/
theorem RelCs_encD {e : Env} : ∀ (t : Ty) (x : t.D) (vs : List Value), RelD e.imm t x vs → RelCs e (encD t x) vs
  | .int _, _, _, r => by cases r; exact .cons rfl .nil
  | .bool, _, _, r => by cases r; exact .cons rfl .nil
  | .str, _, _, r => by cases r; exact .cons rfl .nil
  | .unit, _, _, r => by cases r; exact .nil
  | .pair a b, _, _, ⟨u, v, hv, ru, rv⟩ => by subst hv; exact RelCs_append (RelCs_encD a _ _ ru) (RelCs_encD b _ _ rv)
  | .slice t, l, _, r => by
    obtain ⟨a, c, hv, hc, hr⟩ := r
    subst hv
    exact .cons ⟨a, c, rfl, hc, hr⟩ .nil
  | .ref _, _, _, r => r.elim

theorem encD_length : ∀ (t : Ty) (x : t.D), (encD t x).length = t.size
  | .int _, _ => rfl
  | .bool, _ => rfl
  | .str, _ => rfl
  | .unit, _ => rfl
  | .pair a b, x => by simp [encD, Ty.size, encD_length a, encD_length b]
  | .slice _, _ => rfl
  | .ref _, _ => rfl

theorem RelD_of_RelCs {e : Env} : ∀ (t : Ty) (x : t.D) (vs : List Value), t.noRef = true → RelCs e (encD t x) vs → RelD e.imm t x vs
  | .int _, _, _, _, r => by cases r with | cons a b => cases b; cases a; rfl
  | .bool, _, _, _, r => by cases r with | cons a b => cases b; cases a; rfl
  | .str, _, _, _, r => by cases r with | cons a b => cases b; cases a; rfl
  | .unit, _, _, _, r => by cases r; rfl
  | .pair a b, x, vs, hn, r => by
    simp only [Ty.noRef, Bool.and_eq_true] at hn
    refine ⟨vs.take a.size, vs.drop a.size, (List.take_append_drop _ _).symm, RelD_of_RelCs a _ _ hn.1 ?_, RelD_of_RelCs b _ _ hn.2 ?_⟩
    · have := r.take a.size
      simp only [encD] at this
      rwa [List.take_append_of_le_length (by simp [encD_length]), List.take_of_length_le (by simp [encD_length])] at this
    · have := r.drop a.size
      simp only [encD] at this
      rwa [List.drop_append_of_le_length (by simp [encD_length]), List.drop_of_length_le (by simp [encD_length]), List.nil_append] at this
  | .slice t, l, vs, _, r => by cases r with | cons a b => cases b; exact a
  | .ref _, _, _, hn, _ => by simp [Ty.noRef] at hn

/-- Elements that are plain data, in the two ways of saying it. -/
theorem RowsC.of {e : Env} {t : Ty} {l : List t.D} {cs : List Value} {o : Nat} (r : Rows0 e.imm t l cs o) : RowsC e t l cs o := fun i hi => RelCs_encD t _ _ (r i hi)
theorem RowsC.plain {e : Env} {t : Ty} {l : List t.D} {cs : List Value} {o : Nat} (hn : t.noRef = true) (r : RowsC e t l cs o) : Rows0 e.imm t l cs o := fun i hi => RelD_of_RelCs t _ _ hn (r i hi)

theorem Mem.pool {A : Nat → Prop} {w0 : Start} {e : Env} {h : Hp} {w : World} (m : Mem A w0 e h w) {u : Ty} {pl : List (List u.D)} (hp : h POOL = .pool u pl) :
    (∀ k, pl.length ≤ k → e.vl k = .un) ∧ ∀ k (hk : k < pl.length), RelArr e w (e.vl k) u pl[k] := by
  have := m.hp POOL
  rw [hp] at this
  exact this.2

end Go.Proofs.Ytmcdddghlcllbaa.Den
