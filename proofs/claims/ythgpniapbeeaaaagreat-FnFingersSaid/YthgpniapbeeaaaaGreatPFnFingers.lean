/- The plain law FnFingers: its Lean function answers true at all data. -/
import Derived.Test.YthgpniapbeeaaaaGreatQFnFingers
set_option autoImplicit false
set_option linter.unusedVariables false
set_option linter.unusedSimpArgs false
namespace Go.Proofs.YthgpniapbeeaaaaGreat.LawFnFingers
open Go.Proofs.YthgpniapbeeaaaaGreat.Den Go.Proofs

/-! ### Alike: numbers of two tables that no walk along bases and fields tells apart -/

abbrev Pr : Type := Int × Int
def fieldsOf (l : List TType.D) (n : Int) : List TField.D := (rdT TType l n.toNat).2.2.2.1
def FldSame (f g : List TField.D) (i : Nat) : Prop := (rdT TField f i).1 = (rdT TField g i).1 ∧ ((rdT TField f i).2.1 : Int) = (rdT TField g i).2.1
def fpair (f g : List TField.D) (i : Nat) : Pr := ((rdT TField f i).2.2, (rdT TField g i).2.2)
def bOf (l : List TType.D) (n : Int) : Int := (rdT TType l n.toNat).2.2.1

structure Agr (l m : List TType.D) (p : Pr) : Prop where
  kind : ((rdT TType l p.1.toNat).1 : Int) = (rdT TType m p.2.toNat).1
  count : ((rdT TType l p.1.toNat).2.1 : Int) = (rdT TType m p.2.toNat).2.1
  mo : (rdT TType l p.1.toNat).2.2.2.2.1 = (rdT TType m p.2.toNat).2.2.2.2.1
  nm : (rdT TType l p.1.toNat).2.2.2.2.2 = (rdT TType m p.2.toNat).2.2.2.2.2
  len : (fieldsOf l p.1).length = (fieldsOf m p.2).length
  base : bOf l p.1 < 0 ↔ bOf m p.2 < 0
  fld : ∀ i, i < (fieldsOf l p.1).length → FldSame (fieldsOf l p.1) (fieldsOf m p.2) i

inductive Nx (l m : List TType.D) (p : Pr) : Pr → Prop where
  | base : 0 ≤ bOf l p.1 → Nx l m p (bOf l p.1, bOf m p.2)
  | fld (i : Nat) : i < (fieldsOf l p.1).length → Nx l m p (fpair (fieldsOf l p.1) (fieldsOf m p.2) i)

def Bisim (l m : List TType.D) (p : Pr) : Prop := ∃ R : Pr → Prop, R p ∧ ∀ u, R u → Agr l m u ∧ ∀ q, Nx l m u q → R q

theorem Bisim.agr {l m : List TType.D} {p : Pr} (h : Bisim l m p) : Agr l m p := by
  obtain ⟨R, hp, hR⟩ := h
  exact (hR p hp).1

theorem Bisim.nx {l m : List TType.D} {p q : Pr} (h : Bisim l m p) (hq : Nx l m p q) : Bisim l m q := by
  obtain ⟨R, hp, hR⟩ := h
  exact ⟨R, (hR p hp).2 q hq, hR⟩

def InP (l m : List TType.D) (p : Pr) : Prop := InR l.length p.1 ∧ InR m.length p.2

structure Inv (l m : List TType.D) (H : List Pr) : Prop where
  nd : H.Nodup
  inr : ∀ p ∈ H, InP l m p

theorem Inv.len {l m : List TType.D} {H : List Pr} (h : Inv l m H) (hl : l.length ≤ 24) (hm : m.length ≤ 24) : H.length ≤ 576 := by
  have h1 : ((H.map fun p => p.1 * 24 + p.2) : List Int).Nodup := by
    unfold List.Nodup
    rw [List.pairwise_map]
    refine List.Pairwise.imp_of_mem (fun {a b} ha hb hab e => hab ?_) h.nd
    have i1 := h.inr a ha
    have i2 := h.inr b hb
    unfold InP InR at i1 i2
    exact Prod.ext (by omega) (by omega)
  have h2 := nodup_bound 576 _ h1 (fun x hx => by
    obtain ⟨p, hp, rfl⟩ := List.mem_map.1 hx
    have i1 := h.inr p hp
    unfold InP InR at *
    omega)
  simpa using h2

theorem Inv.add {l m : List TType.D} {H : List Pr} (h : Inv l m H) {p : Pr} (hp : p ∉ H) (hi : InP l m p) : Inv l m (H ++ [p]) := by
  refine ⟨?_, fun q hq => ?_⟩
  · rw [List.nodup_append]
    exact ⟨h.nd, by simp, fun a ha b hb e => by rw [List.mem_singleton.1 hb] at e; exact hp (e ▸ ha)⟩
  · rcases List.mem_append.1 hq with hq | hq
    · exact h.inr q hq
    · rw [List.mem_singleton.1 hq]; exact hi

/-- From H to H': what came in is closed in H'. -/
structure Stp (l m : List TType.D) (H H' : List Pr) : Prop where
  inv : Inv l m H'
  sub : ∀ p ∈ H, p ∈ H'
  len : H.length ≤ H'.length
  ok : ∀ p ∈ H', p ∈ H ∨ (Agr l m p ∧ ∀ q, Nx l m p q → q ∈ H')

theorem Stp.refl {l m : List TType.D} {H : List Pr} (h : Inv l m H) : Stp l m H H := ⟨h, fun _ h => h, Nat.le_refl _, fun _ h => .inl h⟩

theorem Stp.trans {l m : List TType.D} {A B C : List Pr} (h : Stp l m A B) (g : Stp l m B C) : Stp l m A C := by
  refine ⟨g.inv, fun p hp => g.sub p (h.sub p hp), Nat.le_trans h.len g.len, fun p hp => ?_⟩
  rcases g.ok p hp with h1 | h1
  · rcases h.ok p h1 with h2 | h2
    · exact .inl h2
    · exact .inr ⟨h2.1, fun q hq => g.sub q (h2.2 q hq)⟩
  · exact .inr h1

theorem Stp.close {l m : List TType.D} {A B : List Pr} {p : Pr} (h : Stp l m (A ++ [p]) B) (ha : Agr l m p) (hn : ∀ q, Nx l m p q → q ∈ B) : Stp l m A B ∧ p ∈ B := by
  refine ⟨⟨h.inv, fun q hq => h.sub q (by simp [hq]), by have := h.len; simp at this; omega, fun q hq => ?_⟩, h.sub p (by simp)⟩
  rcases h.ok q hq with h1 | h1
  · rcases List.mem_append.1 h1 with h2 | h2
    · exact .inl h2
    · rw [List.mem_singleton.1 h2]
      exact .inr ⟨ha, hn⟩
  · exact .inr h1

theorem Stp.bisim {l m : List TType.D} {H : List Pr} (h : Stp l m [] H) {p : Pr} (hp : p ∈ H) : Bisim l m p := by
  refine ⟨(· ∈ H), hp, fun u hu => ?_⟩
  rcases h.ok u hu with h1 | h1
  · cases h1
  · exact h1

def Post (l m : List TType.D) (p : Pr) (H H' : List Pr) (ok : Bool) : Prop := (ok = true → Stp l m H H' ∧ p ∈ H') ∧ (ok = false → ¬ Bisim l m p)
def PostF (l m : List TType.D) (f g : List TField.D) (i n : Nat) (H H' : List Pr) (ok : Bool) : Prop :=
  (ok = true → Stp l m H H' ∧ ∀ j, i ≤ j → j < n → FldSame f g j ∧ fpair f g j ∈ H') ∧ (ok = false → ∃ j, i ≤ j ∧ j < n ∧ (FldSame f g j → ¬ Bisim l m (fpair f g j)))

/-- What a good table's types name lies in it. -/
theorem good_inr {l : List TType.D} (h : GoodT l) {n : Int} (hn : InR l.length n) : (bOf l n < 0 ∨ InR l.length (bOf l n)) ∧ ∀ i, i < (fieldsOf l n).length → InR l.length (rdT TField (fieldsOf l n) i).2.2 := by
  have hi := hn.nat.1
  unfold bOf fieldsOf
  constructor
  · rcases Nat.lt_or_ge n.toNat 3 with h1 | h1
    · have e := (base_iff l h.1.1).1 h.1.2.2.1 _ h1
      obtain ⟨_, b2, _⟩ := base_parts _ h1
      rw [e, b2]
      exact .inl (by decide)
    · obtain ⟨_, _, hk⟩ := (h.1.2.2.2 _ h1 hi).1
      split at hk
      · exact .inr hk.2
      · split at hk
        · rcases hk.2.1 with e | e
          · rw [e]; exact .inl (by decide)
          · exact .inr e.1
        · exact .inr hk.2.2.1
  · intro i hf
    refine h.1.tidy.inr _ hi _ ?_
    unfold parts
    refine List.mem_append_right _ (List.mem_map.2 ⟨_, rdT_mem hf, rfl⟩)

theorem good_few {l : List TType.D} (h : GoodT l) {n : Int} (hn : InR l.length n) : (fieldsOf l n).length ≤ 7 := by
  have := h.1.tidy.few _ hn.nat.1
  unfold parts fparts at this
  simp only [List.length_append, List.length_map] at this
  unfold fieldsOf
  omega

def bx (t : TType.D) : Int × Int × Int × (List TField.D) × ByteArray × ByteArray × Unit := (t.1, (t.2.1, (t.2.2.1, (t.2.2.2.1, (t.2.2.2.2.1, (t.2.2.2.2.2, ()))))))

/-- Whether p is held: the walk over the held pairs. -/
theorem rdP_mem {H : List Tii.D} {p : Pr} : p ∈ H ↔ ∃ i, i < H.length ∧ rdT Tii H i = p := by
  constructor
  · intro h
    obtain ⟨i, hi, he⟩ := List.getElem_of_mem h
    exact ⟨i, hi, by rw [← he]; exact rdT_get hi⟩
  · rintro ⟨i, hi, rfl⟩
    exact rdT_mem (t := Tii) hi

theorem post_new {l m : List TType.D} {H H1 H' : List Pr} {p : Pr} {ok : Bool} (hag : ok = true → Agr l m p ∧ Stp l m (H ++ [p]) H' ∧ ∀ q, Nx l m p q → q ∈ H') (hno : ok = false → ¬ Bisim l m p) : Post l m p H H' ok :=
  ⟨fun h => (hag h).2.1.close (hag h).1 (hag h).2.2, hno⟩

/-! ### The same walk with a map of held pairs -/

def keys (H : List (Tii.D × Bool)) : List Pr := H.map (·.1)
def AllT (H : List (Tii.D × Bool)) : Prop := ∀ e ∈ H, e.2 = true

theorem eqD_ii (a b : Tii.D) : eqD Tii a b = true ↔ a = b := by
  constructor
  · intro h
    have h : ((a.1 : Int) == b.1 && (a.2 : Int) == b.2) = true := h
    simp only [Bool.and_eq_true, beq_iff_eq] at h
    exact Prod.ext h.1 h.2
  · rintro rfl
    show ((a.1 : Int) == a.1 && (a.2 : Int) == a.2) = true
    simp

theorem mget_held (H : List (Tii.D × Bool)) (p : Tii.D) (h : AllT H) : (mget (k := Tii) (v := .bool) H p).getD false = true ↔ p ∈ keys H := by
  induction H with
  | nil => simp [mget, keys]
  | cons e r ih =>
    have h1 := ih (fun x hx => h x (List.mem_cons_of_mem _ hx))
    rw [mget]
    split
    · rename_i he
      have := (eqD_ii _ _).1 he
      constructor
      · intro _; rw [this]; exact List.mem_map.2 ⟨e, List.mem_cons_self, rfl⟩
      · intro _; exact h e List.mem_cons_self
    · rename_i he
      rw [h1]
      unfold keys
      rw [List.map_cons, List.mem_cons]
      exact ⟨.inr, fun c => c.resolve_left fun x => he ((eqD_ii _ _).2 x)⟩

theorem mput_new (H : List (Tii.D × Bool)) (p : Tii.D) (h : p ∉ keys H) : mput (k := Tii) (v := .bool) H p true = H ++ [(p, true)] := by
  induction H with
  | nil => rfl
  | cons e r ih =>
    rw [mput, if_neg, ih, List.cons_append]
    · intro c; exact h (by unfold keys at *; rw [List.map_cons, List.mem_cons]; exact .inr c)
    · intro c; exact h (by rw [(eqD_ii _ _).1 c]; exact List.mem_map.2 ⟨e, List.mem_cons_self, rfl⟩)

theorem keys_new (H : List (Tii.D × Bool)) (p : Tii.D) : keys (H ++ [(p, true)]) = keys H ++ [p] := by simp [keys]
theorem allT_new {H : List (Tii.D × Bool)} (h : AllT H) (p : Tii.D) : AllT (H ++ [(p, true)]) := by
  intro e he
  rcases List.mem_append.1 he with he | he
  · exact h e he
  · rw [List.mem_singleton.1 he]

theorem alike_l4_ev (l m : List TType.D) (X Y : TType.D) (hfg : X.2.2.2.1.length = Y.2.2.2.1.length) (hf7 : X.2.2.2.1.length ≤ 7) (h0 : Nat)
    (hp : ∀ i, i < X.2.2.2.1.length → InP l m (fpair X.2.2.2.1 Y.2.2.2.1 i)) (hb0 : 0 ≤ (X.2.2.1 : Int) → InP l m (X.2.2.1, Y.2.2.1))
    (rec : ∀ H p, AllT H → Inv l m (keys H) → h0 ≤ H.length → InP l m p → EvP (fun k => impl_alike.f k (l, p.1, m, p.2, H, ())) (fun y => AllT y.1 ∧ Post l m p (keys H) (keys y.1) y.2.1)) :
    ∀ (d i : Nat) (H : List (Tii.D × Bool)), X.2.2.2.1.length ≤ d + i → i ≤ X.2.2.2.1.length → AllT H → Inv l m (keys H) → h0 ≤ H.length →
      EvP (fun k => impl_alike.l4 k (l, m, H, bx X, bx Y, X.2.2.2.1, (X.2.2.2.1.length : Int), (i : Int), ())) (fun y => AllT y.1 ∧
        (y.2.1 = true → Stp l m (keys H) (keys y.1) ∧ (∀ j, i ≤ j → j < X.2.2.2.1.length → FldSame X.2.2.2.1 Y.2.2.2.1 j ∧ fpair X.2.2.2.1 Y.2.2.2.1 j ∈ keys y.1) ∧ (0 ≤ (X.2.2.1 : Int) → (X.2.2.1, Y.2.2.1) ∈ keys y.1)) ∧
        (y.2.1 = false → (∃ j, j < X.2.2.2.1.length ∧ (FldSame X.2.2.2.1 Y.2.2.2.1 j → ¬ Bisim l m (fpair X.2.2.2.1 Y.2.2.2.1 j))) ∨ (0 ≤ (X.2.2.1 : Int) ∧ ¬ Bisim l m (X.2.2.1, Y.2.2.1)))) := by
  have hend : ∀ (H : List (Tii.D × Bool)) (i : Nat), X.2.2.2.1.length ≤ i → AllT H → Inv l m (keys H) → h0 ≤ H.length →
      EvP (fun k => (if decide ((X.2.2.1 : Int) < (0 : Int)) = true then (some (H, true, ())) else ((impl_alike.f k (l, X.2.2.1, m, Y.2.2.1, H, ())).bind fun y2 => (some (y2.1, y2.2.1, ())))))
       (fun y => AllT y.1 ∧
        (y.2.1 = true → Stp l m (keys H) (keys y.1) ∧ (∀ j, i ≤ j → j < X.2.2.2.1.length → FldSame X.2.2.2.1 Y.2.2.2.1 j ∧ fpair X.2.2.2.1 Y.2.2.2.1 j ∈ keys y.1) ∧ (0 ≤ (X.2.2.1 : Int) → (X.2.2.1, Y.2.2.1) ∈ keys y.1)) ∧
        (y.2.1 = false → (∃ j, j < X.2.2.2.1.length ∧ (FldSame X.2.2.2.1 Y.2.2.2.1 j → ¬ Bisim l m (fpair X.2.2.2.1 Y.2.2.2.1 j))) ∨ (0 ≤ (X.2.2.1 : Int) ∧ ¬ Bisim l m (X.2.2.1, Y.2.2.1)))) := by
    intro H i hi ha hinv hlen
    refine EvP.ite (fun h => EvP.ret ⟨ha, fun _ => ⟨.refl hinv, fun j h1 h2 => by omega, fun h2 => absurd (of_decide_eq_true h) (Int.not_lt.2 h2)⟩, fun c => (by cases c)⟩) (fun h => ?_)
    have h0' : 0 ≤ (X.2.2.1 : Int) := Int.not_lt.1 fun c => h (decide_eq_true c)
    refine EvP.bind (rec H (X.2.2.1, Y.2.2.1) ha hinv hlen (hb0 h0')) ?_
    rintro ⟨H1, b, _⟩ ⟨h1, h2, h3⟩
    exact EvP.ret ⟨h1, fun c => ⟨(h2 c).1, fun j h1 h2 => by omega, fun _ => (h2 c).2⟩, fun c => .inr ⟨h0', h3 c⟩⟩
  intro d
  induction d with
  | zero =>
    intro i H hd hi ha hinv hlen
    refine EvP.succ ?_
    simp only [impl_alike.l4, bx, decide_eq_true_eq]
    exact EvP.neg (by omega) (hend H i (by omega) ha hinv hlen)
  | succ d ih =>
    intro i H hd hi ha hinv hlen
    refine EvP.succ ?_
    simp only [impl_alike.l4, bx, decide_eq_true_eq, Int.toNat_natCast, next64 (show i ≤ 1099511627776 by omega), Bool.not_eq_true', bne_iff_ne, ne_eq, beq_eq_false_iff_ne, toList_eq]
    refine EvP.ite (fun h => ?_) (fun h => hend H i (by omega) ha hinv hlen)
    have hil : i < X.2.2.2.1.length := by omega
    refine EvP.pos (by omega) (EvP.pos h (EvP.pos (by omega) (EvP.pos (by omega) ?_)))
    refine EvP.ite (fun e => EvP.ret ⟨ha, fun c => (by cases c), fun _ => .inl ⟨i, hil, fun c => absurd c.1 e⟩⟩) (fun e1 => ?_)
    refine EvP.ite (fun e => EvP.ret ⟨ha, fun c => (by cases c), fun _ => .inl ⟨i, hil, fun c => absurd c.2 e⟩⟩) (fun e2 => ?_)
    have hs : FldSame X.2.2.2.1 Y.2.2.2.1 i := ⟨Classical.not_not.1 e1, Classical.not_not.1 e2⟩
    refine EvP.bind (rec H (fpair X.2.2.2.1 Y.2.2.2.1 i) ha hinv hlen (hp i hil)) ?_
    rintro ⟨H1, b, _⟩ ⟨ha1, h1, h2⟩
    refine EvP.ite (fun e => EvP.ret ⟨ha1, fun c => (by cases c), fun _ => .inl ⟨i, hil, fun _ => h2 e⟩⟩) (fun e => ?_)
    have hb : b = true := by simpa using e
    obtain ⟨s1, s2⟩ := h1 hb
    have hle : H.length ≤ H1.length := by
      have := s1.len
      simpa [keys] using this
    refine (ih (i + 1) H1 (by omega) (by omega) ha1 s1.inv (Nat.le_trans hlen hle)).mono ?_
    rintro y ⟨hy, g1, g2⟩
    refine ⟨hy, fun c => ?_, g2⟩
    obtain ⟨t1, t2, t3⟩ := g1 c
    refine ⟨s1.trans t1, fun j hj1 hj2 => ?_, t3⟩
    rcases Nat.lt_or_ge i j with hij | hij
    · exact t2 j hij hj2
    · obtain rfl : i = j := by omega
      exact ⟨hs, t1.sub _ s2⟩

theorem alike_ev (l m : List TType.D) (hl : GoodT l) (hm : GoodT m) : ∀ (n : Nat) (H : List (Tii.D × Bool)) (p : Pr), AllT H → Inv l m (keys H) → 577 ≤ H.length + n → InP l m p →
    EvP (fun k => impl_alike.f k (l, p.1, m, p.2, H, ())) (fun y => AllT y.1 ∧ Post l m p (keys H) (keys y.1) y.2.1) := by
  intro n
  induction n with
  | zero =>
    intro H p ha hinv hn hp
    have := hinv.len hl.1.2.1 hm.1.2.1
    simp [keys] at this
    omega
  | succ n ih =>
    intro H p ha hinv hn hp
    have hH := hinv.len hl.1.2.1 hm.1.2.1
    obtain ⟨⟨p1, p2⟩, p3, p4⟩ := hp
    refine EvP.succ ?_
    simp only [impl_alike.f]
    refine EvP.ite (fun h => EvP.ret ⟨ha, fun _ => ⟨.refl hinv, (mget_held H p ha).1 h⟩, fun c => (by cases c)⟩) (fun h => ?_)
    have hnew : p ∉ keys H := fun e => h ((mget_held H p ha).2 e)
    have hinv' := hinv.add hnew ⟨⟨p1, p2⟩, p3, p4⟩
    rw [← keys_new] at hinv'
    have ha' := allT_new ha p
    have hput : mput (k := Tii) (v := .bool) H (p.1, p.2) true = H ++ [(p, true)] := mput_new H p hnew
    simp only [hput, Bool.not_eq_true', bne_iff_ne, ne_eq, beq_eq_false_iff_ne, toList_eq, decide_eq_true_eq]
    refine EvP.pos p1 (EvP.pos p2 (EvP.pos p3 (EvP.pos p4 ?_)))
    refine EvP.ite (fun e => EvP.ret ⟨ha', fun c => (by cases c), fun _ b => absurd b.agr.kind e⟩) (fun e1 => ?_)
    refine EvP.ite (fun e => EvP.ret ⟨ha', fun c => (by cases c), fun _ b => absurd b.agr.count e⟩) (fun e2 => ?_)
    refine EvP.ite (fun e => EvP.ret ⟨ha', fun c => (by cases c), fun _ b => absurd b.agr.mo e⟩) (fun e3 => ?_)
    refine EvP.ite (fun e => EvP.ret ⟨ha', fun c => (by cases c), fun _ b => absurd b.agr.nm e⟩) (fun e4 => ?_)
    refine EvP.ite (fun e => EvP.ret ⟨ha', fun c => (by cases c), fun _ b => e (congrArg _ b.agr.len)⟩) (fun e5 => ?_)
    refine EvP.ite (fun e => EvP.ret ⟨ha', fun c => (by cases c), fun _ b => e (decide_eq_decide.2 b.agr.base)⟩) (fun e6 => ?_)
    simp only [Classical.not_not] at e1 e2 e3 e4 e5 e6
    have e5' : (fieldsOf l p.1).length = (fieldsOf m p.2).length := Int.ofNat.inj e5
    have e6' : bOf l p.1 < 0 ↔ bOf m p.2 < 0 := decide_eq_decide.1 e6
    have gl := good_inr hl ⟨p1, p2⟩
    have gm := good_inr hm ⟨p3, p4⟩
    refine (alike_l4_ev l m (rdT TType l p.1.toNat) (rdT TType m p.2.toNat) e5' (good_few hl ⟨p1, p2⟩) (H ++ [(p, true)]).length (fun i hi => ⟨gl.2 i hi, gm.2 i (e5' ▸ hi)⟩)
      (fun h0 => ⟨gl.1.resolve_left (Int.not_lt.2 h0), gm.1.resolve_left fun c => Int.not_lt.2 h0 (e6'.2 c)⟩)
      (fun H2 q ha2 hi2 hl2 hq => ih H2 q ha2 hi2 (by simp at hl2; omega) hq) (fieldsOf l p.1).length 0 (H ++ [(p, true)]) (by show (fieldsOf l p.1).length ≤ _; omega) (by omega) ha' hinv' (Nat.le_refl _)).mono ?_
    rintro y ⟨hy, g1, g2⟩
    refine ⟨hy, post_new (H1 := keys H) (fun c => ?_) (fun c bs => ?_)⟩
    · obtain ⟨t1, t2, t3⟩ := g1 c
      refine ⟨⟨e1, e2, e3, e4, e5', e6', fun i hi => (t2 i (by omega) hi).1⟩, keys_new H p ▸ t1, fun q hq => ?_⟩
      cases hq with
      | base h => exact t3 h
      | fld i hi => exact (t2 i (by omega) hi).2
    · rcases g2 c with ⟨j, j2, j3⟩ | ⟨j1, j2⟩
      · exact j3 (bs.agr.fld j j2) (bs.nx (.fld j j2))
      · exact j2 (bs.nx (.base j1))

/-! ### Alike objects -/

theorem nilInv (a b : List TType.D) : Inv a b [] := ⟨List.nodup_nil, fun p hp => (by cases hp)⟩

theorem post_iff {a b : List TType.D} {p : Pr} {H' : List Pr} {ok : Bool} (h : Post a b p [] H' ok) : ok = true ↔ Bisim a b p := by
  refine ⟨fun c => (h.1 c).1.bisim (h.1 c).2, fun b => ?_⟩
  cases ok with
  | true => rfl
  | false => exact absurd b (h.2 rfl)

/-- A type that an object names: none, or a number of the table. -/
def TyN (a : List TType.D) (x : Int) : Prop := x = -1 ∨ InR a.length x
def AT (a : List TType.D) (x : Int) (b : List TType.D) (y : Int) : Prop := (x < 0 ∧ y < 0) ∨ (0 ≤ x ∧ 0 ≤ y ∧ Bisim a b (x, y))

theorem alikeTypes_ev (s : TScope.D) (x : Int) (t : TScope.D) (y : Int) (ga : GoodT s.2.2.1) (gb : GoodT t.2.2.1) (hx : TyN s.2.2.1 x) (hy : TyN t.2.2.1 y) : EvP (fun k => impl_alikeTypes.f k (s, x, t, y, ())) (fun z => z.1 = true ↔ AT s.2.2.1 x t.2.2.1 y) := by
  have hneg : x < 0 ∨ y < 0 → ((x == y) = true ↔ AT s.2.2.1 x t.2.2.1 y) := by
    intro h
    rw [beq_iff_eq]
    constructor
    · intro e; exact .inl (by omega)
    · intro e
      rcases e with e | e
      · rcases hx with h1 | h1
        · rcases hy with h2 | h2
          · omega
          · exact absurd h2.1 (by omega)
        · exact absurd h1.1 (by omega)
      · omega
  simp only [impl_alikeTypes.f, decide_eq_true_eq]
  refine EvP.ite (fun h => EvP.ret (hneg (.inl h))) (fun h => EvP.ite (fun h2 => EvP.ret (hneg (.inr h2))) (fun h2 => ?_))
  have ix : InR s.2.2.1.length x := hx.resolve_left (by omega)
  have iy : InR t.2.2.1.length y := hy.resolve_left (by omega)
  refine EvP.bind (alike_ev s.2.2.1 t.2.2.1 ga gb 577 [] (x, y) (fun e he => by cases he) (nilInv _ _) (by simp) ⟨ix, iy⟩) ?_
  rintro ⟨H, c, _⟩ ⟨_, hp⟩
  refine EvP.ret ((post_iff hp).trans ⟨fun h => .inr ⟨ix.1, iy.1, h⟩, fun h => ?_⟩)
  rcases h with h | h
  · omega
  · exact h.2.2

structure PAlike (a b : List TType.D) (p q : TParam.D) : Prop where
  name : p.1 = q.1
  byvar : (p.2.1 : Bool) = q.2.1
  ty : AT a p.2.2 b q.2.2

structure OAlike (a b : List TType.D) (o p : TObject.D) : Prop where
  name : o.1 = p.1
  kind : (o.2.1 : Int) = p.2.1
  mark : (o.2.2.1 : Int) = p.2.2.1
  value : (o.2.2.2.2.1 : Int) = p.2.2.2.2.1
  len : o.2.2.2.2.2.length = p.2.2.2.2.2.length
  ty : AT a o.2.2.2.1 b p.2.2.2.1
  par : ∀ i, i < o.2.2.2.2.2.length → PAlike a b (rdT TParam o.2.2.2.2.2 i) (rdT TParam p.2.2.2.2.2 i)

structure ObjTy (a : List TType.D) (o : TObject.D) : Prop where
  ty : TyN a o.2.2.2.1
  few : o.2.2.2.2.2.length ≤ 1000
  par : ∀ i, i < o.2.2.2.2.2.length → TyN a (rdT TParam o.2.2.2.2.2 i).2.2

theorem obj_in {a : List TType.D} (h3 : GoodT a) {o : TObject.D} (h : ObjOk a.length o) : ObjTy a o := by
  obtain ⟨_, _, _, h4, hs⟩ := h
  have hno : ¬ (o.2.1 : Int) = 4 → o.2.2.2.2.2.length = 0 := h4
  unfold SwitchOk at hs
  split at hs
  · rename_i e
    have h0 := hno (by rw [e]; decide)
    exact ⟨.inr (by have := h3.1.1; rw [hs.1]; exact ⟨by decide, by show (0 : Int) < _; omega⟩), by omega, fun i hi => by omega⟩
  · split at hs
    · rename_i e
      have h0 := hno (by rw [e]; decide)
      exact ⟨.inr hs, by omega, fun i hi => by omega⟩
    · split at hs
      · rename_i e
        have h0 := hno (by rw [e]; decide)
        exact ⟨.inr hs, by omega, fun i hi => by omega⟩
      · exact ⟨hs.2.1, by have := hs.2.2.2; omega, fun i hi => .inr (hs.2.2.1 i hi).2.1⟩

theorem eqParams_ev (s t : TScope.D) (f g : List TParam.D) (ga : GoodT s.2.2.1) (gb : GoodT t.2.2.1) (hfew : f.length ≤ 1000) (hf : ∀ i, i < f.length → TyN s.2.2.1 (rdT TParam f i).2.2) (hg : ∀ i, i < g.length → TyN t.2.2.1 (rdT TParam g i).2.2) :
    EvP (fun k => slices_EqualFunc_impl_Param_impl_Param_impl_Param_impl_Param.f k (f, g, ((s, ()), ((t, ()), ())), ())) (fun y => y.1 = true ↔ f.length = g.length ∧ ∀ i, i < f.length → PAlike s.2.2.1 t.2.2.1 (rdT TParam f i) (rdT TParam g i)) := by
  simp only [slices_EqualFunc_impl_Param_impl_Param_impl_Param_impl_Param.f, bne_iff_ne, ne_eq]
  refine EvP.ite (fun h => EvP.ret ⟨fun e => (by cases e), fun e => absurd (congrArg _ e.1) h⟩) (fun h => ?_)
  have hl : f.length = g.length := Int.ofNat.inj (Classical.not_not.1 h)
  refine EvP.scan (L := fun k i => slices_EqualFunc_impl_Param_impl_Param_impl_Param_impl_Param.l2 k (g, ((s, ()), ((t, ()), ())), f, (f.length : Int), i, ())) f.length (fun i => PAlike s.2.2.1 t.2.2.1 (rdT TParam f i) (rdT TParam g i)) (fun hall => ?_) (fun i hi hall hgo => ?_)
  · simp only [slices_EqualFunc_impl_Param_impl_Param_impl_Param_impl_Param.l2, decide_eq_true_eq]
    exact EvP.neg (by omega) (EvP.ret ⟨fun _ => ⟨hl, hall⟩, fun _ => rfl⟩)
  · simp only [slices_EqualFunc_impl_Param_impl_Param_impl_Param_impl_Param.l2, decide_eq_true_eq, Int.toNat_natCast, next64 (show i ≤ 1099511627776 by omega), Bool.not_eq_true']
    refine EvP.pos (by omega) (EvP.pos (by omega) (EvP.pos (by omega) (EvP.pos (by omega) (EvP.pos (by omega) ?_))))
    refine EvP.bind (R := fun y => y.1 = (s, ()) ∧ y.2.1 = (t, ()) ∧ (y.2.2.1 = true ↔ PAlike s.2.2.1 t.2.2.1 (rdT TParam f i) (rdT TParam g i))) ?_ ?_
    · simp only [impl_alikeObjects_1.f, beq_iff_eq, toList_eq]
      refine EvP.ite (fun f1 => EvP.ite (fun f2 => ?_) (fun f2 => EvP.ret ⟨rfl, rfl, fun e => (by cases e), fun e => absurd e.byvar f2⟩)) (fun f1 => EvP.ret ⟨rfl, rfl, fun e => (by cases e), fun e => absurd e.name f1⟩)
      refine EvP.bind (alikeTypes_ev s (rdT TParam f i).2.2 t (rdT TParam g i).2.2 ga gb (hf i hi) (hg i (by omega))) ?_
      rintro ⟨c, _⟩ hc
      exact EvP.ret ⟨rfl, rfl, fun e => ⟨f1, f2, hc.1 e⟩, fun e => hc.2 e.ty⟩
    · rintro ⟨S, T, c, _⟩ ⟨h1, h2, h3⟩
      simp only at h1 h2 h3
      subst h1 h2
      exact EvP.ite (fun e => EvP.ret ⟨fun e => (by cases e), fun q => by rw [h3.2 (q.2 i hi)] at e; cases e⟩) (fun e => hgo (h3.1 (by simpa using e)))

theorem alikeObjects_ev (s : TScope.D) (o : TObject.D) (t : TScope.D) (p : TObject.D) (ga : GoodT s.2.2.1) (gb : GoodT t.2.2.1) (ho : ObjTy s.2.2.1 o) (hp : ObjTy t.2.2.1 p) :
    EvP (fun k => impl_alikeObjects.f k (s, o, t, p, ())) (fun y => y.1 = true ↔ OAlike s.2.2.1 t.2.2.1 o p) := by
  simp only [impl_alikeObjects.f, beq_iff_eq, toList_eq]
  have no : ∀ {q : Prop}, ¬ q → (OAlike s.2.2.1 t.2.2.1 o p → q) → ((((false, ()) : Bool × Unit).1 = true) ↔ OAlike s.2.2.1 t.2.2.1 o p) := fun h g => ⟨fun e => (by cases e), fun e => absurd (g e) h⟩
  refine EvP.ite (fun e1 => ?_) (fun e => EvP.ret (no e fun h => h.name))
  refine EvP.ite (fun e2 => ?_) (fun e => EvP.ret (no e fun h => h.kind))
  refine EvP.ite (fun e3 => ?_) (fun e => EvP.ret (no e fun h => h.mark))
  refine EvP.ite (fun e4 => ?_) (fun e => EvP.ret (no e fun h => h.value))
  refine EvP.bind (alikeTypes_ev s o.2.2.2.1 t p.2.2.2.1 ga gb ho.ty hp.ty) ?_
  rintro ⟨c, _⟩ hc
  simp only at hc
  refine EvP.ite (fun e => ?_) (fun e => EvP.ret (no (fun h => e (hc.2 h)) fun h => h.ty))
  have e6 := hc.1 e
  refine EvP.bind (eqParams_ev s t o.2.2.2.2.2 p.2.2.2.2.2 ga gb ho.few ho.par hp.par) ?_
  rintro ⟨d, _⟩ hd
  simp only at hd
  exact EvP.ret ⟨fun h => ⟨e1, e2, e3, e4, (hd.1 h).1, e6, (hd.1 h).2⟩, fun h => hd.2 ⟨h.len, h.par⟩⟩

/-! ### Mixed numbers and fingers of texts -/

def mixM (a b : Int) : Int := w64 (bitsI .u64 (· &&& ·) (bitsI .u64 (· ^^^ ·) ((IntKind.wrap .u64) ((bitsI .u64 (· ^^^ ·) ((IntKind.wrap .u64) (((IntKind.wrap .u64) (((IntKind.wrap .u64) (((IntKind.wrap .u64) a) * (31 : Int))) + ((IntKind.wrap .u64) (((IntKind.wrap .u64) b) * (131 : Int))))) + (17 : Int))) (Int.fdiv ((IntKind.wrap .u64) (((IntKind.wrap .u64) (((IntKind.wrap .u64) (((IntKind.wrap .u64) a) * (31 : Int))) + ((IntKind.wrap .u64) (((IntKind.wrap .u64) b) * (131 : Int))))) + (17 : Int))) (2 ^ 29))) * (1000003 : Int))) (Int.fdiv ((IntKind.wrap .u64) ((bitsI .u64 (· ^^^ ·) ((IntKind.wrap .u64) (((IntKind.wrap .u64) (((IntKind.wrap .u64) (((IntKind.wrap .u64) a) * (31 : Int))) + ((IntKind.wrap .u64) (((IntKind.wrap .u64) b) * (131 : Int))))) + (17 : Int))) (Int.fdiv ((IntKind.wrap .u64) (((IntKind.wrap .u64) (((IntKind.wrap .u64) (((IntKind.wrap .u64) a) * (31 : Int))) + ((IntKind.wrap .u64) (((IntKind.wrap .u64) b) * (131 : Int))))) + (17 : Int))) (2 ^ 29))) * (1000003 : Int))) (2 ^ 32))) (4611686018427387903 : Int))

theorem specMix_eq (k : Nat) (a b : Int) : spec_Mix.f k (a, b, ()) = some (mixM a b, ()) := by unfold spec_Mix.f mixM; exact Eq.refl _

theorem implMix_eq (k : Nat) (a b : Int) : impl_mix.f k (a, b, ()) = some (mixM a b, ()) := by unfold impl_mix.f mixM; exact Eq.refl _

def mixAllM (l : List Int) : Int := l.foldl mixM (l.length : Int)

theorem foldl_next {f : Int → Int → Int} {l : List Int} {i : Nat} (h : i < l.length) (a : Int) : (l.take (i + 1)).foldl f a = f ((l.take i).foldl f a) (rdT (.int .i64) l i) := by
  rw [List.take_add_one, rdT_some (t := .int .i64) h, List.foldl_append]
  rfl

theorem implMixAll_ev (l : List Int) (hl : l.length ≤ 4194304) : EvP (fun k => impl_mixAll.f k (l, ())) (· = (mixAllM l, ())) := by
  simp only [impl_mixAll.f]
  refine EvP.loop (L := impl_mixAll.l1) (Q := (· = (mixAllM l, ()))) (fun j s => ∃ i : Nat, s = ((l.take i).foldl mixM (l.length : Int), l, (l.length : Int), (i : Int), ()) ∧ i ≤ l.length ∧ j = l.length - i) ?_ l.length _ ⟨0, rfl, Nat.zero_le _, rfl⟩
  rintro j _ ⟨i, rfl, hi, rfl⟩ ih
  simp only [impl_mixAll.l1, decide_eq_true_eq, Int.toNat_natCast, next64 (show i ≤ 1099511627776 by omega), implMix_eq, Option.bind_some]
  refine EvP.ite (fun hlt => EvP.pos (by omega) (EvP.pos (by omega) ?_)) (fun hge => EvP.ret ?_)
  · have := ih (l.length - (i + 1)) _ (by omega) ⟨i + 1, rfl, by omega, rfl⟩
    rwa [foldl_next (by omega)] at this
  · rw [List.take_of_length_le (by omega)]; rfl

theorem specMixAll_ev (l : List Int) (hl : l.length ≤ 4194304) : EvP (fun k => spec_l1MixAll.f k (l, ())) (· = (mixAllM l, ())) := by
  simp only [spec_l1MixAll.f]
  refine EvP.loop (L := spec_l1MixAll.l1) (Q := (· = (mixAllM l, ()))) (fun j s => ∃ i : Nat, s = ((l.take i).foldl mixM (l.length : Int), l, (l.length : Int), (i : Int), ()) ∧ i ≤ l.length ∧ j = l.length - i) ?_ l.length _ ⟨0, rfl, Nat.zero_le _, rfl⟩
  rintro j _ ⟨i, rfl, hi, rfl⟩ ih
  simp only [spec_l1MixAll.l1, decide_eq_true_eq, Int.toNat_natCast, next64 (show i ≤ 1099511627776 by omega), specMix_eq, Option.bind_some]
  refine EvP.ite (fun hlt => EvP.pos (by omega) (EvP.pos (by omega) ?_)) (fun hge => EvP.ret ?_)
  · have := ih (l.length - (i + 1)) _ (by omega) ⟨i + 1, rfl, by omega, rfl⟩
    rwa [foldl_next (by omega)] at this
  · rw [List.take_of_length_le (by omega)]; rfl

def bytesM (s : ByteArray) (n : Nat) : List Int := (List.range n).map fun i => w64 (bt s i)
theorem bytesM_succ (s : ByteArray) (n : Nat) : bytesM s (n + 1) = bytesM s n ++ [w64 (bt s n)] := by simp [bytesM, List.range_succ]
theorem bytesM_len (s : ByteArray) (n : Nat) : (bytesM s n).length = n := by simp [bytesM]
def textM (s : ByteArray) : Int := mixAllM (bytesM s s.size)

theorem implText_ev (s : ByteArray) (hs : s.size ≤ 1048576) : EvP (fun k => impl_textFinger.f k (s, ())) (· = (textM s, ())) := by
  have hbig := big_eq
  simp only [impl_textFinger.f]
  have hb : EvP (fun k => impl_bytesOf.f k (s, ())) (· = (bytesM s s.size, ())) := by
    simp only [impl_bytesOf.f]
    refine EvP.loop (L := impl_bytesOf.l1) (Q := (· = (bytesM s s.size, ()))) (fun j x => ∃ i : Nat, x = (s, bytesM s i, (s.size : Int), (i : Int), ()) ∧ i ≤ s.size ∧ j = s.size - i) ?_ s.size _ ⟨0, rfl, Nat.zero_le _, rfl⟩
    rintro j _ ⟨i, rfl, hi, rfl⟩ ih
    have hbl := bytesM_len s i
    simp only [impl_bytesOf.l1, decide_eq_true_eq, Int.toNat_natCast, next64 (show i ≤ 1099511627776 by omega)]
    refine EvP.ite (fun hlt => EvP.pos (by omega) (EvP.pos (by omega) (EvP.pos (by omega) ?_))) (fun hge => EvP.ret ?_)
    · have := ih (s.size - (i + 1)) _ (by omega) ⟨i + 1, rfl, by omega, rfl⟩
      rwa [bytesM_succ] at this
    · rw [show i = s.size by omega]
  refine EvP.bind hb ?_
  rintro _ rfl
  refine EvP.bind (implMixAll_ev _ (by simp only [bytesM_len]; omega)) ?_
  rintro _ rfl
  exact EvP.ret rfl

theorem specText_ev (s : ByteArray) (hs : s.size ≤ 1048576) : EvP (fun k => spec_l8Text.f k (s, ())) (· = (textM s, ())) := by
  have hbig := big_eq
  simp only [spec_l8Text.f]
  refine EvP.loop (L := spec_l8Text.l1) (Q := (· = (textM s, ()))) (fun j x => ∃ i : Nat, x = (s, bytesM s i, (i : Int), ()) ∧ i ≤ s.size ∧ j = s.size - i) ?_ s.size _ ⟨0, rfl, Nat.zero_le _, rfl⟩
  rintro j _ ⟨i, rfl, hi, rfl⟩ ih
  have hbl := bytesM_len s i
  simp only [spec_l8Text.l1, decide_eq_true_eq, Int.toNat_natCast, next64 (show i ≤ 1099511627776 by omega)]
  refine EvP.ite (fun hlt => EvP.pos (by omega) (EvP.pos (by omega) (EvP.pos (by omega) ?_))) (fun hge => ?_)
  · have := ih (s.size - (i + 1)) _ (by omega) ⟨i + 1, rfl, by omega, rfl⟩
    rwa [bytesM_succ] at this
  · refine EvP.bind (specMixAll_ev _ (by omega)) ?_
    rintro _ rfl
    exact EvP.ret (by rw [show i = s.size by omega]; rfl)

/-! ### Fingers of types in rounds -/

def firstM (t : TType.D) : Int := mixAllM [t.1, t.2.1, textM t.2.2.2.2.1, textM t.2.2.2.2.2, (t.2.2.2.1.length : Int)]
def fieldsM (now : List Int) (fl : List TField.D) : List Int := fl.flatMap fun f => [textM f.1, f.2.1, rdT (.int .i64) now f.2.2.toNat]
def headM (first now : List Int) (t : TType.D) (k : Nat) : List Int := [rdT (.int .i64) first k, if (0 : Int) ≤ t.2.2.1 then rdT (.int .i64) now t.2.2.1.toNat else 7]
def nextM (l : List TType.D) (first now : List Int) (n : Nat) : List Int := (List.range n).map fun k => mixAllM (headM first now (rdT TType l k) k ++ fieldsM now (rdT TType l k).2.2.2.1)
def firstL (l : List TType.D) (n : Nat) : List Int := (List.range n).map fun k => firstM (rdT TType l k)
def roundsM (l : List TType.D) : Nat → List Int
  | 0 => firstL l l.length
  | r + 1 => nextM l (firstL l l.length) (roundsM l r) l.length

theorem firstL_succ (l : List TType.D) (n : Nat) : firstL l (n + 1) = firstL l n ++ [firstM (rdT TType l n)] := by simp [firstL, List.range_succ]
theorem firstL_len (l : List TType.D) (n : Nat) : (firstL l n).length = n := by simp [firstL]
theorem nextM_succ (l : List TType.D) (first now : List Int) (n : Nat) : nextM l first now (n + 1) = nextM l first now n ++ [mixAllM (headM first now (rdT TType l n) n ++ fieldsM now (rdT TType l n).2.2.2.1)] := by simp [nextM, List.range_succ]
theorem nextM_len (l : List TType.D) (first now : List Int) (n : Nat) : (nextM l first now n).length = n := by simp [nextM]
theorem roundsM_len (l : List TType.D) (r : Nat) : (roundsM l r).length = l.length := by
  cases r with
  | zero => exact firstL_len l _
  | succ r => exact nextM_len ..
theorem fieldsM_next {now : List Int} {f : List TField.D} {i : Nat} (h : i < f.length) : fieldsM now (f.take (i + 1)) = fieldsM now (f.take i) ++ [textM (rdT TField f i).1, (rdT TField f i).2.1, rdT (.int .i64) now (rdT TField f i).2.2.toNat] := by
  unfold fieldsM
  rw [List.take_add_one, rdT_some h, List.flatMap_append]
  simp
theorem fieldsM_len (now : List Int) (f : List TField.D) : (fieldsM now f).length = 3 * f.length := by
  induction f with
  | nil => rfl
  | cons a r ih =>
    simp only [fieldsM, List.flatMap_cons, List.length_append, List.length_cons, List.length_nil] at ih ⊢
    omega

/-- What the fingers need to know of a table. -/
structure Sound (l : List TType.D) : Prop where
  len : l.length ≤ 24
  few : ∀ i, i < l.length → (rdT TType l i).2.2.2.1.length ≤ 7
  fld : ∀ i, i < l.length → ∀ j, j < (rdT TType l i).2.2.2.1.length → InR l.length (rdT TField (rdT TType l i).2.2.2.1 j).2.2
  bas : ∀ i, i < l.length → (0 : Int) ≤ (rdT TType l i).2.2.1 → InR l.length (rdT TType l i).2.2.1

theorem Nearly.sound {l : List TType.D} (h : Nearly l) : Sound l := by
  have ht := h.tidy
  have hmem : ∀ i, ∀ x ∈ fparts (rdT TType l i).2.2.2.1, x ∈ parts (rdT TType l i) false := fun i x hx => List.mem_append.2 (.inr hx)
  refine ⟨ht.len, fun i hi => ?_, fun i hi j hj => ?_, fun i hi hb => ?_⟩
  · have := ht.few i hi
    unfold parts fparts at this
    rw [List.length_append, List.length_map] at this
    omega
  · refine ht.inr i hi _ (hmem i _ ?_)
    unfold fparts
    exact List.mem_map.2 ⟨_, rdT_mem hj, rfl⟩
  · obtain ⟨h3, _, hbl, hall⟩ := h
    rcases Nat.lt_or_ge i 3 with h2 | h2
    · have e := (base_iff l h3).1 hbl _ h2
      rw [e, (base_parts _ h2).2.1] at hb
      exact absurd hb (by decide)
    · have hk := (hall i h2 hi).1.2.2
      split at hk
      · exact hk.2
      · split at hk
        · rcases hk.2.1 with h | h
          · rw [h] at hb; exact absurd hb (by decide)
          · exact h.1
        · exact hk.2.2.1

theorem spec_l8Rounds_l14 (l : List TType.D) (first now next init : List Int) (c r : Int) (k : Nat) (fl : List TField.D) (Q : List Int × Unit → Prop) (hfl : fl.length ≤ 7) (hs : ∀ j, j < fl.length → (rdT TField fl j).1.size ≤ 1048576) (hr : ∀ j, j < fl.length → InR now.length (rdT TField fl j).2.2) (hi2 : init.length ≤ 10) (hk : k ≤ 24) (hn : next.length ≤ 24)
    (hgo : EvP (fun j => spec_l8Rounds.l9 j (l, c, first, now, (next ++ [mixAllM (init ++ fieldsM now fl)]), l, (l.length : Int), ((k + 1 : Nat) : Int), ())) Q) : EvP (fun j => spec_l8Rounds.l14 j (l, c, first, now, next, init, l, (l.length : Int), (k : Int), fl, ((fl).length : Int), 0, ())) Q := by
  have hbig := big_eq
  refine EvP.loop (L := spec_l8Rounds.l14) (Q := Q) (fun j s => ∃ i : Nat, s = (l, c, first, now, next, (init ++ fieldsM now (fl.take i)), l, (l.length : Int), (k : Int), fl, ((fl).length : Int), (i : Int), ()) ∧ i ≤ fl.length ∧ j = fl.length - i) ?_ fl.length _ ⟨0, by simp [fieldsM], Nat.zero_le _, rfl⟩
  rintro j _ ⟨i, rfl, hi, rfl⟩ ih
  have hl1 := fieldsM_len now (fl.take i)
  rw [List.length_take, Nat.min_eq_left hi] at hl1
  simp only [spec_l8Rounds.l14, decide_eq_true_eq, Int.toNat_natCast, next64 (show i ≤ 1099511627776 by omega), next64 (show k ≤ 1099511627776 by omega)]
  refine EvP.ite (fun hlt => EvP.pos (by omega) (EvP.pos (by omega) ?_)) (fun hge => ?_)
  · have hil : i < fl.length := by omega
    refine EvP.bind (specText_ev _ (hs i hil)) ?_
    rintro _ rfl
    refine EvP.pos (hr i hil).1 (EvP.pos (hr i hil).2 (EvP.pos (by rw [List.length_append]; omega) ?_))
    have := ih (fl.length - (i + 1)) _ (by omega) ⟨i + 1, rfl, by omega, rfl⟩
    rwa [fieldsM_next hil, ← List.append_assoc] at this
  · refine EvP.bind (specMixAll_ev _ (by rw [List.length_append]; omega)) ?_
    rintro _ rfl
    rw [List.take_of_length_le (by omega)]
    exact EvP.pos (by omega) hgo

theorem spec_l8Rounds_l9 (l : List TType.D) (hf : Fit (.slice TType) l) (ht : Sound l) (first now : List Int) (c r : Int) (Q : List Int × Unit → Prop) (hfi : first.length = l.length) (hno : now.length = l.length)
    (hgo : EvP (fun j => spec_l8Rounds.l5 j (l, w64 (c - (1 : Int)), first, (nextM l first now l.length), ())) Q) : EvP (fun j => spec_l8Rounds.l9 j (l, c, first, now, [], l, (l.length : Int), 0, ())) Q := by
  have hbig := big_eq
  have hlen := ht.len
  refine EvP.loop (L := spec_l8Rounds.l9) (Q := Q) (fun j s => ∃ k : Nat, s = (l, c, first, now, (nextM l first now k), l, (l.length : Int), (k : Int), ()) ∧ k ≤ l.length ∧ j = l.length - k) ?_ l.length _ ⟨0, rfl, Nat.zero_le _, rfl⟩
  rintro j _ ⟨k, rfl, hk, rfl⟩ ih
  have hnl := nextM_len l first now k
  simp only [spec_l8Rounds.l9, decide_eq_true_eq, Int.toNat_natCast]
  refine EvP.ite (fun hlt => ?_) (fun hge => ?_)
  · have hkl : k < l.length := by omega
    have hft : Fit TType (rdT TType l k) := hf.2 _ (rdT_mem hkl)
    have hgo' := ih (l.length - (k + 1)) _ (by omega) ⟨k + 1, rfl, by omega, rfl⟩
    rw [nextM_succ] at hgo'
    have h14 : ∀ x : Int, headM first now (rdT TType l k) k = [rdT (.int .i64) first k, x] → EvP (fun j => spec_l8Rounds.l14 j (l, c, first, now, (nextM l first now k), [rdT (.int .i64) first k, x], l, (l.length : Int), (k : Int), (rdT TType l k).2.2.2.1, (((rdT TType l k).2.2.2.1).length : Int), 0, ())) Q := fun x hx => by
      refine spec_l8Rounds_l14 l first now _ _ c r k _ Q (ht.few k hkl) (fun j hj => (hft.2.2.2.1.2 _ (rdT_mem hj)).1) (fun j hj => by rw [hno]; exact ht.fld k hkl j hj) (by simp) (by omega) (by omega) ?_
      rw [← hx]; exact hgo'
    refine EvP.pos (by omega) (EvP.pos (by omega) (EvP.pos (by omega) (EvP.pos (by omega) ?_)))
    refine EvP.ite (fun hb => ?_) (fun hb => ?_)
    · have hin := ht.bas k hkl hb
      rw [← hno] at hin
      refine EvP.pos hin.1 (EvP.pos hin.2 (h14 _ ?_))
      unfold headM
      rw [if_pos hb]
    · refine h14 _ ?_
      unfold headM
      rw [if_neg hb]
  · rw [show k = l.length by omega]
    exact hgo

theorem impl_roundFingers_l14 (l : List TType.D) (first now next init : List Int) (c r : Int) (k : Nat) (fl : List TField.D) (Q : List Int × Unit → Prop) (hfl : fl.length ≤ 7) (hs : ∀ j, j < fl.length → (rdT TField fl j).1.size ≤ 1048576) (hr : ∀ j, j < fl.length → InR now.length (rdT TField fl j).2.2) (hi2 : init.length ≤ 10) (hk : k ≤ 24) (hn : next.length ≤ 24)
    (hgo : EvP (fun j => impl_roundFingers.l9 j (l, first, now, (next ++ [mixAllM (init ++ fieldsM now fl)]), c, r, l, (l.length : Int), ((k + 1 : Nat) : Int), ())) Q) : EvP (fun j => impl_roundFingers.l14 j (l, first, now, next, init, c, r, l, (l.length : Int), (k : Int), fl, ((fl).length : Int), 0, ())) Q := by
  have hbig := big_eq
  refine EvP.loop (L := impl_roundFingers.l14) (Q := Q) (fun j s => ∃ i : Nat, s = (l, first, now, next, (init ++ fieldsM now (fl.take i)), c, r, l, (l.length : Int), (k : Int), fl, ((fl).length : Int), (i : Int), ()) ∧ i ≤ fl.length ∧ j = fl.length - i) ?_ fl.length _ ⟨0, by simp [fieldsM], Nat.zero_le _, rfl⟩
  rintro j _ ⟨i, rfl, hi, rfl⟩ ih
  have hl1 := fieldsM_len now (fl.take i)
  rw [List.length_take, Nat.min_eq_left hi] at hl1
  simp only [impl_roundFingers.l14, decide_eq_true_eq, Int.toNat_natCast, next64 (show i ≤ 1099511627776 by omega), next64 (show k ≤ 1099511627776 by omega)]
  refine EvP.ite (fun hlt => EvP.pos (by omega) (EvP.pos (by omega) ?_)) (fun hge => ?_)
  · have hil : i < fl.length := by omega
    refine EvP.bind (implText_ev _ (hs i hil)) ?_
    rintro _ rfl
    refine EvP.pos (hr i hil).1 (EvP.pos (hr i hil).2 (EvP.pos (by rw [List.length_append]; omega) ?_))
    have := ih (fl.length - (i + 1)) _ (by omega) ⟨i + 1, rfl, by omega, rfl⟩
    rwa [fieldsM_next hil, ← List.append_assoc] at this
  · refine EvP.bind (implMixAll_ev _ (by rw [List.length_append]; omega)) ?_
    rintro _ rfl
    rw [List.take_of_length_le (by omega)]
    exact EvP.pos (by omega) hgo

theorem impl_roundFingers_l9 (l : List TType.D) (hf : Fit (.slice TType) l) (ht : Sound l) (first now : List Int) (c r : Int) (Q : List Int × Unit → Prop) (hfi : first.length = l.length) (hno : now.length = l.length)
    (hgo : EvP (fun j => impl_roundFingers.l5 j (l, first, (nextM l first now l.length), c, w64 (r + (1 : Int)), ())) Q) : EvP (fun j => impl_roundFingers.l9 j (l, first, now, [], c, r, l, (l.length : Int), 0, ())) Q := by
  have hbig := big_eq
  have hlen := ht.len
  refine EvP.loop (L := impl_roundFingers.l9) (Q := Q) (fun j s => ∃ k : Nat, s = (l, first, now, (nextM l first now k), c, r, l, (l.length : Int), (k : Int), ()) ∧ k ≤ l.length ∧ j = l.length - k) ?_ l.length _ ⟨0, rfl, Nat.zero_le _, rfl⟩
  rintro j _ ⟨k, rfl, hk, rfl⟩ ih
  have hnl := nextM_len l first now k
  simp only [impl_roundFingers.l9, decide_eq_true_eq, Int.toNat_natCast]
  refine EvP.ite (fun hlt => ?_) (fun hge => ?_)
  · have hkl : k < l.length := by omega
    have hft : Fit TType (rdT TType l k) := hf.2 _ (rdT_mem hkl)
    have hgo' := ih (l.length - (k + 1)) _ (by omega) ⟨k + 1, rfl, by omega, rfl⟩
    rw [nextM_succ] at hgo'
    have h14 : ∀ x : Int, headM first now (rdT TType l k) k = [rdT (.int .i64) first k, x] → EvP (fun j => impl_roundFingers.l14 j (l, first, now, (nextM l first now k), [rdT (.int .i64) first k, x], c, r, l, (l.length : Int), (k : Int), (rdT TType l k).2.2.2.1, (((rdT TType l k).2.2.2.1).length : Int), 0, ())) Q := fun x hx => by
      refine impl_roundFingers_l14 l first now _ _ c r k _ Q (ht.few k hkl) (fun j hj => (hft.2.2.2.1.2 _ (rdT_mem hj)).1) (fun j hj => by rw [hno]; exact ht.fld k hkl j hj) (by simp) (by omega) (by omega) ?_
      rw [← hx]; exact hgo'
    refine EvP.pos (by omega) (EvP.pos (by omega) (EvP.pos (by omega) (EvP.pos (by omega) ?_)))
    refine EvP.ite (fun hb => ?_) (fun hb => ?_)
    · have hin := ht.bas k hkl hb
      rw [← hno] at hin
      refine EvP.pos hin.1 (EvP.pos hin.2 (h14 _ ?_))
      unfold headM
      rw [if_pos hb]
    · refine h14 _ ?_
      unfold headM
      rw [if_neg hb]
  · rw [show k = l.length by omega]
    exact hgo

theorem own_ev (l : List Int) (hl : l.length ≤ 1048576) : EvP (fun k => spec_l1Own.f k (l, ())) (· = (l, ())) := by
  have hbig := big_eq
  simp only [spec_l1Own.f]
  exact EvP.pos (by omega) (EvP.ret rfl)

theorem l8Rounds_ev (l : List TType.D) (n : Nat) (hn : n ≤ 1000) (hf : Fit (.slice TType) l) (ht : Sound l) : EvP (fun k => spec_l8Rounds.f k (l, (n : Int), ())) (· = (roundsM l n, ())) := by
  have hbig := big_eq
  have hlen := ht.len
  have h5 : ∀ m, m ≤ n → EvP (fun k => spec_l8Rounds.l5 k (l, (m : Int), firstL l l.length, roundsM l (n - m), ())) (· = (roundsM l n, ())) := by
    intro m
    induction m with
    | zero =>
      intro _
      refine EvP.succ ?_
      simp only [spec_l8Rounds.l5, decide_eq_true_eq]
      exact EvP.neg (by decide) (EvP.ret (by rw [Nat.sub_zero]))
    | succ m ih =>
      intro hm
      refine EvP.succ ?_
      simp only [spec_l8Rounds.l5, decide_eq_true_eq]
      refine EvP.pos (by omega) (spec_l8Rounds_l9 l hf ht _ _ _ 0 _ (firstL_len l _) (roundsM_len l _) ?_)
      have hw : w64 (((m + 1 : Nat) : Int) - (1 : Int)) = (m : Int) := by rw [w64_id (by omega) (by omega)]; omega
      rw [hw]
      have := ih (by omega)
      rwa [show n - m = (n - (m + 1)) + 1 by omega] at this
  simp only [spec_l8Rounds.f]
  refine EvP.loop (L := spec_l8Rounds.l1) (Q := (· = (roundsM l n, ()))) (fun j s => ∃ i : Nat, s = (l, (n : Int), firstL l i, l, (l.length : Int), (i : Int), ()) ∧ i ≤ l.length ∧ j = l.length - i) ?_ l.length _ ⟨0, rfl, Nat.zero_le _, rfl⟩
  rintro j _ ⟨i, rfl, hi, rfl⟩ ih
  have hfl := firstL_len l i
  simp only [spec_l8Rounds.l1, decide_eq_true_eq, Int.toNat_natCast, next64 (show i ≤ 1099511627776 by omega)]
  refine EvP.ite (fun hlt => EvP.pos (by omega) (EvP.pos (by omega) ?_)) (fun hge => ?_)
  · have hil : i < l.length := by omega
    have hft : Fit TType (rdT TType l i) := hf.2 _ (rdT_mem hil)
    refine EvP.bind (specText_ev _ hft.2.2.2.2.1) ?_
    rintro _ rfl
    refine EvP.bind (specText_ev _ hft.2.2.2.2.2) ?_
    rintro _ rfl
    refine EvP.bind (specMixAll_ev _ (by simp)) ?_
    rintro _ rfl
    refine EvP.pos (by omega) ?_
    have := ih (l.length - (i + 1)) _ (by omega) ⟨i + 1, rfl, by omega, rfl⟩
    rwa [firstL_succ] at this
  · rw [show i = l.length by omega]
    refine EvP.bind (own_ev _ (by rw [firstL_len]; omega)) ?_
    rintro _ rfl
    have := h5 n (Nat.le_refl _)
    rwa [Nat.sub_self] at this

theorem roundFingers_ev (l : List TType.D) (n : Nat) (hn : n ≤ 1000) (hf : Fit (.slice TType) l) (ht : Sound l) : EvP (fun k => impl_roundFingers.f k (l, (n : Int), ())) (· = (roundsM l n, ())) := by
  have hbig := big_eq
  have hlen := ht.len
  have h5 : ∀ m, m ≤ n → EvP (fun k => impl_roundFingers.l5 k (l, firstL l l.length, roundsM l (n - m), (n : Int), ((n - m : Nat) : Int), ())) (· = (roundsM l n, ())) := by
    intro m
    induction m with
    | zero =>
      intro _
      refine EvP.succ ?_
      simp only [impl_roundFingers.l5, decide_eq_true_eq, Nat.sub_zero]
      exact EvP.neg (by omega) (EvP.ret rfl)
    | succ m ih =>
      intro hm
      refine EvP.succ ?_
      simp only [impl_roundFingers.l5, decide_eq_true_eq]
      refine EvP.pos (by omega) (impl_roundFingers_l9 l hf ht _ _ _ _ _ (firstL_len l _) (roundsM_len l _) ?_)
      rw [next64 (by omega)]
      have := ih (by omega)
      rwa [show n - m = (n - (m + 1)) + 1 by omega] at this
  simp only [impl_roundFingers.f]
  refine EvP.loop (L := impl_roundFingers.l1) (Q := (· = (roundsM l n, ()))) (fun j s => ∃ i : Nat, s = (l, (n : Int), firstL l i, l, (l.length : Int), (i : Int), ()) ∧ i ≤ l.length ∧ j = l.length - i) ?_ l.length _ ⟨0, rfl, Nat.zero_le _, rfl⟩
  rintro j _ ⟨i, rfl, hi, rfl⟩ ih
  have hfl := firstL_len l i
  simp only [impl_roundFingers.l1, decide_eq_true_eq, Int.toNat_natCast, next64 (show i ≤ 1099511627776 by omega)]
  refine EvP.ite (fun hlt => EvP.pos (by omega) (EvP.pos (by omega) ?_)) (fun hge => ?_)
  · have hil : i < l.length := by omega
    have hft : Fit TType (rdT TType l i) := hf.2 _ (rdT_mem hil)
    refine EvP.bind (implText_ev _ hft.2.2.2.2.1) ?_
    rintro _ rfl
    refine EvP.bind (implText_ev _ hft.2.2.2.2.2) ?_
    rintro _ rfl
    refine EvP.bind (implMixAll_ev _ (by simp)) ?_
    rintro _ rfl
    refine EvP.pos (by omega) ?_
    have := ih (l.length - (i + 1)) _ (by omega) ⟨i + 1, rfl, by omega, rfl⟩
    rwa [firstL_succ] at this
  · rw [show i = l.length by omega]
    have := h5 n (Nat.le_refl _)
    rwa [Nat.sub_self] at this

/-! ### The finger of an object -/

def paramsM (now : List Int) (ps : List TParam.D) : List Int := ps.flatMap fun p => [textM p.1, if p.2.1 = true then 1 else 0, rdT (.int .i64) now p.2.2.toNat]
def objHead (now : List Int) (o : TObject.D) : List Int := [textM o.1, o.2.1, o.2.2.1, o.2.2.2.2.1, if (0 : Int) ≤ o.2.2.2.1 then rdT (.int .i64) now o.2.2.2.1.toNat else 5]
def objM (now : List Int) (o : TObject.D) : Int := mixAllM (objHead now o ++ paramsM now o.2.2.2.2.2)

theorem paramsM_next {now : List Int} {f : List TParam.D} {i : Nat} (h : i < f.length) : paramsM now (f.take (i + 1)) = paramsM now (f.take i) ++ [textM (rdT TParam f i).1, if (rdT TParam f i).2.1 = true then 1 else 0, rdT (.int .i64) now (rdT TParam f i).2.2.toNat] := by
  unfold paramsM
  rw [List.take_add_one, rdT_some h, List.flatMap_append]
  simp
theorem paramsM_len (now : List Int) (f : List TParam.D) : (paramsM now f).length = 3 * f.length := by
  induction f with
  | nil => rfl
  | cons a r ih =>
    simp only [paramsM, List.flatMap_cons, List.length_append, List.length_cons, List.length_nil] at ih ⊢
    omega

structure ObjSound (N : Nat) (o : TObject.D) : Prop where
  ty : (0 : Int) ≤ o.2.2.2.1 → InR N o.2.2.2.1
  par : ∀ i, i < o.2.2.2.2.2.length → InR N (rdT TParam o.2.2.2.2.2 i).2.2
  few : o.2.2.2.2.2.length ≤ 4

theorem ObjOk.sound {N : Nat} {o : TObject.D} (h3 : 3 ≤ N) (h : ObjOk N o) : ObjSound N o := by
  obtain ⟨_, _, _, h4, hs⟩ := h
  unfold SwitchOk at hs
  have hnp : (o.2.1 : Int) ≠ 4 → (∀ i, i < o.2.2.2.2.2.length → InR N (rdT TParam o.2.2.2.2.2 i).2.2) ∧ o.2.2.2.2.2.length ≤ 4 := fun hk => by
    have := h4 hk
    exact ⟨fun i hi => by omega, by omega⟩
  split at hs
  · rename_i hk
    obtain ⟨p1, p2⟩ := hnp (by rw [hk]; decide)
    exact ⟨fun _ => by rw [hs.1]; exact ⟨Int.le_refl _, by omega⟩, p1, p2⟩
  · split at hs
    · rename_i hk
      obtain ⟨p1, p2⟩ := hnp (by rw [hk]; decide)
      exact ⟨fun _ => hs, p1, p2⟩
    · split at hs
      · rename_i hk
        obtain ⟨p1, p2⟩ := hnp (by rw [hk]; decide)
        exact ⟨fun _ => hs, p1, p2⟩
      · obtain ⟨_, ht, hp⟩ := hs
        refine ⟨fun h => ?_, fun i hi => (hp.1 i hi).2.1, hp.2⟩
        rcases ht with ht | ht
        · rw [ht] at h; exact absurd h (by decide)
        · exact ht

theorem spec_l8Object_loop (now init : List Int) (ps : List TParam.D) (hps : ps.length ≤ 4) (hs : ∀ j, j < ps.length → (rdT TParam ps j).1.size ≤ 1048576) (hr : ∀ j, j < ps.length → InR now.length (rdT TParam ps j).2.2) (hi2 : init.length ≤ 10) : EvP (fun k => spec_l8Object.l2 k (now, init, ps, (ps.length : Int), 0, ())) (· = (mixAllM (init ++ paramsM now ps), ())) := by
  have hbig := big_eq
  refine EvP.loop (L := spec_l8Object.l2) (Q := (· = (mixAllM (init ++ paramsM now ps), ()))) (fun j s => ∃ i : Nat, s = (now, init ++ paramsM now (ps.take i), ps, (ps.length : Int), (i : Int), ()) ∧ i ≤ ps.length ∧ j = ps.length - i) ?_ ps.length _ ⟨0, by simp [paramsM], Nat.zero_le _, rfl⟩
  rintro j _ ⟨i, rfl, hi, rfl⟩ ih
  have hl1 := paramsM_len now (ps.take i)
  rw [List.length_take, Nat.min_eq_left hi] at hl1
  simp only [spec_l8Object.l2, decide_eq_true_eq, Int.toNat_natCast, next64 (show i ≤ 1099511627776 by omega)]
  refine EvP.ite (fun hlt => EvP.pos (by omega) (EvP.pos (by omega) ?_)) (fun hge => ?_)
  · have hil : i < ps.length := by omega
    have hgo := ih (ps.length - (i + 1)) _ (by omega) ⟨i + 1, rfl, by omega, rfl⟩
    rw [paramsM_next hil, ← List.append_assoc] at hgo
    refine EvP.ite (fun hb => ?_) (fun hb => ?_)
    · rw [if_pos hb] at hgo
      refine EvP.bind (specText_ev _ (hs i hil)) ?_
      rintro _ rfl
      exact EvP.pos (hr i hil).1 (EvP.pos (hr i hil).2 (EvP.pos (by rw [List.length_append]; omega) hgo))
    · rw [if_neg hb] at hgo
      refine EvP.bind (specText_ev _ (hs i hil)) ?_
      rintro _ rfl
      exact EvP.pos (hr i hil).1 (EvP.pos (hr i hil).2 (EvP.pos (by rw [List.length_append]; omega) hgo))
  · refine EvP.bind (specMixAll_ev _ (by rw [List.length_append]; omega)) ?_
    rintro _ rfl
    exact EvP.ret (by rw [List.take_of_length_le (by omega)])

theorem impl_objectFinger_loop (now init : List Int) (ps : List TParam.D) (hps : ps.length ≤ 4) (hs : ∀ j, j < ps.length → (rdT TParam ps j).1.size ≤ 1048576) (hr : ∀ j, j < ps.length → InR now.length (rdT TParam ps j).2.2) (hi2 : init.length ≤ 10) : EvP (fun k => impl_objectFinger.l2 k (now, init, ps, (ps.length : Int), 0, ())) (· = (mixAllM (init ++ paramsM now ps), ())) := by
  have hbig := big_eq
  refine EvP.loop (L := impl_objectFinger.l2) (Q := (· = (mixAllM (init ++ paramsM now ps), ()))) (fun j s => ∃ i : Nat, s = (now, init ++ paramsM now (ps.take i), ps, (ps.length : Int), (i : Int), ()) ∧ i ≤ ps.length ∧ j = ps.length - i) ?_ ps.length _ ⟨0, by simp [paramsM], Nat.zero_le _, rfl⟩
  rintro j _ ⟨i, rfl, hi, rfl⟩ ih
  have hl1 := paramsM_len now (ps.take i)
  rw [List.length_take, Nat.min_eq_left hi] at hl1
  simp only [impl_objectFinger.l2, decide_eq_true_eq, Int.toNat_natCast, next64 (show i ≤ 1099511627776 by omega)]
  refine EvP.ite (fun hlt => EvP.pos (by omega) (EvP.pos (by omega) ?_)) (fun hge => ?_)
  · have hil : i < ps.length := by omega
    have hgo := ih (ps.length - (i + 1)) _ (by omega) ⟨i + 1, rfl, by omega, rfl⟩
    rw [paramsM_next hil, ← List.append_assoc] at hgo
    refine EvP.ite (fun hb => ?_) (fun hb => ?_)
    · rw [if_pos hb] at hgo
      refine EvP.bind (implText_ev _ (hs i hil)) ?_
      rintro _ rfl
      exact EvP.pos (hr i hil).1 (EvP.pos (hr i hil).2 (EvP.pos (by rw [List.length_append]; omega) hgo))
    · rw [if_neg hb] at hgo
      refine EvP.bind (implText_ev _ (hs i hil)) ?_
      rintro _ rfl
      exact EvP.pos (hr i hil).1 (EvP.pos (hr i hil).2 (EvP.pos (by rw [List.length_append]; omega) hgo))
  · refine EvP.bind (implMixAll_ev _ (by rw [List.length_append]; omega)) ?_
    rintro _ rfl
    exact EvP.ret (by rw [List.take_of_length_le (by omega)])

theorem l8Object_ev (s : TScope.D) (now : List Int) (o : TObject.D) (hf : Fit TObject o) (ho : ObjSound now.length o) : EvP (fun k => spec_l8Object.f k (s, now, o, ())) (· = (objM now o, ())) := by
  simp only [spec_l8Object.f, decide_eq_true_eq]
  have hlp : ∀ x : Int, objHead now o = [textM o.1, o.2.1, o.2.2.1, o.2.2.2.2.1, x] → EvP (fun k => spec_l8Object.l2 k (now, [textM o.1, o.2.1, o.2.2.1, o.2.2.2.2.1, x], o.2.2.2.2.2, (o.2.2.2.2.2.length : Int), 0, ())) (· = (objM now o, ())) := fun x hx => by
    unfold objM
    rw [hx]
    exact spec_l8Object_loop now _ _ ho.few (fun j hj => (hf.2.2.2.2.2.2 _ (rdT_mem hj)).1) ho.par (by simp)
  refine EvP.bind (specText_ev _ hf.1) ?_
  rintro _ rfl
  refine EvP.ite (fun hb => EvP.pos (ho.ty hb).1 (EvP.pos (ho.ty hb).2 (hlp _ ?_))) (fun hb => hlp _ ?_)
  · unfold objHead; rw [if_pos hb]
  · unfold objHead; rw [if_neg hb]

theorem objectFinger_ev (now : List Int) (o : TObject.D) (hf : Fit TObject o) (ho : ObjSound now.length o) : EvP (fun k => impl_objectFinger.f k (o, now, ())) (· = (objM now o, ())) := by
  simp only [impl_objectFinger.f, decide_eq_true_eq]
  have hlp : ∀ x : Int, objHead now o = [textM o.1, o.2.1, o.2.2.1, o.2.2.2.2.1, x] → EvP (fun k => (impl_textFinger.f k (o.1, ())).bind fun y1 => impl_objectFinger.l2 k (now, [y1.1, o.2.1, o.2.2.1, o.2.2.2.2.1, x], o.2.2.2.2.2, (o.2.2.2.2.2.length : Int), 0, ())) (· = (objM now o, ())) := fun x hx => by
    refine EvP.bind (implText_ev _ hf.1) ?_
    rintro _ rfl
    unfold objM
    rw [hx]
    exact impl_objectFinger_loop now _ _ ho.few (fun j hj => (hf.2.2.2.2.2.2 _ (rdT_mem hj)).1) ho.par (by simp)
  refine EvP.ite (fun hb => EvP.pos (ho.ty hb).1 (EvP.pos (ho.ty hb).2 (hlp _ ?_))) (fun hb => hlp _ ?_)
  · unfold objHead; rw [if_pos hb]
  · unfold objHead; rw [if_neg hb]

noncomputable def ansF (s : TScope.D) (n : Int) : Int × Bool × Unit := pickP (GoodS s ∧ InR s.2.2.2.1.length n) (objM (roundsM s.2.2.1 25) (rdT TObject s.2.2.2.1 n.toNat), true, ()) (0, false, ())

theorem obj_sound {s : TScope.D} (h : GoodS s) {n : Int} (hn : InR s.2.2.2.1.length n) : ObjSound (roundsM s.2.2.1 25).length (rdT TObject s.2.2.2.1 n.toNat) := by
  rw [roundsM_len]
  exact (h.obj _ hn.nat.1).sound h.types.1.1

theorem spec_ansF (s : TScope.D) (n : Int) (hf : Fit TScope s) : EvP (fun k => spec_ObjectFinger.f k (s, n, ())) (· = ansF s n) := by
  have n4 : s.2.2.2.1.length ≤ 1048576 := hf.2.2.2.1.1
  simp only [spec_ObjectFinger.f, Bool.not_eq_true', len1 n4]
  unfold ansF
  refine EvP.bind (l4Good_ev s hf) ?_
  rintro ⟨y, _⟩ hy
  simp only at hy
  refine EvP.ite (fun h => EvP.ret ?_) (fun h => ?_)
  · rw [pickP_neg fun e => by rw [hy.2 e.1] at h; cases h]
  have hg : GoodS s := hy.1 (by simpa using h)
  refine EvP.bind (l1In_ev _ _ _) ?_
  rintro ⟨z, _⟩ hz
  simp only at hz
  subst hz
  refine EvP.ite (fun h => EvP.ret ?_) (fun h => ?_)
  · simp only [decide_eq_false_iff_not] at h
    rw [pickP_neg fun e => h ⟨e.2.1, Int.le_sub_one_of_lt e.2.2⟩]
  have hi : InR s.2.2.2.1.length n := by
    have : 0 ≤ n ∧ n ≤ (s.2.2.2.1.length : Int) - 1 := by simpa using h
    exact ⟨this.1, Int.lt_of_le_sub_one this.2⟩
  rw [pickP_pos ⟨hg, hi⟩]
  have hev := l8Rounds_ev _ 25 (by omega) hf.2.2.1 hg.types.1.sound
  have hso := obj_sound hg hi
  generalize roundsM s.2.2.1 25 = R at hev hso ⊢
  refine EvP.bind hev ?_
  rintro _ rfl
  refine EvP.pos hi.1 (EvP.pos hi.2 ?_)
  have hob := l8Object_ev s R _ (hf.2.2.2.1.2 _ (rdT_mem hi.nat.1)) hso
  generalize objM R (rdT TObject s.2.2.2.1 n.toNat) = z at hob ⊢
  refine EvP.bind hob ?_
  rintro _ rfl
  exact EvP.ret rfl

theorem impl_ansF (s : TScope.D) (n : Int) (hf : Fit TScope s) : EvP (fun k => impl_ObjectFinger.f k (s, n, ())) (· = ansF s n) := by
  have n4 : s.2.2.2.1.length ≤ 1048576 := hf.2.2.2.1.1
  simp only [impl_ObjectFinger.f, Bool.not_eq_true', len1 n4]
  unfold ansF
  refine EvP.bind (isScope_ev s hf) ?_
  rintro ⟨y, _⟩ hy
  simp only at hy
  refine EvP.ite (fun h => EvP.ret ?_) (fun h => ?_)
  · rw [pickP_neg fun e => by rw [hy.2 e.1] at h; cases h]
  have hg : GoodS s := hy.1 (by simpa using h)
  refine EvP.bind (in_ev _ _ _) ?_
  rintro ⟨z, _⟩ hz
  simp only at hz
  subst hz
  refine EvP.ite (fun h => EvP.ret ?_) (fun h => ?_)
  · simp only [decide_eq_false_iff_not] at h
    rw [pickP_neg fun e => h ⟨e.2.1, Int.le_sub_one_of_lt e.2.2⟩]
  have hi : InR s.2.2.2.1.length n := by
    have : 0 ≤ n ∧ n ≤ (s.2.2.2.1.length : Int) - 1 := by simpa using h
    exact ⟨this.1, Int.lt_of_le_sub_one this.2⟩
  rw [pickP_pos ⟨hg, hi⟩]
  have hev := roundFingers_ev _ 25 (by omega) hf.2.2.1 hg.types.1.sound
  have hso := obj_sound hg hi
  generalize roundsM s.2.2.1 25 = R at hev hso ⊢
  refine EvP.pos hi.1 (EvP.pos hi.2 ?_)
  refine EvP.bind hev ?_
  rintro _ rfl
  have hob := objectFinger_ev R _ (hf.2.2.2.1.2 _ (rdT_mem hi.nat.1)) hso
  generalize objM R (rdT TObject s.2.2.2.1 n.toNat) = z at hob ⊢
  refine EvP.bind hob ?_
  rintro _ rfl
  exact EvP.ret rfl

def SAlike (s t : TScope.D) : Prop := s.1 = t.1 ∧ s.2.1 = t.2.1 ∧ s.2.2.2.1.length = t.2.2.2.1.length ∧ ∀ i, i < s.2.2.2.1.length → OAlike s.2.2.1 t.2.2.1 (rdT TObject s.2.2.2.1 i) (rdT TObject t.2.2.2.1 i)
noncomputable def ansS (s t : TScope.D) : Bool × Bool × Unit := pickP (GoodS s ∧ GoodS t) (pickP (SAlike s t) true false, true, ()) (false, false, ())

theorem eqNames_ev (a b : List ByteArray) (hs : a.length ≤ 1048576) : EvP (fun k => slices_Equal_string_string.f k (a, b, ())) (fun y => y.1 = true ↔ a = b) := by
  simp only [slices_Equal_string_string.f, bne_iff_ne, ne_eq]
  refine EvP.ite (fun hl => EvP.ret ⟨fun h => (by cases h), fun h => absurd (by rw [h]) hl⟩) (fun hl => ?_)
  have hl' : a.length = b.length := by omega
  refine EvP.same (t := .str) (a := a) (b := b) (L := fun k i => slices_Equal_string_string.l2 k (a, b, (a.length : Int), i, ())) hl' (fun hne => ⟨fun h => (by cases h), fun h => absurd h hne⟩) (fun he => ?_) (fun i hi hno hgo => ?_)
  · simp only [slices_Equal_string_string.l2, decide_eq_true_eq]
    exact EvP.neg (by omega) (EvP.ret ⟨fun _ => he, fun _ => rfl⟩)
  · simp only [slices_Equal_string_string.l2, decide_eq_true_eq, Int.toNat_natCast, next64 (show i ≤ 1099511627776 by omega), Bool.not_eq_true', beq_eq_false_iff_ne, ne_eq, toList_eq]
    exact EvP.pos (by omega) (EvP.pos (by omega) (EvP.pos (by omega) (EvP.pos (by omega) (EvP.pos (by omega) (EvP.ite (fun h => EvP.ret (hno h)) (fun h => hgo (Classical.not_not.1 h)))))))

theorem eqObjects_ev (s t : TScope.D) (gs : GoodS s) (gt : GoodS t) :
    EvP (fun k => slices_EqualFunc_impl_Object_impl_Object_impl_Object_impl_Object.f k (s.2.2.2.1, t.2.2.2.1, ((s, ()), ((t, ()), ())), ())) (fun y => y.1 = true ↔ s.2.2.2.1.length = t.2.2.2.1.length ∧ ∀ i, i < s.2.2.2.1.length → OAlike s.2.2.1 t.2.2.1 (rdT TObject s.2.2.2.1 i) (rdT TObject t.2.2.2.1 i)) := by
  have n4 := gs.objs
  simp only [slices_EqualFunc_impl_Object_impl_Object_impl_Object_impl_Object.f, bne_iff_ne, ne_eq]
  refine EvP.ite (fun h => EvP.ret ⟨fun e => (by cases e), fun e => absurd (congrArg _ e.1) h⟩) (fun h => ?_)
  have hl : s.2.2.2.1.length = t.2.2.2.1.length := Int.ofNat.inj (Classical.not_not.1 h)
  refine EvP.scan (L := fun k i => slices_EqualFunc_impl_Object_impl_Object_impl_Object_impl_Object.l2 k (t.2.2.2.1, ((s, ()), ((t, ()), ())), s.2.2.2.1, (s.2.2.2.1.length : Int), i, ())) s.2.2.2.1.length (fun i => OAlike s.2.2.1 t.2.2.1 (rdT TObject s.2.2.2.1 i) (rdT TObject t.2.2.2.1 i)) (fun hall => ?_) (fun i hi hall hgo => ?_)
  · simp only [slices_EqualFunc_impl_Object_impl_Object_impl_Object_impl_Object.l2, decide_eq_true_eq]
    exact EvP.neg (by omega) (EvP.ret ⟨fun _ => ⟨hl, hall⟩, fun _ => rfl⟩)
  · simp only [slices_EqualFunc_impl_Object_impl_Object_impl_Object_impl_Object.l2, decide_eq_true_eq, Int.toNat_natCast, next64 (show i ≤ 1099511627776 by omega), Bool.not_eq_true']
    refine EvP.pos (by omega) (EvP.pos (by omega) (EvP.pos (by omega) (EvP.pos (by omega) (EvP.pos (by omega) ?_))))
    refine EvP.bind (R := fun y => y.1 = (s, ()) ∧ y.2.1 = (t, ()) ∧ (y.2.2.1 = true ↔ OAlike s.2.2.1 t.2.2.1 (rdT TObject s.2.2.2.1 i) (rdT TObject t.2.2.2.1 i))) ?_ ?_
    · simp only [impl_alikeScopes_1.f]
      refine EvP.bind (alikeObjects_ev s (rdT TObject s.2.2.2.1 i) t (rdT TObject t.2.2.2.1 i) gs.types gt.types (obj_in gs.types (gs.obj i hi)) (obj_in gt.types (gt.obj i (by omega)))) ?_
      rintro ⟨c, _⟩ hc
      exact EvP.ret ⟨rfl, rfl, hc⟩
    · rintro ⟨S, T, c, _⟩ ⟨h1, h2, h3⟩
      simp only at h1 h2 h3
      subst h1 h2
      exact EvP.ite (fun e => EvP.ret ⟨fun e => (by cases e), fun q => by rw [h3.2 (q.2 i hi)] at e; cases e⟩) (fun e => hgo (h3.1 (by simpa using e)))

theorem impl_ansS (s t : TScope.D) (hs : Fit TScope s) (ht : Fit TScope t) : EvP (fun k => impl_AlikeScopes.f k (s, t, ())) (· = ansS s t) := by
  simp only [impl_AlikeScopes.f, Bool.not_eq_true']
  unfold ansS
  refine EvP.bind (isScope_ev s hs) ?_
  rintro ⟨u, _⟩ hu
  simp only at hu
  refine EvP.ite (fun h => EvP.ret ?_) (fun h => ?_)
  · rw [pickP_neg fun e => by rw [hu.2 e.1] at h; cases h]
  have gs := hu.1 (by simpa using h)
  refine EvP.bind (isScope_ev t ht) ?_
  rintro ⟨v, _⟩ hv
  simp only at hv
  refine EvP.ite (fun h => EvP.ret ?_) (fun h => ?_)
  · rw [pickP_neg fun e => by rw [hv.2 e.2] at h; cases h]
  have gt := hv.1 (by simpa using h)
  rw [pickP_pos ⟨gs, gt⟩]
  refine EvP.bind (R := fun y => y.1 = true ↔ SAlike s t) ?_ ?_
  · simp only [impl_alikeScopes.f, toList_eq, beq_iff_eq]
    refine EvP.ite (fun e1 => ?_) (fun e1 => EvP.ret ⟨fun e => (by cases e), fun e => absurd e.1 e1⟩)
    refine EvP.bind (eqNames_ev _ _ hs.2.1.1) ?_
    rintro ⟨c, _⟩ hc
    simp only at hc
    refine EvP.ite (fun e => ?_) (fun e => EvP.ret ⟨fun e => (by cases e), fun q => absurd (hc.2 q.2.1) e⟩)
    have e2 := hc.1 e
    refine EvP.bind (eqObjects_ev s t gs gt) ?_
    rintro ⟨d, _⟩ hd
    simp only at hd
    exact EvP.ret ⟨fun h => ⟨e1, e2, hd.1 h⟩, fun h => hd.2 h.2.2⟩
  · rintro ⟨c, _⟩ hc
    exact EvP.ret (by rw [eq_pick hc])

/-! ### Being alike goes both ways, and has one finger -/

theorem Agr.symm {l m : List TType.D} {p : Pr} (h : Agr l m p) : Agr m l (p.2, p.1) :=
  ⟨h.kind.symm, h.count.symm, h.mo.symm, h.nm.symm, h.len.symm, h.base.symm, fun i hi => by
    have := h.fld i (by rw [h.len]; exact hi)
    exact ⟨this.1.symm, this.2.symm⟩⟩

theorem Bisim.symm {l m : List TType.D} {x y : Int} (h : Bisim l m (x, y)) : Bisim m l (y, x) := by
  obtain ⟨R, hp, hR⟩ := h
  refine ⟨fun q => R (q.2, q.1), hp, fun u hu => ?_⟩
  obtain ⟨ha, hn⟩ := hR _ hu
  refine ⟨ha.symm, fun q hq => ?_⟩
  cases hq with
  | base h0 =>
    have hb : 0 ≤ bOf l u.2 := by
      have := ha.base
      simp only at this
      omega
    exact hn _ (.base hb)
  | fld i hi => exact hn _ (.fld i (Nat.lt_of_lt_of_eq hi ha.len.symm))

theorem AT.symm {a b : List TType.D} {x y : Int} (h : AT a x b y) : AT b y a x := by
  rcases h with h | h
  · exact .inl ⟨h.2, h.1⟩
  · exact .inr ⟨h.2.1, h.1, h.2.2.symm⟩

theorem OAlike.symm {a b : List TType.D} {o p : TObject.D} (h : OAlike a b o p) : OAlike b a p o :=
  ⟨h.name.symm, h.kind.symm, h.mark.symm, h.value.symm, h.len.symm, h.ty.symm, fun i hi => by
    have := h.par i (by rw [h.len]; exact hi)
    exact ⟨this.name.symm, this.byvar.symm, this.ty.symm⟩⟩

theorem SAlike.symm {s t : TScope.D} (h : SAlike s t) : SAlike t s :=
  ⟨h.1.symm, h.2.1.symm, h.2.2.1.symm, fun i hi => (h.2.2.2 i (by rw [h.2.2.1]; exact hi)).symm⟩

theorem flatMap_same {t : Ty} {f g : List t.D} {F G : t.D → List Int} (hl : f.length = g.length) (h : ∀ i, i < f.length → F (rdT t f i) = G (rdT t g i)) : f.flatMap F = g.flatMap G := by
  induction f generalizing g with
  | nil =>
    cases g with
    | nil => rfl
    | cons y s => simp at hl
  | cons x r ih =>
    cases g with
    | nil => simp at hl
    | cons y s =>
      simp only [List.flatMap_cons]
      have h0 := h 0 (by simp)
      have e : ∀ (a : t.D) (l : List t.D) (i : Nat), rdT t (a :: l) (i + 1) = rdT t l i := fun a l i => rfl
      have e0 : ∀ (a : t.D) (l : List t.D), rdT t (a :: l) 0 = a := fun a l => rfl
      rw [e0, e0] at h0
      rw [h0, ih (by simpa using hl) fun i hi => by
        have := h (i + 1) (by simp; omega)
        rw [e, e] at this
        exact this]

theorem rangeMap_rd (F : Nat → Int) {n i : Nat} (h : i < n) : rdT (.int .i64) ((List.range n).map F) i = F i := by
  simp only [rdT, List.getD, List.getElem?_map, List.getElem?_range h, Option.map_some, Option.getD_some]

theorem firstL_rd {l : List TType.D} {n i : Nat} (h : i < n) : rdT (.int .i64) (firstL l n) i = firstM (rdT TType l i) := rangeMap_rd (fun k => firstM (rdT TType l k)) h

theorem nextM_rd {l : List TType.D} {first now : List Int} {n i : Nat} (h : i < n) : rdT (.int .i64) (nextM l first now n) i = mixAllM (headM first now (rdT TType l i) i ++ fieldsM now (rdT TType l i).2.2.2.1) := rangeMap_rd (fun k => mixAllM (headM first now (rdT TType l k) k ++ fieldsM now (rdT TType l k).2.2.2.1)) h

theorem Agr.first {l m : List TType.D} {p : Pr} (h : Agr l m p) : firstM (rdT TType l p.1.toNat) = firstM (rdT TType m p.2.toNat) := by
  unfold firstM
  have hl := h.len
  unfold fieldsOf at hl
  rw [show ((rdT TType l p.1.toNat).1 : Int) = _ from h.kind, show ((rdT TType l p.1.toNat).2.1 : Int) = _ from h.count, h.mo, h.nm, hl]

/-- Types that are alike have one number behind each round. -/
theorem rounds_alike {l m : List TType.D} (gl : GoodT l) (gm : GoodT m) : ∀ (r : Nat) (x y : Int), InR l.length x → InR m.length y → Bisim l m (x, y) → rdT (.int .i64) (roundsM l r) x.toNat = rdT (.int .i64) (roundsM m r) y.toNat := by
  intro r
  induction r with
  | zero =>
    intro x y hx hy hb
    unfold roundsM
    rw [firstL_rd hx.nat.1, firstL_rd hy.nat.1]
    exact hb.agr.first
  | succ r ih =>
    intro x y hx hy hb
    have ha := hb.agr
    obtain ⟨bx, fx⟩ := good_inr gl hx
    obtain ⟨by', fy⟩ := good_inr gm hy
    have hfirst := ha.first
    unfold roundsM
    rw [nextM_rd hx.nat.1, nextM_rd hy.nat.1]
    have e1 : headM (firstL l l.length) (roundsM l r) (rdT TType l x.toNat) x.toNat = headM (firstL m m.length) (roundsM m r) (rdT TType m y.toNat) y.toNat := by
      unfold headM
      rw [firstL_rd hx.nat.1, firstL_rd hy.nat.1, hfirst]
      have hbase := ha.base
      unfold bOf at hbase bx by'
      simp only at hbase
      by_cases h0 : (0 : Int) ≤ (rdT TType l x.toNat).2.2.1
      · have h1 : (0 : Int) ≤ (rdT TType m y.toNat).2.2.1 := by omega
        rw [if_pos h0, if_pos h1]
        have := ih _ _ (bx.resolve_left (by omega)) (by'.resolve_left (by omega)) (hb.nx (.base h0))
        unfold bOf at this
        rw [this]
      · have h1 : ¬ (0 : Int) ≤ (rdT TType m y.toNat).2.2.1 := by omega
        rw [if_neg h0, if_neg h1]
    have e2 : fieldsM (roundsM l r) (rdT TType l x.toNat).2.2.2.1 = fieldsM (roundsM m r) (rdT TType m y.toNat).2.2.2.1 := by
      unfold fieldsM
      refine flatMap_same (t := TField) ha.len fun i hi => ?_
      have hf := ha.fld i hi
      have := ih _ _ (fx i hi) (fy i (by have := ha.len; simp only at this; unfold fieldsOf at this ⊢; omega)) (hb.nx (.fld i hi))
      unfold FldSame fieldsOf at hf
      unfold fieldsOf at this
      simp only at hf this
      rw [hf.1, show ((rdT TField (rdT TType l x.toNat).2.2.2.1 i).2.1 : Int) = _ from hf.2, this]
    rw [e1, e2]

theorem obj_alike {a b : List TType.D} (ga : GoodT a) (gb : GoodT b) {o p : TObject.D} (ho : ObjTy a o) (hp : ObjTy b p) (so : ObjSound a.length o) (h : OAlike a b o p) (r : Nat) : objM (roundsM a r) o = objM (roundsM b r) p := by
  have hat : ∀ x y : Int, TyN a x → TyN b y → AT a x b y → 0 ≤ x → 0 ≤ y → rdT (.int .i64) (roundsM a r) x.toNat = rdT (.int .i64) (roundsM b r) y.toNat := by
    intro x y hx hy h hx0 hy0
    rcases h with h | h
    · omega
    · exact rounds_alike ga gb r x y (hx.resolve_left (by omega)) (hy.resolve_left (by omega)) h.2.2
  unfold objM
  have e1 : objHead (roundsM a r) o = objHead (roundsM b r) p := by
    unfold objHead
    rw [h.name, show (o.2.1 : Int) = _ from h.kind, show (o.2.2.1 : Int) = _ from h.mark, show (o.2.2.2.2.1 : Int) = _ from h.value]
    by_cases h0 : (0 : Int) ≤ o.2.2.2.1
    · have h1 : (0 : Int) ≤ p.2.2.2.1 := by
        rcases h.ty with e | e
        · omega
        · exact e.2.1
      rw [if_pos h0, if_pos h1, hat _ _ ho.ty hp.ty h.ty h0 h1]
    · have h1 : ¬ (0 : Int) ≤ p.2.2.2.1 := by
        rcases h.ty with e | e
        · omega
        · exact absurd e.1 h0
      rw [if_neg h0, if_neg h1]
  have e2 : paramsM (roundsM a r) o.2.2.2.2.2 = paramsM (roundsM b r) p.2.2.2.2.2 := by
    unfold paramsM
    refine flatMap_same (t := TParam) h.len fun i hi => ?_
    have hq := h.par i hi
    have hi' : i < p.2.2.2.2.2.length := by rw [← h.len]; exact hi
    have e3 : rdT (.int .i64) (roundsM a r) (rdT TParam o.2.2.2.2.2 i).2.2.toNat = rdT (.int .i64) (roundsM b r) (rdT TParam p.2.2.2.2.2 i).2.2.toNat := by
      have tx := ho.par i hi
      have ty := hp.par i hi'
      rcases hq.ty with e | e
      · have := (so.par i hi).1
        omega
      · exact hat _ _ tx ty hq.ty e.1 e.2.1
    rw [hq.name, show ((rdT TParam o.2.2.2.2.2 i).2.1 : Bool) = _ from hq.byvar, e3]
  rw [e1, e2]

/-! ### The fingers of a scope -/

theorem sortF_ev (l : List TField.D) (hl : l.length ≤ 1048576) : EvP (fun k => slices_SortFunc_Finger.f k (l, (), ())) (· = (sortedN l, ())) := by
  have hbig := big_eq
  simp only [slices_SortFunc_Finger.f]
  exact EvP.pos (by omega) (EvP.ret rfl)

/-- The fingers of the objects that are shown, as they stand. -/
def finsM (now : List Int) (os : List TObject.D) : List TField.D := os.flatMap fun o => if (o.2.2.1 : Int) = 0 then [] else [(o.1, (o.2.2.1, objM now o))]

theorem finsM_len (now : List Int) : ∀ os : List TObject.D, (finsM now os).length ≤ os.length
  | [] => by simp [finsM]
  | o :: r => by
    have ih := finsM_len now r
    have e : finsM now (o :: r) = (if (o.2.2.1 : Int) = 0 then [] else [(o.1, (o.2.2.1, objM now o))]) ++ finsM now r := List.flatMap_cons
    rw [e, List.length_append, List.length_cons]
    split <;> simp only [List.length_nil, List.length_singleton] <;> omega

theorem fingers_ev (s : TScope.D) (hs : Fit TScope s) (g : GoodS s) : EvP (fun k => impl_Scope_fingers.f k (s, ())) (· = (sortedN (finsM (roundsM s.2.2.1 25) s.2.2.2.1), ())) := by
  have hbig := big_eq
  have h16 := g.objs
  have h3 := g.types.1.1
  simp only [impl_Scope_fingers.f]
  refine EvP.bind (roundFingers_ev s.2.2.1 25 (by omega) hs.2.2.1 g.types.1.sound) ?_
  rintro _ rfl
  have loop : ∀ (j i : Nat) (acc : List TField.D), i + j = s.2.2.2.1.length → acc.length ≤ i → EvP (fun k => impl_Scope_fingers.l1 k (acc, roundsM s.2.2.1 25, s.2.2.2.1, (s.2.2.2.1.length : Int), (i : Int), ())) (· = (sortedN (acc ++ finsM (roundsM s.2.2.1 25) (s.2.2.2.1.drop i)), ())) := by
    intro j
    induction j with
    | zero =>
      intro i acc hij ha
      have hi : i = s.2.2.2.1.length := by omega
      subst hi
      refine EvP.succ ?_
      simp only [impl_Scope_fingers.l1, decide_eq_true_eq]
      refine EvP.neg (by omega) (EvP.bind (sortF_ev acc (by omega)) ?_)
      rintro _ rfl
      refine EvP.ret ?_
      simp [finsM]
    | succ j ih =>
      intro i acc hij ha
      have hi : i < s.2.2.2.1.length := by omega
      have hdrop := drop_rd hi
      have hm := (g.obj i hi).1
      have hso := (g.obj i hi).sound h3
      rw [← roundsM_len s.2.2.1 25] at hso
      refine EvP.succ ?_
      simp only [impl_Scope_fingers.l1, decide_eq_true_eq, Int.toNat_natCast, next64 (show i ≤ 1099511627776 by omega)]
      refine EvP.pos (by omega) (EvP.pos (by omega) (EvP.pos (by omega) (EvP.ite (fun hz => ?_) (fun hz => ?_))))
      · have hz' : (0 : Int) < (rdT TObject s.2.2.2.1 i).2.2.1 := hz
        have hne : ¬ ((rdT TObject s.2.2.2.1 i).2.2.1 : Int) = 0 := Int.ne_of_gt hz'
        refine EvP.bind (objectFinger_ev _ _ (hs.2.2.2.1.2 _ (rdT_mem hi)) hso) ?_
        rintro _ rfl
        refine EvP.pos (by omega) ?_
        have key := ih (i + 1) (acc ++ [((rdT TObject s.2.2.2.1 i).1, ((rdT TObject s.2.2.2.1 i).2.2.1, objM (roundsM s.2.2.1 25) (rdT TObject s.2.2.2.1 i)))]) (by omega) (by simp; omega)
        rw [hdrop]
        simp only [finsM, List.flatMap_cons, if_neg hne, ← List.append_assoc]
        exact key
      · have hz' : ¬ (0 : Int) < (rdT TObject s.2.2.2.1 i).2.2.1 := hz
        have heq : ((rdT TObject s.2.2.2.1 i).2.2.1 : Int) = 0 := Int.le_antisymm (Int.not_lt.1 hz') hm.1
        have key := ih (i + 1) acc (by omega) (by omega)
        rw [hdrop]
        simp only [finsM, List.flatMap_cons, if_pos heq, List.nil_append]
        exact key
  have := loop s.2.2.2.1.length 0 [] (by omega) (by simp)
  simpa using this

/-! ### The reference puts fingers to their places -/

def NL (x y : TField.D) : Prop := x.1.toList < y.1.toList

theorem less_iff (x y : TField.D) : Op.bytesLess x.1.toList y.1.toList = true ↔ NL x y := by
  unfold NL
  rw [bytesLess_eq, decide_eq_true_eq]

theorem asc_unique {A B : List TField.D} (hp : A.Perm B) (ha : A.Pairwise NL) (hb : B.Pairwise NL) : A = B :=
  hp.eq_of_pairwise (fun a b _ _ h1 h2 => absurd h2 (List.lt_asymm h1)) ha hb

/-- Fingers whose names are all others. -/
def Apart2 (l : List TField.D) : Prop := (l.map fun f => (f.1 : ByteArray)).Nodup

theorem apart_ne {l : List TField.D} (h : Apart2 l) {i j : Nat} (hi : i < l.length) (hj : j < l.length) (hij : i ≠ j) : l[i].1 ≠ l[j].1 := by
  have hp := List.pairwise_iff_getElem.1 h
  intro e
  rcases Nat.lt_trichotomy i j with h | h | h
  · exact hp i j (by simpa using hi) (by simpa using hj) h (by simpa using e)
  · exact hij h
  · exact hp j i (by simpa using hj) (by simpa using hi) h (by simpa using e.symm)

theorem sortedN_asc (l : List TField.D) (h : Apart2 l) : (sortedN l).Pairwise NL := by
  obtain ⟨hp, hs⟩ := sortedN_spec l
  have hl := sortedN_len l
  have h2 : Apart2 (sortedN l) := (hp.map _).nodup_iff.2 h
  rw [List.pairwise_iff_getElem]
  intro i j hi hj hij
  have h1 := hs i j (Nat.zero_le _) hij (by omega)
  rw [lt_cmpN, bytesLess_eq] at h1
  have e1 : (sortedN l).toArray[j]! = (sortedN l)[j] := by simp [hj]
  have e2 : (sortedN l).toArray[i]! = (sortedN l)[i] := by simp [hi]
  rw [e1, e2] at h1
  have hle : (sortedN l)[i].1.toList ≤ (sortedN l)[j].1.toList := List.not_lt.1 (of_decide_eq_false h1)
  have hne := apart_ne h2 hi hj (by omega)
  unfold NL
  refine Classical.byContradiction fun hn => hne ?_
  exact toList_inj (List.le_antisymm hle (List.not_lt.1 hn))

theorem insert_asc {A B : List TField.D} {f : TField.D} (h : (A ++ B).Pairwise NL) (ha : ∀ x ∈ A, NL x f) (hb : ∀ x ∈ B, NL f x) : (A ++ f :: B).Pairwise NL := by
  obtain ⟨h1, h2, h3⟩ := List.pairwise_append.1 h
  refine List.pairwise_append.2 ⟨h1, List.pairwise_cons.2 ⟨hb, h2⟩, fun x hx y hy => ?_⟩
  rcases List.mem_cons.1 hy with rfl | hy
  · exact ha x hx
  · exact h3 x hx y hy

abbrev SB1 := ByteArray × (List ByteArray) × (List TType.D) × (List TObject.D) × (List TUse.D) × Unit

theorem place_ev (b : SB1) (now : List Int) (f : TField.D) (os : List TObject.D) (i : Nat) (hi : i ≤ 1048576) (out : List TField.D) (hl : out.length ≤ 1048576) (ho : out.Pairwise NL) (hne : ∀ x ∈ out, (x.1 : ByteArray) ≠ f.1) (Q : List TField.D × Unit → Prop)
    (hgo : ∀ r : List TField.D, r.Perm (f :: out) → r.Pairwise NL → EvP (fun k => spec_l8All.l1 k (b, now, r, os, (os.length : Int), ((i + 1 : Nat) : Int), ())) Q) :
    ∀ (k : Nat) (A B : List TField.D) (g : TField.D), A.length = k → A ++ B = out → (∀ x ∈ B, NL f x) → EvP (fun m => spec_l8All.l6 m (b, now, A ++ g :: B, (f.1, (f.2.1, (f.2.2, ()))), (k : Int), os, (os.length : Int), (i : Int), ())) Q := by
  have put : ∀ (A B : List TField.D) (g x : TField.D) (k : Nat), A.length = k → (A ++ g :: B).set k x = A ++ x :: B := by
    intro A B g x k h
    subst h
    induction A with
    | nil => rfl
    | cons a r ih => simp [ih]
  intro k
  induction k with
  | zero =>
    intro A B g hA hAB hB
    have hA0 : A = [] := List.eq_nil_of_length_eq_zero hA
    subst hA0
    have hlen : ([] ++ g :: B : List TField.D).length = out.length + 1 := by rw [← hAB]; simp
    refine EvP.succ ?_
    simp only [spec_l8All.l6, decide_eq_true_eq, next64 (show i ≤ 1099511627776 by omega)]
    refine EvP.neg (by omega) (EvP.pos (by omega) (EvP.pos (by rw [hlen]; omega) ?_))
    rw [show ((0 : Nat) : Int).toNat = 0 from rfl, put [] B g _ 0 rfl]
    refine hgo _ (by rw [← hAB]; exact List.Perm.refl _) ?_
    exact insert_asc (A := []) (by rw [hAB]; exact ho) (fun x hx => by cases hx) hB
  | succ k ih =>
    intro A B g hA hAB hB
    have hlen : (A ++ g :: B : List TField.D).length = out.length + 1 := by rw [← hAB]; simp; omega
    obtain ⟨A', a, rfl⟩ : ∃ A' a, A = A' ++ [a] := ⟨A.dropLast, A.getLast (by intro e; rw [e] at hA; simp at hA), (List.dropLast_concat_getLast _).symm⟩
    have hA' : A'.length = k := by simpa using hA
    have hkl : k < out.length := by rw [← hAB]; simp; omega
    have e1 : w64 (((k + 1 : Nat) : Int) - 1) = (k : Int) := by rw [w64_id (by omega) (by omega)]; omega
    have erd : rdT TField ((A' ++ [a]) ++ g :: B) k = a := by
      subst hA'
      simp [rdT, List.getD]
    have hain : a ∈ out := by rw [← hAB]; simp
    refine EvP.succ ?_
    simp only [spec_l8All.l6, decide_eq_true_eq, e1, Int.toNat_natCast, erd, next64 (show i ≤ 1099511627776 by omega)]
    refine EvP.pos (by omega) (EvP.pos (by omega) (EvP.pos (by rw [hlen]; omega) (EvP.ite (fun hgt => ?_) (fun hle => ?_))))
    · refine EvP.pos (by omega) (EvP.pos (by rw [hlen]; omega) (EvP.pos (by omega) (EvP.pos (by rw [hlen]; omega) ?_)))
      rw [put (A' ++ [a]) B g _ (k + 1) hA, List.append_assoc]
      refine ih A' (a :: B) a hA' (by rw [← hAB]; simp) (fun x hx => ?_)
      rcases List.mem_cons.1 hx with rfl | hx
      · rw [bytesLess_eq] at hgt
        simp only [Bool.not_eq_true', Bool.or_eq_false_iff, decide_eq_false_iff_not, beq_eq_false_iff_ne] at hgt
        unfold NL
        refine Classical.byContradiction fun hn => hgt.2 ?_
        exact List.le_antisymm (List.not_lt.1 hn) (List.not_lt.1 hgt.1)
      · exact hB x hx
    · refine EvP.pos (by omega) (EvP.pos (by rw [hlen]; omega) ?_)
      rw [put (A' ++ [a]) B g _ (k + 1) hA]
      have haf : NL a f := by
        rw [bytesLess_eq] at hle
        have hor0 : f.1.toList ≤ a.1.toList → a.1.toList = f.1.toList := by simpa using hle
        have hor : a.1.toList < f.1.toList ∨ a.1.toList = f.1.toList := by
          rcases Classical.em (a.1.toList < f.1.toList) with h | h
          · exact .inl h
          · exact .inr (hor0 (List.not_lt.1 h))
        rcases hor with h | h
        · exact h
        · exact absurd (toList_inj h) (hne a hain)
      refine hgo _ ?_ ?_
      · rw [← hAB]; exact List.perm_middle
      · refine insert_asc (by rw [hAB]; exact ho) (fun x hx => ?_) hB
        rcases List.mem_append.1 hx with hx | hx
        · have ho' := ho
          rw [← hAB, List.append_assoc] at ho'
          have := (List.pairwise_append.1 ho').2.2 x hx a (by simp)
          exact List.lt_trans this haf
        · rw [List.mem_singleton.1 hx]; exact haf

theorem finsM_take {now : List Int} {os : List TObject.D} {i : Nat} (h : i < os.length) : finsM now (os.take (i + 1)) = finsM now (os.take i) ++ (if ((rdT TObject os i).2.2.1 : Int) = 0 then [] else [((rdT TObject os i).1, ((rdT TObject os i).2.2.1, objM now (rdT TObject os i)))]) := by
  unfold finsM
  rw [List.take_add_one, rdT_some h, List.flatMap_append]
  simp

theorem finsM_names (now : List Int) : ∀ os : List TObject.D, ((finsM now os).map fun f => (f.1 : ByteArray)).Sublist (onames os)
  | [] => by simp [finsM, onames]
  | o :: r => by
    have ih := finsM_names now r
    have e : finsM now (o :: r) = (if (o.2.2.1 : Int) = 0 then [] else [(o.1, (o.2.2.1, objM now o))]) ++ finsM now r := List.flatMap_cons
    have e2 : onames (o :: r) = o.1 :: onames r := rfl
    rw [e, e2, List.map_append]
    split
    · exact ih.cons _
    · exact ih.cons_cons _

theorem finsM_apart {s : TScope.D} (g : GoodS s) (now : List Int) : Apart2 (finsM now s.2.2.2.1) := (finsM_names now s.2.2.2.1).nodup (List.nodup_append.1 g.names.2).2.1

def fingersL (s : TScope.D) : List TField.D := sortedN (finsM (roundsM s.2.2.1 25) s.2.2.2.1)

theorem fingersL_len {s : TScope.D} (g : GoodS s) : (fingersL s).length ≤ 16 := by
  unfold fingersL
  rw [sortedN_len]
  exact Nat.le_trans (finsM_len _ _) g.objs

theorem fingersL_asc {s : TScope.D} (g : GoodS s) : (fingersL s).Pairwise NL := sortedN_asc _ (finsM_apart g _)

theorem specFingers_ev (s : TScope.D) (hs : Fit TScope s) (g : GoodS s) : EvP (fun k => spec_l8All.f k (s, ())) (· = (fingersL s, ())) := by
  have hbig := big_eq
  have h16 := g.objs
  have h3 := g.types.1.1
  have hap := finsM_apart g (roundsM s.2.2.1 25)
  simp only [spec_l8All.f]
  refine EvP.bind (l8Rounds_ev s.2.2.1 25 (by omega) hs.2.2.1 g.types.1.sound) ?_
  rintro _ rfl
  have loop : ∀ (j i : Nat) (out : List TField.D), i + j = s.2.2.2.1.length → out.Perm (finsM (roundsM s.2.2.1 25) (s.2.2.2.1.take i)) → out.Pairwise NL → EvP (fun k => spec_l8All.l1 k ((s.1, (s.2.1, (s.2.2.1, (s.2.2.2.1, (s.2.2.2.2, ()))))), roundsM s.2.2.1 25, out, s.2.2.2.1, (s.2.2.2.1.length : Int), (i : Int), ())) (· = (fingersL s, ())) := by
    intro j
    induction j with
    | zero =>
      intro i out hij hp ho
      refine EvP.succ ?_
      simp only [spec_l8All.l1, decide_eq_true_eq]
      refine EvP.neg (by omega) (EvP.ret ?_)
      rw [List.take_of_length_le (by omega)] at hp
      have := asc_unique (hp.trans (sortedN_spec (finsM (roundsM s.2.2.1 25) s.2.2.2.1)).1.symm) ho (sortedN_asc _ hap)
      rw [this]; rfl
    | succ j ih =>
      intro i out hij hp ho
      have hi : i < s.2.2.2.1.length := by omega
      have hso := (g.obj i hi).sound h3
      rw [← roundsM_len s.2.2.1 25] at hso
      have hol : out.length ≤ 16 := by
        rw [hp.length_eq]
        refine Nat.le_trans (finsM_len _ _) ?_
        rw [List.length_take]; omega
      have htk := finsM_take (now := roundsM s.2.2.1 25) hi
      refine EvP.succ ?_
      simp only [spec_l8All.l1, decide_eq_true_eq, Int.toNat_natCast, next64 (show i ≤ 1099511627776 by omega), beq_iff_eq]
      refine EvP.pos (by omega) (EvP.pos (by omega) (EvP.pos (by omega) (EvP.ite (fun hz => ?_) (fun hz => ?_))))
      · refine ih (i + 1) out (by omega) ?_ ho
        rw [htk, if_pos hz, List.append_nil]
        exact hp
      · rw [if_neg hz] at htk
        refine EvP.bind (l8Object_ev s _ _ (hs.2.2.2.1.2 _ (rdT_mem hi)) hso) ?_
        rintro _ rfl
        refine EvP.pos (by omega) ?_
        refine place_ev (s.1, (s.2.1, (s.2.2.1, (s.2.2.2.1, (s.2.2.2.2, ()))))) (roundsM s.2.2.1 25) ((rdT TObject s.2.2.2.1 i).1, ((rdT TObject s.2.2.2.1 i).2.2.1, objM (roundsM s.2.2.1 25) (rdT TObject s.2.2.2.1 i))) s.2.2.2.1 i (by omega) out (by omega) ho (fun x hx => ?_) _ (fun r hr hasc => ih (i + 1) r (by omega) ?_ hasc) out.length out [] _ rfl (List.append_nil _) (fun x hx => by cases hx)
        · -- its name is another one
          have hsub : (finsM (roundsM s.2.2.1 25) (s.2.2.2.1.take (i + 1))).Sublist (finsM (roundsM s.2.2.1 25) s.2.2.2.1) := by
            conv => rhs; rw [← List.take_append_drop (i + 1) s.2.2.2.1]
            unfold finsM
            rw [List.flatMap_append]
            exact List.sublist_append_left _ _
          have h1 : Apart2 (finsM (roundsM s.2.2.1 25) (s.2.2.2.1.take (i + 1))) := (hsub.map _).nodup hap
          rw [htk] at h1
          unfold Apart2 at h1
          rw [List.map_append] at h1
          have h2 := (List.nodup_append.1 h1).2.2 x.1 (List.mem_map.2 ⟨x, hp.mem_iff.1 hx, rfl⟩) (rdT TObject s.2.2.2.1 i).1 (by simp)
          exact h2
        · rw [htk]
          refine hr.trans ?_
          refine (List.Perm.cons _ hp).trans ?_
          exact (List.perm_append_singleton _ _).symm
  have := loop s.2.2.2.1.length 0 [] (by omega) (by simp [finsM]) List.Pairwise.nil
  exact this

/-! a finger by its name -/

def fAt (x : ByteArray) : List TField.D → Int × Bool × Unit
  | [] => (0, false, ())
  | f :: r => if f.1.toList = x.toList then (f.2.2, true, ()) else fAt x r

theorem implAtLoop_ev (x : ByteArray) (F : List TField.D) (hl : F.length ≤ 1048576) : EvP (fun k => impl_Scope_fingerAt.l1 k (x, F, (F.length : Int), 0, ())) (· = fAt x F) := by
  have loop : ∀ (j i : Nat), i + j = F.length → EvP (fun k => impl_Scope_fingerAt.l1 k (x, F, (F.length : Int), (i : Int), ())) (· = fAt x (F.drop i)) := by
    intro j
    induction j with
    | zero =>
      intro i hij
      refine EvP.succ ?_
      simp only [impl_Scope_fingerAt.l1, decide_eq_true_eq]
      refine EvP.neg (by omega) (EvP.ret ?_)
      rw [List.drop_eq_nil_of_le (by omega)]; rfl
    | succ j ih =>
      intro i hij
      have hi : i < F.length := by omega
      refine EvP.succ ?_
      simp only [impl_Scope_fingerAt.l1, decide_eq_true_eq, Int.toNat_natCast, next64 (show i ≤ 1099511627776 by omega), beq_iff_eq]
      rw [drop_rd (t := TField) hi]
      refine EvP.pos (by omega) (EvP.pos (by omega) (EvP.pos (by omega) (EvP.ite (fun h => EvP.ret ?_) (fun h => ?_))))
      · rw [fAt, if_pos h]
      · rw [fAt, if_neg h]; exact ih (i + 1) (by omega)
  exact loop F.length 0 (by omega)

theorem specAtLoop_ev (x : ByteArray) (F : List TField.D) (hl : F.length ≤ 1048576) : EvP (fun k => spec_l8At.f k (F, x, ())) (· = fAt x F) := by
  simp only [spec_l8At.f]
  have loop : ∀ (j i : Nat), i + j = F.length → EvP (fun k => spec_l8At.l1 k (x, F, (F.length : Int), (i : Int), ())) (· = fAt x (F.drop i)) := by
    intro j
    induction j with
    | zero =>
      intro i hij
      refine EvP.succ ?_
      simp only [spec_l8At.l1, decide_eq_true_eq]
      refine EvP.neg (by omega) (EvP.ret ?_)
      rw [List.drop_eq_nil_of_le (by omega)]; rfl
    | succ j ih =>
      intro i hij
      have hi : i < F.length := by omega
      refine EvP.succ ?_
      simp only [spec_l8At.l1, decide_eq_true_eq, Int.toNat_natCast, next64 (show i ≤ 1099511627776 by omega), beq_iff_eq]
      rw [drop_rd (t := TField) hi]
      refine EvP.pos (by omega) (EvP.pos (by omega) (EvP.pos (by omega) (EvP.ite (fun h => EvP.ret ?_) (fun h => ?_))))
      · rw [fAt, if_pos h]
      · rw [fAt, if_neg h]; exact ih (i + 1) (by omega)
  exact loop F.length 0 (by omega)

noncomputable def atAns (s : TScope.D) (x : ByteArray) : Int × Bool × Unit := pickP (GoodS s) (fAt x (fingersL s)) (0, false, ())

theorem implFingerAt_ev (s : TScope.D) (x : ByteArray) (hs : Fit TScope s) : EvP (fun k => impl_FingerAt.f k (s, x, ())) (· = atAns s x) := by
  simp only [impl_FingerAt.f, Bool.not_eq_true']
  unfold atAns
  refine EvP.bind (isScope_ev s hs) ?_
  rintro ⟨u, _⟩ hu
  simp only at hu
  refine EvP.ite (fun h => EvP.ret ?_) (fun h => ?_)
  · rw [pickP_neg fun e => by rw [hu.2 e] at h; cases h]
  have g := hu.1 (by simpa using h)
  rw [pickP_pos g]
  refine EvP.bind (R := (· = fAt x (fingersL s))) ?_ ?_
  · simp only [impl_Scope_fingerAt.f]
    refine EvP.bind (fingers_ev s hs g) ?_
    rintro _ rfl
    exact implAtLoop_ev x (fingersL s) (by have := fingersL_len g; omega)
  · rintro _ rfl
    exact EvP.ret rfl

theorem specFingerAt_ev (s : TScope.D) (x : ByteArray) (hs : Fit TScope s) : EvP (fun k => spec_FingerAt.f k (s, x, ())) (· = atAns s x) := by
  simp only [spec_FingerAt.f, Bool.not_eq_true']
  unfold atAns
  refine EvP.bind (l4Good_ev s hs) ?_
  rintro ⟨u, _⟩ hu
  simp only at hu
  refine EvP.ite (fun h => EvP.ret ?_) (fun h => ?_)
  · rw [pickP_neg fun e => by rw [hu.2 e] at h; cases h]
  have g := hu.1 (by simpa using h)
  rw [pickP_pos g]
  refine EvP.bind (specFingers_ev s hs g) ?_
  rintro _ rfl
  refine EvP.bind (specAtLoop_ev x (fingersL s) (by have := fingersL_len g; omega)) ?_
  rintro _ rfl
  exact EvP.ret rfl

/-- The first of a name that is the only one. -/
theorem fAt_own {F : List TField.D} (h : F.Pairwise NL) {f : TField.D} (hf : f ∈ F) : fAt f.1 F = (f.2.2, true, ()) := by
  induction F with
  | nil => cases hf
  | cons g r ih =>
    obtain ⟨h1, h2⟩ := List.pairwise_cons.1 h
    rcases List.mem_cons.1 hf with rfl | hf
    · rw [fAt, if_pos rfl]
    · have hne : ¬ g.1.toList = f.1.toList := fun e => by
        have := h1 f hf
        unfold NL at this
        rw [e] at this
        exact List.lt_irrefl _ this
      rw [fAt, if_neg hne]
      exact ih h2 hf

/-! ### A scope with two types exchanged -/

def tI (a b n : Int) : Int := if n = a then b else if n = b then a else n

structure Sw (N : Nat) (a b : Int) : Prop where
  a3 : 3 ≤ a
  aN : a < (N : Int)
  b3 : 3 ≤ b
  bN : b < (N : Int)

theorem tI_inv (a b n : Int) : tI a b (tI a b n) = n := by
  unfold tI
  by_cases h1 : n = a
  · rw [if_pos h1]
    by_cases h2 : b = a
    · rw [if_pos h2]; omega
    · rw [if_neg h2, if_pos rfl]; omega
  · rw [if_neg h1]
    by_cases h2 : n = b
    · rw [if_pos h2, if_pos rfl]; omega
    · rw [if_neg h2, if_neg h1, if_neg h2]

theorem Sw.inr {N : Nat} {a b : Int} (h : Sw N a b) {n : Int} (k : InR N n) : InR N (tI a b n) := by
  have h1 := h.a3
  have h2 := h.aN
  have h3 := h.b3
  have h4 := h.bN
  unfold InR at k ⊢
  unfold tI
  split
  · omega
  · split <;> omega

theorem Sw.low {N : Nat} {a b : Int} (h : Sw N a b) {n : Int} (k : n < 3) : tI a b n = n := by
  have h1 := h.a3
  have h3 := h.b3
  unfold tI
  rw [if_neg (by omega), if_neg (by omega)]

theorem Sw.high {N : Nat} {a b : Int} (h : Sw N a b) {n : Int} (k : 3 ≤ n) : 3 ≤ tI a b n := by
  have h1 := h.a3
  have h3 := h.b3
  unfold tI
  split
  · omega
  · split <;> omega

theorem Sw.neg {N : Nat} {a b : Int} (h : Sw N a b) {n : Int} : tI a b n < 0 ↔ n < 0 := by
  constructor
  · intro k
    have := h.low (n := tI a b n) (by omega)
    rw [tI_inv] at this
    omega
  · intro k
    rw [h.low (by omega)]; exact k

theorem tI_inj {a b n m : Int} (h : tI a b n = tI a b m) : n = m := by rw [← tI_inv a b n, h, tI_inv]

def turnF (a b : Int) (f : TField.D) : TField.D := (f.1, (f.2.1, tI a b f.2.2))
def turnTy (a b : Int) (x : TType.D) : TType.D := (x.1, (x.2.1, (tI a b x.2.2.1, (x.2.2.2.1.map (turnF a b), x.2.2.2.2))))
def turnL (T : List TType.D) (a b : Int) : List TType.D := (List.range T.length).map fun k : Nat => turnTy a b (rdT TType T (tI a b (k : Int)).toNat)

theorem rdT_mapI {t u : Ty} (f : t.D → u.D) (l : List t.D) {i : Nat} (h : i < l.length) : rdT u (l.map f) i = f (rdT t l i) := by
  simp [rdT, List.getD, h]

theorem turnL_len (T : List TType.D) (a b : Int) : (turnL T a b).length = T.length := by simp [turnL]

theorem turnL_rd (T : List TType.D) (a b : Int) {k : Nat} (h : k < T.length) : rdT TType (turnL T a b) k = turnTy a b (rdT TType T (tI a b (k : Int)).toNat) := by
  simp only [rdT, List.getD, turnL, List.getElem?_map, List.getElem?_range h, Option.map_some, Option.getD_some]

section
variable {T : List TType.D} {a b : Int}

theorem turnL_at (h : Sw T.length a b) {n : Int} (k : InR T.length n) : rdT TType (turnL T a b) (tI a b n).toNat = turnTy a b (rdT TType T n.toNat) := by
  have k2 := h.inr k
  rw [turnL_rd T a b k2.nat.1, k2.nat.2, tI_inv]

theorem turn_kind (h : Sw T.length a b) {n p q : Int} (k : KindIs T n p q) : KindIs (turnL T a b) (tI a b n) p q := by
  refine ⟨by rw [turnL_len]; exact h.inr k.1, ?_⟩
  rw [turnL_at h k.1]
  exact k.2

theorem turn_fields (h : Sw T.length a b) {fs : List TField.D} (k : FieldsOk T.length fs) : FieldsOk T.length (fs.map (turnF a b)) := by
  have rd : ∀ j, j < fs.length → rdT TField (fs.map (turnF a b)) j = turnF a b (rdT TField fs j) := fun j hj => by
    simp [rdT, List.getD, hj]
  refine ⟨fun i hi => ?_, by rw [List.length_map]; exact k.2⟩
  have hi' : i < fs.length := by simpa using hi
  obtain ⟨⟨h1, h2, h3⟩, h4⟩ := k.1 i hi'
  rw [rd i hi']
  refine ⟨⟨h1, h2, h.inr h3⟩, fun j hj => ?_⟩
  rw [rd j (by omega)]
  exact h4 j hj

theorem turn_typeOk (h : Sw T.length a b) {x : TType.D} (k : TypeOk T x) : TypeOk (turnL T a b) (turnTy a b x) := by
  obtain ⟨h1, h2, hs⟩ := k
  refine ⟨h1, fun h5 => ?_, ?_⟩
  · show (x.2.2.2.1.map (turnF a b)).length = 0
    rw [List.length_map]; exact h2 h5
  · show if (x.1 : Int) = 4 then (((1 : Int) ≤ x.2.1 ∧ x.2.1 ≤ (1000 : Int)) ∧ InR (turnL T a b).length (tI a b x.2.2.1))
      else if (x.1 : Int) = 5 then (x.2.1 : Int) = 0 ∧ (tI a b x.2.2.1 = -1 ∨ KindIs (turnL T a b) (tI a b x.2.2.1) 5 5) ∧ FieldsOk (turnL T a b).length (x.2.2.2.1.map (turnF a b))
      else (x.1 : Int) = 6 ∧ (x.2.1 : Int) = 0 ∧ KindIs (turnL T a b) (tI a b x.2.2.1) 5 4
    split at hs
    · rename_i k4
      rw [if_pos k4]
      exact ⟨hs.1, by rw [turnL_len]; exact h.inr hs.2⟩
    · rename_i k4
      rw [if_neg k4]
      split at hs
      · rename_i k5
        rw [if_pos k5]
        refine ⟨hs.1, hs.2.1.imp (fun e => ?_) (fun e => turn_kind h e), by rw [turnL_len]; exact turn_fields h hs.2.2⟩
        rw [e]; exact h.low (by decide)
      · rename_i k5
        rw [if_neg k5]
        exact ⟨hs.1, hs.2.1, turn_kind h hs.2.2⟩

theorem turn_nearly (h : Sw T.length a b) (g : Nearly T) : Nearly (turnL T a b) := by
  obtain ⟨g3, g24, gb, gt⟩ := g
  have hb := (base_iff _ g3).1 gb
  refine ⟨by rw [turnL_len]; exact g3, by rw [turnL_len]; exact g24, ?_, fun i i3 hi => ?_⟩
  · refine (base_iff _ (by rw [turnL_len]; exact g3)).2 fun i hi => ?_
    rw [turnL_rd T a b (by omega), h.low (by omega), Int.toNat_natCast, hb i hi]
    obtain ⟨_, b2, b3, _⟩ := base_parts i hi
    unfold turnTy
    rw [b2, b3, h.low (by decide)]
    rw [List.map_nil, ← b2, ← b3]
  · have hi' : i < T.length := by rw [turnL_len] at hi; exact hi
    have ri : InR T.length (i : Int) := ⟨by omega, by omega⟩
    have r2 := h.inr ri
    have i3' := h.high (n := (i : Int)) (by omega)
    have ht := gt (tI a b (i : Int)).toNat (by omega) r2.nat.1
    unfold TypeAt
    rw [turnL_rd T a b hi']
    refine ⟨turn_typeOk h ht.1, fun j j3 hj => ?_⟩
    have rj : InR T.length (j : Int) := ⟨by omega, by omega⟩
    have rj2 := h.inr rj
    have j3' := h.high (n := (j : Int)) (by omega)
    rw [turnL_rd T a b (by omega)]
    rintro ⟨p, q, r⟩
    have ne : (tI a b (i : Int)).toNat ≠ (tI a b (j : Int)).toNat := fun e => by
      have := tI_inj (a := a) (b := b) (n := (i : Int)) (m := (j : Int)) (by omega)
      omega
    rcases Nat.lt_or_ge (tI a b (j : Int)).toNat (tI a b (i : Int)).toNat with hlt | hge
    · exact ht.2 _ (by omega) hlt ⟨p, q, r⟩
    · have hu := gt (tI a b (j : Int)).toNat (by omega) rj2.nat.1
      refine hu.2 _ (by omega) (by omega) ⟨?_, q.symm, r.symm⟩
      show (turnTy a b (rdT TType T (tI a b (j : Int)).toNat)).2.2.2.2.2 ≠ _
      rw [← q]; exact p

theorem turn_parts (h : Sw T.length a b) (x : TType.D) (p : Bool) : parts (turnTy a b x) p = (parts x p).map (tI a b) := by
  have e1 : fparts (turnTy a b x).2.2.2.1 = (fparts x.2.2.2.1).map (tI a b) := by
    unfold fparts turnTy
    simp only [List.map_map]
    rfl
  have e2 : (0 ≤ tI a b x.2.2.1) ↔ (0 ≤ (x.2.2.1 : Int)) := by
    have := h.neg (n := x.2.2.1)
    exact ⟨fun h0 => Int.not_lt.1 fun e => absurd (this.2 e) (Int.not_lt.2 h0), fun h0 => Int.not_lt.1 fun e => absurd (this.1 e) (Int.not_lt.2 h0)⟩
  unfold parts
  rw [e1]
  by_cases hq : (0 : Int) ≤ x.2.2.1 ∧ (p = true ∨ (x.1 : Int) ≠ 6)
  · rw [if_pos hq, if_pos ⟨e2.2 hq.1, hq.2⟩, List.map_append]
    rfl
  · rw [if_neg hq, if_neg (fun e => hq ⟨e2.1 e.1, e.2⟩)]
    simp

theorem turn_reach (h : Sw T.length a b) (g : Nearly T) {i : Nat} (hi : i < T.length) {n : Int} (hr : Reach (turnL T a b) (fun x => x ∈ parts (turnTy a b (rdT TType T i)) false) n) : InR T.length n ∧ Reach T (fun x => x ∈ parts (rdT TType T i) false) (tI a b n) := by
  have ht := g.tidy
  have one : ∀ {k : Nat}, k < T.length → ∀ {n : Int}, n ∈ parts (turnTy a b (rdT TType T k)) false → InR T.length n ∧ tI a b n ∈ parts (rdT TType T k) false := by
    intro k hk n hn
    rw [turn_parts h] at hn
    obtain ⟨z, hz, rfl⟩ := List.mem_map.1 hn
    exact ⟨h.inr (ht.inr k hk z hz), by rw [tI_inv]; exact hz⟩
  induction hr with
  | base q =>
    obtain ⟨h1, h2⟩ := one hi q
    exact ⟨h1, .base h2⟩
  | step q r ih =>
    obtain ⟨h1, h2⟩ := ih
    rw [turnL_rd T a b h1.nat.1, h1.nat.2] at r
    have r2 := h.inr h1
    obtain ⟨h3, h4⟩ := one r2.nat.1 r
    exact ⟨h3, .step h2 h4⟩

theorem turn_good (h : Sw T.length a b) (g : GoodT T) : GoodT (turnL T a b) := by
  refine ⟨turn_nearly h g.1, fun i hi hr => ?_⟩
  have hi' : i < T.length := by rw [turnL_len] at hi; exact hi
  have ri : InR T.length (i : Int) := ⟨by omega, by omega⟩
  have r2 := h.inr ri
  unfold Round at hr
  rw [Int.toNat_natCast, turnL_rd T a b hi'] at hr
  obtain ⟨_, h2⟩ := turn_reach h g.1 r2.nat.1 hr
  refine g.2 (tI a b (i : Int)).toNat r2.nat.1 ?_
  unfold Round
  rw [r2.nat.2]
  exact h2

theorem turn_bisim (h : Sw T.length a b) (g : GoodT T) {n : Int} (hn : InR T.length n) : Bisim T (turnL T a b) (n, tI a b n) := by
  refine ⟨fun p => InR T.length p.1 ∧ p.2 = tI a b p.1, ⟨hn, rfl⟩, ?_⟩
  rintro ⟨x, y⟩ ⟨hx, hy⟩
  simp only at hx hy
  subst hy
  have e := turnL_at h hx
  obtain ⟨hb, hf⟩ := good_inr g hx
  have rd : ∀ j, j < (fieldsOf T x).length → rdT TField (fieldsOf (turnL T a b) (tI a b x)) j = turnF a b (rdT TField (fieldsOf T x) j) := fun j hj => by
    unfold fieldsOf at hj ⊢
    rw [e]
    exact rdT_mapI (t := TField) (u := TField) (turnF a b) _ hj
  have eb : bOf (turnL T a b) (tI a b x) = tI a b (bOf T x) := by
    unfold bOf
    rw [e]; rfl
  refine ⟨⟨?_, ?_, ?_, ?_, ?_, ?_, fun i hi => ?_⟩, fun q hq => ?_⟩
  · rw [e]; rfl
  · rw [e]; rfl
  · rw [e]; rfl
  · rw [e]; rfl
  · show (fieldsOf T x).length = (fieldsOf (turnL T a b) (tI a b x)).length
    unfold fieldsOf
    rw [e]
    show _ = ((rdT TType T x.toNat).2.2.2.1.map (turnF a b)).length
    rw [List.length_map]
  · show bOf T x < 0 ↔ bOf (turnL T a b) (tI a b x) < 0
    rw [eb]; exact h.neg.symm
  · show FldSame (fieldsOf T x) (fieldsOf (turnL T a b) (tI a b x)) i
    unfold FldSame
    rw [rd i hi]
    exact ⟨rfl, rfl⟩
  · cases hq with
    | base h0 => exact ⟨hb.resolve_left (Int.not_lt.2 h0), eb⟩
    | fld i hi =>
      refine ⟨hf i hi, ?_⟩
      show (rdT TField (fieldsOf (turnL T a b) (tI a b x)) i).2.2 = tI a b (rdT TField (fieldsOf T x) i).2.2
      rw [rd i hi]; rfl
end

def turnP (a b : Int) (p : TParam.D) : TParam.D := (p.1, (p.2.1, tI a b p.2.2))
def turnO (a b : Int) (o : TObject.D) : TObject.D := (o.1, (o.2.1, (o.2.2.1, (tI a b o.2.2.2.1, (o.2.2.2.2.1, o.2.2.2.2.2.map (turnP a b))))))
def turnS (s : TScope.D) (a b : Int) : TScope.D := (s.1, (s.2.1, (turnL s.2.2.1 a b, (s.2.2.2.1.map (turnO a b), s.2.2.2.2))))

theorem turn_params {N : Nat} {a b : Int} (h : Sw N a b) {ps : List TParam.D} (k : ParamsOk N ps) : ParamsOk N (ps.map (turnP a b)) := by
  have rd : ∀ j, j < ps.length → rdT TParam (ps.map (turnP a b)) j = turnP a b (rdT TParam ps j) := fun j hj => by
    simp [rdT, List.getD, hj]
  refine ⟨fun i hi => ?_, by rw [List.length_map]; exact k.2⟩
  have hi' : i < ps.length := by simpa using hi
  obtain ⟨p1, p2, p3⟩ := k.1 i hi'
  unfold ParamOk
  rw [rd i hi']
  refine ⟨p1, h.inr p2, fun j hj => ?_⟩
  rw [rd j (by omega)]
  exact p3 j hj

theorem turn_obj {N : Nat} {a b : Int} (h : Sw N a b) {o : TObject.D} (k : ObjOk N o) : ObjOk N (turnO a b o) := by
  obtain ⟨h1, h2, h3, h4, h5⟩ := k
  refine ⟨h1, h2, h3, fun e => by show (o.2.2.2.2.2.map (turnP a b)).length = 0; rw [List.length_map]; exact h4 e, ?_⟩
  show SwitchOk N (o.1, (o.2.1, (o.2.2.1, (tI a b o.2.2.2.1, (o.2.2.2.2.1, o.2.2.2.2.2.map (turnP a b))))))
  unfold SwitchOk at h5 ⊢
  simp only
  split at h5
  · rename_i k
    rw [if_pos k]
    exact ⟨by rw [h5.1]; exact h.low (by decide), h5.2⟩
  · rename_i k
    rw [if_neg k]
    split at h5
    · rename_i k2
      rw [if_pos k2]
      exact h.inr h5
    · rename_i k2
      rw [if_neg k2]
      split at h5
      · rename_i k3
        rw [if_pos k3]
        exact h.inr h5
      · rename_i k3
        rw [if_neg k3]
        refine ⟨h5.1, h5.2.1.imp (fun e => ?_) (fun e => h.inr e), turn_params h h5.2.2⟩
        rw [e]; exact h.low (by decide)

theorem turnO_rd {a b : Int} {os : List TObject.D} {i : Nat} (h : i < os.length) : rdT TObject (os.map (turnO a b)) i = turnO a b (rdT TObject os i) := by
  simp [rdT, List.getD, h]

theorem turn_scope {s : TScope.D} {a b : Int} (h : Sw s.2.2.1.length a b) (g : GoodS s) : GoodS (turnS s a b) := by
  refine ⟨g.imps, g.head, turn_good h g.types, by show (s.2.2.2.1.map (turnO a b)).length ≤ 16; rw [List.length_map]; exact g.objs, g.uses, fun i hi => ?_, g.use, ?_⟩
  · have hi' : i < s.2.2.2.1.length := by simpa [turnS] using hi
    show ObjOk (turnL s.2.2.1 a b).length (rdT TObject (s.2.2.2.1.map (turnO a b)) i)
    rw [turnL_len, turnO_rd hi']
    exact turn_obj h (g.obj i hi')
  · have e : onames (s.2.2.2.1.map (turnO a b)) = onames s.2.2.2.1 := by
      unfold onames
      rw [List.map_map]; rfl
    show Unlike (s.2.1 ++ onames (s.2.2.2.1.map (turnO a b)))
    rw [e]; exact g.names

theorem turn_fit {s : TScope.D} (a b : Int) (hs : Fit TScope s) : Fit TScope (turnS s a b) := by
  refine ⟨hs.1, hs.2.1, ⟨by show (turnL s.2.2.1 a b).length ≤ _; rw [turnL_len]; exact hs.2.2.1.1, fun x hx => ?_⟩, ⟨by show (s.2.2.2.1.map (turnO a b)).length ≤ _; rw [List.length_map]; exact hs.2.2.2.1.1, fun x hx => ?_⟩, hs.2.2.2.2⟩
  · obtain ⟨k, _, rfl⟩ := List.mem_map.1 hx
    have hf : Fit TType (rdT TType s.2.2.1 (tI a b (k : Int)).toNat) := by
      rcases Nat.lt_or_ge (tI a b (k : Int)).toNat s.2.2.1.length with h | h
      · exact hs.2.2.1.2 _ (rdT_mem h)
      · have e : rdT TType s.2.2.1 (tI a b (k : Int)).toNat = TType.zero := by simp [rdT, List.getD, h]
        rw [e]
        exact ⟨trivial, trivial, trivial, ⟨Nat.zero_le _, fun f hf => by cases hf⟩, Nat.zero_le _, Nat.zero_le _⟩
    refine ⟨trivial, trivial, trivial, ⟨by show ((rdT TType s.2.2.1 (tI a b (k : Int)).toNat).2.2.2.1.map (turnF a b)).length ≤ _; rw [List.length_map]; exact hf.2.2.2.1.1, fun f hm => ?_⟩, hf.2.2.2.2⟩
    obtain ⟨g, hg, rfl⟩ := List.mem_map.1 hm
    exact ⟨(hf.2.2.2.1.2 g hg).1, trivial, trivial⟩
  · obtain ⟨o, ho, rfl⟩ := List.mem_map.1 hx
    have hf := hs.2.2.2.1.2 o ho
    refine ⟨hf.1, trivial, trivial, trivial, trivial, ⟨by show (o.2.2.2.2.2.map (turnP a b)).length ≤ _; rw [List.length_map]; exact hf.2.2.2.2.2.1, fun p hp => ?_⟩⟩
    obtain ⟨q, hq, rfl⟩ := List.mem_map.1 hp
    exact ⟨(hf.2.2.2.2.2.2 q hq).1, trivial, trivial⟩

theorem turn_alike {s : TScope.D} {a b : Int} (h : Sw s.2.2.1.length a b) (g : GoodS s) : SAlike s (turnS s a b) := by
  have hat : ∀ x : Int, TyN s.2.2.1 x → AT s.2.2.1 x (turnL s.2.2.1 a b) (tI a b x) := by
    intro x hx
    rcases hx with rfl | hx
    · exact .inl ⟨by decide, by rw [h.low (by decide)]; decide⟩
    · exact .inr ⟨hx.1, (h.inr hx).1, turn_bisim h g.types hx⟩
  refine ⟨rfl, rfl, by show _ = (s.2.2.2.1.map (turnO a b)).length; rw [List.length_map], fun i hi => ?_⟩
  have ho := obj_in g.types (g.obj i hi)
  show OAlike s.2.2.1 (turnL s.2.2.1 a b) (rdT TObject s.2.2.2.1 i) (rdT TObject (s.2.2.2.1.map (turnO a b)) i)
  rw [turnO_rd hi]
  refine ⟨rfl, rfl, rfl, rfl, by show _ = ((rdT TObject s.2.2.2.1 i).2.2.2.2.2.map (turnP a b)).length; rw [List.length_map], hat _ ho.ty, fun j hj => ?_⟩
  have e : rdT TParam ((rdT TObject s.2.2.2.1 i).2.2.2.2.2.map (turnP a b)) j = turnP a b (rdT TParam (rdT TObject s.2.2.2.1 i).2.2.2.2.2 j) := rdT_mapI (t := TParam) (u := TParam) (turnP a b) _ hj
  show PAlike _ _ _ (rdT TParam ((rdT TObject s.2.2.2.1 i).2.2.2.2.2.map (turnP a b)) j)
  rw [e]
  exact ⟨rfl, rfl, hat _ (ho.par j hj)⟩

theorem flatMap_sameT {t : Ty} {β : Type} {f g : List t.D} {F G : t.D → List β} (hl : f.length = g.length) (h : ∀ i, i < f.length → F (rdT t f i) = G (rdT t g i)) : f.flatMap F = g.flatMap G := by
  induction f generalizing g with
  | nil =>
    cases g with
    | nil => rfl
    | cons y s => simp at hl
  | cons x r ih =>
    cases g with
    | nil => simp at hl
    | cons y s =>
      simp only [List.flatMap_cons]
      have h0 := h 0 (by simp)
      have e : ∀ (a : t.D) (l : List t.D) (i : Nat), rdT t (a :: l) (i + 1) = rdT t l i := fun a l i => rfl
      have e0 : ∀ (a : t.D) (l : List t.D), rdT t (a :: l) 0 = a := fun a l => rfl
      rw [e0, e0] at h0
      rw [h0, ih (by simpa using hl) fun i hi => by
        have := h (i + 1) (by simp; omega)
        rw [e, e] at this
        exact this]

theorem fins_alike {s t : TScope.D} (gs : GoodS s) (gt : GoodS t) (h : SAlike s t) : fingersL s = fingersL t := by
  obtain ⟨h1, _, h3, h4⟩ := h
  have e : finsM (roundsM s.2.2.1 25) s.2.2.2.1 = finsM (roundsM t.2.2.1 25) t.2.2.2.1 := by
    unfold finsM
    refine flatMap_sameT (t := TObject) h3 fun i hi => ?_
    have ha := h4 i hi
    have hit : i < t.2.2.2.1.length := by rw [← h3]; exact hi
    have ho := obj_alike gs.types gt.types (obj_in gs.types (gs.obj i hi)) (obj_in gt.types (gt.obj i hit)) ((gs.obj i hi).sound gs.types.1.1) ha 25
    rw [show ((rdT TObject s.2.2.2.1 i).2.2.1 : Int) = _ from ha.mark, ha.name, ho]
  unfold fingersL
  rw [e]

/-! ### The law -/

theorem drawAt_ev (code : List Int) (hb : Bytes code) : EvP (fun k => spec_DrawObjectAt.f k (code, ())) (fun y => Fit TScope y.1) := by
  simp only [spec_DrawObjectAt.f]
  refine EvP.bind (anyScope_ev (code, (0, (0, ()))) 0 (by omega) ⟨hb, by show (0 : Int) ≤ 0; decide, by show (0 : Int) ≤ _; omega⟩) ?_
  rintro ⟨c, s, _⟩ ⟨h1, hs⟩
  simp only at hs
  refine EvP.bind (of_ev c _ (by omega) h1 _ (by simp)) ?_
  rintro ⟨c2, o, _⟩ ⟨_, ho⟩
  exact EvP.ret hs

theorem drawObj_ev (code : List Int) (hb : Bytes code) : EvP (fun k => spec_DrawObjectFinger.f k (code, ())) (fun y => Fit TScope y.1) := by
  simp only [spec_DrawObjectFinger.f]
  refine EvP.bind (anyScope_ev (code, (0, (0, ()))) 0 (by omega) ⟨hb, by show (0 : Int) ≤ 0; decide, by show (0 : Int) ≤ _; omega⟩) ?_
  rintro ⟨c, s, _⟩ ⟨h1, hs⟩
  simp only at hs
  refine EvP.bind (pick_ev c _ (by omega) h1 _) ?_
  rintro ⟨c2, x, _⟩ ⟨h2, _⟩
  refine EvP.bind (pick_ev c2 _ (by omega) h2 20) ?_
  rintro ⟨c3, y, _⟩ _
  exact EvP.ret hs

theorem last_ev (code : List Int) (hb : Bytes code) : EvP (fun k => (spec_DrawObjectFinger.f k (code, ())).bind fun y8 => ((impl_ObjectFinger.f k (y8.1, y8.2.1, ())).bind fun y9 => ((spec_ObjectFinger.f k (y8.1, y8.2.1, ())).bind fun y10 => ((spec_DrawFingerAt.f k (code, ())).bind fun y11 => ((impl_FingerAt.f k (y11.1, y11.2.1, ())).bind fun y12 => ((spec_FingerAt.f k (y11.1, y11.2.1, ())).bind fun y13 => (if (y9.2.1 == y10.2.1) = true then (if (y9.1 == y10.1) = true then (if (y12.2.1 == y13.2.1) = true then (some ((y12.1 == y13.1), ())) else (some (false, ()))) else (some (false, ()))) else (some (false, ()))))))))) (· = (true, ())) := by
  refine EvP.bind (drawObj_ev code hb) ?_
  rintro ⟨s, n, _⟩ hs
  simp only at hs
  refine EvP.bind (impl_ansF s n hs) ?_
  rintro _ rfl
  refine EvP.bind (spec_ansF s n hs) ?_
  rintro _ rfl
  refine EvP.bind (R := fun y => Fit TScope y.1) ?_ ?_
  · simp only [spec_DrawFingerAt.f]
    refine EvP.bind (drawAt_ev code hb) ?_
    rintro ⟨t, x, _⟩ ht
    exact EvP.ret ht
  rintro ⟨t, x, _⟩ ht
  simp only at ht
  refine EvP.bind (implFingerAt_ev t x ht) ?_
  rintro _ rfl
  refine EvP.bind (specFingerAt_ev t x ht) ?_
  rintro _ rfl
  exact EvP.pos (by simp) (EvP.pos (by simp) (EvP.pos (by simp) (EvP.ret (by simp))))

theorem same3 (f : TField.D) : (!((f.1.toList == f.1.toList) && ((f.2.1 == f.2.1) && (f.2.2 == f.2.2)))) = false := by simp

theorem cmp_ev (code : List Int) (hb : Bytes code) (F : List TField.D) (hl : F.length ≤ 16) : EvP (fun k => laws_FnFingers.l29 k (code, F, F, (F.length : Int), 0, ())) (· = (true, ())) := by
  refine EvP.scan (L := fun k i => laws_FnFingers.l29 k (code, F, F, (F.length : Int), i, ())) F.length (fun _ => True) (fun _ => ?_) (fun i hi _ hgo => ?_)
  · simp only [laws_FnFingers.l29, decide_eq_true_eq]
    exact EvP.neg (by omega) (last_ev code hb)
  · simp only [laws_FnFingers.l29, decide_eq_true_eq, Int.toNat_natCast, next64 (show i ≤ 1099511627776 by omega), same3]
    exact EvP.pos (by omega) (EvP.pos (by omega) (EvP.pos (by omega) (EvP.pos (by omega) (EvP.pos (by omega) (EvP.neg (by simp) (hgo trivial))))))

/-! the scope with two types exchanged is made -/

theorem turned_ev (n a b : Int) : EvP (fun k => laws_turned.f k (n, a, b, ())) (· = (tI a b n, ())) := by
  simp only [laws_turned.f, beq_iff_eq]
  unfold tI
  refine EvP.ite (fun h => EvP.ret (by rw [if_pos h])) (fun h => EvP.ite (fun h2 => EvP.ret (by rw [if_neg h, if_pos h2])) (fun h2 => EvP.ret (by rw [if_neg h, if_neg h2])))

abbrev SB0' := ByteArray × (List ByteArray) × (List TType.D) × (List TObject.D) × (List TUse.D) × Unit

theorem mk_fields (x1 : List Int) (B : SB0') (F : List TField.D) (a b : Int) (nm : ByteArray) (im : List ByteArray) (tt : List TType.D) (oo : List TObject.D) (us : List TUse.D) (p q r : Int) (z1 z2 : ByteArray) (N i : Nat) (hi : i ≤ 1048576) (fs : List TField.D) (hl : fs.length ≤ 1048576) (Q : Bool × Unit → Prop)
    (hgo : EvP (fun k => if tt.length + 1 ≤ big then laws_FnFingers.l12 k (x1, B, F, a, b, (nm, (im, ((tt ++ [(p, (q, (r, (fs.map (turnF a b), (z1, z2)))))]), (oo, (us, ()))))), (N : Int), ((i + 1 : Nat) : Int), ()) else none) Q) :
    ∀ (j m : Nat), m + j = fs.length → EvP (fun k => laws_FnFingers.l16 k (x1, B, F, a, b, (nm, (im, (tt, (oo, (us, ()))))), (p, (q, (r, ((fs.take m).map (turnF a b), (z1, (z2, ())))))), (N : Int), (i : Int), fs, (fs.length : Int), (m : Int), ())) Q := by
  have hbig := big_eq
  intro j
  induction j with
  | zero =>
    intro m hm
    have hm' : m = fs.length := by omega
    subst hm'
    refine EvP.succ ?_
    simp only [laws_FnFingers.l16, decide_eq_true_eq, next64 (show i ≤ 1099511627776 by omega)]
    refine EvP.neg (by omega) ?_
    rw [List.take_of_length_le (Nat.le_refl _)]
    exact hgo
  | succ j ih =>
    intro m hm
    have hml : m < fs.length := by omega
    have key := ih (m + 1) (by omega)
    rw [List.take_add_one, rdT_some hml, List.map_append] at key
    refine EvP.succ ?_
    simp only [laws_FnFingers.l16, decide_eq_true_eq, Int.toNat_natCast, next64 (show m ≤ 1099511627776 by omega)]
    refine EvP.pos (by omega) (EvP.pos (by omega) (EvP.pos (by omega) (EvP.bind (turned_ev _ a b) ?_)))
    rintro _ rfl
    refine EvP.pos (by rw [List.length_map, List.length_take]; omega) ?_
    exact key

theorem mk_params (x1 : List Int) (B : SB0') (F : List TField.D) (a b : Int) (nm : ByteArray) (im : List ByteArray) (tt : List TType.D) (oo : List TObject.D) (us : List TUse.D) (z1 : ByteArray) (p q r v : Int) (os : List TObject.D) (i : Nat) (hi : i ≤ 1048576) (ps : List TParam.D) (hl : ps.length ≤ 1048576) (Q : Bool × Unit → Prop)
    (hgo : EvP (fun k => if oo.length + 1 ≤ big then laws_FnFingers.l20 k (x1, B, F, a, b, (nm, (im, (tt, ((oo ++ [(z1, (p, (q, (r, (v, ps.map (turnP a b))))))]), (us, ()))))), os, (os.length : Int), ((i + 1 : Nat) : Int), ()) else none) Q) :
    ∀ (j m : Nat), m + j = ps.length → EvP (fun k => laws_FnFingers.l24 k (x1, B, F, a, b, (nm, (im, (tt, (oo, (us, ()))))), (z1, (p, (q, (r, (v, ((ps.take m).map (turnP a b), ())))))), os, (os.length : Int), (i : Int), ps, (ps.length : Int), (m : Int), ())) Q := by
  have hbig := big_eq
  intro j
  induction j with
  | zero =>
    intro m hm
    have hm' : m = ps.length := by omega
    subst hm'
    refine EvP.succ ?_
    simp only [laws_FnFingers.l24, decide_eq_true_eq, next64 (show i ≤ 1099511627776 by omega)]
    refine EvP.neg (by omega) ?_
    rw [List.take_of_length_le (Nat.le_refl _)]
    exact hgo
  | succ j ih =>
    intro m hm
    have hml : m < ps.length := by omega
    have key := ih (m + 1) (by omega)
    rw [List.take_add_one, rdT_some hml, List.map_append] at key
    refine EvP.succ ?_
    simp only [laws_FnFingers.l24, decide_eq_true_eq, Int.toNat_natCast, next64 (show m ≤ 1099511627776 by omega)]
    refine EvP.pos (by omega) (EvP.pos (by omega) (EvP.pos (by omega) (EvP.bind (turned_ev _ a b) ?_)))
    rintro _ rfl
    refine EvP.pos (by rw [List.length_map, List.length_take]; omega) ?_
    exact key

theorem mk_objs (code : List Int) (s : TScope.D) (hs : Fit TScope s) (F : List TField.D) (a b : Int) (Q : Bool × Unit → Prop)
    (hgo : EvP (fun k => (impl_FingersOf.f k (turnS s a b, ())).bind fun y24 => ((impl_AlikeScopes.f k (s, turnS s a b, ())).bind fun y25 => (if (!y24.2.1) = true then (some (false, ())) else (if ((y24.1.length : Int) != (F.length : Int)) = true then (some (false, ())) else (if (!y25.2.1) = true then (some (false, ())) else (if (!y25.1) = true then (some (false, ())) else (laws_FnFingers.l29 k (code, F, y24.1, (F.length : Int), 0, ())))))))) Q) :
    ∀ (j i : Nat), i + j = s.2.2.2.1.length → EvP (fun k => laws_FnFingers.l20 k (code, (s.1, (s.2.1, (s.2.2.1, (s.2.2.2.1, (s.2.2.2.2, ()))))), F, a, b, (s.1, (s.2.1, (turnL s.2.2.1 a b, ((s.2.2.2.1.take i).map (turnO a b), (s.2.2.2.2, ()))))), s.2.2.2.1, (s.2.2.2.1.length : Int), (i : Int), ())) Q := by
  have hbig := big_eq
  have hol : s.2.2.2.1.length ≤ 1048576 := hs.2.2.2.1.1
  intro j
  induction j with
  | zero =>
    intro i hij
    have hi : i = s.2.2.2.1.length := by omega
    subst hi
    refine EvP.succ ?_
    simp only [laws_FnFingers.l20, decide_eq_true_eq]
    refine EvP.neg (by omega) ?_
    rw [List.take_of_length_le (Nat.le_refl _)]
    exact hgo
  | succ j ih =>
    intro i hij
    have hi : i < s.2.2.2.1.length := by omega
    have hpl : (rdT TObject s.2.2.2.1 i).2.2.2.2.2.length ≤ 1048576 := (hs.2.2.2.1.2 _ (rdT_mem hi)).2.2.2.2.2.1
    have key := ih (i + 1) (by omega)
    rw [List.take_add_one, rdT_some hi, List.map_append] at key
    refine EvP.succ ?_
    simp only [laws_FnFingers.l20, decide_eq_true_eq, Int.toNat_natCast]
    refine EvP.pos (by omega) (EvP.pos (by omega) (EvP.pos (by omega) (EvP.bind (turned_ev _ a b) ?_)))
    rintro _ rfl
    have := mk_params code (s.1, (s.2.1, (s.2.2.1, (s.2.2.2.1, (s.2.2.2.2, ()))))) F a b s.1 s.2.1 (turnL s.2.2.1 a b) ((s.2.2.2.1.take i).map (turnO a b)) s.2.2.2.2 (rdT TObject s.2.2.2.1 i).1 (rdT TObject s.2.2.2.1 i).2.1 (rdT TObject s.2.2.2.1 i).2.2.1 (tI a b (rdT TObject s.2.2.2.1 i).2.2.2.1) (rdT TObject s.2.2.2.1 i).2.2.2.2.1 s.2.2.2.1 i (by omega) (rdT TObject s.2.2.2.1 i).2.2.2.2.2 hpl Q (EvP.pos (by rw [List.length_map, List.length_take]; omega) key) (rdT TObject s.2.2.2.1 i).2.2.2.2.2.length 0 (Nat.zero_add _)
    exact this

theorem mk_types (code : List Int) (s : TScope.D) (hs : Fit TScope s) (F : List TField.D) (a b : Int) (hw : Sw s.2.2.1.length a b) (Q : Bool × Unit → Prop)
    (hgo : EvP (fun k => laws_FnFingers.l20 k (code, (s.1, (s.2.1, (s.2.2.1, (s.2.2.2.1, (s.2.2.2.2, ()))))), F, a, b, (s.1, (s.2.1, (turnL s.2.2.1 a b, ([], (s.2.2.2.2, ()))))), s.2.2.2.1, (s.2.2.2.1.length : Int), 0, ())) Q) :
    ∀ (j i : Nat), i + j = s.2.2.1.length → EvP (fun k => laws_FnFingers.l12 k (code, (s.1, (s.2.1, (s.2.2.1, (s.2.2.2.1, (s.2.2.2.2, ()))))), F, a, b, (s.1, (s.2.1, ((turnL s.2.2.1 a b).take i, ([], (s.2.2.2.2, ()))))), (s.2.2.1.length : Int), (i : Int), ())) Q := by
  have hbig := big_eq
  have htl : s.2.2.1.length ≤ 1048576 := hs.2.2.1.1
  intro j
  induction j with
  | zero =>
    intro i hij
    have hi : i = s.2.2.1.length := by omega
    subst hi
    refine EvP.succ ?_
    simp only [laws_FnFingers.l12, decide_eq_true_eq]
    refine EvP.neg (by omega) ?_
    rw [List.take_of_length_le (Nat.le_of_eq (turnL_len _ _ _))]
    exact hgo
  | succ j ih =>
    intro i hij
    have hi : i < s.2.2.1.length := by omega
    have ri := hw.inr (n := (i : Int)) ⟨by omega, by omega⟩
    have hfl : (rdT TType s.2.2.1 (tI a b (i : Int)).toNat).2.2.2.1.length ≤ 1048576 := (hs.2.2.1.2 _ (rdT_mem ri.nat.1)).2.2.2.1.1
    have key := ih (i + 1) (by omega)
    have hit : i < (turnL s.2.2.1 a b).length := by rw [turnL_len]; exact hi
    rw [List.take_add_one, rdT_some (t := TType) hit, turnL_rd _ _ _ hi] at key
    refine EvP.succ ?_
    simp only [laws_FnFingers.l12, decide_eq_true_eq]
    refine EvP.pos (by omega) (EvP.bind (turned_ev _ a b) ?_)
    rintro _ rfl
    refine EvP.pos ri.1 (EvP.pos ri.2 (EvP.bind (turned_ev _ a b) ?_))
    rintro _ rfl
    have := mk_fields code (s.1, (s.2.1, (s.2.2.1, (s.2.2.2.1, (s.2.2.2.2, ()))))) F a b s.1 s.2.1 ((turnL s.2.2.1 a b).take i) [] s.2.2.2.2 (rdT TType s.2.2.1 (tI a b (i : Int)).toNat).1 (rdT TType s.2.2.1 (tI a b (i : Int)).toNat).2.1 (tI a b (rdT TType s.2.2.1 (tI a b (i : Int)).toNat).2.2.1) (rdT TType s.2.2.1 (tI a b (i : Int)).toNat).2.2.2.2.1 (rdT TType s.2.2.1 (tI a b (i : Int)).toNat).2.2.2.2.2 s.2.2.1.length i (by omega) (rdT TType s.2.2.1 (tI a b (i : Int)).toNat).2.2.2.1 hfl Q (EvP.pos (by rw [List.length_take]; omega) key) (rdT TType s.2.2.1 (tI a b (i : Int)).toNat).2.2.2.1.length 0 (Nat.zero_add _)
    exact this

theorem implFingersOf_ev (s : TScope.D) (hs : Fit TScope s) (g : GoodS s) : EvP (fun k => impl_FingersOf.f k (s, ())) (· = (fingersL s, true, ())) := by
  simp only [impl_FingersOf.f, Bool.not_eq_true']
  refine EvP.bind (isScope_ev s hs) ?_
  rintro ⟨u, _⟩ hu
  simp only at hu
  refine EvP.neg (by rw [hu.2 g]; simp) ?_
  refine EvP.bind (fingers_ev s hs g) ?_
  rintro _ rfl
  exact EvP.ret rfl

noncomputable def ofAns (s : TScope.D) : List TField.D × Bool × Unit := pickP (GoodS s) (fingersL s, true, ()) ([], false, ())

theorem implOf_ev (s : TScope.D) (hs : Fit TScope s) : EvP (fun k => impl_FingersOf.f k (s, ())) (· = ofAns s) := by
  unfold ofAns
  rcases Classical.em (GoodS s) with g | g
  · rw [pickP_pos g]; exact implFingersOf_ev s hs g
  · rw [pickP_neg g]
    simp only [impl_FingersOf.f, Bool.not_eq_true']
    refine EvP.bind (isScope_ev s hs) ?_
    rintro ⟨u, _⟩ hu
    simp only at hu
    refine EvP.pos ?_ (EvP.ret rfl)
    cases u with
    | false => rfl
    | true => exact absurd (hu.1 rfl) g

theorem specOf_ev (s : TScope.D) (hs : Fit TScope s) : EvP (fun k => spec_FingersOf.f k (s, ())) (· = ofAns s) := by
  simp only [spec_FingersOf.f, Bool.not_eq_true']
  unfold ofAns
  refine EvP.bind (l4Good_ev s hs) ?_
  rintro ⟨u, _⟩ hu
  simp only at hu
  refine EvP.ite (fun h => EvP.ret ?_) (fun h => ?_)
  · rw [pickP_neg fun e => by rw [hu.2 e] at h; cases h]
  have g := hu.1 (by simpa using h)
  rw [pickP_pos g]
  refine EvP.bind (specFingers_ev s hs g) ?_
  rintro _ rfl
  exact EvP.ret rfl

theorem numberOf_ev (code : List Int) (hb : Bytes code) (hl : code.length ≤ 1048576) : EvP (fun k => laws_numberOf.f k (code, ())) (fun y => 0 ≤ y.1 ∧ y.1 < 1000003) := by
  simp only [laws_numberOf.f]
  have loop : ∀ (j i : Nat) (n : Int), i + j = code.length → 0 ≤ n → n < 1000003 → EvP (fun k => laws_numberOf.l1 k (n, code, (code.length : Int), (i : Int), ())) (fun y => 0 ≤ y.1 ∧ y.1 < 1000003) := by
    intro j
    induction j with
    | zero =>
      intro i n hij h0 h1
      refine EvP.succ ?_
      simp only [laws_numberOf.l1, decide_eq_true_eq]
      exact EvP.neg (by omega) (EvP.ret ⟨h0, h1⟩)
    | succ j ih =>
      intro i n hij h0 h1
      have hi : i < code.length := by omega
      have hc := hb _ (rdT_mem (t := .int .u8) hi)
      obtain ⟨c0, c1⟩ := hc
      refine EvP.succ ?_
      simp only [laws_numberOf.l1, decide_eq_true_eq, Int.toNat_natCast, next64 (show i ≤ 1099511627776 by omega)]
      refine EvP.pos (by omega) (EvP.pos (by omega) (EvP.pos (by omega) ?_))
      have e : w64 (w64 ((31 : Int) * n) + w64 (rdT (.int .u8) code i)) = 31 * n + rdT (.int .u8) code i := by
        rw [w64_id (x := 31 * n) (by omega) (by omega), w64_id (x := rdT (.int .u8) code i) (by omega) (by omega), w64_id (by omega) (by omega)]
      rw [e]
      exact ih (i + 1) _ (by omega) (Int.tmod_nonneg _ (by omega)) (Int.tmod_lt_of_pos _ (by decide))
  exact loop code.length 0 0 (by omega) (by decide) (by decide)

/-- With two types exchanged the fingers are the same. -/
theorem exchanged_ev (code : List Int) (hb : Bytes code) (s : TScope.D) (hs : Fit TScope s) (g : GoodS s) (a b : Int) (hw : Sw s.2.2.1.length a b) : EvP (fun k => laws_FnFingers.l12 k (code, (s.1, (s.2.1, (s.2.2.1, (s.2.2.2.1, (s.2.2.2.2, ()))))), fingersL s, a, b, (s.1, (s.2.1, ([], ([], (s.2.2.2.2, ()))))), (s.2.2.1.length : Int), 0, ())) (· = (true, ())) := by
  have gt := turn_scope hw g
  have ht := turn_fit a b hs
  have hal := turn_alike hw g
  have hlen := fingersL_len g
  have heq := fins_alike g gt hal
  refine mk_types code s hs (fingersL s) a b hw _ ?_ s.2.2.1.length 0 (Nat.zero_add _)
  refine mk_objs code s hs (fingersL s) a b _ ?_ s.2.2.2.1.length 0 (Nat.zero_add _)
  refine EvP.bind (implFingersOf_ev _ ht gt) ?_
  rintro _ rfl
  refine EvP.bind (impl_ansS s (turnS s a b) hs ht) ?_
  rintro _ rfl
  have e : ansS s (turnS s a b) = (true, true, ()) := by unfold ansS; rw [pickP_pos ⟨g, gt⟩, pickP_pos hal]
  rw [e, ← heq]
  exact EvP.neg (by simp) (EvP.neg (by simp) (EvP.neg (by simp) (EvP.neg (by simp) (cmp_ev code hb (fingersL s) hlen))))

theorem each_ev (a0 a1 : List Int) (b0 : Bytes a0) (b1 : Bytes a1) (l0 : a0.length ≤ 1048576) (l1 : a1.length ≤ 1048576) (s : TScope.D) (hs : Fit TScope s) (g : GoodS s) : EvP (fun k => laws_FnFingers.l4 k (a0, a1, (s.1, (s.2.1, (s.2.2.1, (s.2.2.2.1, (s.2.2.2.2, ()))))), fingersL s, true, fingersL s, ((fingersL s).length : Int), 0, ())) (· = (true, ())) := by
  have h16 := fingersL_len g
  have hasc := fingersL_asc g
  have h24 := g.types.1.2.1
  have loop : ∀ (j i : Nat), i + j = (fingersL s).length → EvP (fun k => laws_FnFingers.l4 k (a0, a1, (s.1, (s.2.1, (s.2.2.1, (s.2.2.2.1, (s.2.2.2.2, ()))))), fingersL s, true, fingersL s, ((fingersL s).length : Int), (i : Int), ())) (· = (true, ())) := by
    intro j
    induction j with
    | zero =>
      intro i hij
      have e3 : w64 ((s.2.2.1.length : Int) - 3) = (s.2.2.1.length : Int) - 3 := w64_id (by omega) (by omega)
      refine EvP.succ ?_
      simp only [laws_FnFingers.l4, decide_eq_true_eq, e3]
      refine EvP.neg (by omega) (EvP.pos trivial (EvP.ite (fun h4 => ?_) (fun _ => last_ev a1 b1)))
      refine EvP.bind (numberOf_ev a1 b1 l1) ?_
      rintro ⟨x, _⟩ ⟨x0, x1⟩
      simp only at x0 x1
      refine EvP.pos (by omega) (EvP.bind (numberOf_ev a0 b0 l0) ?_)
      rintro ⟨y, _⟩ ⟨y0, y1⟩
      simp only at y0 y1
      refine EvP.pos (by omega) ?_
      have mx : ∀ z : Int, 0 ≤ z → 3 ≤ w64 ((3 : Int) + Int.tmod z ((s.2.2.1.length : Int) - 3)) ∧ w64 ((3 : Int) + Int.tmod z ((s.2.2.1.length : Int) - 3)) < (s.2.2.1.length : Int) := by
        intro z hz
        have m0 := Int.tmod_nonneg ((s.2.2.1.length : Int) - 3) hz
        have m1 := Int.tmod_lt_of_pos z (show (0 : Int) < (s.2.2.1.length : Int) - 3 by omega)
        rw [w64_id (by omega) (by omega)]
        omega
      exact exchanged_ev a1 b1 s hs g _ _ ⟨(mx x x0).1, (mx x x0).2, (mx y y0).1, (mx y y0).2⟩
    | succ j ih =>
      intro i hij
      have hi : i < (fingersL s).length := by omega
      have hm := rdT_mem (t := TField) hi
      have hnext := ih (i + 1) (by omega)
      refine EvP.succ ?_
      simp only [laws_FnFingers.l4, decide_eq_true_eq, Int.toNat_natCast, next64 (show i ≤ 1099511627776 by omega), same3]
      refine EvP.pos (by omega) (EvP.pos (by omega) (EvP.pos (by omega) (EvP.pos (by omega) (EvP.pos (by omega) (EvP.neg (by simp) (EvP.pos (by omega) (EvP.pos (by omega) (EvP.bind (implFingerAt_ev s _ hs) ?_))))))))
      rintro _ rfl
      have e : atAns s (rdT TField (fingersL s) i).1 = ((rdT TField (fingersL s) i).2.2, true, ()) := by
        unfold atAns
        rw [pickP_pos g, fAt_own hasc hm]
      rw [e]
      refine EvP.neg (by simp) (EvP.pos (by omega) (EvP.pos (by omega) (EvP.neg (by simp) (EvP.ite (fun hpos => ?_) (fun _ => hnext)))))
      have e1 : w64 ((i : Int) - 1) = ((i - 1 : Nat) : Int) := by rw [w64_id (by omega) (by omega)]; omega
      simp only [e1, Int.toNat_natCast]
      refine EvP.pos (by omega) (EvP.pos (by omega) (EvP.pos (by omega) (EvP.pos (by omega) (EvP.neg ?_ hnext))))
      have hp := List.pairwise_iff_getElem.1 hasc (i - 1) i (by omega) hi (by omega)
      have r1 : rdT TField (fingersL s) (i - 1) = (fingersL s)[i - 1] := by simp [rdT, List.getD, show i - 1 < (fingersL s).length by omega]
      have r2 : rdT TField (fingersL s) i = (fingersL s)[i] := by simp [rdT, List.getD, hi]
      rw [r1, r2, (less_iff _ _).2 hp]
      simp
  exact loop (fingersL s).length 0 (Nat.zero_add _)

theorem law (a0 a1 : (Ty.slice (.int .u8)).D) (o0 : okD (.slice (.int .u8)) a0) (o1 : okD (.slice (.int .u8)) a1) : EvP (fun k => laws_FnFingers.f k (a0, a1, ())) (· = (true, ())) := by
  have b0 := bytes_of o0
  have b1 := bytes_of o1
  simp only [laws_FnFingers.f]
  refine EvP.bind (R := fun y => y.1 = false → a0.length ≤ 1048576 ∧ a1.length ≤ 1048576) ?_ ?_
  · simp only [laws_big.f, decide_eq_true_eq]
    refine EvP.ite (fun _ => EvP.ret fun h => by cases h) (fun h => EvP.ret fun h2 => ?_)
    have e : w64 ((1048576 : Int) - (a0.length : Int)) = 1048576 - (a0.length : Int) := w64_id (by omega) (by omega)
    simp only [e, decide_eq_false_iff_not] at h2
    omega
  rintro ⟨y, _⟩ hy
  simp only at hy
  refine EvP.ite (fun _ => EvP.ret rfl) (fun hbig => ?_)
  obtain ⟨l0, l1⟩ := hy (by simpa using hbig)
  refine EvP.bind (R := fun y => Fit TScope y.1) ?_ ?_
  · simp only [spec_DrawFingersOf.f, spec_DrawGoodScope.f]
    refine EvP.bind (R := fun y => Fit TScope y.1) ?_ ?_
    · refine EvP.bind (anyScope_ev (a0, (0, (0, ()))) 0 (by omega) ⟨b0, by show (0 : Int) ≤ 0; decide, by show (0 : Int) ≤ _; omega⟩) ?_
      rintro ⟨c, s, _⟩ ⟨_, h⟩
      exact EvP.ret h
    · rintro ⟨s, _⟩ h
      exact EvP.ret h
  rintro ⟨s, _⟩ hs
  simp only at hs
  refine EvP.bind (implOf_ev s hs) ?_
  rintro _ rfl
  refine EvP.bind (specOf_ev s hs) ?_
  rintro _ rfl
  refine EvP.neg (by simp) (EvP.neg (by simp) ?_)
  rcases Classical.em (GoodS s) with g | g
  · have e : ofAns s = (fingersL s, true, ()) := by unfold ofAns; rw [pickP_pos g]
    rw [e]
    exact each_ev a0 a1 b0 b1 l0 l1 s hs g
  · have e : ofAns s = ([], false, ()) := by unfold ofAns; rw [pickP_neg g]
    rw [e]
    refine EvP.succ ?_
    simp only [laws_FnFingers.l4, decide_eq_true_eq]
    exact EvP.neg (by simp) (EvP.neg (by simp) (last_ev a1 b1))


end Go.Proofs.YthgpniapbeeaaaaGreat.LawFnFingers
