/- The plain law FnExactFileSum, its first half: what the functions answer. -/
import Derived.Test.YtlkmfgnalobkmaaGreatDFnExactFileSum
set_option autoImplicit false
set_option linter.unusedVariables false
set_option linter.unusedSimpArgs false
namespace Go.Proofs.YtlkmfgnalobkmaaGreat.LawFnExactFileSum
open Go.Proofs.YtlkmfgnalobkmaaGreat.Den Go.Proofs

theorem l1In_ev (a b c : Int) : EvP (fun k => spec_l1In.f k (a, b, c, ())) (fun y => y.1 = decide (b ≤ a ∧ a ≤ c)) := by
  simp only [spec_l1In.f, decide_eq_true_eq]
  refine EvP.ite (fun h => EvP.ret ?_) (fun h => EvP.ret ?_)
  · simp only [ge_iff_le] at h; simp [h]
  · simp only [ge_iff_le] at h; simp [h]

theorem in_ev (a b c : Int) : EvP (fun k => impl_in.f k (a, b, c, ())) (fun y => y.1 = decide (b ≤ a ∧ a ≤ c)) := by
  simp only [impl_in.f, decide_eq_true_eq]
  refine EvP.ite (fun h => EvP.ret ?_) (fun h => EvP.ret ?_)
  · simp only [ge_iff_le] at h; simp [h]
  · simp only [ge_iff_le] at h; simp [h]

def letter (b : Int) : Prop := (65 ≤ b ∧ b ≤ 90) ∨ (97 ≤ b ∧ b ≤ 122)
def digit (b : Int) : Prop := 48 ≤ b ∧ b ≤ 57

theorem isLetter_ev (b : Int) : EvP (fun k => impl_isLetter.f k (b, ())) (fun y => y.1 = true ↔ letter b) := by
  simp only [impl_isLetter.f, decide_eq_true_eq, letter]
  repeat' (first
    | (refine EvP.ret ?_; simp only [decide_eq_true_eq]; first | omega | (simp; omega))
    | (refine EvP.ite (fun _ => ?_) (fun _ => ?_)))

theorem isDigit_ev (b : Int) : EvP (fun k => impl_isDigit.f k (b, ())) (fun y => y.1 = true ↔ digit b) := by
  simp only [impl_isDigit.f, decide_eq_true_eq, digit]
  repeat' (first
    | (refine EvP.ret ?_; simp only [decide_eq_true_eq]; first | omega | (simp; omega))
    | (refine EvP.ite (fun _ => ?_) (fun _ => ?_)))

def good (x : ByteArray) (i : Nat) : Prop := letter (bt x i) ∨ (i ≠ 0 ∧ digit (bt x i))
def Named (x : ByteArray) : Prop := (∀ i < x.size, good x i) ∧ 1 ≤ x.size ∧ x.size ≤ 10

theorem spec_l1Name_ev (x : ByteArray) (hs : x.size ≤ 1048576) : EvP (fun k => spec_l1Name.f k (x, ())) (fun y => y.1 = true ↔ Named x) := by
  have loop := EvP.loop (L := spec_l1Name.l1) (Q := fun y => y.1 = true ↔ Named x) (fun j s => ∃ i : Nat, s = (x, (i : Int), ()) ∧ i ≤ x.size ∧ j = x.size - i ∧ ∀ p < i, good x p) ?_
  · simp only [spec_l1Name.f]
    exact loop _ _ ⟨0, rfl, Nat.zero_le _, rfl, fun p hp => absurd hp (Nat.not_lt_zero _)⟩
  · rintro j _ ⟨i, rfl, hi, rfl, hg⟩ ih
    simp only [spec_l1Name.l1, decide_eq_true_eq, Int.toNat_natCast, w64, IntKind.wrap_i64, Bool.not_eq_true', decide_eq_false_iff_not, beq_iff_eq]
    refine EvP.ite (fun hlt => EvP.pos (by omega) (EvP.pos (by omega) ?_)) (fun hge => ?_)
    · have hno : ¬ good x i → (((false, ()) : Bool × Unit).1 = true ↔ Named x) := fun h => ⟨fun e => (by cases e), fun hn => absurd (hn.1 i (by omega)) h⟩
      have hgo : good x i → EvP (fun k => spec_l1Name.l1 k (x, (((i : Int) + 1 + 9223372036854775808) % 18446744073709551616 - 9223372036854775808), ())) (fun y => y.1 = true ↔ Named x) := fun h => by
        refine ih (x.size - (i + 1)) _ (by omega) ⟨i + 1, ?_, by omega, rfl, fun p hp => ?_⟩
        · rw [show ((i + 1 : Nat) : Int) = ((i : Int) + 1 + 9223372036854775808) % 18446744073709551616 - 9223372036854775808 by omega]
        · rcases Nat.lt_or_ge p i with h2 | h2
          · exact hg p h2
          · obtain rfl : p = i := by omega
            exact h
      repeat' (first
        | (refine EvP.ite (fun _ => ?_) (fun _ => ?_))
        | (refine EvP.ret ?_; exact hno (by simp only [good, letter, digit]; omega))
        | (exact hgo (by simp only [good, letter, digit]; omega)))
    · refine EvP.bind (l1In_ev _ 1 10) ?_
      rintro ⟨y, _⟩ hy
      refine EvP.ret ?_
      simp only at hy
      subst hy
      simp only [decide_eq_true_eq]
      exact ⟨fun h => ⟨fun p hp => hg p (by omega), by omega, by omega⟩, fun h => by have := h.2; omega⟩

theorem impl_isName_ev (x : ByteArray) (hs : x.size ≤ 1048576) : EvP (fun k => impl_isName.f k (x, ())) (fun y => y.1 = true ↔ Named x) := by
  have loop := EvP.loop (L := impl_isName.l1) (Q := fun y => y.1 = true ↔ Named x) (fun j s => ∃ i : Nat, s = (x, (x.size : Int), (i : Int), ()) ∧ i ≤ x.size ∧ j = x.size - i ∧ ∀ p < i, good x p) ?_
  · simp only [impl_isName.f]
    exact loop _ _ ⟨0, rfl, Nat.zero_le _, rfl, fun p hp => absurd hp (Nat.not_lt_zero _)⟩
  · rintro j _ ⟨i, rfl, hi, rfl, hg⟩ ih
    simp only [impl_isName.l1, decide_eq_true_eq, Int.toNat_natCast, w64, IntKind.wrap_i64, Bool.not_eq_true', decide_eq_false_iff_not, beq_iff_eq]
    refine EvP.ite (fun hlt => EvP.pos (by omega) (EvP.pos (by omega) ?_)) (fun hge => ?_)
    · have hno : ¬ good x i → (((false, ()) : Bool × Unit).1 = true ↔ Named x) := fun h => ⟨fun e => (by cases e), fun hn => absurd (hn.1 i (by omega)) h⟩
      have hgo : good x i → EvP (fun k => impl_isName.l1 k (x, (x.size : Int), (((i : Int) + 1 + 9223372036854775808) % 18446744073709551616 - 9223372036854775808), ())) (fun y => y.1 = true ↔ Named x) := fun h => by
        refine ih (x.size - (i + 1)) _ (by omega) ⟨i + 1, ?_, by omega, rfl, fun p hp => ?_⟩
        · rw [show ((i + 1 : Nat) : Int) = ((i : Int) + 1 + 9223372036854775808) % 18446744073709551616 - 9223372036854775808 by omega]
        · rcases Nat.lt_or_ge p i with h2 | h2
          · exact hg p h2
          · obtain rfl : p = i := by omega
            exact h
      refine EvP.bind (isLetter_ev _) ?_
      rintro ⟨y, _⟩ hy
      simp only at hy
      refine EvP.ite (fun h => ?_) (fun h => hgo (.inl (hy.1 (by simpa using h))))
      have hl : ¬ letter (bt x i) := fun e => by
        have := hy.2 e
        simp_all
      refine EvP.ite (fun h0 => EvP.ret (hno fun e => ?_)) (fun h0 => EvP.pos (by omega) (EvP.pos (by omega) ?_))
      · rcases e with e | e
        · exact hl e
        · exact e.1 (by omega)
      · refine EvP.bind (isDigit_ev _) ?_
        rintro ⟨z, _⟩ hz
        simp only at hz
        refine EvP.ite (fun h1 => EvP.ret (hno fun e => ?_)) (fun h1 => hgo (.inr ⟨by omega, hz.1 (by simpa using h1)⟩))
        rcases e with e | e
        · exact hl e
        · have := hz.2 e.2
          simp_all
    · refine EvP.bind (in_ev _ 1 10) ?_
      rintro ⟨y, _⟩ hy
      refine EvP.ret ?_
      simp only at hy
      subst hy
      simp only [decide_eq_true_eq]
      exact ⟨fun h => ⟨fun p hp => hg p (by omega), by omega, by omega⟩, fun h => by have := h.2; omega⟩

theorem toList_nil {s : ByteArray} : s.toList = [] ↔ s = ByteArray.empty := by
  constructor
  · intro h
    exact toList_inj (h.trans (by simp))
  · intro h
    subst h
    simp

/-! ### Good tables of types, but perhaps round ones -/

def InR (N : Nat) (n : Int) : Prop := 0 ≤ n ∧ n < (N : Int)

def FieldOk (N : Nat) (x : TField.D) : Prop := (Named x.1 ∨ (x.1 = ByteArray.empty ∧ (x.2.1 : Int) = 0)) ∧ ((0 : Int) ≤ x.2.1 ∧ x.2.1 ≤ (2 : Int)) ∧ InR N x.2.2
def Apart (x y : TField.D) : Prop := ¬ (x.1 ≠ ByteArray.empty ∧ x.1 = y.1)
def FieldsOk (N : Nat) (f : List TField.D) : Prop := (∀ i, i < f.length → FieldOk N (rdT TField f i) ∧ ∀ j, j < i → Apart (rdT TField f i) (rdT TField f j)) ∧ f.length ≤ 6

def KindIs (l : List TType.D) (n : Int) (a b : Int) : Prop := InR l.length n ∧ ((rdT TType l n.toNat).1 = a ∨ (rdT TType l n.toNat).1 = b)

def NamedT (t : TType.D) : Prop := (Named t.2.2.2.2.2 ∧ Named t.2.2.2.2.1) ∨ (t.2.2.2.2.2 = ByteArray.empty ∧ t.2.2.2.2.1 = ByteArray.empty)
def TypeOk (l : List TType.D) (t : TType.D) : Prop :=
  NamedT t ∧ ((t.1 : Int) ≠ 5 → t.2.2.2.1.length = 0) ∧
    if (t.1 : Int) = 4 then ((1 : Int) ≤ t.2.1 ∧ t.2.1 ≤ (1000 : Int)) ∧ InR l.length t.2.2.1
    else if (t.1 : Int) = 5 then (t.2.1 : Int) = 0 ∧ ((t.2.2.1 : Int) = -1 ∨ KindIs l t.2.2.1 5 5) ∧ FieldsOk l.length t.2.2.2.1
    else (t.1 : Int) = 6 ∧ (t.2.1 : Int) = 0 ∧ KindIs l t.2.2.1 5 4

theorem len1 {α : Type} {l : List α} (h : l.length ≤ 1048576) : w64 ((l.length : Int) - (1 : Int)) = (l.length : Int) - 1 := w64_id (by omega) (by omega)

theorem isNumber_ev (l : List TType.D) (n : Int) (hl : l.length ≤ 1048576) : EvP (fun k => impl_isNumber.f k (l, n, ())) (fun y => y.1 = true ↔ InR l.length n) := by
  simp only [impl_isNumber.f, len1 hl]
  refine EvP.bind (in_ev _ _ _) ?_
  rintro ⟨y, _⟩ hy
  refine EvP.ret ?_
  simp only at hy
  subst hy
  simp only [decide_eq_true_eq, InR]
  omega

theorem l3Kind_ev (l : List TType.D) (n a b : Int) (hl : l.length ≤ 1048576) : EvP (fun k => spec_l3Kind.f k (l, n, a, b, ())) (fun y => y.1 = true ↔ KindIs l n a b) := by
  simp only [spec_l3Kind.f, len1 hl, beq_iff_eq]
  refine EvP.bind (l1In_ev _ _ _) ?_
  rintro ⟨y, _⟩ hy
  simp only at hy
  subst hy
  simp only [decide_eq_true_eq]
  refine EvP.ite (fun h => ?_) (fun h => EvP.ret ⟨fun e => (by cases e), fun e => ?_⟩)
  · have hi : InR l.length n := ⟨h.1, by omega⟩
    refine EvP.pos h.1 (EvP.pos hi.2 (EvP.ite (fun h1 => EvP.ret ⟨fun _ => ⟨hi, .inl h1⟩, fun _ => rfl⟩) (fun h1 => EvP.pos h.1 (EvP.pos hi.2 (EvP.ret ?_)))))
    simp only [beq_iff_eq]
    exact ⟨fun e => ⟨hi, .inr e⟩, fun e => e.2.resolve_left h1⟩
  · have := e.1
    unfold InR at this
    omega

theorem isRecord_ev (l : List TType.D) (n : Int) (hl : l.length ≤ 1048576) : EvP (fun k => impl_isRecord.f k (l, n, ())) (fun y => y.1 = true ↔ KindIs l n 5 5) := by
  simp only [impl_isRecord.f]
  refine EvP.bind (isNumber_ev _ _ hl) ?_
  rintro ⟨y, _⟩ hy
  simp only at hy
  refine EvP.ite (fun h => ?_) (fun h => EvP.ret ⟨fun e => (by cases e), fun e => absurd (hy.2 e.1) h⟩)
  have hi := hy.1 h
  refine EvP.pos hi.1 (EvP.pos hi.2 (EvP.ret ?_))
  simp only [beq_iff_eq]
  exact ⟨fun e => ⟨hi, .inl e⟩, fun e => e.2.elim id id⟩

theorem isNamed_ev (t : TType.D) (hf : Fit TType t) : EvP (fun k => impl_Type_isNamed.f k (t, ())) (fun y => y.1 = true ↔ NamedT t) := by
  simp only [impl_Type_isNamed.f, beq_iff_eq, toList_eq]
  refine EvP.bind (impl_isName_ev _ hf.2.2.2.2.2) ?_
  rintro ⟨y, _⟩ hy
  simp only at hy
  have hlast : ¬ (Named t.2.2.2.2.2 ∧ Named t.2.2.2.2.1) → EvP (fun k => if t.2.2.2.2.2 = ByteArray.empty then (some ((t.2.2.2.2.1.toList == ByteArray.empty.toList), ()) : Option (Bool × Unit)) else some (false, ())) (fun y => y.1 = true ↔ NamedT t) := fun hn => by
    refine EvP.ite (fun h => EvP.ret ?_) (fun h => EvP.ret ⟨fun e => (by cases e), fun e => absurd (e.resolve_left hn).1 h⟩)
    simp only [beq_iff_eq, toList_eq]
    exact ⟨fun e => .inr ⟨h, e⟩, fun e => (e.resolve_left hn).2⟩
  refine EvP.ite (fun h => ?_) (fun h => hlast fun e => h (hy.2 e.1))
  refine EvP.bind (impl_isName_ev _ hf.2.2.2.2.1) ?_
  rintro ⟨z, _⟩ hz
  simp only at hz
  exact EvP.ite (fun h' => EvP.ret ⟨fun _ => .inl ⟨hy.1 h, hz.1 h'⟩, fun _ => rfl⟩) (fun h' => hlast fun e => h' (hz.2 e.2))

/-! fields -/

theorem findF_ev (l : List TField.D) (x : TField.D) (hl : l.length ≤ 1048576) : EvP (fun k => slices_ContainsFunc_impl_Field_impl_Field.f k (l, (x, ()), ())) (fun y => y.1 = true ↔ ∃ p, p < l.length ∧ (rdT TField l p).1 = x.1) := by
  simp only [slices_ContainsFunc_impl_Field_impl_Field.f]
  have hi : EvP (fun k => slices_IndexFunc_impl_Field_impl_Field.f k (l, (x, ()), ())) (fun y => 0 ≤ y.1 ↔ ∃ p, p < l.length ∧ (rdT TField l p).1 = x.1) := by
    simp only [slices_IndexFunc_impl_Field_impl_Field.f]
    refine EvP.scan (L := fun k i => slices_IndexFunc_impl_Field_impl_Field.l1 k (l, (x, ()), (l.length : Int), i, ())) l.length (fun p => (rdT TField l p).1 ≠ x.1) (fun hall => ?_) (fun i hi hall hgo => ?_)
    · simp only [slices_IndexFunc_impl_Field_impl_Field.l1, decide_eq_true_eq]
      refine EvP.neg (by omega) (EvP.ret ⟨fun h => absurd h (by show ¬ (0 : Int) ≤ -1; decide), fun ⟨p, hp, h⟩ => absurd h (hall p hp)⟩)
    · simp only [slices_IndexFunc_impl_Field_impl_Field.l1, decide_eq_true_eq, Int.toNat_natCast, next64 (show i ≤ 1099511627776 by omega), impl_areFields_1.f, Option.bind_some, beq_iff_eq, toList_eq]
      refine EvP.pos (by omega) (EvP.pos (by omega) (EvP.pos (by omega) (EvP.ite (fun h => EvP.ret ⟨fun _ => ⟨i, hi, h⟩, fun _ => ?_⟩) (fun h => hgo h))))
      show (0 : Int) ≤ (i : Int)
      omega
  refine EvP.bind hi ?_
  rintro ⟨y, _⟩ hy
  refine EvP.ret ?_
  simpa using hy

theorem areFields_ev (l : List TType.D) (f : List TField.D) (hl : l.length ≤ 1048576) (hf : Fit (.slice TField) f) : EvP (fun k => impl_areFields.f k (l, f, ())) (fun y => y.1 = true ↔ FieldsOk l.length f) := by
  have hs : f.length ≤ 1048576 := hf.1
  simp only [impl_areFields.f]
  refine EvP.scan (L := fun k i => impl_areFields.l1 k (l, f, f, (f.length : Int), i, ())) f.length (fun i => FieldOk l.length (rdT TField f i) ∧ ∀ j, j < i → Apart (rdT TField f i) (rdT TField f j)) (fun hall => ?_) (fun i hi hall hgo => ?_)
  · simp only [impl_areFields.l1, decide_eq_true_eq]
    refine EvP.neg (by omega) (EvP.ret ?_)
    simp only [decide_eq_true_eq]
    exact ⟨fun h => ⟨hall, by omega⟩, fun h => by have := h.2; omega⟩
  · simp only [impl_areFields.l1, decide_eq_true_eq, Int.toNat_natCast, next64 (show i ≤ 1099511627776 by omega), beq_iff_eq, bne_iff_ne, toList_eq, Bool.not_eq_true']
    have hno : ¬ (FieldOk l.length (rdT TField f i) ∧ ∀ j, j < i → Apart (rdT TField f i) (rdT TField f j)) → (((false, ()) : Bool × Unit).1 = true ↔ FieldsOk l.length f) := fun h => ⟨fun e => (by cases e), fun e => absurd (e.1 i hi) h⟩
    refine EvP.pos (by omega) (EvP.pos (by omega) (EvP.pos (by omega) ?_))
    refine EvP.bind (in_ev _ _ _) ?_
    rintro ⟨y, _⟩ hy
    simp only at hy
    subst hy
    refine EvP.ite (fun h => EvP.ret (hno fun e => ?_)) (fun h => ?_)
    · simp only [decide_eq_false_iff_not] at h
      exact h e.1.2.1
    have hm : (0 : Int) ≤ (rdT TField f i).2.1 ∧ (rdT TField f i).2.1 ≤ (2 : Int) := by simpa using h
    refine EvP.bind (isNumber_ev _ _ hl) ?_
    rintro ⟨z, _⟩ hz
    simp only at hz
    refine EvP.ite (fun h1 => EvP.ret (hno fun e => ?_)) (fun h1 => ?_)
    · rw [hz.2 e.1.2.2] at h1; cases h1
    have ht : InR l.length (rdT TField f i).2.2 := hz.1 (by simpa using h1)
    refine EvP.ite (fun he => EvP.ite (fun h2 => EvP.ret (hno fun e => ?_)) (fun h2 => hgo ⟨⟨.inr ⟨he, by simpa using h2⟩, hm, ht⟩, fun j _ e => absurd he e.1⟩)) (fun he => ?_)
    · rcases e.1.1 with h3 | h3
      · rw [he] at h3
        have := h3.2.1
        simp at this
      · exact h2 h3.2
    refine EvP.bind (impl_isName_ev _ (hf.2 _ (rdT_mem hi)).1) ?_
    rintro ⟨u, _⟩ hu
    simp only at hu
    refine EvP.ite (fun h3 => EvP.ret (hno fun e => ?_)) (fun h3 => EvP.pos (by omega) (EvP.pos (by omega) ?_))
    · rcases e.1.1 with h4 | h4
      · rw [hu.2 h4] at h3; cases h3
      · exact he h4.1
    have hn : Named (rdT TField f i).1 := hu.1 (by simpa using h3)
    refine EvP.bind (findF_ev _ _ (by rw [List.length_take]; omega)) ?_
    rintro ⟨v, _⟩ hv
    simp only at hv
    have hiff : v = true ↔ ∃ j, j < i ∧ (rdT TField f j).1 = (rdT TField f i).1 := by
      rw [hv]
      constructor
      · rintro ⟨p, hp, h⟩
        rw [List.length_take] at hp
        rw [rdT_take (by omega)] at h
        exact ⟨p, by omega, h⟩
      · rintro ⟨p, hp, h⟩
        exact ⟨p, by rw [List.length_take]; omega, by rw [rdT_take hp]; exact h⟩
    refine EvP.ite (fun h4 => EvP.ret (hno fun e => ?_)) (fun h4 => hgo ⟨⟨.inl hn, hm, ht⟩, fun j hj e => h4 (hiff.2 ⟨j, hj, e.2.symm⟩)⟩)
    obtain ⟨j, hj, h⟩ := hiff.1 h4
    exact e.2 j hj ⟨he, h.symm⟩

theorem l3Fields_l6_ev (l : List TType.D) (f : List TField.D) (x : TField.D) (i : Nat) (a9 : List TField.D) (a10 a11 a32 : Int) (a33 a34 : Bool) (a38 : Int) (a39 : List TType.D) (a40 a41 : Int) (a42 a43 : Bool) (pre : List TField.D) (hp : pre.length ≤ 1048576) (Q : Bool × Unit → Prop)
    (hbad : ∀ p, p < pre.length → ¬ Apart x (rdT TField pre p) → Q (false, ())) (hgood : (∀ p, p < pre.length → Apart x (rdT TField pre p)) → EvP (fun k => spec_l3Fields.l1 k (l, f, a9, a10, w64 (a11 + (1 : Int)), ())) Q) :
    EvP (fun k => spec_l3Fields.l6 k (l, f, (x.1, (x.2.1, (x.2.2, ()))), a9, a10, a11, (), (), (), (), (), (), a32, a33, a34, a38, a39, a40, a41, a42, a43, pre, (pre.length : Int), 0, ())) Q := by
  refine EvP.scan (L := fun k i => spec_l3Fields.l6 k (l, f, (x.1, (x.2.1, (x.2.2, ()))), a9, a10, a11, (), (), (), (), (), (), a32, a33, a34, a38, a39, a40, a41, a42, a43, pre, (pre.length : Int), i, ())) pre.length (fun p => Apart x (rdT TField pre p)) (fun hall => ?_) (fun p hp' hall hgo => ?_)
  · simp only [spec_l3Fields.l6, decide_eq_true_eq]
    exact EvP.neg (by omega) (hgood hall)
  · simp only [spec_l3Fields.l6, decide_eq_true_eq, Int.toNat_natCast, next64 (show p ≤ 1099511627776 by omega), beq_iff_eq, toList_eq, Bool.not_eq_true', beq_eq_false_iff_ne, ne_eq]
    refine EvP.pos (by omega) (EvP.pos (by omega) (EvP.pos (by omega) (EvP.ite (fun h => EvP.ite (fun h2 => EvP.ret (hbad p hp' fun e => e ⟨h, h2⟩)) (fun h2 => hgo fun e => h2 e.2)) (fun h => hgo fun e => h e.1))))

theorem l3Fields_ev (l : List TType.D) (f : List TField.D) (hl : l.length ≤ 1048576) (hf : Fit (.slice TField) f) : EvP (fun k => spec_l3Fields.f k (l, f, ())) (fun y => y.1 = true ↔ FieldsOk l.length f) := by
  have hs : f.length ≤ 1048576 := hf.1
  simp only [spec_l3Fields.f]
  refine EvP.scan (L := fun k i => spec_l3Fields.l1 k (l, f, f, (f.length : Int), i, ())) f.length (fun i => FieldOk l.length (rdT TField f i) ∧ ∀ j, j < i → Apart (rdT TField f i) (rdT TField f j)) (fun hall => ?_) (fun i hi hall hgo => ?_)
  · simp only [spec_l3Fields.l1, decide_eq_true_eq]
    refine EvP.neg (by omega) (EvP.ret ?_)
    simp only [decide_eq_true_eq]
    exact ⟨fun h => ⟨hall, by omega⟩, fun h => by have := h.2; omega⟩
  · simp only [spec_l3Fields.l1, decide_eq_true_eq, Int.toNat_natCast, beq_iff_eq, bne_iff_ne, toList_eq, Bool.not_eq_true', len1 hl, beq_eq_false_iff_ne, ne_eq]
    have hno : ¬ (FieldOk l.length (rdT TField f i) ∧ ∀ j, j < i → Apart (rdT TField f i) (rdT TField f j)) → (((false, ()) : Bool × Unit).1 = true ↔ FieldsOk l.length f) := fun h => ⟨fun e => (by cases e), fun e => absurd (e.1 i hi) h⟩
    refine EvP.pos (by omega) (EvP.pos (by omega) (EvP.pos (by omega) ?_))
    refine EvP.bind (spec_l1Name_ev _ (hf.2 _ (rdT_mem hi)).1) ?_
    rintro ⟨u, _⟩ hu
    simp only at hu
    -- behind the name
    have hrest : (Named (rdT TField f i).1 ∨ ((rdT TField f i).1 = ByteArray.empty ∧ ((rdT TField f i).2.1 : Int) = 0)) → EvP (fun k => (spec_l1In.f k ((rdT TField f i).2.1, 0, 2, ())).bind fun y2 => if y2.1 = false then some (false, ()) else (spec_l1In.f k ((rdT TField f i).2.2, 0, (l.length : Int) - 1, ())).bind fun y3 => if y3.1 = false then some (false, ()) else
        if 0 ≤ (i : Int) then if (i : Int) ≤ (f.length : Int) then spec_l3Fields.l6 k (l, f, ((rdT TField f i).1, ((rdT TField f i).2.1, ((rdT TField f i).2.2, ()))), f, (f.length : Int), (i : Int), (), (), (), (), (), (), (rdT TField f i).2.1, y2.1, (!y2.1), (rdT TField f i).2.2, l, (l.length : Int), (l.length : Int) - 1, y3.1, (!y3.1), f.take i, ((f.take i).length : Int), 0, ()) else none else none) (fun y => y.1 = true ↔ FieldsOk l.length f) := by
      intro hname
      refine EvP.bind (l1In_ev _ _ _) ?_
      rintro ⟨y, _⟩ hy
      simp only at hy
      subst hy
      refine EvP.ite (fun h => EvP.ret (hno fun e => ?_)) (fun h => ?_)
      · simp only [decide_eq_false_iff_not] at h
        exact h e.1.2.1
      have hm : (0 : Int) ≤ (rdT TField f i).2.1 ∧ (rdT TField f i).2.1 ≤ (2 : Int) := by simpa using h
      refine EvP.bind (l1In_ev _ _ _) ?_
      rintro ⟨z, _⟩ hz
      simp only at hz
      subst hz
      refine EvP.ite (fun h => EvP.ret (hno fun e => ?_)) (fun h => EvP.pos (by omega) (EvP.pos (by omega) ?_))
      · simp only [decide_eq_false_iff_not] at h
        have := e.1.2.2
        unfold InR at this
        exact h ⟨this.1, by omega⟩
      have ht : InR l.length (rdT TField f i).2.2 := by
        have : (0 : Int) ≤ (rdT TField f i).2.2 ∧ (rdT TField f i).2.2 ≤ (l.length : Int) - 1 := by simpa using h
        exact ⟨this.1, Int.lt_of_le_sub_one this.2⟩
      refine l3Fields_l6_ev l f (rdT TField f i) i f _ _ _ _ _ _ _ _ _ _ _ (f.take i) (by rw [List.length_take]; omega) _ (fun p hp hbad => hno fun e => ?_) (fun hall => ?_)
      · rw [List.length_take] at hp
        rw [rdT_take (by omega)] at hbad
        exact hbad (e.2 p (by omega))
      · rw [next64 (show i ≤ 1099511627776 by omega)]
        refine hgo ⟨⟨hname, hm, ht⟩, fun j hj => ?_⟩
        have := hall j (by rw [List.length_take]; omega)
        rwa [rdT_take hj] at this
    refine EvP.ite (fun h3 => EvP.ite (fun h4 => EvP.ret (hno fun e => ?_)) (fun h4 => EvP.ite (fun h5 => EvP.ret (hno fun e => ?_)) (fun h5 => ?_))) (fun h3 => ?_)
    · rcases e.1.1 with h | h
      · rw [hu.2 h] at h3; cases h3
      · exact h4 h.1
    · rcases e.1.1 with h | h
      · rw [hu.2 h] at h3; cases h3
      · exact h5 h.2
    · exact hrest (.inr ⟨by simpa using h4, by simpa using h5⟩)
    · exact hrest (.inl (hu.1 (by simpa using h3)))

/-! one type -/

theorem cond_true {p : Prop} {b : Bool} (h : p) (hb : b = true) : (b = true ↔ p) := ⟨fun _ => h, fun _ => hb⟩

theorem isType_ev (l : List TType.D) (t : TType.D) (hl : l.length ≤ 1048576) (hf : Fit TType t) : EvP (fun k => impl_isType.f k (l, t, ())) (fun y => y.1 = true ↔ TypeOk l t) := by
  simp only [impl_isType.f, beq_iff_eq, bne_iff_ne, ne_eq, Bool.not_eq_true', decide_eq_true_eq]
  refine EvP.bind (isNamed_ev _ hf) ?_
  rintro ⟨y, _⟩ hy
  simp only at hy
  refine EvP.ite (fun h => EvP.ret ⟨fun e => (by cases e), fun e => ?_⟩) (fun h => ?_)
  · rw [hy.2 e.1] at h; cases h
  have hn : NamedT t := hy.1 (by simpa using h)
  -- the switch
  have hsw : ((t.1 : Int) ≠ 5 → t.2.2.2.1.length = 0) → EvP (fun k => if t.1 = (4 : Int) then ((impl_in.f k (t.2.1, 1, 1000, ())).bind fun y2 => if y2.1 = true then ((impl_isNumber.f k (l, t.2.2.1, ())).bind fun y3 => (some (y3.1, ()) : Option (Bool × Unit))) else some (false, ())) else if t.1 = (5 : Int) then (if t.2.1 = (0 : Int) then if t.2.2.1 = (-1 : Int) then ((impl_areFields.f k (l, t.2.2.2.1, ())).bind fun y4 => some (y4.1, ())) else ((impl_isRecord.f k (l, t.2.2.1, ())).bind fun y5 => if y5.1 = true then ((impl_areFields.f k (l, t.2.2.2.1, ())).bind fun y6 => some (y6.1, ())) else some (false, ())) else some (false, ())) else
      if t.1 = (6 : Int) then (if t.2.1 = (0 : Int) then ((impl_isRecord.f k (l, t.2.2.1, ())).bind fun y7 => if y7.1 = true then some (true, ()) else ((impl_isNumber.f k (l, t.2.2.1, ())).bind fun y8 => if y8.1 = true then (if 0 ≤ t.2.2.1 then if t.2.2.1 < (l.length : Int) then some ((rdT TType l t.2.2.1.toNat).1 == (4 : Int), ()) else none else none) else some (false, ()))) else some (false, ())) else some (false, ())) (fun y => y.1 = true ↔ TypeOk l t) := by
    intro hfl
    have key : TypeOk l t ↔ (if (t.1 : Int) = 4 then ((1 : Int) ≤ t.2.1 ∧ t.2.1 ≤ (1000 : Int)) ∧ InR l.length t.2.2.1 else if (t.1 : Int) = 5 then (t.2.1 : Int) = 0 ∧ ((t.2.2.1 : Int) = -1 ∨ KindIs l t.2.2.1 5 5) ∧ FieldsOk l.length t.2.2.2.1 else (t.1 : Int) = 6 ∧ (t.2.1 : Int) = 0 ∧ KindIs l t.2.2.1 5 4) := ⟨fun h => h.2.2, fun h => ⟨hn, hfl, h⟩⟩
    simp only [key]
    refine EvP.ite (fun h4 => ?_) (fun h4 => EvP.ite (fun h5 => ?_) (fun h5 => EvP.ite (fun h6 => ?_) (fun h6 => EvP.ret ?_)))
    · simp only [if_pos h4]
      refine EvP.bind (in_ev _ _ _) ?_
      rintro ⟨u, _⟩ hu
      simp only at hu
      subst hu
      refine EvP.ite (fun h => ?_) (fun h => EvP.ret ⟨fun e => (by cases e), fun e => absurd (decide_eq_true e.1) h⟩)
      refine EvP.bind (isNumber_ev _ _ hl) ?_
      rintro ⟨v, _⟩ hv
      exact EvP.ret (hv.trans ⟨fun e => ⟨of_decide_eq_true h, e⟩, fun e => e.2⟩)
    · simp only [if_neg h4, if_pos h5]
      refine EvP.ite (fun h0 => ?_) (fun h0 => EvP.ret ⟨fun e => (by cases e), fun e => absurd e.1 h0⟩)
      refine EvP.ite (fun h1 => ?_) (fun h1 => ?_)
      · refine EvP.bind (areFields_ev l _ hl hf.2.2.2.1) ?_
        rintro ⟨v, _⟩ hv
        exact EvP.ret (hv.trans ⟨fun e => ⟨h0, .inl h1, e⟩, fun e => e.2.2⟩)
      · refine EvP.bind (isRecord_ev _ _ hl) ?_
        rintro ⟨u, _⟩ hu
        simp only at hu
        refine EvP.ite (fun h => ?_) (fun h => EvP.ret ⟨fun e => (by cases e), fun e => absurd (hu.2 (e.2.1.resolve_left h1)) h⟩)
        refine EvP.bind (areFields_ev l _ hl hf.2.2.2.1) ?_
        rintro ⟨v, _⟩ hv
        exact EvP.ret (hv.trans ⟨fun e => ⟨h0, .inr (hu.1 h), e⟩, fun e => e.2.2⟩)
    · simp only [if_neg h4, if_neg h5]
      refine EvP.ite (fun h0 => ?_) (fun h0 => EvP.ret ⟨fun e => (by cases e), fun e => absurd e.2.1 h0⟩)
      refine EvP.bind (isRecord_ev _ _ hl) ?_
      rintro ⟨u, _⟩ hu
      simp only at hu
      refine EvP.ite (fun h => EvP.ret ⟨fun _ => ⟨h6, h0, (hu.1 h).1, .inl ((hu.1 h).2.elim id id)⟩, fun _ => rfl⟩) (fun h => ?_)
      refine EvP.bind (isNumber_ev _ _ hl) ?_
      rintro ⟨v, _⟩ hv
      simp only at hv
      refine EvP.ite (fun h' => ?_) (fun h' => EvP.ret ⟨fun e => (by cases e), fun e => absurd (hv.2 e.2.2.1) h'⟩)
      have hi := hv.1 h'
      refine EvP.pos hi.1 (EvP.pos hi.2 (EvP.ret ?_))
      simp only [beq_iff_eq]
      exact ⟨fun e => ⟨h6, h0, hi, .inr e⟩, fun e => e.2.2.2.resolve_left fun e' => h (hu.2 ⟨hi, .inl e'⟩)⟩
    · simp only [if_neg h4, if_neg h5]
      exact ⟨fun e => (by cases e), fun e => absurd e.1 h6⟩
  refine EvP.ite (fun h5 => EvP.ite (fun h => EvP.ret ⟨fun e => (by cases e), fun e => ?_⟩) (fun h => hsw fun _ => by omega)) (fun h5 => hsw fun e => absurd e (by simpa using h5))
  have := e.2.1 h5
  omega

theorem l3Type_ev (l : List TType.D) (t : TType.D) (hl : l.length ≤ 1048576) (hf : Fit TType t) : EvP (fun k => spec_l3Type.f k (l, t, ())) (fun y => y.1 = true ↔ TypeOk l t) := by
  simp only [spec_l3Type.f, beq_iff_eq, bne_iff_ne, ne_eq, Bool.not_eq_true', decide_eq_true_eq, toList_eq, beq_eq_false_iff_ne, len1 hl]
  -- the switch
  have hsw : NamedT t → ((t.1 : Int) ≠ 5 → t.2.2.2.1.length = 0) → EvP (fun k => if t.1 = (4 : Int) then ((spec_l1In.f k (t.2.1, 1, 1000, ())).bind fun y2 => if y2.1 = true then ((spec_l1In.f k (t.2.2.1, 0, (l.length : Int) - 1, ())).bind fun y3 => (some (y3.1, ()) : Option (Bool × Unit))) else some (false, ())) else if t.1 = (5 : Int) then (if t.2.1 = (0 : Int) then if t.2.2.1 = (-1 : Int) then ((spec_l3Fields.f k (l, t.2.2.2.1, ())).bind fun y4 => some (y4.1, ())) else ((spec_l3Kind.f k (l, t.2.2.1, 5, 5, ())).bind fun y5 => if y5.1 = true then ((spec_l3Fields.f k (l, t.2.2.2.1, ())).bind fun y6 => some (y6.1, ())) else some (false, ())) else some (false, ())) else
      if t.1 = (6 : Int) then (if t.2.1 = (0 : Int) then ((spec_l3Kind.f k (l, t.2.2.1, 5, 4, ())).bind fun y7 => some (y7.1, ())) else some (false, ())) else some (false, ())) (fun y => y.1 = true ↔ TypeOk l t) := by
    intro hn hfl
    have key : TypeOk l t ↔ (if (t.1 : Int) = 4 then ((1 : Int) ≤ t.2.1 ∧ t.2.1 ≤ (1000 : Int)) ∧ InR l.length t.2.2.1 else if (t.1 : Int) = 5 then (t.2.1 : Int) = 0 ∧ ((t.2.2.1 : Int) = -1 ∨ KindIs l t.2.2.1 5 5) ∧ FieldsOk l.length t.2.2.2.1 else (t.1 : Int) = 6 ∧ (t.2.1 : Int) = 0 ∧ KindIs l t.2.2.1 5 4) := ⟨fun h => h.2.2, fun h => ⟨hn, hfl, h⟩⟩
    simp only [key]
    refine EvP.ite (fun h4 => ?_) (fun h4 => EvP.ite (fun h5 => ?_) (fun h5 => EvP.ite (fun h6 => ?_) (fun h6 => EvP.ret ?_)))
    · simp only [if_pos h4]
      refine EvP.bind (l1In_ev _ _ _) ?_
      rintro ⟨u, _⟩ hu
      simp only at hu
      subst hu
      refine EvP.ite (fun h => ?_) (fun h => EvP.ret ⟨fun e => (by cases e), fun e => absurd (decide_eq_true e.1) h⟩)
      refine EvP.bind (l1In_ev _ _ _) ?_
      rintro ⟨v, _⟩ hv
      simp only at hv
      subst hv
      refine EvP.ret ?_
      simp only [decide_eq_true_eq]
      exact ⟨fun e => ⟨of_decide_eq_true h, e.1, Int.lt_of_le_sub_one e.2⟩, fun e => ⟨e.2.1, Int.le_sub_one_of_lt e.2.2⟩⟩
    · simp only [if_neg h4, if_pos h5]
      refine EvP.ite (fun h0 => ?_) (fun h0 => EvP.ret ⟨fun e => (by cases e), fun e => absurd e.1 h0⟩)
      refine EvP.ite (fun h1 => ?_) (fun h1 => ?_)
      · refine EvP.bind (l3Fields_ev l _ hl hf.2.2.2.1) ?_
        rintro ⟨v, _⟩ hv
        exact EvP.ret (hv.trans ⟨fun e => ⟨h0, .inl h1, e⟩, fun e => e.2.2⟩)
      · refine EvP.bind (l3Kind_ev _ _ _ _ hl) ?_
        rintro ⟨u, _⟩ hu
        simp only at hu
        refine EvP.ite (fun h => ?_) (fun h => EvP.ret ⟨fun e => (by cases e), fun e => absurd (hu.2 (e.2.1.resolve_left h1)) h⟩)
        refine EvP.bind (l3Fields_ev l _ hl hf.2.2.2.1) ?_
        rintro ⟨v, _⟩ hv
        exact EvP.ret (hv.trans ⟨fun e => ⟨h0, .inr (hu.1 h), e⟩, fun e => e.2.2⟩)
    · simp only [if_neg h4, if_neg h5]
      refine EvP.ite (fun h0 => ?_) (fun h0 => EvP.ret ⟨fun e => (by cases e), fun e => absurd e.2.1 h0⟩)
      refine EvP.bind (l3Kind_ev _ _ _ _ hl) ?_
      rintro ⟨u, _⟩ hu
      exact EvP.ret (hu.trans ⟨fun e => ⟨h6, h0, e⟩, fun e => e.2.2⟩)
    · simp only [if_neg h4, if_neg h5]
      exact ⟨fun e => (by cases e), fun e => absurd e.1 h6⟩
  have hfin : NamedT t → EvP (fun k => if ¬ t.1 = (5 : Int) then if (t.2.2.2.1.length : Int) > 0 then (some (false, ()) : Option (Bool × Unit)) else _ else _) (fun y => y.1 = true ↔ TypeOk l t) := fun hn =>
    EvP.ite (fun h5 => EvP.ite (fun h => EvP.ret ⟨fun e => (by cases e), fun e => by have := e.2.1 h5; omega⟩) (fun h => hsw hn fun _ => by omega)) (fun h5 => hsw hn fun e => absurd e (by simpa using h5))
  refine EvP.bind (spec_l1Name_ev _ hf.2.2.2.2.2) ?_
  rintro ⟨y, _⟩ hy
  simp only at hy
  refine EvP.ite (fun h => ?_) (fun h => ?_)
  · refine EvP.bind (spec_l1Name_ev _ hf.2.2.2.2.1) ?_
    rintro ⟨z, _⟩ hz
    simp only at hz
    refine EvP.ite (fun h' => EvP.ite (fun h1 => EvP.ret ⟨fun e => (by cases e), fun e => ?_⟩) (fun h1 => EvP.ite (fun h2 => EvP.ret ⟨fun e => (by cases e), fun e => ?_⟩) (fun h2 => hfin (.inr ⟨by simpa using h1, by simpa using h2⟩)))) (fun h' => hfin (.inl ⟨hy.1 h, hz.1 (by simpa using h')⟩))
    · rcases e.1 with e | e
      · rw [hz.2 e.2] at h'; cases h'
      · exact (h1 e.1).elim
    · rcases e.1 with e | e
      · rw [hz.2 e.2] at h'; cases h'
      · exact (h2 e.2).elim
  · refine EvP.ite (fun h1 => EvP.ret ⟨fun e => (by cases e), fun e => ?_⟩) (fun h1 => EvP.ite (fun h2 => EvP.ret ⟨fun e => (by cases e), fun e => ?_⟩) (fun h2 => hfin (.inr ⟨by simpa using h1, by simpa using h2⟩)))
    · rcases e.1 with e | e
      · exact (h (hy.2 e.1)).elim
      · exact (h1 e.1).elim
    · rcases e.1 with e | e
      · exact (h (hy.2 e.1)).elim
      · exact (h2 e.2).elim

/-! the first types, and all of them -/

def baseL : List TType.D := [(1, (0, ((-1), ([], (ByteArray.empty, (⟨#[73, 78, 84]⟩ : ByteArray)))))), (2, (0, ((-1), ([], (ByteArray.empty, (⟨#[66, 79, 79, 76]⟩ : ByteArray)))))), (3, (0, ((-1), ([], (ByteArray.empty, (⟨#[67, 72, 65, 82]⟩ : ByteArray))))))]

theorem eqTType (x y : TType.D) : x = y ↔ x.1 = y.1 ∧ x.2.1 = y.2.1 ∧ x.2.2.1 = y.2.2.1 ∧ x.2.2.2.1 = y.2.2.2.1 ∧ x.2.2.2.2.1 = y.2.2.2.2.1 ∧ x.2.2.2.2.2 = y.2.2.2.2.2 := ⟨fun h => by subst h; exact ⟨rfl, rfl, rfl, rfl, rfl, rfl⟩, fun ⟨h0, h1, h2, h3, h4, h5⟩ => Prod.ext h0 (Prod.ext h1 (Prod.ext h2 (Prod.ext h3 (Prod.ext h4 h5))))⟩
theorem eqTField (x y : TField.D) : x = y ↔ x.1 = y.1 ∧ x.2.1 = y.2.1 ∧ x.2.2 = y.2.2 := ⟨fun h => by subst h; exact ⟨rfl, rfl, rfl⟩, fun ⟨h0, h1, h2⟩ => Prod.ext h0 (Prod.ext h1 h2)⟩

theorem eqFields_ev (a b : List TField.D) (hfa : Fit (.slice TField) a) : EvP (fun k => slices_Equal_impl_Field_impl_Field.f k (a, b, ())) (fun y => y.1 = true ↔ a = b) := by
  have hs : a.length ≤ 1048576 := hfa.1
  simp only [slices_Equal_impl_Field_impl_Field.f, bne_iff_ne, ne_eq]
  refine EvP.ite (fun hl => EvP.ret ⟨fun h => (by cases h), fun h => absurd (by rw [h]) hl⟩) (fun hl => ?_)
  have hl' : a.length = b.length := by omega
  refine EvP.same (t := TField) (a := a) (b := b) (L := fun k i => slices_Equal_impl_Field_impl_Field.l2 k (a, b, (a.length : Int), i, ())) hl' (fun hne => ⟨fun h => (by cases h), fun h => absurd h hne⟩) (fun he => ?_) (fun i hi hno hgo => ?_)
  · simp only [slices_Equal_impl_Field_impl_Field.l2, decide_eq_true_eq]
    exact EvP.neg (by omega) (EvP.ret ⟨fun _ => he, fun _ => rfl⟩)
  · simp only [slices_Equal_impl_Field_impl_Field.l2, decide_eq_true_eq, Int.toNat_natCast, next64 (show i ≤ 1099511627776 by omega)]
    refine EvP.pos (by omega) (EvP.pos (by omega) (EvP.pos (by omega) (EvP.pos (by omega) (EvP.pos (by omega) ?_))))
    refine EvP.ite (fun h => EvP.ret (hno fun e => ?_)) (fun h => hgo ((eqTField _ _).2 (by simpa [toList_eq] using h)))
    rw [e] at h
    simp at h

theorem sameType_ev (x z : TType.D) (hfx : Fit TType x) : EvP (fun k => impl_sameType.f k (x, z, ())) (fun y => y.1 = true ↔ x = z) := by
  simp only [impl_sameType.f, beq_iff_eq, toList_eq]
  have hno : ∀ p : Prop, (x = z → p) → ¬ p → (((false, ()) : Bool × Unit).1 = true ↔ x = z) := fun p h hn => ⟨fun e => (by cases e), fun e => absurd (h e) hn⟩
  refine EvP.ite (fun h1 => EvP.ite (fun h2 => EvP.ite (fun h3 => ?_) (fun h3 => EvP.ret (hno _ (fun e => by rw [e]) h3))) (fun h2 => EvP.ret (hno _ (fun e => by rw [e]) h2))) (fun h1 => EvP.ret (hno _ (fun e => by rw [e]) h1))
  refine EvP.bind (eqFields_ev _ _ hfx.2.2.2.1) ?_
  rintro ⟨y, _⟩ hy
  simp only at hy
  refine EvP.ite (fun h4 => EvP.ite (fun h5 => EvP.ret ?_) (fun h5 => EvP.ret (hno _ (fun e => by rw [e]) h5))) (fun h4 => EvP.ret (hno _ (fun e => hy.2 (by rw [e])) h4))
  simp only [beq_iff_eq, toList_eq]
  rw [eqTType]
  exact ⟨fun e => ⟨h1, h2, h3, hy.1 h4, h5, e⟩, fun e => e.2.2.2.2.2⟩

theorem eqTypes_ev (a b : List TType.D) (hfa : Fit (.slice TType) a) : EvP (fun k => slices_EqualFunc_impl_Type_impl_Type_impl_Type_impl_Type.f k (a, b, (), ())) (fun y => y.1 = true ↔ a = b) := by
  have hs : a.length ≤ 1048576 := hfa.1
  simp only [slices_EqualFunc_impl_Type_impl_Type_impl_Type_impl_Type.f, bne_iff_ne, ne_eq]
  refine EvP.ite (fun hl => EvP.ret ⟨fun h => (by cases h), fun h => absurd (by rw [h]) hl⟩) (fun hl => ?_)
  have hl' : a.length = b.length := by omega
  refine EvP.same (t := TType) (a := a) (b := b) (L := fun k i => slices_EqualFunc_impl_Type_impl_Type_impl_Type_impl_Type.l2 k (b, (), a, (a.length : Int), i, ())) hl' (fun hne => ⟨fun h => (by cases h), fun h => absurd h hne⟩) (fun he => ?_) (fun i hi hno hgo => ?_)
  · simp only [slices_EqualFunc_impl_Type_impl_Type_impl_Type_impl_Type.l2, decide_eq_true_eq]
    exact EvP.neg (by omega) (EvP.ret ⟨fun _ => he, fun _ => rfl⟩)
  · simp only [slices_EqualFunc_impl_Type_impl_Type_impl_Type_impl_Type.l2, decide_eq_true_eq, Int.toNat_natCast, next64 (show i ≤ 1099511627776 by omega), Bool.not_eq_true']
    refine EvP.pos (by omega) (EvP.pos (by omega) (EvP.pos (by omega) (EvP.pos (by omega) (EvP.pos (by omega) ?_))))
    refine EvP.bind (sameType_ev _ _ (hfa.2 _ (rdT_mem hi))) ?_
    rintro ⟨y, _⟩ hy
    simp only at hy
    refine EvP.ite (fun h => EvP.ret (hno fun e => ?_)) (fun h => hgo (hy.1 (by simpa using h)))
    rw [hy.2 e] at h; cases h

def TypeAt (l : List TType.D) (i : Nat) : Prop := TypeOk l (rdT TType l i) ∧ ∀ j, 3 ≤ j → j < i → ¬ ((rdT TType l i).2.2.2.2.2 ≠ ByteArray.empty ∧ (rdT TType l i).2.2.2.2.2 = (rdT TType l j).2.2.2.2.2 ∧ (rdT TType l i).2.2.2.2.1 = (rdT TType l j).2.2.2.2.1)
def Nearly (l : List TType.D) : Prop := 3 ≤ l.length ∧ l.length ≤ 24 ∧ l.take 3 = baseL ∧ ∀ i, 3 ≤ i → i < l.length → TypeAt l i

theorem findT_ev (l : List TType.D) (x : TType.D) (hl : l.length ≤ 1048576) : EvP (fun k => slices_ContainsFunc_impl_Type_impl_Type.f k (l, (x, ()), ())) (fun y => y.1 = true ↔ ∃ p, p < l.length ∧ (rdT TType l p).2.2.2.2.2 = x.2.2.2.2.2 ∧ (rdT TType l p).2.2.2.2.1 = x.2.2.2.2.1) := by
  simp only [slices_ContainsFunc_impl_Type_impl_Type.f]
  have hi : EvP (fun k => slices_IndexFunc_impl_Type_impl_Type.f k (l, (x, ()), ())) (fun y => 0 ≤ y.1 ↔ ∃ p, p < l.length ∧ (rdT TType l p).2.2.2.2.2 = x.2.2.2.2.2 ∧ (rdT TType l p).2.2.2.2.1 = x.2.2.2.2.1) := by
    simp only [slices_IndexFunc_impl_Type_impl_Type.f]
    refine EvP.scan (L := fun k i => slices_IndexFunc_impl_Type_impl_Type.l1 k (l, (x, ()), (l.length : Int), i, ())) l.length (fun p => ¬ ((rdT TType l p).2.2.2.2.2 = x.2.2.2.2.2 ∧ (rdT TType l p).2.2.2.2.1 = x.2.2.2.2.1)) (fun hall => ?_) (fun i hi hall hgo => ?_)
    · simp only [slices_IndexFunc_impl_Type_impl_Type.l1, decide_eq_true_eq]
      refine EvP.neg (by omega) (EvP.ret ⟨fun h => absurd h (by show ¬ (0 : Int) ≤ -1; decide), fun ⟨p, hp, h⟩ => absurd h (hall p hp)⟩)
    · simp only [slices_IndexFunc_impl_Type_impl_Type.l1, decide_eq_true_eq, Int.toNat_natCast, next64 (show i ≤ 1099511627776 by omega), impl_areTypes_1.f, beq_iff_eq, toList_eq]
      refine EvP.pos (by omega) (EvP.pos (by omega) (EvP.pos (by omega) ?_))
      have hc : EvP (fun k => if (rdT TType l i).2.2.2.2.2 = x.2.2.2.2.2 then (some (((rdT TType l i).2.2.2.2.1.toList == x.2.2.2.2.1.toList), ()) : Option (Bool × Unit)) else some (false, ())) (fun y => y.1 = true ↔ ((rdT TType l i).2.2.2.2.2 = x.2.2.2.2.2 ∧ (rdT TType l i).2.2.2.2.1 = x.2.2.2.2.1)) := by
        refine EvP.ite (fun h1 => EvP.ret ?_) (fun h1 => EvP.ret ?_)
        · simp [h1, toList_eq]
        · simp [h1]
      refine EvP.bind hc ?_
      rintro ⟨y, _⟩ hy
      refine EvP.ite (fun h => EvP.ret ⟨fun _ => ⟨i, hi, hy.1 h⟩, fun _ => ?_⟩) (fun h => hgo fun e => h (hy.2 e))
      show (0 : Int) ≤ (i : Int)
      omega
  refine EvP.bind hi ?_
  rintro ⟨y, _⟩ hy
  refine EvP.ret ?_
  simpa using hy

theorem areTypes_ev (l : List TType.D) (hf : Fit (.slice TType) l) : EvP (fun k => impl_areTypes.f k (l, ())) (fun y => y.1 = true ↔ Nearly l) := by
  have hs : l.length ≤ 1048576 := hf.1
  simp only [impl_areTypes.f, impl_BaseTypes.f, Option.bind_some, Bool.not_eq_true']
  refine EvP.bind (in_ev _ _ _) ?_
  rintro ⟨y, _⟩ hy
  simp only at hy
  have h3 : ([(1, (0, ((-1), ([], (ByteArray.empty, (⟨#[73, 78, 84]⟩ : ByteArray)))))), (2, (0, ((-1), ([], (ByteArray.empty, (⟨#[66, 79, 79, 76]⟩ : ByteArray)))))), (3, (0, ((-1), ([], (ByteArray.empty, (⟨#[67, 72, 65, 82]⟩ : ByteArray))))))] : List TType.D) = baseL := rfl
  have h3' : baseL.length = 3 := rfl
  simp only [h3, h3'] at hy ⊢
  refine EvP.ite (fun h => EvP.ret ⟨fun e => (by cases e), fun e => ?_⟩) (fun h => ?_)
  · rw [hy] at h
    simp only [decide_eq_false_iff_not] at h
    have := e.1; have := e.2.1
    omega
  have hlen : 3 ≤ l.length ∧ l.length ≤ 24 := by
    have : y = true := by simpa using h
    rw [this] at hy
    have := of_decide_eq_true hy.symm
    omega
  have ht3 : ((3 : Nat) : Int).toNat = 3 := rfl
  simp only [ht3]
  refine EvP.pos (by omega) (EvP.pos (by omega) ?_)
  refine EvP.bind (eqTypes_ev (l.take 3) baseL ⟨by rw [List.length_take]; omega, fun x hx => hf.2 x (List.mem_of_mem_take hx)⟩) ?_
  rintro ⟨z, _⟩ hz
  simp only at hz
  refine EvP.ite (fun h => EvP.ret ⟨fun e => (by cases e), fun e => ?_⟩) (fun h => EvP.pos (by omega) (EvP.pos (by omega) ?_))
  · rw [hz.2 e.2.2.1] at h; cases h
  have hb : l.take 3 = baseL := hz.1 (by simpa using h)
  have hdl : (l.drop 3).length = l.length - 3 := List.length_drop
  refine EvP.scan (L := fun k i => impl_areTypes.l3 k (l, baseL, l.drop 3, ((l.drop 3).length : Int), i, ())) (l.drop 3).length (fun i => TypeAt l (3 + i)) (fun hall => ?_) (fun i hi hall hgo => ?_)
  · simp only [impl_areTypes.l3, decide_eq_true_eq]
    refine EvP.neg (by omega) (EvP.ret ⟨fun _ => ⟨hlen.1, hlen.2, hb, fun i h3 hi => ?_⟩, fun _ => rfl⟩)
    have := hall (i - 3) (by omega)
    rwa [show 3 + (i - 3) = i by omega] at this
  · have hw : w64 ((baseL.length : Int) + (i : Int)) = ((3 + i : Nat) : Int) := by
      rw [h3', w64_id (by omega) (by omega)]; omega
    have hb3 : (baseL.length : Int).toNat = 3 := rfl
    simp only [impl_areTypes.l3, decide_eq_true_eq, hw, Int.toNat_natCast, hb3, next64 (show i ≤ 1099511627776 by omega), Bool.not_eq_true', beq_eq_false_iff_ne, ne_eq, toList_eq, show rdT TType (l.drop 3) i = rdT TType l (3 + i) from rdT_drop]
    refine EvP.pos (by omega) (EvP.pos (by omega) (EvP.pos (by omega) ?_))
    have hno : ¬ TypeAt l (3 + i) → (((false, ()) : Bool × Unit).1 = true ↔ Nearly l) := fun h => ⟨fun e => (by cases e), fun e => absurd (e.2.2.2 (3 + i) (by omega) (by omega)) h⟩
    have hfi : Fit TType (rdT TType l (3 + i)) := hf.2 _ (rdT_mem (by omega))
    have hty : (∀ j, 3 ≤ j → j < 3 + i → ¬ ((rdT TType l (3 + i)).2.2.2.2.2 ≠ ByteArray.empty ∧ (rdT TType l (3 + i)).2.2.2.2.2 = (rdT TType l j).2.2.2.2.2 ∧ (rdT TType l (3 + i)).2.2.2.2.1 = (rdT TType l j).2.2.2.2.1)) →
        EvP (fun k => (impl_isType.f k (l, rdT TType l (3 + i), ())).bind fun y5 => if y5.1 = false then some (false, ()) else impl_areTypes.l3 k (l, baseL, l.drop 3, ((l.drop 3).length : Int), ((i + 1 : Nat) : Int), ())) (fun y => y.1 = true ↔ Nearly l) := by
      intro hap
      refine EvP.bind (isType_ev l _ hs hfi) ?_
      rintro ⟨u, _⟩ hu
      simp only at hu
      refine EvP.ite (fun h => EvP.ret (hno fun e => ?_)) (fun h => hgo ⟨hu.1 (by simpa using h), hap⟩)
      rw [hu.2 e.1] at h; cases h
    refine EvP.ite (fun he => ?_) (fun he => hty fun j _ _ e => e.1 (by simpa using he))
    refine EvP.pos (by omega) (EvP.pos (by omega) (EvP.pos (by omega) (EvP.pos (by omega) ?_)))
    have hpl : ((l.take (3 + i)).drop 3).length = i := by rw [List.length_drop, List.length_take]; omega
    refine EvP.bind (findT_ev _ _ (by rw [hpl]; omega)) ?_
    rintro ⟨v, _⟩ hv
    simp only at hv
    have hiff : v = true ↔ ∃ j, 3 ≤ j ∧ j < 3 + i ∧ (rdT TType l (3 + i)).2.2.2.2.2 = (rdT TType l j).2.2.2.2.2 ∧ (rdT TType l (3 + i)).2.2.2.2.1 = (rdT TType l j).2.2.2.2.1 := by
      rw [hv]
      constructor
      · rintro ⟨p, hp, h1, h2⟩
        rw [hpl] at hp
        rw [rdT_drop, rdT_take (by omega)] at h1 h2
        exact ⟨3 + p, by omega, by omega, h1.symm, h2.symm⟩
      · rintro ⟨j, h0, hj, h1, h2⟩
        refine ⟨j - 3, by rw [hpl]; omega, ?_⟩
        rw [rdT_drop, rdT_take (by omega), show 3 + (j - 3) = j by omega]
        exact ⟨h1.symm, h2.symm⟩
    refine EvP.ite (fun h4 => EvP.ret (hno fun e => ?_)) (fun h4 => hty fun j h0 hj e => h4 (hiff.2 ⟨j, h0, hj, e.2⟩))
    obtain ⟨j, h0, hj, h⟩ := hiff.1 h4
    exact e.2 j h0 hj ⟨he, h⟩

theorem base_iff (l : List TType.D) (h : 3 ≤ l.length) : l.take 3 = baseL ↔ ∀ i, i < 3 → rdT TType l i = rdT TType baseL i := by
  constructor
  · intro e i hi
    rw [← e, rdT_take hi]
  · intro e
    refine List.ext_getElem? fun i => ?_
    by_cases hi : i < 3
    · have h1 : (l.take 3)[i]? = some (rdT TType l i) := by rw [List.getElem?_take, if_pos hi]; exact rdT_some (by omega)
      have h2 : baseL[i]? = some (rdT TType baseL i) := rdT_some (by show i < 3; exact hi)
      rw [h1, h2, e i hi]
    · have h1 : (l.take 3)[i]? = none := List.getElem?_eq_none (by rw [List.length_take]; omega)
      have h2 : baseL[i]? = none := List.getElem?_eq_none (by show 3 ≤ i; omega)
      rw [h1, h2]

theorem base_parts (i : Nat) (h : i < 3) : (rdT TType baseL i).2.1 = (0 : Int) ∧ (rdT TType baseL i).2.2.1 = (-1 : Int) ∧ (rdT TType baseL i).2.2.2.1 = [] ∧ (rdT TType baseL i).2.2.2.2.1 = ByteArray.empty := by
  have : i = 0 ∨ i = 1 ∨ i = 2 := by omega
  rcases this with rfl | rfl | rfl <;> exact ⟨rfl, rfl, rfl, rfl⟩

theorem l3Base_ev (l : List TType.D) (hf : Fit (.slice TType) l) : EvP (fun k => spec_l3Base.f k (l, ())) (fun y => y.1 = true ↔ 3 ≤ l.length ∧ l.take 3 = baseL) := by
  have hs : l.length ≤ 1048576 := hf.1
  simp only [spec_l3Base.f, spec_BaseTypes.f, Option.bind_some, decide_eq_true_eq]
  refine EvP.ite (fun h => EvP.ret ⟨fun e => (by cases e), fun e => by have := e.1; omega⟩) (fun h => ?_)
  have h3 : ([(1, (0, ((-1), ([], (ByteArray.empty, (⟨#[73, 78, 84]⟩ : ByteArray)))))), (2, (0, ((-1), ([], (ByteArray.empty, (⟨#[66, 79, 79, 76]⟩ : ByteArray)))))), (3, (0, ((-1), ([], (ByteArray.empty, (⟨#[67, 72, 65, 82]⟩ : ByteArray))))))] : List TType.D) = baseL := rfl
  simp only [h3]
  have hlen : 3 ≤ l.length := by omega
  have h3' : baseL.length = 3 := rfl
  have hiff := base_iff l hlen
  refine EvP.scan (L := fun k i => spec_l3Base.l2 k (l, baseL, (baseL.length : Int), i, ())) baseL.length (fun i => rdT TType l i = rdT TType baseL i) (fun hall => ?_) (fun i hi hall hgo => ?_)
  · simp only [spec_l3Base.l2, decide_eq_true_eq]
    exact EvP.neg (by omega) (EvP.ret ⟨fun _ => ⟨hlen, hiff.2 hall⟩, fun _ => rfl⟩)
  · simp only [spec_l3Base.l2, decide_eq_true_eq, Int.toNat_natCast, next64 (show i ≤ 1099511627776 by omega), bne_iff_ne, ne_eq, Bool.not_eq_true', beq_eq_false_iff_ne, toList_eq]
    obtain ⟨b1, b2, b3, b4⟩ := base_parts i hi
    have hno : ∀ p : Prop, ¬ p → (rdT TType l i = rdT TType baseL i → p) → (((false, ()) : Bool × Unit).1 = true ↔ 3 ≤ l.length ∧ l.take 3 = baseL) := fun p h h' => ⟨fun e => (by cases e), fun e => absurd (h' (hiff.1 e.2 i hi)) h⟩
    refine EvP.pos (by omega) (EvP.pos (by omega) (EvP.pos (by omega) (EvP.pos (by omega) (EvP.pos (by omega) ?_))))
    refine EvP.ite (fun h1 => EvP.ret (hno _ (fun e => h1 e) (fun e => by rw [e]))) (fun h1 => ?_)
    refine EvP.ite (fun h2 => EvP.ret (hno _ (fun e => h2 e) (fun e => by rw [e]; exact b1))) (fun h2 => ?_)
    refine EvP.ite (fun h3 => EvP.ret (hno _ (fun e => h3 e) (fun e => by rw [e]; exact b2))) (fun h3 => ?_)
    refine EvP.ite (fun h4 => EvP.ret (hno ((rdT TType l i).2.2.2.1 = []) (fun e => by rw [e] at h4; simp at h4) (fun e => by rw [e]; exact b3))) (fun h4 => ?_)
    refine EvP.ite (fun h5 => EvP.ret (hno _ (fun e => h5 e) (fun e => by rw [e]; exact b4))) (fun h5 => ?_)
    refine EvP.ite (fun h6 => EvP.ret (hno _ (fun e => h6 e) (fun e => by rw [e]))) (fun h6 => hgo ((eqTType _ _).2 ⟨by simpa using h1, by rw [b1]; simpa using h2, by rw [b2]; simpa using h3, by rw [b3]; exact List.eq_nil_of_length_eq_zero (by omega), by rw [b4]; simpa using h5, by simpa using h6⟩))

theorem l3Nearly_l7_ev (l : List TType.D) (x : TType.D) (a16 : List TType.D) (a17 a18 : Int) (pre : List TType.D) (hp : pre.length ≤ 1048576) (Q : Bool × Unit → Prop)
    (hbad : ∀ p, p < pre.length → x.2.2.2.2.2 ≠ ByteArray.empty ∧ x.2.2.2.2.2 = (rdT TType pre p).2.2.2.2.2 ∧ x.2.2.2.2.1 = (rdT TType pre p).2.2.2.2.1 → Q (false, ()))
    (hgood : (∀ p, p < pre.length → ¬ (x.2.2.2.2.2 ≠ ByteArray.empty ∧ x.2.2.2.2.2 = (rdT TType pre p).2.2.2.2.2 ∧ x.2.2.2.2.1 = (rdT TType pre p).2.2.2.2.1)) → EvP (fun k => spec_l3Nearly.l3 k (l, a16, a17, w64 (a18 + (1 : Int)), ())) Q) :
    EvP (fun k => spec_l3Nearly.l7 k (l, (x.1, (x.2.1, (x.2.2.1, (x.2.2.2.1, (x.2.2.2.2.1, (x.2.2.2.2.2, ())))))), a16, a17, a18, pre, (pre.length : Int), 0, ())) Q := by
  refine EvP.scan (L := fun k i => spec_l3Nearly.l7 k (l, (x.1, (x.2.1, (x.2.2.1, (x.2.2.2.1, (x.2.2.2.2.1, (x.2.2.2.2.2, ())))))), a16, a17, a18, pre, (pre.length : Int), i, ())) pre.length (fun p => ¬ (x.2.2.2.2.2 ≠ ByteArray.empty ∧ x.2.2.2.2.2 = (rdT TType pre p).2.2.2.2.2 ∧ x.2.2.2.2.1 = (rdT TType pre p).2.2.2.2.1)) (fun hall => ?_) (fun p hp' hall hgo => ?_)
  · simp only [spec_l3Nearly.l7, decide_eq_true_eq]
    exact EvP.neg (by omega) (hgood hall)
  · simp only [spec_l3Nearly.l7, decide_eq_true_eq, Int.toNat_natCast, next64 (show p ≤ 1099511627776 by omega), beq_iff_eq, toList_eq, Bool.not_eq_true', beq_eq_false_iff_ne, ne_eq]
    refine EvP.pos (by omega) (EvP.pos (by omega) (EvP.pos (by omega) (EvP.ite (fun h => EvP.ite (fun h2 => EvP.ite (fun h3 => EvP.ret (hbad p hp' ⟨h, h2, h3⟩)) (fun h3 => hgo fun e => h3 e.2.2)) (fun h2 => hgo fun e => h2 e.2.1)) (fun h => hgo fun e => h e.1))))

theorem l3Nearly_ev (l : List TType.D) (hf : Fit (.slice TType) l) : EvP (fun k => spec_l3Nearly.f k (l, ())) (fun y => y.1 = true ↔ Nearly l) := by
  have hs : l.length ≤ 1048576 := hf.1
  simp only [spec_l3Nearly.f, Bool.not_eq_true', decide_eq_true_eq]
  refine EvP.bind (l3Base_ev l hf) ?_
  rintro ⟨y, _⟩ hy
  simp only at hy
  refine EvP.ite (fun h => EvP.ret ⟨fun e => (by cases e), fun e => ?_⟩) (fun h => EvP.ite (fun h' => EvP.ret ⟨fun e => (by cases e), fun e => by have := e.2.1; omega⟩) (fun h' => ?_))
  · rw [hy.2 ⟨e.1, e.2.2.1⟩] at h; cases h
  obtain ⟨hlen, hb⟩ := hy.1 (by simpa using h)
  refine EvP.pos (by omega) ?_
  have hdl : (l.drop 3).length = l.length - 3 := List.length_drop
  refine EvP.scan (L := fun k i => spec_l3Nearly.l3 k (l, l.drop 3, ((l.drop 3).length : Int), i, ())) (l.drop 3).length (fun i => TypeAt l (3 + i)) (fun hall => ?_) (fun i hi hall hgo => ?_)
  · simp only [spec_l3Nearly.l3, decide_eq_true_eq]
    refine EvP.neg (by omega) (EvP.ret ⟨fun _ => ⟨hlen, by omega, hb, fun i h3 hi => ?_⟩, fun _ => rfl⟩)
    have := hall (i - 3) (by omega)
    rwa [show 3 + (i - 3) = i by omega] at this
  · have hw : w64 ((3 : Int) + (i : Int)) = ((3 + i : Nat) : Int) := by
      rw [w64_id (by omega) (by omega)]; omega
    simp only [spec_l3Nearly.l3, decide_eq_true_eq, hw, Int.toNat_natCast, Bool.not_eq_true', show rdT TType (l.drop 3) i = rdT TType l (3 + i) from rdT_drop]
    refine EvP.pos (by omega) (EvP.pos (by omega) (EvP.pos (by omega) ?_))
    have hno : ¬ TypeAt l (3 + i) → (((false, ()) : Bool × Unit).1 = true ↔ Nearly l) := fun h => ⟨fun e => (by cases e), fun e => absurd (e.2.2.2 (3 + i) (by omega) (by omega)) h⟩
    have hfi : Fit TType (rdT TType l (3 + i)) := hf.2 _ (rdT_mem (by omega))
    refine EvP.bind (l3Type_ev l _ hs hfi) ?_
    rintro ⟨u, _⟩ hu
    simp only at hu
    refine EvP.ite (fun h => EvP.ret (hno fun e => ?_)) (fun h => ?_)
    · rw [hu.2 e.1] at h; cases h
    have hpl : ((l.take (3 + i)).drop 3).length = i := by rw [List.length_drop, List.length_take]; omega
    refine EvP.pos (by omega) (EvP.pos (by omega) (EvP.pos (by omega) ?_))
    refine l3Nearly_l7_ev l (rdT TType l (3 + i)) _ _ _ ((l.take (3 + i)).drop 3) (by rw [hpl]; omega) _ (fun p hp hbad => hno fun e => ?_) (fun hall => ?_)
    · rw [hpl] at hp
      rw [rdT_drop, rdT_take (by omega)] at hbad
      exact e.2 (3 + p) (by omega) (by omega) hbad
    · rw [next64 (show i ≤ 1099511627776 by omega)]
      refine hgo ⟨hu.1 (by simpa using h), fun j h0 hj => ?_⟩
      have := hall (j - 3) (by rw [hpl]; omega)
      rwa [rdT_drop, rdT_take (by omega), show 3 + (j - 3) = j by omega] at this

/-! ### What one comes to: parts, and all that is reached -/

def fparts (f : List TField.D) : List Int := f.map fun x => x.2.2
def parts (t : TType.D) (pointers : Bool) : List Int := (if (0 : Int) ≤ t.2.2.1 ∧ (pointers = true ∨ (t.1 : Int) ≠ 6) then [t.2.2.1] else []) ++ fparts t.2.2.2.1

theorem fparts_next {f : List TField.D} {i : Nat} (h : i < f.length) : fparts (f.take (i + 1)) = fparts (f.take i) ++ [(rdT TField f i).2.2] := by
  rw [List.take_add_one, rdT_some h]
  simp [fparts]

theorem parts_len (t : TType.D) (p : Bool) : (parts t p).length ≤ 1 + t.2.2.2.1.length := by
  unfold parts fparts
  split <;> simp <;> omega

theorem implParts_ev (t : TType.D) (p : Bool) (hf : Fit TType t) : EvP (fun k => impl_Type_parts.f k (t, p, ())) (· = (parts t p, ())) := by
  have hs : t.2.2.2.1.length ≤ 1048576 := hf.2.2.2.1.1
  have hbig := big_eq
  have loop : ∀ init : List Int, init.length ≤ 1 → EvP (fun k => impl_Type_parts.l3 k (init, t.2.2.2.1, (t.2.2.2.1.length : Int), 0, ())) (· = (init ++ fparts t.2.2.2.1, ())) := fun init hi0 => by
    have lp := EvP.loop (L := impl_Type_parts.l3) (Q := (· = (init ++ fparts t.2.2.2.1, ()))) (fun j s => ∃ i : Nat, s = (init ++ fparts (t.2.2.2.1.take i), t.2.2.2.1, (t.2.2.2.1.length : Int), (i : Int), ()) ∧ i ≤ t.2.2.2.1.length ∧ j = t.2.2.2.1.length - i) ?_
    · have := lp _ _ ⟨0, rfl, Nat.zero_le _, rfl⟩
      simpa [fparts] using this
    · rintro j _ ⟨i, rfl, hi, rfl⟩ ih
      simp only [impl_Type_parts.l3, decide_eq_true_eq, Int.toNat_natCast, next64 (show i ≤ 1099511627776 by omega)]
      refine EvP.ite (fun hlt => EvP.pos (by omega) (EvP.pos (by omega) (EvP.pos ?_ ?_))) (fun hge => EvP.ret ?_)
      · simp only [List.length_append, fparts, List.length_map, List.length_take]; omega
      · have := ih (t.2.2.2.1.length - (i + 1)) _ (by omega) ⟨i + 1, rfl, by omega, rfl⟩
        rwa [fparts_next (by omega), ← List.append_assoc] at this
      · rw [List.take_of_length_le (by omega)]
  simp only [impl_Type_parts.f, decide_eq_true_eq, bne_iff_ne, ne_eq]
  unfold parts
  refine EvP.ite (fun h => EvP.ite (fun hp => ?_) (fun hp => EvP.ite (fun hk => ?_) (fun hk => ?_))) (fun h => ?_)
  · rw [if_pos ⟨h, .inl hp⟩]; exact loop _ (by simp)
  · rw [if_pos ⟨h, .inr hk⟩]; exact loop _ (by simp)
  · rw [if_neg (fun e => e.2.elim hp hk)]; exact loop _ (by simp)
  · rw [if_neg (fun e => h e.1)]; exact loop _ (by simp)

theorem specParts_ev (t : TType.D) (hf : Fit TType t) : EvP (fun k => spec_l3Parts.f k (t, ())) (· = (parts t false, ())) := by
  have hs : t.2.2.2.1.length ≤ 1048576 := hf.2.2.2.1.1
  have hbig := big_eq
  have loop : ∀ init : List Int, init.length ≤ 1 → EvP (fun k => spec_l3Parts.l3 k (init, t.2.2.2.1, (t.2.2.2.1.length : Int), 0, ())) (· = (init ++ fparts t.2.2.2.1, ())) := fun init hi0 => by
    have lp := EvP.loop (L := spec_l3Parts.l3) (Q := (· = (init ++ fparts t.2.2.2.1, ()))) (fun j s => ∃ i : Nat, s = (init ++ fparts (t.2.2.2.1.take i), t.2.2.2.1, (t.2.2.2.1.length : Int), (i : Int), ()) ∧ i ≤ t.2.2.2.1.length ∧ j = t.2.2.2.1.length - i) ?_
    · have := lp _ _ ⟨0, rfl, Nat.zero_le _, rfl⟩
      simpa [fparts] using this
    · rintro j _ ⟨i, rfl, hi, rfl⟩ ih
      simp only [spec_l3Parts.l3, decide_eq_true_eq, Int.toNat_natCast, next64 (show i ≤ 1099511627776 by omega)]
      refine EvP.ite (fun hlt => EvP.pos (by omega) (EvP.pos (by omega) (EvP.pos ?_ ?_))) (fun hge => EvP.ret ?_)
      · simp only [List.length_append, fparts, List.length_map, List.length_take]; omega
      · have := ih (t.2.2.2.1.length - (i + 1)) _ (by omega) ⟨i + 1, rfl, by omega, rfl⟩
        rwa [fparts_next (by omega), ← List.append_assoc] at this
      · rw [List.take_of_length_le (by omega)]
  simp only [spec_l3Parts.f, decide_eq_true_eq, bne_iff_ne, ne_eq]
  unfold parts
  refine EvP.ite (fun h => EvP.ite (fun hk => ?_) (fun hk => ?_)) (fun h => ?_)
  · rw [if_pos ⟨h, .inr hk⟩]; exact loop _ (by simp)
  · rw [if_neg (fun e => e.2.elim (fun h => by cases h) hk)]; exact loop _ (by simp)
  · rw [if_neg (fun e => h e.1)]; exact loop _ (by simp)

/-! lists of numbers -/

theorem rdI_mem {l : List Int} {v : Int} : v ∈ l ↔ ∃ p, p < l.length ∧ rdT (.int .i64) l p = v := by
  constructor
  · intro h
    obtain ⟨p, hp, he⟩ := List.getElem_of_mem h
    exact ⟨p, hp, by rw [← he]; simp [rdT, List.getD, List.getElem?_eq_getElem hp]⟩
  · rintro ⟨p, hp, rfl⟩
    exact rdT_mem (t := .int .i64) hp

theorem contains_ev (l : List Int) (v : Int) (hl : l.length ≤ 1048576) : EvP (fun k => slices_Contains_int_int.f k (l, v, ())) (fun y => y.1 = true ↔ v ∈ l) := by
  simp only [slices_Contains_int_int.f]
  have hi : EvP (fun k => slices_Index_int_int.f k (l, v, ())) (fun y => 0 ≤ y.1 ↔ v ∈ l) := by
    simp only [slices_Index_int_int.f]
    refine EvP.scan (L := fun k i => slices_Index_int_int.l1 k (l, v, (l.length : Int), i, ())) l.length (fun p => ¬ v = rdT (.int .i64) l p) (fun hall => ?_) (fun i hi hall hgo => ?_)
    · simp only [slices_Index_int_int.l1, decide_eq_true_eq]
      refine EvP.neg (by omega) (EvP.ret ⟨fun h => absurd h (by show ¬ (0 : Int) ≤ -1; decide), fun h => ?_⟩)
      obtain ⟨p, hp, h⟩ := rdI_mem.1 h
      exact absurd h.symm (hall p hp)
    · simp only [slices_Index_int_int.l1, decide_eq_true_eq, Int.toNat_natCast, next64 (show i ≤ 1099511627776 by omega), beq_iff_eq]
      refine EvP.pos (by omega) (EvP.pos (by omega) (EvP.pos (by omega) (EvP.ite (fun h => EvP.ret ⟨fun _ => rdI_mem.2 ⟨i, hi, h.symm⟩, fun _ => ?_⟩) (fun h => hgo h))))
      show (0 : Int) ≤ (i : Int)
      omega
  refine EvP.bind hi ?_
  rintro ⟨y, _⟩ hy
  refine EvP.ret ?_
  simpa using hy

theorem l1Has_ev (l : List Int) (v : Int) (hl : l.length ≤ 1048576) : EvP (fun k => spec_l1Has.f k (l, v, ())) (fun y => y.1 = true ↔ v ∈ l) := by
  simp only [spec_l1Has.f]
  refine EvP.scan (L := fun k i => spec_l1Has.l1 k (v, l, (l.length : Int), i, ())) l.length (fun p => ¬ rdT (.int .i64) l p = v) (fun hall => ?_) (fun i hi hall hgo => ?_)
  · simp only [spec_l1Has.l1, decide_eq_true_eq]
    refine EvP.neg (by omega) (EvP.ret ⟨fun h => (by cases h), fun h => ?_⟩)
    obtain ⟨p, hp, h⟩ := rdI_mem.1 h
    exact absurd h (hall p hp)
  · simp only [spec_l1Has.l1, decide_eq_true_eq, Int.toNat_natCast, next64 (show i ≤ 1099511627776 by omega), beq_iff_eq]
    exact EvP.pos (by omega) (EvP.pos (by omega) (EvP.pos (by omega) (EvP.ite (fun h => EvP.ret ⟨fun _ => rdI_mem.2 ⟨i, hi, h⟩, fun _ => rfl⟩) (fun h => hgo h))))

/-- A number put to its place in a row. -/
def ins (n : Int) : List Int → List Int
  | [] => [n]
  | x :: r => if x < n then x :: ins n r else if x = n then x :: r else n :: x :: r

theorem mem_ins {n x : Int} : ∀ l : List Int, x ∈ ins n l ↔ x = n ∨ x ∈ l
  | [] => by simp [ins]
  | y :: r => by
    unfold ins
    split
    · simp only [List.mem_cons, mem_ins r]
      constructor
      · rintro (h | h | h) <;> simp [h]
      · rintro (h | h | h) <;> simp [h]
    · split
      · rename_i h; subst h; simp
      · simp

theorem ins_len {n : Int} : ∀ l : List Int, n ∉ l → (ins n l).length = l.length + 1
  | [], _ => rfl
  | y :: r, h => by
    unfold ins
    split
    · simp only [List.length_cons, ins_len r (fun e => h (List.mem_cons_of_mem _ e))]
    · split
      · rename_i e; exact absurd (by simp [e]) h
      · simp

theorem ins_nodup {n : Int} : ∀ l : List Int, l.Nodup → n ∉ l → (ins n l).Nodup
  | [], _, _ => by simp [ins]
  | y :: r, hn, h => by
    unfold ins
    rw [List.nodup_cons] at hn
    split
    · refine List.nodup_cons.2 ⟨fun e => ?_, ins_nodup r hn.2 (fun e => h (List.mem_cons_of_mem _ e))⟩
      rcases (mem_ins r).1 e with e | e
      · exact h (by simp [e])
      · exact hn.1 e
    · split
      · rename_i e; exact absurd (by simp [e]) h
      · exact List.nodup_cons.2 ⟨h, List.nodup_cons.2 hn⟩

theorem l1Put_ev (l : List Int) (n : Int) (hl : l.length ≤ 1048576) : EvP (fun k => spec_l1Put.f k (l, n, ())) (· = (ins n l, ())) := by
  have hbig := big_eq
  have hnil : ∀ r : List Int, ([] : List Int) ++ r = r := fun _ => rfl
  simp only [spec_l1Put.f]
  refine EvP.loop (L := spec_l1Put.l1) (Q := (· = (ins n l, ()))) (fun j s => ∃ i : Nat, s = (l, n, (i : Int), ()) ∧ i ≤ l.length ∧ j = l.length - i ∧ ins n l = l.take i ++ ins n (l.drop i)) ?_ l.length _ ⟨0, rfl, Nat.zero_le _, rfl, rfl⟩
  rintro j _ ⟨i, rfl, hi, rfl, hg⟩ ih
  simp only [spec_l1Put.l1, decide_eq_true_eq, Int.toNat_natCast, next64 (show i ≤ 1099511627776 by omega), beq_iff_eq, hnil, List.length_append, List.length_take, List.length_drop, List.length_singleton]
  rcases Nat.lt_or_ge i l.length with h | h
  · have hd := drop_rd (t := .int .i64) h
    rw [hd] at hg
    simp only [ins] at hg
    refine EvP.pos (by omega) (EvP.pos (by omega) (EvP.pos (by omega) (EvP.ite (fun hlt => ?_) (fun hge => ?_))))
    · rw [if_pos hlt] at hg
      refine ih (l.length - (i + 1)) _ (by omega) ⟨i + 1, rfl, by omega, rfl, ?_⟩
      rw [hg, List.take_add_one, rdT_some (t := .int .i64) h]
      simp
    · rw [if_neg hge] at hg
      refine EvP.pos (by omega) (EvP.pos (by omega) (EvP.pos (by omega) (EvP.ite (fun he => EvP.ret ?_) (fun he => ?_))))
      · rw [if_pos he, ← hd, List.take_append_drop] at hg
        rw [hg]
      · rw [if_neg he, ← hd] at hg
        refine EvP.pos (by omega) (EvP.pos (by omega) (EvP.pos (by omega) (EvP.pos (by omega) (EvP.pos (by omega) (EvP.pos (by omega) (EvP.pos (by omega) (EvP.ret ?_)))))))
        rw [hg]; simp
  · obtain rfl : i = l.length := by omega
    rw [List.drop_eq_nil_of_le (Nat.le_refl _)] at hg
    refine EvP.neg (by omega) (EvP.neg (by omega) (EvP.pos (by omega) (EvP.pos (by omega) (EvP.pos (by omega) (EvP.pos (by omega) (EvP.pos (by omega) (EvP.pos (by omega) (EvP.pos (by omega) (EvP.ret ?_)))))))))
    rw [hg, List.drop_eq_nil_of_le (Nat.le_refl _)]; simp [ins]

theorem mem_compact (l : List Int) (x : Int) : x ∈ Lib.compact l ↔ x ∈ l := by
  unfold Lib.compact Lib.compactUpTo
  simp only [List.mem_map, List.mem_filter, List.mem_range]
  have hget : ∀ i, i < l.length → l.toArray[i]! = rdT (.int .i64) l i := fun i hi => by
    simp [rdT, List.getD, hi]
  constructor
  · rintro ⟨i, ⟨hi, _⟩, rfl⟩
    rw [hget i hi]
    exact rdI_mem.2 ⟨i, hi, rfl⟩
  · intro h
    obtain ⟨m, ⟨hm, hx⟩, hmin⟩ := least (p := fun i => i < l.length ∧ rdT (.int .i64) l i = x) (rdI_mem.1 h)
    refine ⟨m, ⟨hm, ?_⟩, by rw [hget m hm]; exact hx⟩
    unfold Lib.keeps
    cases m with
    | zero => simp
    | succ m =>
      have hne : ¬ rdT (.int .i64) l m = x := fun e => by
        have := hmin m ⟨by omega, e⟩
        omega
      simp only [Bool.or_eq_true, decide_eq_true_eq, Nat.add_sub_cancel, hget (m + 1) hm, hget m (by omega)]
      right
      rw [hx]
      exact fun e => hne e.symm

theorem mem_sorted (l : List Int) (x : Int) : x ∈ sorted l ↔ x ∈ l := by
  unfold sorted
  exact List.mem_mergeSort

theorem sorted_len (l : List Int) : (sorted l).length = l.length := by simp [sorted]

inductive Reach (l : List TType.D) (start : Int → Prop) : Int → Prop where
  | base {n : Int} : start n → Reach l start n
  | step {m n : Int} : Reach l start m → n ∈ parts (rdT TType l m.toNat) false → Reach l start n

theorem Reach.mono {l : List TType.D} {s s' : Int → Prop} (h : ∀ n, s n → s' n) {n : Int} (r : Reach l s n) : Reach l s' n := by
  induction r with
  | base a => exact .base (h _ a)
  | step _ b ih => exact .step ih b

def Round (l : List TType.D) (n : Int) : Prop := Reach l (fun x => x ∈ parts (rdT TType l n.toNat) false) n

structure Tidy (l : List TType.D) : Prop where
  len : l.length ≤ 24
  inr : ∀ i, i < l.length → ∀ n ∈ parts (rdT TType l i) false, InR l.length n
  few : ∀ i, i < l.length → (parts (rdT TType l i) false).length ≤ 7

theorem InR.nat {N : Nat} {n : Int} (h : InR N n) : n.toNat < N ∧ ((n.toNat : Nat) : Int) = n := by
  unfold InR at h
  omega

theorem Nearly.tidy {l : List TType.D} (h : Nearly l) : Tidy l := by
  obtain ⟨h3, h24, hb, hall⟩ := h
  have hfields : ∀ f : List TField.D, FieldsOk l.length f → (∀ n ∈ fparts f, InR l.length n) ∧ (fparts f).length ≤ 6 := by
    intro f hf
    refine ⟨fun n hn => ?_, by simpa [fparts] using hf.2⟩
    simp only [fparts, List.mem_map] at hn
    obtain ⟨x, hx, rfl⟩ := hn
    obtain ⟨i, hi, rfl⟩ := List.getElem_of_mem hx
    have := (hf.1 i hi).1.2.2
    rwa [show rdT TField f i = f[i] from rdT_get hi] at this
  have main : ∀ i, i < l.length → (∀ n ∈ parts (rdT TType l i) false, InR l.length n) ∧ (parts (rdT TType l i) false).length ≤ 7 := by
    intro i hi
    rcases Nat.lt_or_ge i 3 with h | h
    · have e := (base_iff l h3).1 hb i h
      obtain ⟨_, b2, b3, _⟩ := base_parts i h
      have : parts (rdT TType l i) false = [] := by
        rw [e]
        unfold parts
        rw [b2, b3, if_neg (fun e => absurd e.1 (by decide))]
        rfl
      rw [this]
      exact ⟨fun n hn => (by cases hn), by simp⟩
    · obtain ⟨_, hnf, hk⟩ := (hall i h hi).1
      generalize rdT TType l i = t at *
      have hbase : (InR l.length t.2.2.1 ∨ (t.2.2.1 : Int) = -1) ∧ ((∀ n ∈ fparts t.2.2.2.1, InR l.length n) ∧ (fparts t.2.2.2.1).length ≤ 6) := by
        split at hk
        · rename_i h4
          have h0 := hnf (by rw [h4]; decide)
          have : t.2.2.2.1 = [] := List.eq_nil_of_length_eq_zero h0
          rw [this]
          exact ⟨.inl hk.2, fun n hn => by simp [fparts] at hn, by simp [fparts]⟩
        · split at hk
          · exact ⟨hk.2.1.elim .inr fun h => .inl h.1, hfields _ hk.2.2⟩
          · rename_i h5
            have : t.2.2.2.1 = [] := List.eq_nil_of_length_eq_zero (hnf h5)
            rw [this]
            exact ⟨.inl hk.2.2.1, fun n hn => by simp [fparts] at hn, by simp [fparts]⟩
      unfold parts
      split
      · rename_i hc
        refine ⟨fun n hn => ?_, by simp; omega⟩
        rcases List.mem_append.1 hn with hn | hn
        · rw [List.mem_singleton.1 hn]
          rcases hbase.1 with h | h
          · exact h
          · have := hc.1; rw [h] at this; exact absurd this (by decide)
        · exact hbase.2.1 n hn
      · refine ⟨fun n hn => hbase.2.1 n (by simpa using hn), ?_⟩
        have := hbase.2.2
        simp; omega
  exact ⟨h24, fun i hi => (main i hi).1, fun i hi => (main i hi).2⟩

theorem nodup_bound : ∀ (N : Nat) (l : List Int), l.Nodup → (∀ x ∈ l, InR N x) → l.length ≤ N
  | 0, l, _, h => by
    match l with
    | [] => simp
    | x :: r => have := h x (by simp); unfold InR at this; omega
  | N + 1, l, hn, h => by
    have h1 := nodup_bound N (l.erase (N : Int)) (hn.erase _) (fun x hx => by
      have h2 := (hn.mem_erase_iff).1 hx
      have h3 := h x h2.2
      have h4 := h2.1
      unfold InR at *
      omega)
    rw [List.length_erase] at h1
    split at h1 <;> omega

theorem parts_fit {l : List TType.D} (hf : Fit (.slice TType) l) {n : Int} (h : InR l.length n) : Fit TType (rdT TType l n.toNat) := hf.2 _ (rdT_mem h.nat.1)

theorem l3From_ev (l : List TType.D) (start : List Int) (hf : Fit (.slice TType) l) (ht : Tidy l) (hs : start.length ≤ 1000) (hr : ∀ n ∈ start, InR l.length n) :
    EvP (fun k => spec_l3From.f k (l, start, false, ())) (fun y => (∀ n, n ∈ y.1 ↔ Reach l (· ∈ start) n) ∧ y.1.length ≤ l.length) := by
  have hbig := big_eq
  have hlen := ht.len
  have hnil : ([] : List Int) ++ start = start := rfl
  simp only [spec_l3From.f, spec_l1Own.f, hnil]
  have h0 : EvP (fun _ => if 0 + start.length ≤ big then (some (start, ()) : Option (List Int × Unit)) else none) (· = (start, ())) := EvP.pos (by omega) (EvP.ret rfl)
  refine EvP.bind h0 ?_
  rintro _ rfl
  refine EvP.loop (L := spec_l3From.l1) (Q := fun y => (∀ n, n ∈ y.1 ↔ Reach l (· ∈ start) n) ∧ y.1.length ≤ l.length) (fun j s => ∃ out queue : List Int, s = (l, false, out, queue, ()) ∧ j = (l.length - out.length) * 8 + queue.length ∧ j ≤ 2000 ∧ out.Nodup ∧ (∀ n ∈ out, InR l.length n ∧ Reach l (· ∈ start) n) ∧ (∀ n ∈ queue, InR l.length n ∧ Reach l (· ∈ start) n) ∧
      (∀ m ∈ out, ∀ n ∈ parts (rdT TType l m.toNat) false, n ∈ out ∨ n ∈ queue) ∧ (∀ n ∈ start, n ∈ out ∨ n ∈ queue)) ?_ _ _ ⟨[], start, rfl, rfl, by simp; omega, List.nodup_nil, fun n h => (by cases h), fun n h => ⟨hr n h, .base h⟩, fun m h => (by cases h), fun n h => .inr h⟩
  rintro j _ ⟨out, queue, rfl, hj, hjb, hn, ho, hq, hp, hst⟩ ih
  have hol := nodup_bound l.length out hn fun x hx => (ho x hx).1
  simp only [spec_l3From.l1, decide_eq_true_eq, if_neg (show ¬ (false = true) by decide)]
  match queue, hj, hq, hp, hst, ih with
  | [], hj, hq, hp, hst, ih =>
    refine EvP.neg (by simp) (EvP.ret ⟨fun n => ⟨fun h => (ho n h).2, fun h => ?_⟩, hol⟩)
    induction h with
    | base a => exact (hst _ a).resolve_right (by simp)
    | step _ b ih => exact (hp _ ih _ b).resolve_right (by simp)
  | q :: r, hj, hq, hp, hst, ih =>
    have hq0 : rdT (.int .i64) (q :: r) 0 = q := rfl
    have hd1 : (q :: r).drop 1 = r := rfl
    have hl1 : (q :: r).length = r.length + 1 := rfl
    simp only [hq0, hd1]
    obtain ⟨hqi, hqr⟩ := hq q (by simp)
    refine EvP.pos (by rw [hl1]; omega) (EvP.pos (by rw [hl1]; omega) (EvP.pos (by rw [hl1]; omega) ?_))
    refine EvP.bind (l1Has_ev _ _ (by omega)) ?_
    rintro ⟨y, _⟩ hy
    simp only at hy
    refine EvP.ite (fun h => ?_) (fun h => ?_)
    · have hmem := hy.1 h
      refine ih ((l.length - out.length) * 8 + r.length) _ (by omega) ⟨out, r, rfl, rfl, by omega, hn, ho, fun n h => hq n (by simp [h]), fun m hm n h => ?_, fun n h => ?_⟩
      · rcases hp m hm n h with h | h
        · exact .inl h
        · rcases List.mem_cons.1 h with rfl | h
          · exact .inl hmem
          · exact .inr h
      · rcases hst n h with h | h
        · exact .inl h
        · rcases List.mem_cons.1 h with rfl | h
          · exact .inl hmem
          · exact .inr h
    · have hmem : q ∉ out := fun e => h (hy.2 e)
      refine EvP.bind (l1Put_ev _ _ (by omega)) ?_
      rintro _ rfl
      refine EvP.pos hqi.1 (EvP.pos hqi.2 ?_)
      refine EvP.bind (specParts_ev _ (parts_fit hf hqi)) ?_
      rintro _ rfl
      have hfew := ht.few _ hqi.nat.1
      have hil := ins_len out hmem
      have hin := nodup_bound l.length (ins q out) (ins_nodup out hn hmem) fun x hx => by
        rcases (mem_ins out).1 hx with rfl | hx
        · exact hqi
        · exact (ho x hx).1
      refine EvP.pos (show ((q :: r).length - 1) + (parts (rdT TType l q.toNat) false).length ≤ big by omega) ?_
      refine ih ((l.length - (ins q out).length) * 8 + (r ++ parts (rdT TType l q.toNat) false).length) _ (by rw [List.length_append, hil]; omega) ⟨ins q out, r ++ parts (rdT TType l q.toNat) false, rfl, rfl, by rw [List.length_append, hil]; omega, ins_nodup out hn hmem, fun n h => ?_, fun n h => ?_, fun m hm n h => ?_, fun n h => ?_⟩
      · rcases (mem_ins out).1 h with rfl | h
        · exact ⟨hqi, hqr⟩
        · exact ho n h
      · rcases List.mem_append.1 h with h | h
        · exact hq n (by simp [h])
        · exact ⟨ht.inr _ hqi.nat.1 n h, .step hqr h⟩
      · rcases (mem_ins out).1 hm with rfl | hm
        · exact .inr (List.mem_append.2 (.inr h))
        · rcases hp m hm n h with h | h
          · exact .inl ((mem_ins out).2 (.inr h))
          · rcases List.mem_cons.1 h with rfl | h
            · exact .inl ((mem_ins out).2 (.inl rfl))
            · exact .inr (List.mem_append.2 (.inl h))
      · rcases hst n h with h | h
        · exact .inl ((mem_ins out).2 (.inr h))
        · rcases List.mem_cons.1 h with rfl | h
          · exact .inl ((mem_ins out).2 (.inl rfl))
          · exact .inr (List.mem_append.2 (.inl h))

theorem sort_ev (l : List Int) (hl : l.length ≤ 1048576) : EvP (fun k => slices_Sort_int.f k (l, ())) (· = (sorted l, ())) := by
  have hbig := big_eq
  simp only [slices_Sort_int.f]
  exact EvP.pos (by omega) (EvP.ret rfl)

theorem compact_ev (l : List Int) (hl : l.length ≤ 1048576) : EvP (fun k => slices_Compact_int.f k (l, ())) (· = (Lib.compact l, ())) := by
  have hbig := big_eq
  simp only [slices_Compact_int.f]
  exact EvP.pos (by omega) (EvP.ret rfl)

theorem clone_ev (l : List Int) (hl : l.length ≤ 1048576) : EvP (fun k => slices_Clone_int_int.f k (l, ())) (· = (l, ())) := by
  have hbig := big_eq
  simp only [slices_Clone_int_int.f]
  refine EvP.fork (a := (l, ())) rfl (fun h => EvP.pos rfl (EvP.ret ?_)) (EvP.neg (by decide) (EvP.pos (by omega) (EvP.ret rfl)))
  rw [List.eq_nil_of_length_eq_zero h]

/-- What is known while all that is reached is gathered. -/
structure RInv (l : List TType.D) (start out : List Int) : Prop where
  new : ∃ new : List Int, out = start ++ new ∧ new.Nodup ∧ ∀ x ∈ new, InR l.length x
  all : ∀ n ∈ out, InR l.length n ∧ Reach l (· ∈ start) n

theorem RInv.len {l : List TType.D} {start out : List Int} (h : RInv l start out) : out.length ≤ start.length + l.length := by
  obtain ⟨new, rfl, h1, h2⟩ := h.new
  have := nodup_bound l.length new h1 h2
  rw [List.length_append]; omega

theorem RInv.add {l : List TType.D} {start out : List Int} (h : RInv l start out) {n : Int} (hn : n ∉ out) (hi : InR l.length n) (hr : Reach l (· ∈ start) n) : RInv l start (out ++ [n]) := by
  obtain ⟨new, rfl, h1, h2⟩ := h.new
  refine ⟨⟨new ++ [n], by simp, ?_, fun x hx => ?_⟩, fun x hx => ?_⟩
  · rw [List.nodup_append]
    refine ⟨h1, by simp, fun a ha b hb => ?_⟩
    rw [List.mem_singleton.1 hb]
    rintro rfl
    exact hn (List.mem_append.2 (.inr ha))
  · rcases List.mem_append.1 hx with hx | hx
    · exact h2 x hx
    · rw [List.mem_singleton.1 hx]; exact hi
  · rcases List.mem_append.1 hx with hx | hx
    · exact h.all x hx
    · rw [List.mem_singleton.1 hx]; exact ⟨hi, hr⟩

theorem rdI_left {a b : List Int} {i : Nat} (h : i < a.length) : rdT (.int .i64) (a ++ b) i = rdT (.int .i64) a i := by
  simp only [rdT, List.getD, List.getElem?_append_left h]

/-- The parts of one type are gathered. -/
theorem reached_l4_ev (l : List TType.D) (start : List Int) (i : Nat) (hi : i ≤ 10000) (ps : List Int) (hps : ps.length ≤ 7) (hpi : ∀ n ∈ ps, InR l.length n ∧ Reach l (· ∈ start) n) (hlen : l.length ≤ 24) (hst : start.length ≤ 1000) (Q : List Int × Unit → Prop) (out0 : List Int) (h0 : RInv l start out0)
    (hgo : ∀ new : List Int, RInv l start (out0 ++ new) → (∀ n ∈ ps, n ∈ out0 ++ new) → EvP (fun k => impl_reached.l1 k (l, false, out0 ++ new, ((i + 1 : Nat) : Int), ())) Q) :
    EvP (fun k => impl_reached.l4 k (l, false, out0, (i : Int), ps, (ps.length : Int), 0, ())) Q := by
  have hbig := big_eq
  refine EvP.loop (L := impl_reached.l4) (Q := Q) (fun j s => ∃ (p : Nat) (new : List Int), s = (l, false, out0 ++ new, (i : Int), ps, (ps.length : Int), (p : Int), ()) ∧ p ≤ ps.length ∧ j = ps.length - p ∧ RInv l start (out0 ++ new) ∧ ∀ q, q < p → rdT (.int .i64) ps q ∈ out0 ++ new) ?_ ps.length _ ⟨0, [], by simp, Nat.zero_le _, rfl, by simpa using h0, fun q h => absurd h (Nat.not_lt_zero _)⟩
  rintro j _ ⟨p, new, rfl, hp, rfl, hI, hall⟩ ih
  have hol := hI.len
  simp only [impl_reached.l4, decide_eq_true_eq, Int.toNat_natCast, next64 (show p ≤ 1099511627776 by omega), next64 (show i ≤ 1099511627776 by omega), Bool.not_eq_true']
  refine EvP.ite (fun hlt => EvP.pos (by omega) (EvP.pos (by omega) ?_)) (fun hge => hgo new hI fun n hn => ?_)
  · have hpl : p < ps.length := by omega
    have hmem := rdT_mem (t := .int .i64) hpl
    refine EvP.bind (contains_ev _ _ (by omega)) ?_
    rintro ⟨y, _⟩ hy
    simp only at hy
    refine EvP.ite (fun h => ?_) (fun h => ?_)
    · have hn : rdT (.int .i64) ps p ∉ out0 ++ new := fun e => by rw [hy.2 e] at h; cases h
      refine EvP.pos (by omega) ?_
      have := ih (ps.length - (p + 1)) _ (by omega) ⟨p + 1, new ++ [rdT (.int .i64) ps p], rfl, by omega, rfl, ?_, fun q hq => ?_⟩
      · rwa [← List.append_assoc] at this
      · rw [← List.append_assoc]; exact hI.add hn (hpi _ hmem).1 (hpi _ hmem).2
      · rw [← List.append_assoc]
        rcases Nat.lt_or_ge q p with h2 | h2
        · exact List.mem_append.2 (.inl (hall q h2))
        · obtain rfl : q = p := by omega
          exact List.mem_append.2 (.inr (by simp))
    · refine ih (ps.length - (p + 1)) _ (by omega) ⟨p + 1, new, rfl, by omega, rfl, hI, fun q hq => ?_⟩
      rcases Nat.lt_or_ge q p with h2 | h2
      · exact hall q h2
      · obtain rfl : q = p := by omega
        exact hy.1 (by simpa using h)
  · obtain ⟨q, hq, rfl⟩ := rdI_mem.1 hn
    exact hall q (by omega)

theorem reached_ev (l : List TType.D) (start : List Int) (hf : Fit (.slice TType) l) (ht : Tidy l) (hs : start.length ≤ 1000) (hr : ∀ n ∈ start, InR l.length n) :
    EvP (fun k => impl_reached.f k (l, start, false, ())) (fun y => (∀ n, n ∈ y.1 ↔ Reach l (· ∈ start) n) ∧ y.1.length ≤ 1024) := by
  have hbig := big_eq
  have hlen := ht.len
  simp only [impl_reached.f]
  refine EvP.bind (clone_ev _ (by omega)) ?_
  rintro _ rfl
  refine EvP.loop (L := impl_reached.l1) (Q := fun y => (∀ n, n ∈ y.1 ↔ Reach l (· ∈ start) n) ∧ y.1.length ≤ 1024) (fun j s => ∃ (i : Nat) (out : List Int), s = (l, false, out, (i : Int), ()) ∧ i ≤ out.length ∧ j = start.length + l.length - i ∧ RInv l start out ∧ ∀ q, q < i → ∀ n ∈ parts (rdT TType l (rdT (.int .i64) out q).toNat) false, n ∈ out) ?_ _ _ ⟨0, start, rfl, Nat.zero_le _, rfl, ⟨⟨[], by simp, List.nodup_nil, fun x h => (by cases h)⟩, fun n h => ⟨hr n h, .base h⟩⟩, fun q h => absurd h (Nat.not_lt_zero _)⟩
  rintro j _ ⟨i, out, rfl, hi, rfl, hI, hall⟩ ih
  have hol := hI.len
  simp only [impl_reached.l1, decide_eq_true_eq, Int.toNat_natCast]
  refine EvP.ite (fun hlt => ?_) (fun hge => ?_)
  · have hil : i < out.length := by omega
    obtain ⟨hni, hnr⟩ := hI.all _ (rdT_mem (t := .int .i64) hil)
    refine EvP.pos (by omega) (EvP.pos (by omega) (EvP.pos hni.1 (EvP.pos hni.2 ?_)))
    refine EvP.bind (implParts_ev _ _ (parts_fit hf hni)) ?_
    rintro _ rfl
    refine reached_l4_ev l start i (by omega) _ (ht.few _ hni.nat.1) (fun n hn => ⟨ht.inr _ hni.nat.1 n hn, .step hnr hn⟩) hlen hs _ out hI fun new hI' hps => ?_
    refine ih (start.length + l.length - (i + 1)) _ (by omega) ⟨i + 1, out ++ new, rfl, by rw [List.length_append]; omega, rfl, hI', fun q hq n hn => ?_⟩
    rw [rdI_left (by omega)] at hn
    rcases Nat.lt_or_ge q i with h2 | h2
    · exact List.mem_append.2 (.inl (hall q h2 n hn))
    · obtain rfl : q = i := by omega
      exact hps n hn
  · refine EvP.bind (sort_ev _ (by omega)) ?_
    rintro _ rfl
    refine EvP.ret ⟨fun n => ?_, by rw [sorted_len]; omega⟩
    rw [mem_sorted]
    refine ⟨fun h => (hI.all n h).2, fun h => ?_⟩
    induction h with
    | base a =>
      obtain ⟨new, rfl, _⟩ := hI.new
      exact List.mem_append.2 (.inl a)
    | step _ b ih =>
      obtain ⟨q, hq, he⟩ := rdI_mem.1 ih
      rw [← he] at b
      exact hall q (by omega) _ b

theorem isRound_ev (l : List TType.D) (n : Int) (hf : Fit (.slice TType) l) (ht : Tidy l) (hn : InR l.length n) : EvP (fun k => impl_isRound.f k (l, n, ())) (fun y => y.1 = true ↔ Round l n) := by
  simp only [impl_isRound.f]
  refine EvP.pos hn.1 (EvP.pos hn.2 ?_)
  refine EvP.bind (implParts_ev _ _ (parts_fit hf hn)) ?_
  rintro _ rfl
  have h7 := ht.few _ hn.nat.1
  refine EvP.bind (sort_ev _ (by simp only; omega)) ?_
  rintro _ rfl
  refine EvP.bind (compact_ev _ (by simp only [sorted_len]; omega)) ?_
  rintro _ rfl
  have hmem : ∀ x, x ∈ Lib.compact (sorted (parts (rdT TType l n.toNat) false)) ↔ x ∈ parts (rdT TType l n.toNat) false := fun x => (mem_compact _ x).trans (mem_sorted _ x)
  refine EvP.bind (reached_ev l _ hf ht ?_ fun x hx => ht.inr _ hn.nat.1 x ((hmem x).1 hx)) ?_
  · have := Lib.compact_length_le (sorted (parts (rdT TType l n.toNat) false))
    rw [sorted_len] at this
    simp only
    omega
  rintro ⟨y, _⟩ ⟨hy, hyl⟩
  refine EvP.bind (contains_ev y n (by simp only at hyl; omega)) ?_
  rintro ⟨z, _⟩ hz
  refine EvP.ret ?_
  simp only at hy hz ⊢
  rw [hz, hy]
  exact ⟨fun h => h.mono fun x hx => (hmem x).1 hx, fun h => h.mono fun x hx => (hmem x).2 hx⟩

theorem l3Round_ev (l : List TType.D) (n : Int) (hf : Fit (.slice TType) l) (ht : Tidy l) (hn : InR l.length n) : EvP (fun k => spec_l3Round.f k (l, n, ())) (fun y => y.1 = true ↔ Round l n) := by
  simp only [spec_l3Round.f]
  refine EvP.pos hn.1 (EvP.pos hn.2 ?_)
  refine EvP.bind (specParts_ev _ (parts_fit hf hn)) ?_
  rintro _ rfl
  have h7 := ht.few _ hn.nat.1
  have hlen := ht.len
  refine EvP.bind (l3From_ev l _ hf ht (by simp only; omega) fun x hx => ht.inr _ hn.nat.1 x hx) ?_
  rintro ⟨y, _⟩ ⟨hy, hyl⟩
  refine EvP.bind (l1Has_ev y n (by simp only at hyl; omega)) ?_
  rintro ⟨z, _⟩ hz
  refine EvP.ret ?_
  simp only at hy hz ⊢
  rw [hz, hy]
  rfl

def GoodT (l : List TType.D) : Prop := Nearly l ∧ ∀ i, i < l.length → ¬ Round l (i : Int)

theorem isTable_ev (l : List TType.D) (hf : Fit (.slice TType) l) : EvP (fun k => impl_isTable.f k (l, ())) (fun y => y.1 = true ↔ GoodT l) := by
  simp only [impl_isTable.f, Bool.not_eq_true']
  refine EvP.bind (areTypes_ev l hf) ?_
  rintro ⟨y, _⟩ hy
  simp only at hy
  refine EvP.ite (fun h => EvP.ret ⟨fun e => (by cases e), fun e => ?_⟩) (fun h => ?_)
  · rw [hy.2 e.1] at h; cases h
  have hn : Nearly l := hy.1 (by simpa using h)
  have hlen := hn.tidy.len
  refine EvP.scan (L := fun k i => impl_isTable.l2 k (l, (l.length : Int), i, ())) l.length (fun i => ¬ Round l (i : Int)) (fun hall => ?_) (fun i hi hall hgo => ?_)
  · simp only [impl_isTable.l2, decide_eq_true_eq]
    exact EvP.neg (by omega) (EvP.ret ⟨fun _ => ⟨hn, hall⟩, fun _ => rfl⟩)
  · simp only [impl_isTable.l2, decide_eq_true_eq, next64 (show i ≤ 1099511627776 by omega)]
    refine EvP.pos (by omega) ?_
    refine EvP.bind (isRound_ev l _ hf hn.tidy ⟨by omega, by omega⟩) ?_
    rintro ⟨z, _⟩ hz
    simp only at hz
    exact EvP.ite (fun h => EvP.ret ⟨fun e => (by cases e), fun e => absurd (hz.1 h) (e.2 i hi)⟩) (fun h => hgo fun e => h (hz.2 e))

theorem l3Good_ev (l : List TType.D) (hf : Fit (.slice TType) l) : EvP (fun k => spec_l3Good.f k (l, ())) (fun y => y.1 = true ↔ GoodT l) := by
  simp only [spec_l3Good.f, Bool.not_eq_true']
  refine EvP.bind (l3Nearly_ev l hf) ?_
  rintro ⟨y, _⟩ hy
  simp only at hy
  refine EvP.ite (fun h => EvP.ret ⟨fun e => (by cases e), fun e => ?_⟩) (fun h => ?_)
  · rw [hy.2 e.1] at h; cases h
  have hn : Nearly l := hy.1 (by simpa using h)
  have hlen := hn.tidy.len
  refine EvP.scan (L := fun k i => spec_l3Good.l2 k (l, (l.length : Int), i, ())) l.length (fun i => ¬ Round l (i : Int)) (fun hall => ?_) (fun i hi hall hgo => ?_)
  · simp only [spec_l3Good.l2, decide_eq_true_eq]
    exact EvP.neg (by omega) (EvP.ret ⟨fun _ => ⟨hn, hall⟩, fun _ => rfl⟩)
  · simp only [spec_l3Good.l2, decide_eq_true_eq, next64 (show i ≤ 1099511627776 by omega)]
    refine EvP.pos (by omega) ?_
    refine EvP.bind (l3Round_ev l _ hf hn.tidy ⟨by omega, by omega⟩) ?_
    rintro ⟨z, _⟩ hz
    simp only at hz
    exact EvP.ite (fun h => EvP.ret ⟨fun e => (by cases e), fun e => absurd (hz.1 h) (e.2 i hi)⟩) (fun h => hgo fun e => h (hz.2 e))

/-! ### Good scopes -/

def Whole (a : Int) : Prop := -1000000000 ≤ a ∧ a ≤ 1000000000

theorem isWhole_ev (a : Int) : EvP (fun k => impl_isWhole.f k (a, ())) (fun y => y.1 = true ↔ Whole a) := by
  simp only [impl_isWhole.f]
  refine EvP.bind (in_ev a (-1000000000) 1000000000) ?_
  rintro ⟨y, _⟩ hy
  refine EvP.ret ?_
  simp only at hy
  subst hy
  simp only [decide_eq_true_eq]
  exact Iff.rfl

def ParamOk (N : Nat) (ps : List TParam.D) (i : Nat) : Prop := Named (rdT TParam ps i).1 ∧ InR N (rdT TParam ps i).2.2 ∧ ∀ j, j < i → (rdT TParam ps i).1 ≠ (rdT TParam ps j).1
def ParamsOk (N : Nat) (ps : List TParam.D) : Prop := (∀ i, i < ps.length → ParamOk N ps i) ∧ ps.length ≤ 4

def SwitchOk (N : Nat) (o : TObject.D) : Prop :=
  if (o.2.1 : Int) = 1 then (o.2.2.2.1 : Int) = 0 ∧ Whole o.2.2.2.2.1
  else if (o.2.1 : Int) = 2 then InR N o.2.2.2.1
  else if (o.2.1 : Int) = 3 then InR N o.2.2.2.1
  else (o.2.1 : Int) = 4 ∧ ((o.2.2.2.1 : Int) = -1 ∨ InR N o.2.2.2.1) ∧ ParamsOk N o.2.2.2.2.2

def ObjOk (N : Nat) (o : TObject.D) : Prop := ((0 : Int) ≤ o.2.2.1 ∧ o.2.2.1 ≤ (2 : Int)) ∧ ((o.2.2.1 : Int) = 2 → (o.2.1 : Int) = 3) ∧ ((o.2.1 : Int) ≠ 1 → (o.2.2.2.2.1 : Int) = 0) ∧ ((o.2.1 : Int) ≠ 4 → o.2.2.2.2.2.length = 0) ∧ SwitchOk N o

theorem findP_ev (l : List TParam.D) (x : TParam.D) (hl : l.length ≤ 1048576) : EvP (fun k => slices_ContainsFunc_impl_Param_impl_Param.f k (l, (x, ()), ())) (fun y => y.1 = true ↔ ∃ p, p < l.length ∧ (rdT TParam l p).1 = x.1) := by
  simp only [slices_ContainsFunc_impl_Param_impl_Param.f]
  have hi : EvP (fun k => slices_IndexFunc_impl_Param_impl_Param.f k (l, (x, ()), ())) (fun y => 0 ≤ y.1 ↔ ∃ p, p < l.length ∧ (rdT TParam l p).1 = x.1) := by
    simp only [slices_IndexFunc_impl_Param_impl_Param.f]
    refine EvP.scan (L := fun k i => slices_IndexFunc_impl_Param_impl_Param.l1 k (l, (x, ()), (l.length : Int), i, ())) l.length (fun p => (rdT TParam l p).1 ≠ x.1) (fun hall => ?_) (fun i hi hall hgo => ?_)
    · simp only [slices_IndexFunc_impl_Param_impl_Param.l1, decide_eq_true_eq]
      refine EvP.neg (by omega) (EvP.ret ⟨fun h => absurd h (by show ¬ (0 : Int) ≤ -1; decide), fun ⟨p, hp, h⟩ => absurd h (hall p hp)⟩)
    · simp only [slices_IndexFunc_impl_Param_impl_Param.l1, decide_eq_true_eq, Int.toNat_natCast, next64 (show i ≤ 1099511627776 by omega), impl_Scope_isObject_1.f, Option.bind_some, beq_iff_eq, toList_eq]
      refine EvP.pos (by omega) (EvP.pos (by omega) (EvP.pos (by omega) (EvP.ite (fun h => EvP.ret ⟨fun _ => ⟨i, hi, h⟩, fun _ => ?_⟩) (fun h => hgo h))))
      show (0 : Int) ≤ (i : Int)
      omega
  refine EvP.bind hi ?_
  rintro ⟨y, _⟩ hy
  refine EvP.ret ?_
  simpa using hy

theorem l4Params_l6_ev (l : List TType.D) (f : List TParam.D) (x : TParam.D) (a9 : List TParam.D) (a10 a11 a22 : Int) (a23 : List TType.D) (a24 a25 : Int) (a26 a27 : Bool) (pre : List TParam.D) (hp : pre.length ≤ 1048576) (Q : Bool × Unit → Prop)
    (hbad : ∀ p, p < pre.length → x.1 = (rdT TParam pre p).1 → Q (false, ())) (hgood : (∀ p, p < pre.length → x.1 ≠ (rdT TParam pre p).1) → EvP (fun k => spec_l4Params.l1 k (l, f, a9, a10, w64 (a11 + (1 : Int)), ())) Q) :
    EvP (fun k => spec_l4Params.l6 k (l, f, (x.1, (x.2.1, (x.2.2, ()))), a9, a10, a11, a22, a23, a24, a25, a26, a27, pre, (pre.length : Int), 0, ())) Q := by
  refine EvP.scan (L := fun k i => spec_l4Params.l6 k (l, f, (x.1, (x.2.1, (x.2.2, ()))), a9, a10, a11, a22, a23, a24, a25, a26, a27, pre, (pre.length : Int), i, ())) pre.length (fun p => x.1 ≠ (rdT TParam pre p).1) (fun hall => ?_) (fun p hp' hall hgo => ?_)
  · simp only [spec_l4Params.l6, decide_eq_true_eq]
    exact EvP.neg (by omega) (hgood hall)
  · simp only [spec_l4Params.l6, decide_eq_true_eq, Int.toNat_natCast, next64 (show p ≤ 1099511627776 by omega), beq_iff_eq, toList_eq]
    refine EvP.pos (by omega) (EvP.pos (by omega) (EvP.pos (by omega) (EvP.ite (fun h => EvP.ret (hbad p hp' h)) (fun h => hgo h))))

theorem l4Params_ev (l : List TType.D) (f : List TParam.D) (hl : l.length ≤ 1048576) (hf : Fit (.slice TParam) f) : EvP (fun k => spec_l4Params.f k (l, f, ())) (fun y => y.1 = true ↔ ParamsOk l.length f) := by
  have hs : f.length ≤ 1048576 := hf.1
  simp only [spec_l4Params.f]
  refine EvP.scan (L := fun k i => spec_l4Params.l1 k (l, f, f, (f.length : Int), i, ())) f.length (fun i => ParamOk l.length f i) (fun hall => ?_) (fun i hi hall hgo => ?_)
  · simp only [spec_l4Params.l1, decide_eq_true_eq]
    refine EvP.neg (by omega) (EvP.ret ?_)
    simp only [decide_eq_true_eq]
    exact ⟨fun h => ⟨hall, by omega⟩, fun h => by have := h.2; omega⟩
  · simp only [spec_l4Params.l1, decide_eq_true_eq, Int.toNat_natCast, Bool.not_eq_true', len1 hl]
    have hno : ¬ ParamOk l.length f i → (((false, ()) : Bool × Unit).1 = true ↔ ParamsOk l.length f) := fun h => ⟨fun e => (by cases e), fun e => absurd (e.1 i hi) h⟩
    refine EvP.pos (by omega) (EvP.pos (by omega) (EvP.pos (by omega) ?_))
    refine EvP.bind (spec_l1Name_ev _ (hf.2 _ (rdT_mem hi)).1) ?_
    rintro ⟨u, _⟩ hu
    simp only at hu
    refine EvP.ite (fun h => EvP.ret (hno fun e => ?_)) (fun h => ?_)
    · rw [hu.2 e.1] at h; cases h
    have hn := hu.1 (by simpa using h)
    refine EvP.bind (l1In_ev _ _ _) ?_
    rintro ⟨z, _⟩ hz
    simp only at hz
    subst hz
    refine EvP.ite (fun h => EvP.ret (hno fun e => ?_)) (fun h => EvP.pos (by omega) (EvP.pos (by omega) ?_))
    · simp only [decide_eq_false_iff_not] at h
      exact h ⟨e.2.1.1, Int.le_sub_one_of_lt e.2.1.2⟩
    have ht : InR l.length (rdT TParam f i).2.2 := by
      have : (0 : Int) ≤ (rdT TParam f i).2.2 ∧ (rdT TParam f i).2.2 ≤ (l.length : Int) - 1 := by simpa using h
      exact ⟨this.1, Int.lt_of_le_sub_one this.2⟩
    refine l4Params_l6_ev l f (rdT TParam f i) f _ _ _ _ _ _ _ _ (f.take i) (by rw [List.length_take]; omega) _ (fun p hp hbad => hno fun e => ?_) (fun hall => ?_)
    · rw [List.length_take] at hp
      rw [rdT_take (by omega)] at hbad
      exact e.2.2 p (by omega) hbad
    · rw [next64 (show i ≤ 1099511627776 by omega)]
      refine hgo ⟨hn, ht, fun j hj => ?_⟩
      have := hall j (by rw [List.length_take]; omega)
      rwa [rdT_take hj] at this

theorem range1 (z : Int) (N : Nat) : (-1 ≤ z ∧ z ≤ (N : Int) - 1) ↔ (z = -1 ∨ InR N z) := by
  unfold InR
  constructor
  · intro h
    rcases Int.lt_or_le z 0 with h0 | h0
    · exact .inl (by omega)
    · exact .inr ⟨h0, by omega⟩
  · intro h
    omega

theorem l4Object_ev (l : List TType.D) (o : TObject.D) (hl : l.length ≤ 1048576) (hf : Fit TObject o) : EvP (fun k => spec_l4Object.f k (l, o, ())) (fun y => y.1 = true ↔ Named o.1 ∧ ObjOk l.length o) := by
  simp only [spec_l4Object.f, beq_iff_eq, bne_iff_ne, ne_eq, Bool.not_eq_true', decide_eq_true_eq, len1 hl]
  refine EvP.bind (spec_l1Name_ev _ hf.1) ?_
  rintro ⟨y, _⟩ hy
  simp only at hy
  refine EvP.ite (fun h => EvP.ret ⟨fun e => (by cases e), fun e => ?_⟩) (fun h => ?_)
  · rw [hy.2 e.1] at h; cases h
  have hn : Named o.1 := hy.1 (by simpa using h)
  clear hy h
  refine EvP.bind (l1In_ev _ _ _) ?_
  rintro ⟨y, _⟩ hy
  simp only at hy
  subst hy
  refine EvP.ite (fun h => EvP.ret ⟨fun e => (by cases e), fun e => ?_⟩) (fun h => ?_)
  · simp only [decide_eq_false_iff_not] at h
    exact absurd e.2.1 h
  have hm : (0 : Int) ≤ o.2.2.1 ∧ o.2.2.1 ≤ (2 : Int) := by simpa using h
  clear h
  -- the switch
  have hsw : ((o.2.2.1 : Int) = 2 → (o.2.1 : Int) = 3) → ((o.2.1 : Int) ≠ 1 → (o.2.2.2.2.1 : Int) = 0) → ((o.2.1 : Int) ≠ 4 → o.2.2.2.2.2.length = 0) → EvP (fun k => if o.2.1 = (1 : Int) then (if o.2.2.2.1 = (0 : Int) then ((spec_l1In.f k (o.2.2.2.2.1, (-1000000000), 1000000000, ())).bind fun y3 => (some (y3.1, ()) : Option (Bool × Unit))) else some (false, ())) else if o.2.1 = (2 : Int) then ((spec_l1In.f k (o.2.2.2.1, 0, (l.length : Int) - 1, ())).bind fun y4 => some (y4.1, ())) else
      if o.2.1 = (3 : Int) then ((spec_l1In.f k (o.2.2.2.1, 0, (l.length : Int) - 1, ())).bind fun y5 => some (y5.1, ())) else if o.2.1 = (4 : Int) then ((spec_l1In.f k (o.2.2.2.1, (-1), (l.length : Int) - 1, ())).bind fun y6 => if y6.1 = true then ((spec_l4Params.f k (l, o.2.2.2.2.2, ())).bind fun y7 => some (y7.1, ())) else some (false, ())) else some (false, ())) (fun y => y.1 = true ↔ Named o.1 ∧ ObjOk l.length o) := by
    intro h2 h1 h4
    have key : (Named o.1 ∧ ObjOk l.length o) ↔ SwitchOk l.length o := ⟨fun h => h.2.2.2.2.2, fun h => ⟨hn, hm, h2, h1, h4, h⟩⟩
    simp only [key]
    unfold SwitchOk
    have hin : EvP (fun k => (spec_l1In.f k (o.2.2.2.1, 0, (l.length : Int) - 1, ())).bind fun y4 => (some (y4.1, ()) : Option (Bool × Unit))) (fun y => y.1 = true ↔ InR l.length o.2.2.2.1) := by
      refine EvP.bind (l1In_ev _ _ _) ?_
      rintro ⟨v, _⟩ hv
      simp only at hv
      subst hv
      refine EvP.ret ?_
      simp only [decide_eq_true_eq]
      exact ⟨fun e => ⟨e.1, Int.lt_of_le_sub_one e.2⟩, fun e => ⟨e.1, Int.le_sub_one_of_lt e.2⟩⟩
    refine EvP.ite (fun k1 => ?_) (fun k1 => EvP.ite (fun k2 => ?_) (fun k2 => EvP.ite (fun k3 => ?_) (fun k3 => EvP.ite (fun k4 => ?_) (fun k4 => EvP.ret ?_))))
    · simp only [if_pos k1]
      refine EvP.ite (fun h0 => ?_) (fun h0 => EvP.ret ⟨fun e => (by cases e), fun e => absurd e.1 h0⟩)
      refine EvP.bind (l1In_ev _ _ _) ?_
      rintro ⟨v, _⟩ hv
      simp only at hv
      subst hv
      refine EvP.ret ?_
      simp only [decide_eq_true_eq]
      exact ⟨fun e => ⟨h0, e⟩, fun e => e.2⟩
    · simp only [if_neg k1, if_pos k2]; exact hin
    · simp only [if_neg k1, if_neg k2, if_pos k3]; exact hin
    · simp only [if_neg k1, if_neg k2, if_neg k3]
      refine EvP.bind (l1In_ev _ _ _) ?_
      rintro ⟨v, _⟩ hv
      simp only at hv
      subst hv
      have hiff : (-1 ≤ (o.2.2.2.1 : Int) ∧ (o.2.2.2.1 : Int) ≤ (l.length : Int) - 1) ↔ ((o.2.2.2.1 : Int) = -1 ∨ InR l.length o.2.2.2.1) := range1 _ _
      refine EvP.ite (fun h => ?_) (fun h => EvP.ret ⟨fun e => (by cases e), fun e => absurd (decide_eq_true (hiff.2 e.2.1)) h⟩)
      refine EvP.bind (l4Params_ev l _ hl hf.2.2.2.2.2) ?_
      rintro ⟨u, _⟩ hu
      exact EvP.ret (hu.trans ⟨fun e => ⟨k4, hiff.1 (of_decide_eq_true h), e⟩, fun e => e.2.2⟩)
    · simp only [if_neg k1, if_neg k2, if_neg k3]
      exact ⟨fun e => (by cases e), fun e => absurd e.1 k4⟩
  have hpar : ((o.2.2.1 : Int) = 2 → (o.2.1 : Int) = 3) → ((o.2.1 : Int) ≠ 1 → (o.2.2.2.2.1 : Int) = 0) → EvP (fun k => if ¬ o.2.1 = (4 : Int) then if (o.2.2.2.2.2.length : Int) > 0 then (some (false, ()) : Option (Bool × Unit)) else _ else _) (fun y => y.1 = true ↔ Named o.1 ∧ ObjOk l.length o) := fun h2 h1 =>
    EvP.ite (fun h5 => EvP.ite (fun h => EvP.ret ⟨fun e => (by cases e), fun e => by have := e.2.2.2.2.1 h5; omega⟩) (fun h => hsw h2 h1 fun _ => by omega)) (fun h5 => hsw h2 h1 fun e => absurd (by simpa using h5) e)
  have hval : ((o.2.2.1 : Int) = 2 → (o.2.1 : Int) = 3) → EvP (fun k => if ¬ o.2.1 = (1 : Int) then if ¬ o.2.2.2.2.1 = (0 : Int) then (some (false, ()) : Option (Bool × Unit)) else _ else _) (fun y => y.1 = true ↔ Named o.1 ∧ ObjOk l.length o) := fun h2 =>
    EvP.ite (fun h5 => EvP.ite (fun h => EvP.ret ⟨fun e => (by cases e), fun e => absurd (e.2.2.2.1 h5) h⟩) (fun h => hpar h2 fun _ => by simpa using h)) (fun h5 => hpar h2 fun e => absurd (by simpa using h5) e)
  refine EvP.ite (fun h2 => EvP.ite (fun h3 => EvP.ret ⟨fun e => (by cases e), fun e => absurd (e.2.2.1 h2) h3⟩) (fun h3 => hval fun _ => by simpa using h3)) (fun h2 => hval fun e => absurd e h2)

theorem isObject_ev (s : TScope.D) (o : TObject.D) (hl : s.2.2.1.length ≤ 1048576) (hf : Fit TObject o) : EvP (fun k => impl_Scope_isObject.f k (s, o, ())) (fun y => y.1 = true ↔ ObjOk s.2.2.1.length o) := by
  have hs : o.2.2.2.2.2.length ≤ 1048576 := hf.2.2.2.2.2.1
  simp only [impl_Scope_isObject.f, beq_iff_eq, bne_iff_ne, ne_eq, Bool.not_eq_true', decide_eq_true_eq]
  refine EvP.bind (in_ev _ _ _) ?_
  rintro ⟨y, _⟩ hy
  simp only at hy
  subst hy
  refine EvP.ite (fun h => EvP.ret ⟨fun e => (by cases e), fun e => ?_⟩) (fun h => ?_)
  · simp only [decide_eq_false_iff_not] at h
    exact absurd e.1 h
  have hm : (0 : Int) ≤ o.2.2.1 ∧ o.2.2.1 ≤ (2 : Int) := by simpa using h
  clear h
  -- behind the parameters
  have hsw : ((o.2.2.1 : Int) = 2 → (o.2.1 : Int) = 3) → ((o.2.1 : Int) ≠ 4 → o.2.2.2.2.2.length = 0) → ParamsOk s.2.2.1.length o.2.2.2.2.2 → EvP (fun k => if o.2.1 = (1 : Int) then (if o.2.2.2.1 = (0 : Int) then ((impl_isWhole.f k (o.2.2.2.2.1, ())).bind fun y5 => (some (y5.1, ()) : Option (Bool × Unit))) else some (false, ())) else if o.2.1 = (2 : Int) then ((impl_isNumber.f k (s.2.2.1, o.2.2.2.1, ())).bind fun y6 => if y6.1 = true then some ((o.2.2.2.2.1 == (0 : Int)), ()) else some (false, ())) else
      if o.2.1 = (3 : Int) then ((impl_isNumber.f k (s.2.2.1, o.2.2.2.1, ())).bind fun y7 => if y7.1 = true then some ((o.2.2.2.2.1 == (0 : Int)), ()) else some (false, ())) else if o.2.1 = (4 : Int) then (if o.2.2.2.1 = (-1 : Int) then some ((o.2.2.2.2.1 == (0 : Int)), ()) else ((impl_isNumber.f k (s.2.2.1, o.2.2.2.1, ())).bind fun y8 => if y8.1 = true then some ((o.2.2.2.2.1 == (0 : Int)), ()) else some (false, ()))) else some (false, ())) (fun y => y.1 = true ↔ ObjOk s.2.2.1.length o) := by
    intro h2 h4 hp
    have key : ObjOk s.2.2.1.length o ↔ ((o.2.1 : Int) ≠ 1 → (o.2.2.2.2.1 : Int) = 0) ∧ SwitchOk s.2.2.1.length o := ⟨fun h => ⟨h.2.2.1, h.2.2.2.2⟩, fun h => ⟨hm, h2, h.1, h4, h.2⟩⟩
    simp only [key]
    unfold SwitchOk
    have hnum : (o.2.1 : Int) ≠ 1 → EvP (fun k => (impl_isNumber.f k (s.2.2.1, o.2.2.2.1, ())).bind fun y6 => if y6.1 = true then (some ((o.2.2.2.2.1 == (0 : Int)), ()) : Option (Bool × Unit)) else some (false, ())) (fun y => y.1 = true ↔ ((o.2.1 : Int) ≠ 1 → (o.2.2.2.2.1 : Int) = 0) ∧ InR s.2.2.1.length o.2.2.2.1) := fun k1 => by
      refine EvP.bind (isNumber_ev _ _ hl) ?_
      rintro ⟨v, _⟩ hv
      simp only at hv
      refine EvP.ite (fun h => EvP.ret ?_) (fun h => EvP.ret ⟨fun e => (by cases e), fun e => absurd (hv.2 e.2) h⟩)
      simp only [beq_iff_eq]
      exact ⟨fun e => ⟨fun _ => e, hv.1 h⟩, fun e => e.1 k1⟩
    refine EvP.ite (fun k1 => ?_) (fun k1 => EvP.ite (fun k2 => ?_) (fun k2 => EvP.ite (fun k3 => ?_) (fun k3 => EvP.ite (fun k4 => ?_) (fun k4 => EvP.ret ?_))))
    · simp only [if_pos k1]
      refine EvP.ite (fun h0 => ?_) (fun h0 => EvP.ret ⟨fun e => (by cases e), fun e => absurd e.2.1 h0⟩)
      refine EvP.bind (isWhole_ev _) ?_
      rintro ⟨v, _⟩ hv
      exact EvP.ret (hv.trans ⟨fun e => ⟨fun h => absurd k1 h, h0, e⟩, fun e => e.2.2⟩)
    · simp only [if_neg k1, if_pos k2]; exact hnum k1
    · simp only [if_neg k1, if_neg k2, if_pos k3]; exact hnum k1
    · simp only [if_neg k1, if_neg k2, if_neg k3]
      refine EvP.ite (fun h0 => EvP.ret ?_) (fun h0 => (hnum k1).mono fun y hy => hy.trans ⟨fun e => ⟨e.1, k4, .inr e.2, hp⟩, fun e => ⟨e.1, e.2.2.1.resolve_left h0⟩⟩)
      simp only [beq_iff_eq]
      exact ⟨fun e => ⟨fun _ => e, k4, .inl h0, hp⟩, fun e => e.1 k1⟩
    · simp only [if_neg k1, if_neg k2, if_neg k3]
      exact ⟨fun e => (by cases e), fun e => absurd e.2.1 k4⟩
  have hloop : ((o.2.2.1 : Int) = 2 → (o.2.1 : Int) = 3) → ((o.2.1 : Int) ≠ 4 → o.2.2.2.2.2.length = 0) → o.2.2.2.2.2.length ≤ 4 → EvP (fun k => impl_Scope_isObject.l3 k (s, (o.1, (o.2.1, (o.2.2.1, (o.2.2.2.1, (o.2.2.2.2.1, (o.2.2.2.2.2, ())))))), o.2.2.2.2.2, (o.2.2.2.2.2.length : Int), 0, ())) (fun y => y.1 = true ↔ ObjOk s.2.2.1.length o) := by
    intro h2 h4 hpl
    refine EvP.scan (L := fun k i => impl_Scope_isObject.l3 k (s, (o.1, (o.2.1, (o.2.2.1, (o.2.2.2.1, (o.2.2.2.2.1, (o.2.2.2.2.2, ())))))), o.2.2.2.2.2, (o.2.2.2.2.2.length : Int), i, ())) o.2.2.2.2.2.length (fun i => ParamOk s.2.2.1.length o.2.2.2.2.2 i) (fun hall => ?_) (fun i hi hall hgo => ?_)
    · simp only [impl_Scope_isObject.l3, decide_eq_true_eq, beq_iff_eq]
      exact EvP.neg (by omega) (hsw h2 h4 ⟨hall, hpl⟩)
    · simp only [impl_Scope_isObject.l3, decide_eq_true_eq, Int.toNat_natCast, Bool.not_eq_true', next64 (show i ≤ 1099511627776 by omega)]
      have hno : ¬ ParamOk s.2.2.1.length o.2.2.2.2.2 i → (((false, ()) : Bool × Unit).1 = true ↔ ObjOk s.2.2.1.length o) := fun h => ⟨fun e => (by cases e), fun e => by
        have hsk := e.2.2.2.2
        unfold SwitchOk at hsk
        have h40 : (o.2.1 : Int) = 4 := Classical.byContradiction fun hne => by have := h4 hne; omega
        rw [if_neg (by rw [h40]; decide), if_neg (by rw [h40]; decide), if_neg (by rw [h40]; decide)] at hsk
        exact absurd (hsk.2.2.1 i hi) h⟩
      refine EvP.pos (by omega) (EvP.pos (by omega) (EvP.pos (by omega) ?_))
      refine EvP.bind (impl_isName_ev _ (hf.2.2.2.2.2.2 _ (rdT_mem hi)).1) ?_
      rintro ⟨u, _⟩ hu
      simp only at hu
      refine EvP.ite (fun h => EvP.ret (hno fun e => ?_)) (fun h => ?_)
      · rw [hu.2 e.1] at h; cases h
      have hn := hu.1 (by simpa using h)
      refine EvP.bind (isNumber_ev _ _ hl) ?_
      rintro ⟨z, _⟩ hz
      simp only at hz
      refine EvP.ite (fun h => EvP.ret (hno fun e => ?_)) (fun h => EvP.pos (by omega) (EvP.pos (by omega) ?_))
      · rw [hz.2 e.2.1] at h; cases h
      have ht := hz.1 (by simpa using h)
      refine EvP.bind (findP_ev _ _ (by rw [List.length_take]; omega)) ?_
      rintro ⟨v, _⟩ hv
      simp only at hv
      have hiff : v = true ↔ ∃ j, j < i ∧ (rdT TParam o.2.2.2.2.2 j).1 = (rdT TParam o.2.2.2.2.2 i).1 := by
        rw [hv]
        constructor
        · rintro ⟨p, hp, h⟩
          rw [List.length_take] at hp
          rw [rdT_take (by omega)] at h
          exact ⟨p, by omega, h⟩
        · rintro ⟨p, hp, h⟩
          exact ⟨p, by rw [List.length_take]; omega, by rw [rdT_take hp]; exact h⟩
      refine EvP.ite (fun h4 => EvP.ret (hno fun e => ?_)) (fun h4 => hgo ⟨hn, ht, fun j hj e => h4 (hiff.2 ⟨j, hj, e.symm⟩)⟩)
      obtain ⟨j, hj, h⟩ := hiff.1 h4
      exact e.2.2 j hj h.symm
  have hplen : ObjOk s.2.2.1.length o → o.2.2.2.2.2.length ≤ 4 := fun e => by
    by_cases h40 : (o.2.1 : Int) = 4
    · have hsk := e.2.2.2.2
      unfold SwitchOk at hsk
      rw [if_neg (by rw [h40]; decide), if_neg (by rw [h40]; decide), if_neg (by rw [h40]; decide)] at hsk
      exact hsk.2.2.2
    · have := e.2.2.2.1 h40; omega
  have hpar : ((o.2.2.1 : Int) = 2 → (o.2.1 : Int) = 3) → EvP (fun k => if (o.2.2.2.2.2.length : Int) > 4 then (some (false, ()) : Option (Bool × Unit)) else if ¬ o.2.1 = (4 : Int) then if (o.2.2.2.2.2.length : Int) > 0 then some (false, ()) else _ else _) (fun y => y.1 = true ↔ ObjOk s.2.2.1.length o) := fun h2 =>
    EvP.ite (fun h => EvP.ret ⟨fun e => (by cases e), fun e => by have := hplen e; omega⟩) (fun hl4 => EvP.ite (fun h5 => EvP.ite (fun h => EvP.ret ⟨fun e => (by cases e), fun e => by have := e.2.2.2.1 h5; omega⟩) (fun h => hloop h2 (fun _ => by omega) (by omega))) (fun h5 => hloop h2 (fun e => absurd (by simpa using h5) e) (by omega)))
  refine EvP.ite (fun h2 => EvP.ite (fun h3 => EvP.ret ⟨fun e => (by cases e), fun e => absurd (e.2.1 h2) h3⟩) (fun h3 => hpar fun _ => by simpa using h3)) (fun h2 => hpar fun e => absurd e h2)

/-! names, no two alike -/

def Unlike (L : List ByteArray) : Prop := (∀ x ∈ L, Named x) ∧ L.Nodup

theorem rdS_mem {l : List ByteArray} {v : ByteArray} : v ∈ l ↔ ∃ p, p < l.length ∧ rdT .str l p = v := by
  constructor
  · intro h
    obtain ⟨p, hp, he⟩ := List.getElem_of_mem h
    exact ⟨p, hp, by rw [← he]; simp [rdT, List.getD, List.getElem?_eq_getElem hp]⟩
  · rintro ⟨p, hp, rfl⟩
    exact rdT_mem (t := .str) hp

theorem nodup_rd {t : Ty} {l : List t.D} : l.Nodup ↔ ∀ i, i < l.length → ∀ j, j < i → rdT t l i ≠ rdT t l j := by
  constructor
  · intro h i hi j hj he
    have h1 := List.getElem?_inj (show j < l.length by omega) h (j := i)
    rw [rdT_some hi, rdT_some (show j < l.length by omega), he] at h1
    have := h1.1 rfl
    omega
  · intro h
    rw [List.nodup_iff_pairwise_ne, List.pairwise_iff_getElem]
    intro i j hi hj hij he
    refine h j hj i hij ?_
    rw [show rdT t l j = l[j] from rdT_get hj, show rdT t l i = l[i] from rdT_get hi, he]

theorem unlike_iff {L : List ByteArray} : Unlike L ↔ ∀ i, i < L.length → Named (rdT .str L i) ∧ rdT .str L i ∉ L.take i := by
  have htake : ∀ i, i < L.length → (rdT .str L i ∉ L.take i ↔ ∀ j, j < i → rdT .str L i ≠ rdT .str L j) := by
    intro i hi
    rw [rdS_mem]
    constructor
    · intro h j hj e
      exact h ⟨j, by rw [List.length_take]; omega, by rw [rdT_take hj]; exact e.symm⟩
    · rintro h ⟨p, hp, e⟩
      rw [List.length_take] at hp
      rw [rdT_take (by omega)] at e
      exact h p (by omega) e.symm
  unfold Unlike
  rw [nodup_rd (t := .str)]
  constructor
  · intro h i hi
    exact ⟨h.1 _ (rdT_mem (t := .str) hi), (htake i hi).2 (h.2 i hi)⟩
  · intro h
    refine ⟨fun x hx => ?_, fun i hi => (htake i hi).1 (h i hi).2⟩
    obtain ⟨p, hp, rfl⟩ := rdS_mem.1 hx
    exact (h p hp).1

theorem containsS_ev (l : List ByteArray) (v : ByteArray) (hl : l.length ≤ 1048576) : EvP (fun k => slices_Contains_string_string.f k (l, v, ())) (fun y => y.1 = true ↔ v ∈ l) := by
  simp only [slices_Contains_string_string.f]
  have hi : EvP (fun k => slices_Index_string_string.f k (l, v, ())) (fun y => 0 ≤ y.1 ↔ v ∈ l) := by
    simp only [slices_Index_string_string.f]
    refine EvP.scan (L := fun k i => slices_Index_string_string.l1 k (l, v, (l.length : Int), i, ())) l.length (fun p => ¬ v = rdT .str l p) (fun hall => ?_) (fun i hi hall hgo => ?_)
    · simp only [slices_Index_string_string.l1, decide_eq_true_eq]
      refine EvP.neg (by omega) (EvP.ret ⟨fun h => absurd h (by show ¬ (0 : Int) ≤ -1; decide), fun h => ?_⟩)
      obtain ⟨p, hp, h⟩ := rdS_mem.1 h
      exact absurd h.symm (hall p hp)
    · simp only [slices_Index_string_string.l1, decide_eq_true_eq, Int.toNat_natCast, next64 (show i ≤ 1099511627776 by omega), beq_iff_eq, toList_eq]
      refine EvP.pos (by omega) (EvP.pos (by omega) (EvP.pos (by omega) (EvP.ite (fun h => EvP.ret ⟨fun _ => rdS_mem.2 ⟨i, hi, h.symm⟩, fun _ => ?_⟩) (fun h => hgo h))))
      show (0 : Int) ≤ (i : Int)
      omega
  refine EvP.bind hi ?_
  rintro ⟨y, _⟩ hy
  refine EvP.ret ?_
  simpa using hy

theorem l4Has_ev (l : List ByteArray) (v : ByteArray) (hl : l.length ≤ 1048576) : EvP (fun k => spec_l4Has.f k (l, v, ())) (fun y => y.1 = true ↔ v ∈ l) := by
  simp only [spec_l4Has.f]
  refine EvP.scan (L := fun k i => spec_l4Has.l1 k (v, l, (l.length : Int), i, ())) l.length (fun p => ¬ rdT .str l p = v) (fun hall => ?_) (fun i hi hall hgo => ?_)
  · simp only [spec_l4Has.l1, decide_eq_true_eq]
    refine EvP.neg (by omega) (EvP.ret ⟨fun h => (by cases h), fun h => ?_⟩)
    obtain ⟨p, hp, h⟩ := rdS_mem.1 h
    exact absurd h (hall p hp)
  · simp only [spec_l4Has.l1, decide_eq_true_eq, Int.toNat_natCast, next64 (show i ≤ 1099511627776 by omega), beq_iff_eq, toList_eq]
    exact EvP.pos (by omega) (EvP.pos (by omega) (EvP.pos (by omega) (EvP.ite (fun h => EvP.ret ⟨fun _ => rdS_mem.2 ⟨i, hi, h⟩, fun _ => rfl⟩) (fun h => hgo h))))

theorem areUnlike_ev (L : List ByteArray) (hl : L.length ≤ 1048576) (hf : ∀ x ∈ L, x.size ≤ 1048576) : EvP (fun k => impl_areUnlike.f k (L, ())) (fun y => y.1 = true ↔ Unlike L) := by
  simp only [impl_areUnlike.f, unlike_iff]
  refine EvP.scan (L := fun k i => impl_areUnlike.l1 k (L, L, (L.length : Int), i, ())) L.length (fun i => Named (rdT .str L i) ∧ rdT .str L i ∉ L.take i) (fun hall => ?_) (fun i hi hall hgo => ?_)
  · simp only [impl_areUnlike.l1, decide_eq_true_eq]
    exact EvP.neg (by omega) (EvP.ret ⟨fun _ => hall, fun _ => rfl⟩)
  · simp only [impl_areUnlike.l1, decide_eq_true_eq, Int.toNat_natCast, next64 (show i ≤ 1099511627776 by omega), Bool.not_eq_true']
    have hno : ¬ (Named (rdT .str L i) ∧ rdT .str L i ∉ L.take i) → (((false, ()) : Bool × Unit).1 = true ↔ ∀ i, i < L.length → Named (rdT .str L i) ∧ rdT .str L i ∉ L.take i) := fun h => ⟨fun e => (by cases e), fun e => absurd (e i hi) h⟩
    refine EvP.pos (by omega) (EvP.pos (by omega) (EvP.pos (by omega) ?_))
    refine EvP.bind (impl_isName_ev _ (hf _ (rdT_mem (t := .str) hi))) ?_
    rintro ⟨u, _⟩ hu
    simp only at hu
    refine EvP.ite (fun h => EvP.ret (hno fun e => ?_)) (fun h => EvP.pos (by omega) (EvP.pos (by omega) ?_))
    · rw [hu.2 e.1] at h; cases h
    refine EvP.bind (containsS_ev _ _ (by rw [List.length_take]; omega)) ?_
    rintro ⟨v, _⟩ hv
    simp only at hv
    exact EvP.ite (fun h4 => EvP.ret (hno fun e => e.2 (hv.1 h4))) (fun h4 => hgo ⟨hu.1 (by simpa using h), fun e => h4 (hv.2 e)⟩)

theorem cloneS_ev (l : List ByteArray) (hl : l.length ≤ 1048576) : EvP (fun k => slices_Clone_string_string.f k (l, ())) (· = (l, ())) := by
  have hbig := big_eq
  simp only [slices_Clone_string_string.f]
  refine EvP.fork (a := (l, ())) rfl (fun h => EvP.pos rfl (EvP.ret ?_)) (EvP.neg (by decide) (EvP.pos (by omega) (EvP.ret rfl)))
  rw [List.eq_nil_of_length_eq_zero h]

/-! the whole scope -/

def UseOk (s : TScope.D) (i : Nat) : Prop := (rdT TUse s.2.2.2.2 i).1 ∈ s.2.1 ∧ Named (rdT TUse s.2.2.2.2 i).2 ∧ ∀ j, j < i → rdT TUse s.2.2.2.2 i ≠ rdT TUse s.2.2.2.2 j
def onames (os : List TObject.D) : List ByteArray := os.map fun o => o.1

structure GoodS (s : TScope.D) : Prop where
  imps : s.2.1.length ≤ 4
  head : Unlike (s.1 :: s.2.1)
  types : GoodT s.2.2.1
  objs : s.2.2.2.1.length ≤ 16
  uses : s.2.2.2.2.length ≤ 40
  obj : ∀ i, i < s.2.2.2.1.length → ObjOk s.2.2.1.length (rdT TObject s.2.2.2.1 i)
  use : ∀ i, i < s.2.2.2.2.length → UseOk s i
  names : Unlike (s.2.1 ++ onames s.2.2.2.1)

theorem onames_next {os : List TObject.D} {i : Nat} (h : i < os.length) : onames (os.take (i + 1)) = onames (os.take i) ++ [(rdT TObject os i).1] := by
  rw [List.take_add_one, rdT_some h]
  simp [onames]

theorem use_eq (x : ByteArray) (y : ByteArray) (u : TUse.D) : ((x.toList == u.1.toList) && (y.toList == u.2.toList)) = true ↔ (x, y) = u := by
  simp only [Bool.and_eq_true, beq_iff_eq, toList_eq]
  exact ⟨fun h => Prod.ext h.1 h.2, fun h => by rw [← h]; exact ⟨rfl, rfl⟩⟩

theorem containsU_ev (l : List TUse.D) (v : TUse.D) (hl : l.length ≤ 1048576) : EvP (fun k => slices_Contains_impl_Use_impl_Use.f k (l, v, ())) (fun y => y.1 = true ↔ ∃ p, p < l.length ∧ v = rdT TUse l p) := by
  simp only [slices_Contains_impl_Use_impl_Use.f]
  have hi : EvP (fun k => slices_Index_impl_Use_impl_Use.f k (l, v, ())) (fun y => 0 ≤ y.1 ↔ ∃ p, p < l.length ∧ v = rdT TUse l p) := by
    simp only [slices_Index_impl_Use_impl_Use.f]
    refine EvP.scan (L := fun k i => slices_Index_impl_Use_impl_Use.l1 k (l, (v.1, (v.2, ())), (l.length : Int), i, ())) l.length (fun p => ¬ v = rdT TUse l p) (fun hall => ?_) (fun i hi hall hgo => ?_)
    · simp only [slices_Index_impl_Use_impl_Use.l1, decide_eq_true_eq]
      refine EvP.neg (by omega) (EvP.ret ⟨fun h => absurd h (by show ¬ (0 : Int) ≤ -1; decide), fun ⟨p, hp, h⟩ => absurd h (hall p hp)⟩)
    · simp only [slices_Index_impl_Use_impl_Use.l1, decide_eq_true_eq, Int.toNat_natCast, next64 (show i ≤ 1099511627776 by omega), use_eq]
      refine EvP.pos (by omega) (EvP.pos (by omega) (EvP.pos (by omega) (EvP.ite (fun h => EvP.ret ⟨fun _ => ⟨i, hi, h⟩, fun _ => ?_⟩) (fun h => hgo h))))
      show (0 : Int) ≤ (i : Int)
      omega
  refine EvP.bind hi ?_
  rintro ⟨y, _⟩ hy
  refine EvP.ret ?_
  simpa using hy

theorem onames_len (os : List TObject.D) : (onames os).length = os.length := by simp [onames]

theorem isScope_ev (s : TScope.D) (hf : Fit TScope s) : EvP (fun k => impl_Scope_isScope.f k (s, ())) (fun y => y.1 = true ↔ GoodS s) := by
  obtain ⟨f1, f2, f3, f4, f5⟩ := hf
  have hbig := big_eq
  have n2 : s.2.1.length ≤ 1048576 := f2.1
  have n4 : s.2.2.2.1.length ≤ 1048576 := f4.1
  have n5 : s.2.2.2.2.length ≤ 1048576 := f5.1
  simp only [impl_Scope_isScope.f, Bool.not_eq_true', decide_eq_true_eq]
  refine EvP.bind (impl_isName_ev _ f1) ?_
  rintro ⟨y, _⟩ hy
  simp only at hy
  refine EvP.ite (fun h => EvP.ret ⟨fun e => (by cases e), fun e => ?_⟩) (fun h => EvP.ite (fun h4 => EvP.ret ⟨fun e => (by cases e), fun e => by have := e.imps; omega⟩) (fun h4 => EvP.pos (by omega) ?_))
  · rw [hy.2 (e.head.1 _ (by simp))] at h; cases h
  clear hy h
  refine EvP.bind (areUnlike_ev ([s.1] ++ s.2.1) (by simp; omega) (fun x hx => ?_)) ?_
  · rcases List.mem_append.1 hx with h | h
    · rw [List.mem_singleton.1 h]; exact f1
    · exact f2.2 x h
  rintro ⟨y, _⟩ hy
  simp only [List.singleton_append] at hy
  refine EvP.ite (fun h => EvP.ret ⟨fun e => (by cases e), fun e => ?_⟩) (fun h => ?_)
  · rw [hy.2 e.head] at h; cases h
  have hhead := hy.1 (by simpa using h)
  clear hy h
  refine EvP.bind (isTable_ev _ f3) ?_
  rintro ⟨y, _⟩ hy
  simp only at hy
  refine EvP.ite (fun h => EvP.ret ⟨fun e => (by cases e), fun e => ?_⟩) (fun h => EvP.ite (fun h16 => EvP.ret ⟨fun e => (by cases e), fun e => by have := e.objs; omega⟩) (fun h16 => EvP.ite (fun h40 => EvP.ret ⟨fun e => (by cases e), fun e => by have := e.uses; omega⟩) (fun h40 => ?_)))
  · rw [hy.2 e.types] at h; cases h
  have htypes := hy.1 (by simpa using h)
  clear hy h
  have hlen := htypes.1.tidy.len
  refine EvP.bind (cloneS_ev _ n2) ?_
  rintro _ rfl
  -- the uses, behind the objects
  have huses : (∀ i, i < s.2.2.2.1.length → ObjOk s.2.2.1.length (rdT TObject s.2.2.2.1 i)) → EvP (fun k => impl_Scope_isScope.l8 k (s, s.2.1 ++ onames s.2.2.2.1, s.2.2.2.2, (s.2.2.2.2.length : Int), 0, ())) (fun y => y.1 = true ↔ GoodS s) := by
    intro hobj
    refine EvP.scan (L := fun k i => impl_Scope_isScope.l8 k (s, s.2.1 ++ onames s.2.2.2.1, s.2.2.2.2, (s.2.2.2.2.length : Int), i, ())) s.2.2.2.2.length (fun i => UseOk s i) (fun hall => ?_) (fun i hi hall hgo => ?_)
    · simp only [impl_Scope_isScope.l8, decide_eq_true_eq]
      refine EvP.neg (by omega) ?_
      refine EvP.bind (areUnlike_ev _ (by rw [List.length_append, onames_len]; omega) (fun x hx => ?_)) ?_
      · rcases List.mem_append.1 hx with h | h
        · exact f2.2 x h
        · obtain ⟨o, ho, rfl⟩ := List.mem_map.1 h
          exact (f4.2 o ho).1
      rintro ⟨z, _⟩ hz
      exact EvP.ret (hz.trans ⟨fun e => ⟨by omega, hhead, htypes, by omega, by omega, hobj, hall, e⟩, fun e => e.names⟩)
    · simp only [impl_Scope_isScope.l8, decide_eq_true_eq, Int.toNat_natCast, next64 (show i ≤ 1099511627776 by omega), Bool.not_eq_true']
      have hno : ¬ UseOk s i → (((false, ()) : Bool × Unit).1 = true ↔ GoodS s) := fun h => ⟨fun e => (by cases e), fun e => absurd (e.use i hi) h⟩
      refine EvP.pos (by omega) (EvP.pos (by omega) (EvP.pos (by omega) ?_))
      refine EvP.bind (containsS_ev _ _ n2) ?_
      rintro ⟨u, _⟩ hu
      simp only at hu
      refine EvP.ite (fun h => EvP.ret (hno fun e => ?_)) (fun h => ?_)
      · rw [hu.2 e.1] at h; cases h
      have hm := hu.1 (by simpa using h)
      refine EvP.bind (impl_isName_ev _ (f5.2 _ (rdT_mem hi)).2) ?_
      rintro ⟨z, _⟩ hz
      simp only at hz
      refine EvP.ite (fun h => EvP.ret (hno fun e => ?_)) (fun h => EvP.pos (by omega) (EvP.pos (by omega) ?_))
      · rw [hz.2 e.2.1] at h; cases h
      have hn := hz.1 (by simpa using h)
      refine EvP.bind (containsU_ev _ _ (by rw [List.length_take]; omega)) ?_
      rintro ⟨v, _⟩ hv
      simp only at hv
      refine EvP.ite (fun h4 => EvP.ret (hno fun e => ?_)) (fun h4 => hgo ⟨hm, hn, fun j hj e => h4 (hv.2 ⟨j, by rw [List.length_take]; omega, by rw [rdT_take hj]; exact e⟩)⟩)
      obtain ⟨p, hp, h⟩ := hv.1 h4
      rw [List.length_take] at hp
      rw [rdT_take (by omega)] at h
      exact e.2.2 p (by omega) h
  refine EvP.loop (L := impl_Scope_isScope.l3) (Q := fun y => y.1 = true ↔ GoodS s) (fun j x => ∃ i : Nat, x = (s, s.2.1 ++ onames (s.2.2.2.1.take i), s.2.2.2.1, (s.2.2.2.1.length : Int), (i : Int), ()) ∧ i ≤ s.2.2.2.1.length ∧ j = s.2.2.2.1.length - i ∧ ∀ p, p < i → ObjOk s.2.2.1.length (rdT TObject s.2.2.2.1 p)) ?_ s.2.2.2.1.length _ ⟨0, by simp [onames], Nat.zero_le _, rfl, fun p h => absurd h (Nat.not_lt_zero _)⟩
  rintro j _ ⟨i, rfl, hi, rfl, hall⟩ ih
  have hol := onames_len (s.2.2.2.1.take i)
  rw [List.length_take] at hol
  simp only [impl_Scope_isScope.l3, decide_eq_true_eq, Int.toNat_natCast, next64 (show i ≤ 1099511627776 by omega), Bool.not_eq_true']
  refine EvP.ite (fun hlt => EvP.pos (by omega) (EvP.pos (by omega) ?_)) (fun hge => ?_)
  · have hil : i < s.2.2.2.1.length := by omega
    refine EvP.bind (isObject_ev s _ (by omega) (f4.2 _ (rdT_mem hil))) ?_
    rintro ⟨u, _⟩ hu
    simp only at hu
    refine EvP.ite (fun h => EvP.ret ⟨fun e => (by cases e), fun e => ?_⟩) (fun h => EvP.pos (by rw [List.length_append]; omega) ?_)
    · rw [hu.2 (e.obj i hil)] at h; cases h
    have := ih (s.2.2.2.1.length - (i + 1)) _ (by omega) ⟨i + 1, rfl, by omega, rfl, fun p hp => ?_⟩
    · rwa [onames_next hil, ← List.append_assoc] at this
    · rcases Nat.lt_or_ge p i with h2 | h2
      · exact hall p h2
      · obtain rfl : p = i := by omega
        exact hu.1 (by simpa using h)
  · rw [List.take_of_length_le (by omega)]
    exact huses fun p hp => hall p (by omega)

/-! the reference's -/

theorem l4At_ev (s : TScope.D) (name : ByteArray) (hl : s.2.2.2.1.length ≤ 1048576) : EvP (fun k => spec_l4At.f k (s, name, ())) (fun y => (y.1 = -1 ∧ name ∉ onames s.2.2.2.1) ∨ ∃ i : Nat, y.1 = (i : Int) ∧ i < s.2.2.2.1.length ∧ (rdT TObject s.2.2.2.1 i).1 = name ∧ ∀ j, j < i → (rdT TObject s.2.2.2.1 j).1 ≠ name) := by
  simp only [spec_l4At.f]
  refine EvP.scan (L := fun k i => spec_l4At.l1 k (name, s.2.2.2.1, (s.2.2.2.1.length : Int), i, ())) s.2.2.2.1.length (fun p => (rdT TObject s.2.2.2.1 p).1 ≠ name) (fun hall => ?_) (fun i hi hall hgo => ?_)
  · simp only [spec_l4At.l1, decide_eq_true_eq]
    refine EvP.neg (by omega) (EvP.ret (.inl ⟨rfl, fun h => ?_⟩))
    obtain ⟨o, ho, he⟩ := List.mem_map.1 h
    obtain ⟨p, hp, rfl⟩ := List.getElem_of_mem ho
    exact hall p hp (by rw [show rdT TObject s.2.2.2.1 p = s.2.2.2.1[p] from rdT_get hp]; exact he)
  · simp only [spec_l4At.l1, decide_eq_true_eq, Int.toNat_natCast, next64 (show i ≤ 1099511627776 by omega), beq_iff_eq, toList_eq]
    exact EvP.pos (by omega) (EvP.pos (by omega) (EvP.pos (by omega) (EvP.ite (fun h => EvP.ret (.inr ⟨i, rfl, hi, h, hall⟩)) (fun h => hgo h))))

theorem onames_rd {os : List TObject.D} {i : Nat} (h : i < os.length) : rdT .str (onames os) i = (rdT TObject os i).1 := by
  simp [rdT, List.getD, onames, h]

structure SpecS (s : TScope.D) : Prop where
  imp : ∀ i, i < s.2.1.length → Named (rdT .str s.2.1 i) ∧ rdT .str s.2.1 i ≠ s.1 ∧ rdT .str s.2.1 i ∉ s.2.1.take i
  obj : ∀ i, i < s.2.2.2.1.length → (Named (rdT TObject s.2.2.2.1 i).1 ∧ ObjOk s.2.2.1.length (rdT TObject s.2.2.2.1 i)) ∧ (rdT TObject s.2.2.2.1 i).1 ∉ s.2.1 ∧ ∀ j, j < i → (rdT TObject s.2.2.2.1 j).1 ≠ (rdT TObject s.2.2.2.1 i).1
  use : ∀ i, i < s.2.2.2.2.length → UseOk s i
  name : Named s.1
  types : GoodT s.2.2.1
  imps : s.2.1.length ≤ 4
  objs : s.2.2.2.1.length ≤ 16
  uses : s.2.2.2.2.length ≤ 40

theorem SpecS.iff (s : TScope.D) : SpecS s ↔ GoodS s := by
  constructor
  · intro h
    have hu : Unlike s.2.1 := unlike_iff.2 fun i hi => ⟨(h.imp i hi).1, (h.imp i hi).2.2⟩
    have ho : Unlike (onames s.2.2.2.1) := by
      refine ⟨fun x hx => ?_, (nodup_rd (t := .str)).2 fun i hi j hj => ?_⟩
      · obtain ⟨p, hp, rfl⟩ := rdS_mem.1 hx
        rw [onames_len] at hp
        rw [onames_rd hp]
        exact (h.obj p hp).1.1
      · rw [onames_len] at hi
        rw [onames_rd hi, onames_rd (by omega)]
        exact fun e => (h.obj i hi).2.2 j hj e.symm
    refine ⟨h.imps, ⟨fun x hx => ?_, List.nodup_cons.2 ⟨fun e => ?_, hu.2⟩⟩, h.types, h.objs, h.uses, fun i hi => (h.obj i hi).1.2, h.use, ⟨fun x hx => ?_, List.nodup_append.2 ⟨hu.2, ho.2, fun a ha b hb e => ?_⟩⟩⟩
    · rcases List.mem_cons.1 hx with rfl | hx
      · exact h.name
      · exact hu.1 x hx
    · obtain ⟨p, hp, he⟩ := rdS_mem.1 e
      exact (h.imp p hp).2.1 he
    · rcases List.mem_append.1 hx with hx | hx
      · exact hu.1 x hx
      · exact ho.1 x hx
    · subst e
      obtain ⟨p, hp, rfl⟩ := rdS_mem.1 hb
      rw [onames_len] at hp
      rw [onames_rd hp] at ha
      exact (h.obj p hp).2.1 ha
  · intro h
    obtain ⟨hn1, hn2, hn3⟩ := List.nodup_append.1 h.names.2
    have hc := List.nodup_cons.1 h.head.2
    have hu : Unlike s.2.1 := ⟨fun x hx => h.head.1 x (by simp [hx]), hn1⟩
    refine ⟨fun i hi => ⟨(unlike_iff.1 hu i hi).1, fun e => hc.1 (rdS_mem.2 ⟨i, hi, e⟩), (unlike_iff.1 hu i hi).2⟩, fun i hi => ⟨⟨?_, h.obj i hi⟩, fun e => ?_, fun j hj e => ?_⟩, h.use, h.head.1 _ (by simp), h.types, h.imps, h.objs, h.uses⟩
    · rw [← onames_rd hi]
      exact h.names.1 _ (List.mem_append.2 (.inr (rdS_mem.2 ⟨i, by rw [onames_len]; exact hi, rfl⟩)))
    · refine hn3 _ e _ (rdS_mem.2 ⟨i, by rw [onames_len]; exact hi, onames_rd hi⟩) rfl
    · have := (nodup_rd (t := .str)).1 hn2 i (by rw [onames_len]; exact hi) j hj
      rw [onames_rd hi, onames_rd (by omega)] at this
      exact this e.symm

theorem l4Good_l16_ev (s : TScope.D) (u : TUse.D) (a67 : List TUse.D) (a68 a69 : Int) (a82 : ByteArray) (a83 a84 : Bool) (pre : List TUse.D) (hp : pre.length ≤ 1048576) (Q : Bool × Unit → Prop)
    (hbad : ∀ p, p < pre.length → u = rdT TUse pre p → Q (false, ())) (hgood : (∀ p, p < pre.length → u ≠ rdT TUse pre p) → EvP (fun k => spec_l4Good.l11 k ((s.1, (s.2.1, (s.2.2.1, (s.2.2.2.1, (s.2.2.2.2, ()))))), a67, a68, w64 (a69 + (1 : Int)), ())) Q) :
    EvP (fun k => spec_l4Good.l16 k ((s.1, (s.2.1, (s.2.2.1, (s.2.2.2.1, (s.2.2.2.2, ()))))), (u.1, (u.2, ())), a67, a68, a69, a82, a83, a84, pre, (pre.length : Int), 0, ())) Q := by
  refine EvP.scan (L := fun k i => spec_l4Good.l16 k ((s.1, (s.2.1, (s.2.2.1, (s.2.2.2.1, (s.2.2.2.2, ()))))), (u.1, (u.2, ())), a67, a68, a69, a82, a83, a84, pre, (pre.length : Int), i, ())) pre.length (fun p => u ≠ rdT TUse pre p) (fun hall => ?_) (fun p hp' hall hgo => ?_)
  · simp only [spec_l4Good.l16, decide_eq_true_eq]
    exact EvP.neg (by omega) (hgood hall)
  · simp only [spec_l4Good.l16, decide_eq_true_eq, Int.toNat_natCast, next64 (show p ≤ 1099511627776 by omega), use_eq]
    refine EvP.pos (by omega) (EvP.pos (by omega) (EvP.pos (by omega) (EvP.ite (fun h => EvP.ret (hbad p hp' h)) (fun h => hgo h))))

theorem l4Good_ev (s : TScope.D) (hf : Fit TScope s) : EvP (fun k => spec_l4Good.f k (s, ())) (fun y => y.1 = true ↔ GoodS s) := by
  obtain ⟨f1, f2, f3, f4, f5⟩ := hf
  have n2 : s.2.1.length ≤ 1048576 := f2.1
  have n3 : s.2.2.1.length ≤ 1048576 := f3.1
  have n4 : s.2.2.2.1.length ≤ 1048576 := f4.1
  have n5 : s.2.2.2.2.length ≤ 1048576 := f5.1
  simp only [spec_l4Good.f, ← SpecS.iff s]
  refine EvP.scan (L := fun k i => spec_l4Good.l1 k ((s.1, (s.2.1, (s.2.2.1, (s.2.2.2.1, (s.2.2.2.2, ()))))), s.2.1, (s.2.1.length : Int), i, ())) s.2.1.length (fun i => Named (rdT .str s.2.1 i) ∧ rdT .str s.2.1 i ≠ s.1 ∧ rdT .str s.2.1 i ∉ s.2.1.take i) (fun himp => ?_) (fun i hi hall hgo => ?_)
  · simp only [spec_l4Good.l1, decide_eq_true_eq]
    refine EvP.neg (by omega) ?_
    refine EvP.scan (L := fun k i => spec_l4Good.l6 k ((s.1, (s.2.1, (s.2.2.1, (s.2.2.2.1, (s.2.2.2.2, ()))))), s.2.2.2.1, (s.2.2.2.1.length : Int), i, ())) s.2.2.2.1.length (fun i => (Named (rdT TObject s.2.2.2.1 i).1 ∧ ObjOk s.2.2.1.length (rdT TObject s.2.2.2.1 i)) ∧ (rdT TObject s.2.2.2.1 i).1 ∉ s.2.1 ∧ ∀ j, j < i → (rdT TObject s.2.2.2.1 j).1 ≠ (rdT TObject s.2.2.2.1 i).1) (fun hobj => ?_) (fun i hi hall hgo => ?_)
    · simp only [spec_l4Good.l6, decide_eq_true_eq]
      refine EvP.neg (by omega) ?_
      refine EvP.scan (L := fun k i => spec_l4Good.l11 k ((s.1, (s.2.1, (s.2.2.1, (s.2.2.2.1, (s.2.2.2.2, ()))))), s.2.2.2.2, (s.2.2.2.2.length : Int), i, ())) s.2.2.2.2.length (fun i => UseOk s i) (fun huse => ?_) (fun i hi hall hgo => ?_)
      · simp only [spec_l4Good.l11, decide_eq_true_eq]
        refine EvP.neg (by omega) ?_
        refine EvP.bind (spec_l1Name_ev _ f1) ?_
        rintro ⟨y, _⟩ hy
        simp only at hy
        refine EvP.ite (fun h => ?_) (fun h => EvP.ret ⟨fun e => (by cases e), fun e => absurd (hy.2 e.name) h⟩)
        refine EvP.bind (l3Good_ev _ f3) ?_
        rintro ⟨z, _⟩ hz
        simp only at hz
        refine EvP.ite (fun h' => EvP.ite (fun h4 => EvP.ite (fun h16 => EvP.ret ?_) (fun h16 => EvP.ret ⟨fun e => (by cases e), fun e => by have := e.objs; omega⟩)) (fun h4 => EvP.ret ⟨fun e => (by cases e), fun e => by have := e.imps; omega⟩)) (fun h' => EvP.ret ⟨fun e => (by cases e), fun e => absurd (hz.2 e.types) h'⟩)
        simp only [decide_eq_true_eq]
        exact ⟨fun e => ⟨himp, hobj, huse, hy.1 h, hz.1 h', by omega, by omega, by omega⟩, fun e => by have := e.uses; omega⟩
      · simp only [spec_l4Good.l11, decide_eq_true_eq, Int.toNat_natCast, Bool.not_eq_true']
        have hno : ¬ UseOk s i → (((false, ()) : Bool × Unit).1 = true ↔ SpecS s) := fun h => ⟨fun e => (by cases e), fun e => absurd (e.use i hi) h⟩
        refine EvP.pos (by omega) (EvP.pos (by omega) (EvP.pos (by omega) ?_))
        refine EvP.bind (l4Has_ev _ _ n2) ?_
        rintro ⟨u, _⟩ hu
        simp only at hu
        refine EvP.ite (fun h => EvP.ret (hno fun e => ?_)) (fun h => ?_)
        · rw [hu.2 e.1] at h; cases h
        have hm := hu.1 (by simpa using h)
        refine EvP.bind (spec_l1Name_ev _ (f5.2 _ (rdT_mem hi)).2) ?_
        rintro ⟨z, _⟩ hz
        simp only at hz
        refine EvP.ite (fun h => EvP.ret (hno fun e => ?_)) (fun h => EvP.pos (by omega) (EvP.pos (by omega) ?_))
        · rw [hz.2 e.2.1] at h; cases h
        have hn := hz.1 (by simpa using h)
        refine l4Good_l16_ev s (rdT TUse s.2.2.2.2 i) _ _ _ _ _ _ (s.2.2.2.2.take i) (by rw [List.length_take]; omega) _ (fun p hp hbad => hno fun e => ?_) (fun hap => ?_)
        · rw [List.length_take] at hp
          rw [rdT_take (by omega)] at hbad
          exact e.2.2 p (by omega) hbad
        · rw [next64 (show i ≤ 1099511627776 by omega)]
          refine hgo ⟨hm, hn, fun j hj => ?_⟩
          have := hap j (by rw [List.length_take]; omega)
          rwa [rdT_take hj] at this
    · simp only [spec_l4Good.l6, decide_eq_true_eq, Int.toNat_natCast, next64 (show i ≤ 1099511627776 by omega), Bool.not_eq_true']
      have hno : ¬ ((Named (rdT TObject s.2.2.2.1 i).1 ∧ ObjOk s.2.2.1.length (rdT TObject s.2.2.2.1 i)) ∧ (rdT TObject s.2.2.2.1 i).1 ∉ s.2.1 ∧ ∀ j, j < i → (rdT TObject s.2.2.2.1 j).1 ≠ (rdT TObject s.2.2.2.1 i).1) → (((false, ()) : Bool × Unit).1 = true ↔ SpecS s) := fun h => ⟨fun e => (by cases e), fun e => absurd (e.obj i hi) h⟩
      refine EvP.pos (by omega) (EvP.pos (by omega) (EvP.pos (by omega) ?_))
      refine EvP.bind (l4Object_ev _ _ n3 (f4.2 _ (rdT_mem hi))) ?_
      rintro ⟨u, _⟩ hu
      simp only at hu
      refine EvP.ite (fun h => EvP.ret (hno fun e => ?_)) (fun h => ?_)
      · rw [hu.2 e.1] at h; cases h
      have ho := hu.1 (by simpa using h)
      refine EvP.bind (l4Has_ev _ _ n2) ?_
      rintro ⟨z, _⟩ hz
      simp only at hz
      refine EvP.ite (fun h' => EvP.ret (hno fun e => e.2.1 (hz.1 h'))) (fun h' => ?_)
      refine EvP.bind (l4At_ev s _ n4) ?_
      rintro ⟨v, _⟩ hv
      simp only at hv
      have hat : ∃ p : Nat, v = (p : Int) ∧ p ≤ i ∧ (rdT TObject s.2.2.2.1 p).1 = (rdT TObject s.2.2.2.1 i).1 ∧ ∀ j, j < p → (rdT TObject s.2.2.2.1 j).1 ≠ (rdT TObject s.2.2.2.1 i).1 := by
        rcases hv with ⟨_, hv⟩ | ⟨p, rfl, hp, he, hj⟩
        · exact absurd (rdS_mem.2 ⟨i, by rw [onames_len]; exact hi, onames_rd hi⟩) hv
        · exact ⟨p, rfl, by
            rcases Nat.lt_or_ge i p with h | h
            · exact absurd rfl (hj i h)
            · exact h, he, hj⟩
      obtain ⟨p, rfl, hpi, he, hj⟩ := hat
      refine EvP.ite (fun h4 => EvP.ret (hno fun e => e.2.2 p (by omega) he)) (fun h4 => hgo ⟨ho, fun e => h' (hz.2 e), fun j hji => hj j (by omega)⟩)
  · simp only [spec_l4Good.l1, decide_eq_true_eq, Int.toNat_natCast, next64 (show i ≤ 1099511627776 by omega), Bool.not_eq_true', beq_iff_eq, toList_eq]
    have hno : ¬ (Named (rdT .str s.2.1 i) ∧ rdT .str s.2.1 i ≠ s.1 ∧ rdT .str s.2.1 i ∉ s.2.1.take i) → (((false, ()) : Bool × Unit).1 = true ↔ SpecS s) := fun h => ⟨fun e => (by cases e), fun e => absurd (e.imp i hi) h⟩
    refine EvP.pos (by omega) (EvP.pos (by omega) (EvP.pos (by omega) ?_))
    refine EvP.bind (spec_l1Name_ev _ (f2.2 _ (rdT_mem (t := .str) hi))) ?_
    rintro ⟨u, _⟩ hu
    simp only at hu
    refine EvP.ite (fun h => EvP.ret (hno fun e => ?_)) (fun h => EvP.ite (fun he => EvP.ret (hno fun e => e.2.1 he)) (fun he => EvP.pos (by omega) (EvP.pos (by omega) ?_)))
    · rw [hu.2 e.1] at h; cases h
    refine EvP.bind (l4Has_ev _ _ (by rw [List.length_take]; omega)) ?_
    rintro ⟨z, _⟩ hz
    simp only at hz
    exact EvP.ite (fun h' => EvP.ret (hno fun e => e.2.2 (hz.1 h'))) (fun h' => hgo ⟨hu.1 (by simpa using h), he, fun e => h' (hz.2 e)⟩)

/-! ### The same scope -/

theorem eqT2 (x y : TField.D) : x = y ↔ x.1 = y.1 ∧ x.2.1 = y.2.1 ∧ x.2.2 = y.2.2 := ⟨fun h => by subst h; exact ⟨rfl, rfl, rfl⟩, fun ⟨h0, h1, h2⟩ => Prod.ext h0 (Prod.ext h1 h2)⟩

theorem eqT7 (x y : TType.D) : x = y ↔ x.1 = y.1 ∧ x.2.1 = y.2.1 ∧ x.2.2.1 = y.2.2.1 ∧ x.2.2.2.1 = y.2.2.2.1 ∧ x.2.2.2.2.1 = y.2.2.2.2.1 ∧ x.2.2.2.2.2 = y.2.2.2.2.2 := ⟨fun h => by subst h; exact ⟨rfl, rfl, rfl, rfl, rfl, rfl⟩, fun ⟨h0, h1, h2, h3, h4, h5⟩ => Prod.ext h0 (Prod.ext h1 (Prod.ext h2 (Prod.ext h3 (Prod.ext h4 h5))))⟩

theorem eqT9 (x y : TParam.D) : x = y ↔ x.1 = y.1 ∧ x.2.1 = y.2.1 ∧ x.2.2 = y.2.2 := ⟨fun h => by subst h; exact ⟨rfl, rfl, rfl⟩, fun ⟨h0, h1, h2⟩ => Prod.ext h0 (Prod.ext h1 h2)⟩

theorem eqT14 (x y : TObject.D) : x = y ↔ x.1 = y.1 ∧ x.2.1 = y.2.1 ∧ x.2.2.1 = y.2.2.1 ∧ x.2.2.2.1 = y.2.2.2.1 ∧ x.2.2.2.2.1 = y.2.2.2.2.1 ∧ x.2.2.2.2.2 = y.2.2.2.2.2 := ⟨fun h => by subst h; exact ⟨rfl, rfl, rfl, rfl, rfl, rfl⟩, fun ⟨h0, h1, h2, h3, h4, h5⟩ => Prod.ext h0 (Prod.ext h1 (Prod.ext h2 (Prod.ext h3 (Prod.ext h4 h5))))⟩

theorem eqT3 (x y : TUse.D) : x = y ↔ x.1 = y.1 ∧ x.2 = y.2 := ⟨fun h => by subst h; exact ⟨rfl, rfl⟩, fun ⟨h0, h1⟩ => Prod.ext h0 h1⟩

theorem eqT18 (x y : TScope.D) : x = y ↔ x.1 = y.1 ∧ x.2.1 = y.2.1 ∧ x.2.2.1 = y.2.2.1 ∧ x.2.2.2.1 = y.2.2.2.1 ∧ x.2.2.2.2 = y.2.2.2.2 := ⟨fun h => by subst h; exact ⟨rfl, rfl, rfl, rfl, rfl⟩, fun ⟨h0, h1, h2, h3, h4⟩ => Prod.ext h0 (Prod.ext h1 (Prod.ext h2 (Prod.ext h3 h4)))⟩

theorem spec_l4SameNames_same (a b : List (.str : Ty).D) (hfa : Fit (.slice .str) a) (hfb : Fit (.slice .str) b) : EvP (fun k => spec_l4SameNames.f k (a, b, ())) (fun y => y.1 = true ↔ a = b) := by
  have hs : a.length ≤ 1048576 := hfa.1
  simp only [spec_l4SameNames.f, bne_iff_ne, ne_eq]
  refine EvP.ite (fun hl => EvP.ret ⟨fun h => (by cases h), fun h => absurd (by rw [h]) hl⟩) (fun hl => ?_)
  have hl' : a.length = b.length := by omega
  refine EvP.same (t := .str) (a := a) (b := b) (L := fun k i => spec_l4SameNames.l2 k (a, b, (a.length : Int), i, ())) hl' (fun hne => ⟨fun h => (by cases h), fun h => absurd h hne⟩) (fun he => ?_) (fun i hi hno hgo => ?_)
  · simp only [spec_l4SameNames.l2, decide_eq_true_eq]
    exact EvP.neg (by omega) (EvP.ret ⟨fun _ => he, fun _ => rfl⟩)
  · simp only [spec_l4SameNames.l2, decide_eq_true_eq, Int.toNat_natCast, w64, IntKind.wrap_i64]
    refine EvP.pos (by omega) (EvP.pos (by omega) (EvP.pos (by omega) (EvP.pos (by omega) (EvP.pos (by omega) ?_))))
    refine EvP.ite (fun h => EvP.ret (hno fun e => ?_)) (fun h => ?_)
    · rw [e] at h
      simp at h
    · have := hgo ((by simpa [toList_eq] using h))
      rwa [show ((i + 1 : Nat) : Int) = ((i : Int) + 1 + 9223372036854775808) % 18446744073709551616 - 9223372036854775808 by omega] at this

theorem spec_l4SameType_same (x z : TType.D) (hfx : Fit TType x) (hfz : Fit TType z) : EvP (fun k => spec_l4SameType.f k (x, z, ())) (fun y => y.1 = true ↔ x = z) := by
  have hfa : Fit (.slice TField) x.2.2.2.1 := hfx.2.2.2.1
  have hs : (x.2.2.2.1).length ≤ 1048576 := hfa.1
  simp only [spec_l4SameType.f, bne_iff_ne, ne_eq, Bool.not_eq_true', beq_eq_false_iff_ne, toList_eq]
  repeat' (refine EvP.ite (fun hl => EvP.ret ⟨fun h => (by cases h), fun h => absurd (by rw [h]) hl⟩) (fun hl => ?_))
  have hl' : (x.2.2.2.1).length = (z.2.2.2.1).length := by omega
  refine EvP.same (t := TField) (a := x.2.2.2.1) (b := z.2.2.2.1) (L := fun k i => spec_l4SameType.l3 k ((x.1, (x.2.1, (x.2.2.1, (x.2.2.2.1, (x.2.2.2.2.1, (x.2.2.2.2.2, ())))))), (z.1, (z.2.1, (z.2.2.1, (z.2.2.2.1, (z.2.2.2.2.1, (z.2.2.2.2.2, ())))))), ((x.2.2.2.1).length : Int), i, ())) hl' (fun hne => ⟨fun h => (by cases h), fun h => absurd (by rw [h]) hne⟩) (fun he => ?_) (fun i hi hno hgo => ?_)
  · simp only [spec_l4SameType.l3, decide_eq_true_eq]
    refine EvP.neg (by omega) (EvP.ret ⟨fun _ => ?_, fun _ => rfl⟩)
    refine (eqT7 x z).2 ?_
    simp_all
  · simp only [spec_l4SameType.l3, decide_eq_true_eq, Int.toNat_natCast, w64, IntKind.wrap_i64]
    refine EvP.pos (by omega) (EvP.pos (by omega) (EvP.pos (by omega) (EvP.pos (by omega) (EvP.pos (by omega) ?_))))
    refine EvP.ite (fun h => EvP.ret (hno fun e => ?_)) (fun h => ?_)
    · rw [e] at h
      simp at h
    · have := hgo ((eqT2 _ _).2 (by simpa [toList_eq] using h))
      rwa [show ((i + 1 : Nat) : Int) = ((i : Int) + 1 + 9223372036854775808) % 18446744073709551616 - 9223372036854775808 by omega] at this

theorem spec_l4SameObject_same (x z : TObject.D) (hfx : Fit TObject x) (hfz : Fit TObject z) : EvP (fun k => spec_l4SameObject.f k (x, z, ())) (fun y => y.1 = true ↔ x = z) := by
  have hfa : Fit (.slice TParam) x.2.2.2.2.2 := hfx.2.2.2.2.2
  have hs : (x.2.2.2.2.2).length ≤ 1048576 := hfa.1
  simp only [spec_l4SameObject.f, bne_iff_ne, ne_eq, Bool.not_eq_true', beq_eq_false_iff_ne, toList_eq]
  repeat' (refine EvP.ite (fun hl => EvP.ret ⟨fun h => (by cases h), fun h => absurd (by rw [h]) hl⟩) (fun hl => ?_))
  have hl' : (x.2.2.2.2.2).length = (z.2.2.2.2.2).length := by omega
  refine EvP.same (t := TParam) (a := x.2.2.2.2.2) (b := z.2.2.2.2.2) (L := fun k i => spec_l4SameObject.l3 k ((x.1, (x.2.1, (x.2.2.1, (x.2.2.2.1, (x.2.2.2.2.1, (x.2.2.2.2.2, ())))))), (z.1, (z.2.1, (z.2.2.1, (z.2.2.2.1, (z.2.2.2.2.1, (z.2.2.2.2.2, ())))))), ((x.2.2.2.2.2).length : Int), i, ())) hl' (fun hne => ⟨fun h => (by cases h), fun h => absurd (by rw [h]) hne⟩) (fun he => ?_) (fun i hi hno hgo => ?_)
  · simp only [spec_l4SameObject.l3, decide_eq_true_eq]
    refine EvP.neg (by omega) (EvP.ret ⟨fun _ => ?_, fun _ => rfl⟩)
    refine (eqT14 x z).2 ?_
    simp_all
  · simp only [spec_l4SameObject.l3, decide_eq_true_eq, Int.toNat_natCast, w64, IntKind.wrap_i64]
    refine EvP.pos (by omega) (EvP.pos (by omega) (EvP.pos (by omega) (EvP.pos (by omega) (EvP.pos (by omega) ?_))))
    refine EvP.ite (fun h => EvP.ret (hno fun e => ?_)) (fun h => ?_)
    · rw [e] at h
      simp at h
    · have := hgo ((eqT9 _ _).2 (by simpa [toList_eq] using h))
      rwa [show ((i + 1 : Nat) : Int) = ((i : Int) + 1 + 9223372036854775808) % 18446744073709551616 - 9223372036854775808 by omega] at this

theorem spec_SameScope_l11 (x z : TScope.D) (hfx : Fit TScope x) (hfz : Fit TScope z) (Q : Bool × Unit → Prop) (hl' : (x.2.2.2.2).length = (z.2.2.2.2).length) (hne : x.2.2.2.2 ≠ z.2.2.2.2 → Q (false, ())) (hend : x.2.2.2.2 = z.2.2.2.2 → EvP (fun k => some (true, ())) Q) :
    EvP (fun k => spec_SameScope.l11 k ((x.1, (x.2.1, (x.2.2.1, (x.2.2.2.1, (x.2.2.2.2, ()))))), (z.1, (z.2.1, (z.2.2.1, (z.2.2.2.1, (z.2.2.2.2, ()))))), ((x.2.2.2.2).length : Int), 0, ())) Q := by
  have hfa : Fit (.slice TUse) x.2.2.2.2 := hfx.2.2.2.2
  have hfb : Fit (.slice TUse) z.2.2.2.2 := hfz.2.2.2.2
  have hs : (x.2.2.2.2).length ≤ 1048576 := hfa.1
  refine EvP.same (t := TUse) (a := x.2.2.2.2) (b := z.2.2.2.2) (L := fun k i => spec_SameScope.l11 k ((x.1, (x.2.1, (x.2.2.1, (x.2.2.2.1, (x.2.2.2.2, ()))))), (z.1, (z.2.1, (z.2.2.1, (z.2.2.2.1, (z.2.2.2.2, ()))))), ((x.2.2.2.2).length : Int), i, ())) hl' hne (fun he => ?_) (fun i hi hno hgo => ?_)
  · simp only [spec_SameScope.l11, decide_eq_true_eq]
    exact EvP.neg (by omega) (hend he)
  · simp only [spec_SameScope.l11, decide_eq_true_eq, Int.toNat_natCast, w64, IntKind.wrap_i64]
    refine EvP.pos (by omega) (EvP.pos (by omega) (EvP.pos (by omega) (EvP.pos (by omega) (EvP.pos (by omega) ?_))))
    refine EvP.ite (fun h => EvP.ret (hno fun e => ?_)) (fun h => ?_)
    · rw [e] at h
      simp at h
    · have := hgo ((eqT3 _ _).2 (by simpa [toList_eq] using h))
      rwa [show ((i + 1 : Nat) : Int) = ((i : Int) + 1 + 9223372036854775808) % 18446744073709551616 - 9223372036854775808 by omega] at this

theorem spec_SameScope_l7 (x z : TScope.D) (hfx : Fit TScope x) (hfz : Fit TScope z) (Q : Bool × Unit → Prop) (hl' : (x.2.2.2.1).length = (z.2.2.2.1).length) (hne : x.2.2.2.1 ≠ z.2.2.2.1 → Q (false, ())) (hend : x.2.2.2.1 = z.2.2.2.1 → EvP (fun k => spec_SameScope.l11 k ((x.1, (x.2.1, (x.2.2.1, (x.2.2.2.1, (x.2.2.2.2, ()))))), (z.1, (z.2.1, (z.2.2.1, (z.2.2.2.1, (z.2.2.2.2, ()))))), ((x.2.2.2.2).length : Int), 0, ())) Q) :
    EvP (fun k => spec_SameScope.l7 k ((x.1, (x.2.1, (x.2.2.1, (x.2.2.2.1, (x.2.2.2.2, ()))))), (z.1, (z.2.1, (z.2.2.1, (z.2.2.2.1, (z.2.2.2.2, ()))))), ((x.2.2.2.1).length : Int), 0, ())) Q := by
  have hfa : Fit (.slice TObject) x.2.2.2.1 := hfx.2.2.2.1
  have hfb : Fit (.slice TObject) z.2.2.2.1 := hfz.2.2.2.1
  have hs : (x.2.2.2.1).length ≤ 1048576 := hfa.1
  refine EvP.same (t := TObject) (a := x.2.2.2.1) (b := z.2.2.2.1) (L := fun k i => spec_SameScope.l7 k ((x.1, (x.2.1, (x.2.2.1, (x.2.2.2.1, (x.2.2.2.2, ()))))), (z.1, (z.2.1, (z.2.2.1, (z.2.2.2.1, (z.2.2.2.2, ()))))), ((x.2.2.2.1).length : Int), i, ())) hl' hne (fun he => ?_) (fun i hi hno hgo => ?_)
  · simp only [spec_SameScope.l7, decide_eq_true_eq]
    exact EvP.neg (by omega) (hend he)
  · simp only [spec_SameScope.l7, decide_eq_true_eq, Int.toNat_natCast, w64, IntKind.wrap_i64]
    refine EvP.pos (by omega) (EvP.pos (by omega) (EvP.pos (by omega) (EvP.pos (by omega) (EvP.pos (by omega) ?_))))
    refine EvP.bind (spec_l4SameObject_same _ _ (hfa.2 _ (rdT_mem hi)) (hfb.2 _ (rdT_mem (by omega)))) ?_
    rintro ⟨y, _⟩ hy
    refine EvP.ite (fun h => EvP.ret (hno fun e => ?_)) (fun h => ?_)
    · have := hy.2 e
      simp_all
    · have := hgo (hy.1 (by simpa using h))
      rwa [show ((i + 1 : Nat) : Int) = ((i : Int) + 1 + 9223372036854775808) % 18446744073709551616 - 9223372036854775808 by omega] at this

theorem spec_SameScope_l3 (x z : TScope.D) (hfx : Fit TScope x) (hfz : Fit TScope z) (Q : Bool × Unit → Prop) (hl' : (x.2.2.1).length = (z.2.2.1).length) (hne : x.2.2.1 ≠ z.2.2.1 → Q (false, ())) (hend : x.2.2.1 = z.2.2.1 → EvP (fun k => spec_SameScope.l7 k ((x.1, (x.2.1, (x.2.2.1, (x.2.2.2.1, (x.2.2.2.2, ()))))), (z.1, (z.2.1, (z.2.2.1, (z.2.2.2.1, (z.2.2.2.2, ()))))), ((x.2.2.2.1).length : Int), 0, ())) Q) :
    EvP (fun k => spec_SameScope.l3 k ((x.1, (x.2.1, (x.2.2.1, (x.2.2.2.1, (x.2.2.2.2, ()))))), (z.1, (z.2.1, (z.2.2.1, (z.2.2.2.1, (z.2.2.2.2, ()))))), ((x.2.2.1).length : Int), 0, ())) Q := by
  have hfa : Fit (.slice TType) x.2.2.1 := hfx.2.2.1
  have hfb : Fit (.slice TType) z.2.2.1 := hfz.2.2.1
  have hs : (x.2.2.1).length ≤ 1048576 := hfa.1
  refine EvP.same (t := TType) (a := x.2.2.1) (b := z.2.2.1) (L := fun k i => spec_SameScope.l3 k ((x.1, (x.2.1, (x.2.2.1, (x.2.2.2.1, (x.2.2.2.2, ()))))), (z.1, (z.2.1, (z.2.2.1, (z.2.2.2.1, (z.2.2.2.2, ()))))), ((x.2.2.1).length : Int), i, ())) hl' hne (fun he => ?_) (fun i hi hno hgo => ?_)
  · simp only [spec_SameScope.l3, decide_eq_true_eq]
    exact EvP.neg (by omega) (hend he)
  · simp only [spec_SameScope.l3, decide_eq_true_eq, Int.toNat_natCast, w64, IntKind.wrap_i64]
    refine EvP.pos (by omega) (EvP.pos (by omega) (EvP.pos (by omega) (EvP.pos (by omega) (EvP.pos (by omega) ?_))))
    refine EvP.bind (spec_l4SameType_same _ _ (hfa.2 _ (rdT_mem hi)) (hfb.2 _ (rdT_mem (by omega)))) ?_
    rintro ⟨y, _⟩ hy
    refine EvP.ite (fun h => EvP.ret (hno fun e => ?_)) (fun h => ?_)
    · have := hy.2 e
      simp_all
    · have := hgo (hy.1 (by simpa using h))
      rwa [show ((i + 1 : Nat) : Int) = ((i : Int) + 1 + 9223372036854775808) % 18446744073709551616 - 9223372036854775808 by omega] at this

theorem spec_SameScope_same (x z : TScope.D) (hfx : Fit TScope x) (hfz : Fit TScope z) : EvP (fun k => spec_SameScope.f k (x, z, ())) (fun y => y.1 = true ↔ x = z) := by
  simp only [spec_SameScope.f, bne_iff_ne, ne_eq, Bool.not_eq_true', beq_eq_false_iff_ne, toList_eq]
  refine EvP.ite (fun hl => EvP.ret ⟨fun h => (by cases h), fun h => absurd (by rw [h]) hl⟩) (fun h1 => ?_)
  refine EvP.bind (spec_l4SameNames_same _ _ hfx.2.1 hfz.2.1) ?_
  rintro ⟨y, _⟩ hy
  refine EvP.ite (fun h => EvP.ret ⟨fun h => (by cases h), fun e => ?_⟩) (fun h2 => ?_)
  · have := hy.2 (by rw [e])
    simp_all
  have h2' := hy.1 (by simpa using h2)
  repeat' (refine EvP.ite (fun hl => EvP.ret ⟨fun h => (by cases h), fun h => absurd (by rw [h]) hl⟩) (fun _ => ?_))
  refine spec_SameScope_l3 x z hfx hfz _ (by omega) (fun hne => ⟨fun h => (by cases h), fun h => absurd (by rw [h]) hne⟩) fun h3 => ?_
  refine spec_SameScope_l7 x z hfx hfz _ (by omega) (fun hne => ⟨fun h => (by cases h), fun h => absurd (by rw [h]) hne⟩) fun h4 => ?_
  refine spec_SameScope_l11 x z hfx hfz _ (by omega) (fun hne => ⟨fun h => (by cases h), fun h => absurd (by rw [h]) hne⟩) fun h5 => ?_
  exact EvP.ret ⟨fun _ => (eqT18 x z).2 ⟨by simpa using h1, h2', h3, h4, h5⟩, fun _ => rfl⟩

theorem slices_Equal_string_string_same (a b : List (.str : Ty).D) (hfa : Fit (.slice .str) a) (hfb : Fit (.slice .str) b) : EvP (fun k => slices_Equal_string_string.f k (a, b, ())) (fun y => y.1 = true ↔ a = b) := by
  have hs : a.length ≤ 1048576 := hfa.1
  simp only [slices_Equal_string_string.f, bne_iff_ne, ne_eq]
  refine EvP.ite (fun hl => EvP.ret ⟨fun h => (by cases h), fun h => absurd (by rw [h]) hl⟩) (fun hl => ?_)
  have hl' : a.length = b.length := by omega
  refine EvP.same (t := .str) (a := a) (b := b) (L := fun k i => slices_Equal_string_string.l2 k (a, b, (a.length : Int), i, ())) hl' (fun hne => ⟨fun h => (by cases h), fun h => absurd h hne⟩) (fun he => ?_) (fun i hi hno hgo => ?_)
  · simp only [slices_Equal_string_string.l2, decide_eq_true_eq]
    exact EvP.neg (by omega) (EvP.ret ⟨fun _ => he, fun _ => rfl⟩)
  · simp only [slices_Equal_string_string.l2, decide_eq_true_eq, Int.toNat_natCast, w64, IntKind.wrap_i64]
    refine EvP.pos (by omega) (EvP.pos (by omega) (EvP.pos (by omega) (EvP.pos (by omega) (EvP.pos (by omega) ?_))))
    refine EvP.ite (fun h => EvP.ret (hno fun e => ?_)) (fun h => ?_)
    · rw [e] at h
      simp at h
    · have := hgo ((by simpa [toList_eq] using h))
      rwa [show ((i + 1 : Nat) : Int) = ((i : Int) + 1 + 9223372036854775808) % 18446744073709551616 - 9223372036854775808 by omega] at this

theorem slices_Equal_impl_Field_impl_Field_same (a b : List (TField : Ty).D) (hfa : Fit (.slice TField) a) (hfb : Fit (.slice TField) b) : EvP (fun k => slices_Equal_impl_Field_impl_Field.f k (a, b, ())) (fun y => y.1 = true ↔ a = b) := by
  have hs : a.length ≤ 1048576 := hfa.1
  simp only [slices_Equal_impl_Field_impl_Field.f, bne_iff_ne, ne_eq]
  refine EvP.ite (fun hl => EvP.ret ⟨fun h => (by cases h), fun h => absurd (by rw [h]) hl⟩) (fun hl => ?_)
  have hl' : a.length = b.length := by omega
  refine EvP.same (t := TField) (a := a) (b := b) (L := fun k i => slices_Equal_impl_Field_impl_Field.l2 k (a, b, (a.length : Int), i, ())) hl' (fun hne => ⟨fun h => (by cases h), fun h => absurd h hne⟩) (fun he => ?_) (fun i hi hno hgo => ?_)
  · simp only [slices_Equal_impl_Field_impl_Field.l2, decide_eq_true_eq]
    exact EvP.neg (by omega) (EvP.ret ⟨fun _ => he, fun _ => rfl⟩)
  · simp only [slices_Equal_impl_Field_impl_Field.l2, decide_eq_true_eq, Int.toNat_natCast, w64, IntKind.wrap_i64]
    refine EvP.pos (by omega) (EvP.pos (by omega) (EvP.pos (by omega) (EvP.pos (by omega) (EvP.pos (by omega) ?_))))
    refine EvP.ite (fun h => EvP.ret (hno fun e => ?_)) (fun h => ?_)
    · rw [e] at h
      simp at h
    · have := hgo ((eqT2 _ _).2 (by simpa [toList_eq] using h))
      rwa [show ((i + 1 : Nat) : Int) = ((i : Int) + 1 + 9223372036854775808) % 18446744073709551616 - 9223372036854775808 by omega] at this

theorem impl_sameType_same (x z : TType.D) (hfx : Fit TType x) (hfz : Fit TType z) : EvP (fun k => impl_sameType.f k (x, z, ())) (fun y => y.1 = true ↔ x = z) := by
  simp only [impl_sameType.f, beq_iff_eq, toList_eq]
  repeat' (first
    | (refine EvP.ret ?_; rw [eqT7 x z]; simp_all [toList_eq])
    | (refine EvP.ite (fun _ => ?_) (fun _ => ?_))
    | ((with_reducible refine EvP.bind (slices_Equal_impl_Field_impl_Field_same _ _ ?_ ?_) ?_); (· first | exact hfx.1 | exact hfx | exact hfx.2.1 | exact hfx.2 | exact hfx.2.2.1 | exact hfx.2.2 | exact hfx.2.2.2.1 | exact hfx.2.2.2 | exact hfx.2.2.2.2.1 | exact hfx.2.2.2.2 | exact hfx.2.2.2.2.2.1 | exact hfx.2.2.2.2.2 | exact hfx.2.2.2.2.2.2.1 | exact hfx.2.2.2.2.2.2 | exact hfx.2.2.2.2.2.2.2.1 | exact hfx.2.2.2.2.2.2.2); (· first | exact hfz.1 | exact hfz | exact hfz.2.1 | exact hfz.2 | exact hfz.2.2.1 | exact hfz.2.2 | exact hfz.2.2.2.1 | exact hfz.2.2.2 | exact hfz.2.2.2.2.1 | exact hfz.2.2.2.2 | exact hfz.2.2.2.2.2.1 | exact hfz.2.2.2.2.2 | exact hfz.2.2.2.2.2.2.1 | exact hfz.2.2.2.2.2.2 | exact hfz.2.2.2.2.2.2.2.1 | exact hfz.2.2.2.2.2.2.2); rintro ⟨y, _⟩ hy))

theorem slices_EqualFunc_impl_Type_impl_Type_impl_Type_impl_Type_same (a b : List (TType : Ty).D) (hfa : Fit (.slice TType) a) (hfb : Fit (.slice TType) b) : EvP (fun k => slices_EqualFunc_impl_Type_impl_Type_impl_Type_impl_Type.f k (a, b, (), ())) (fun y => y.1 = true ↔ a = b) := by
  have hs : a.length ≤ 1048576 := hfa.1
  simp only [slices_EqualFunc_impl_Type_impl_Type_impl_Type_impl_Type.f, bne_iff_ne, ne_eq]
  refine EvP.ite (fun hl => EvP.ret ⟨fun h => (by cases h), fun h => absurd (by rw [h]) hl⟩) (fun hl => ?_)
  have hl' : a.length = b.length := by omega
  refine EvP.same (t := TType) (a := a) (b := b) (L := fun k i => slices_EqualFunc_impl_Type_impl_Type_impl_Type_impl_Type.l2 k (b, (), a, (a.length : Int), i, ())) hl' (fun hne => ⟨fun h => (by cases h), fun h => absurd h hne⟩) (fun he => ?_) (fun i hi hno hgo => ?_)
  · simp only [slices_EqualFunc_impl_Type_impl_Type_impl_Type_impl_Type.l2, decide_eq_true_eq]
    exact EvP.neg (by omega) (EvP.ret ⟨fun _ => he, fun _ => rfl⟩)
  · simp only [slices_EqualFunc_impl_Type_impl_Type_impl_Type_impl_Type.l2, decide_eq_true_eq, Int.toNat_natCast, w64, IntKind.wrap_i64]
    refine EvP.pos (by omega) (EvP.pos (by omega) (EvP.pos (by omega) (EvP.pos (by omega) (EvP.pos (by omega) ?_))))
    refine EvP.bind (impl_sameType_same _ _ (hfa.2 _ (rdT_mem hi)) (hfb.2 _ (rdT_mem (by omega)))) ?_
    rintro ⟨y, _⟩ hy
    refine EvP.ite (fun h => EvP.ret (hno fun e => ?_)) (fun h => ?_)
    · have := hy.2 e
      simp_all
    · have := hgo (hy.1 (by simpa using h))
      rwa [show ((i + 1 : Nat) : Int) = ((i : Int) + 1 + 9223372036854775808) % 18446744073709551616 - 9223372036854775808 by omega] at this

theorem slices_Equal_impl_Param_impl_Param_same (a b : List (TParam : Ty).D) (hfa : Fit (.slice TParam) a) (hfb : Fit (.slice TParam) b) : EvP (fun k => slices_Equal_impl_Param_impl_Param.f k (a, b, ())) (fun y => y.1 = true ↔ a = b) := by
  have hs : a.length ≤ 1048576 := hfa.1
  simp only [slices_Equal_impl_Param_impl_Param.f, bne_iff_ne, ne_eq]
  refine EvP.ite (fun hl => EvP.ret ⟨fun h => (by cases h), fun h => absurd (by rw [h]) hl⟩) (fun hl => ?_)
  have hl' : a.length = b.length := by omega
  refine EvP.same (t := TParam) (a := a) (b := b) (L := fun k i => slices_Equal_impl_Param_impl_Param.l2 k (a, b, (a.length : Int), i, ())) hl' (fun hne => ⟨fun h => (by cases h), fun h => absurd h hne⟩) (fun he => ?_) (fun i hi hno hgo => ?_)
  · simp only [slices_Equal_impl_Param_impl_Param.l2, decide_eq_true_eq]
    exact EvP.neg (by omega) (EvP.ret ⟨fun _ => he, fun _ => rfl⟩)
  · simp only [slices_Equal_impl_Param_impl_Param.l2, decide_eq_true_eq, Int.toNat_natCast, w64, IntKind.wrap_i64]
    refine EvP.pos (by omega) (EvP.pos (by omega) (EvP.pos (by omega) (EvP.pos (by omega) (EvP.pos (by omega) ?_))))
    refine EvP.ite (fun h => EvP.ret (hno fun e => ?_)) (fun h => ?_)
    · rw [e] at h
      simp at h
    · have := hgo ((eqT9 _ _).2 (by simpa [toList_eq] using h))
      rwa [show ((i + 1 : Nat) : Int) = ((i : Int) + 1 + 9223372036854775808) % 18446744073709551616 - 9223372036854775808 by omega] at this

theorem impl_sameObject_same (x z : TObject.D) (hfx : Fit TObject x) (hfz : Fit TObject z) : EvP (fun k => impl_sameObject.f k (x, z, ())) (fun y => y.1 = true ↔ x = z) := by
  simp only [impl_sameObject.f, beq_iff_eq, toList_eq]
  repeat' (first
    | (refine EvP.ret ?_; rw [eqT14 x z]; simp_all [toList_eq])
    | (refine EvP.ite (fun _ => ?_) (fun _ => ?_))
    | ((with_reducible refine EvP.bind (slices_Equal_impl_Param_impl_Param_same _ _ ?_ ?_) ?_); (· first | exact hfx.1 | exact hfx | exact hfx.2.1 | exact hfx.2 | exact hfx.2.2.1 | exact hfx.2.2 | exact hfx.2.2.2.1 | exact hfx.2.2.2 | exact hfx.2.2.2.2.1 | exact hfx.2.2.2.2 | exact hfx.2.2.2.2.2.1 | exact hfx.2.2.2.2.2 | exact hfx.2.2.2.2.2.2.1 | exact hfx.2.2.2.2.2.2 | exact hfx.2.2.2.2.2.2.2.1 | exact hfx.2.2.2.2.2.2.2); (· first | exact hfz.1 | exact hfz | exact hfz.2.1 | exact hfz.2 | exact hfz.2.2.1 | exact hfz.2.2 | exact hfz.2.2.2.1 | exact hfz.2.2.2 | exact hfz.2.2.2.2.1 | exact hfz.2.2.2.2 | exact hfz.2.2.2.2.2.1 | exact hfz.2.2.2.2.2 | exact hfz.2.2.2.2.2.2.1 | exact hfz.2.2.2.2.2.2 | exact hfz.2.2.2.2.2.2.2.1 | exact hfz.2.2.2.2.2.2.2); rintro ⟨y, _⟩ hy))

theorem slices_EqualFunc_impl_Object_impl_Object_impl_Object_impl_Object_same (a b : List (TObject : Ty).D) (hfa : Fit (.slice TObject) a) (hfb : Fit (.slice TObject) b) : EvP (fun k => slices_EqualFunc_impl_Object_impl_Object_impl_Object_impl_Object.f k (a, b, (), ())) (fun y => y.1 = true ↔ a = b) := by
  have hs : a.length ≤ 1048576 := hfa.1
  simp only [slices_EqualFunc_impl_Object_impl_Object_impl_Object_impl_Object.f, bne_iff_ne, ne_eq]
  refine EvP.ite (fun hl => EvP.ret ⟨fun h => (by cases h), fun h => absurd (by rw [h]) hl⟩) (fun hl => ?_)
  have hl' : a.length = b.length := by omega
  refine EvP.same (t := TObject) (a := a) (b := b) (L := fun k i => slices_EqualFunc_impl_Object_impl_Object_impl_Object_impl_Object.l2 k (b, (), a, (a.length : Int), i, ())) hl' (fun hne => ⟨fun h => (by cases h), fun h => absurd h hne⟩) (fun he => ?_) (fun i hi hno hgo => ?_)
  · simp only [slices_EqualFunc_impl_Object_impl_Object_impl_Object_impl_Object.l2, decide_eq_true_eq]
    exact EvP.neg (by omega) (EvP.ret ⟨fun _ => he, fun _ => rfl⟩)
  · simp only [slices_EqualFunc_impl_Object_impl_Object_impl_Object_impl_Object.l2, decide_eq_true_eq, Int.toNat_natCast, w64, IntKind.wrap_i64]
    refine EvP.pos (by omega) (EvP.pos (by omega) (EvP.pos (by omega) (EvP.pos (by omega) (EvP.pos (by omega) ?_))))
    refine EvP.bind (impl_sameObject_same _ _ (hfa.2 _ (rdT_mem hi)) (hfb.2 _ (rdT_mem (by omega)))) ?_
    rintro ⟨y, _⟩ hy
    refine EvP.ite (fun h => EvP.ret (hno fun e => ?_)) (fun h => ?_)
    · have := hy.2 e
      simp_all
    · have := hgo (hy.1 (by simpa using h))
      rwa [show ((i + 1 : Nat) : Int) = ((i : Int) + 1 + 9223372036854775808) % 18446744073709551616 - 9223372036854775808 by omega] at this

theorem slices_Equal_impl_Use_impl_Use_same (a b : List (TUse : Ty).D) (hfa : Fit (.slice TUse) a) (hfb : Fit (.slice TUse) b) : EvP (fun k => slices_Equal_impl_Use_impl_Use.f k (a, b, ())) (fun y => y.1 = true ↔ a = b) := by
  have hs : a.length ≤ 1048576 := hfa.1
  simp only [slices_Equal_impl_Use_impl_Use.f, bne_iff_ne, ne_eq]
  refine EvP.ite (fun hl => EvP.ret ⟨fun h => (by cases h), fun h => absurd (by rw [h]) hl⟩) (fun hl => ?_)
  have hl' : a.length = b.length := by omega
  refine EvP.same (t := TUse) (a := a) (b := b) (L := fun k i => slices_Equal_impl_Use_impl_Use.l2 k (a, b, (a.length : Int), i, ())) hl' (fun hne => ⟨fun h => (by cases h), fun h => absurd h hne⟩) (fun he => ?_) (fun i hi hno hgo => ?_)
  · simp only [slices_Equal_impl_Use_impl_Use.l2, decide_eq_true_eq]
    exact EvP.neg (by omega) (EvP.ret ⟨fun _ => he, fun _ => rfl⟩)
  · simp only [slices_Equal_impl_Use_impl_Use.l2, decide_eq_true_eq, Int.toNat_natCast, w64, IntKind.wrap_i64]
    refine EvP.pos (by omega) (EvP.pos (by omega) (EvP.pos (by omega) (EvP.pos (by omega) (EvP.pos (by omega) ?_))))
    refine EvP.ite (fun h => EvP.ret (hno fun e => ?_)) (fun h => ?_)
    · rw [e] at h
      simp at h
    · have := hgo ((eqT3 _ _).2 (by simpa [toList_eq] using h))
      rwa [show ((i + 1 : Nat) : Int) = ((i : Int) + 1 + 9223372036854775808) % 18446744073709551616 - 9223372036854775808 by omega] at this

theorem impl_sameScope_same (x z : TScope.D) (hfx : Fit TScope x) (hfz : Fit TScope z) : EvP (fun k => impl_sameScope.f k (x, z, ())) (fun y => y.1 = true ↔ x = z) := by
  simp only [impl_sameScope.f, beq_iff_eq, toList_eq]
  repeat' (first
    | (refine EvP.ret ?_; rw [eqT18 x z]; simp_all [toList_eq])
    | (refine EvP.ite (fun _ => ?_) (fun _ => ?_))
    | ((with_reducible refine EvP.bind (slices_Equal_string_string_same _ _ ?_ ?_) ?_); (· first | exact hfx.1 | exact hfx | exact hfx.2.1 | exact hfx.2 | exact hfx.2.2.1 | exact hfx.2.2 | exact hfx.2.2.2.1 | exact hfx.2.2.2 | exact hfx.2.2.2.2.1 | exact hfx.2.2.2.2 | exact hfx.2.2.2.2.2.1 | exact hfx.2.2.2.2.2 | exact hfx.2.2.2.2.2.2.1 | exact hfx.2.2.2.2.2.2 | exact hfx.2.2.2.2.2.2.2.1 | exact hfx.2.2.2.2.2.2.2); (· first | exact hfz.1 | exact hfz | exact hfz.2.1 | exact hfz.2 | exact hfz.2.2.1 | exact hfz.2.2 | exact hfz.2.2.2.1 | exact hfz.2.2.2 | exact hfz.2.2.2.2.1 | exact hfz.2.2.2.2 | exact hfz.2.2.2.2.2.1 | exact hfz.2.2.2.2.2 | exact hfz.2.2.2.2.2.2.1 | exact hfz.2.2.2.2.2.2 | exact hfz.2.2.2.2.2.2.2.1 | exact hfz.2.2.2.2.2.2.2); rintro ⟨y, _⟩ hy)
    | ((with_reducible refine EvP.bind (slices_EqualFunc_impl_Type_impl_Type_impl_Type_impl_Type_same _ _ ?_ ?_) ?_); (· first | exact hfx.1 | exact hfx | exact hfx.2.1 | exact hfx.2 | exact hfx.2.2.1 | exact hfx.2.2 | exact hfx.2.2.2.1 | exact hfx.2.2.2 | exact hfx.2.2.2.2.1 | exact hfx.2.2.2.2 | exact hfx.2.2.2.2.2.1 | exact hfx.2.2.2.2.2 | exact hfx.2.2.2.2.2.2.1 | exact hfx.2.2.2.2.2.2 | exact hfx.2.2.2.2.2.2.2.1 | exact hfx.2.2.2.2.2.2.2); (· first | exact hfz.1 | exact hfz | exact hfz.2.1 | exact hfz.2 | exact hfz.2.2.1 | exact hfz.2.2 | exact hfz.2.2.2.1 | exact hfz.2.2.2 | exact hfz.2.2.2.2.1 | exact hfz.2.2.2.2 | exact hfz.2.2.2.2.2.1 | exact hfz.2.2.2.2.2 | exact hfz.2.2.2.2.2.2.1 | exact hfz.2.2.2.2.2.2 | exact hfz.2.2.2.2.2.2.2.1 | exact hfz.2.2.2.2.2.2.2); rintro ⟨y, _⟩ hy)
    | ((with_reducible refine EvP.bind (slices_EqualFunc_impl_Object_impl_Object_impl_Object_impl_Object_same _ _ ?_ ?_) ?_); (· first | exact hfx.1 | exact hfx | exact hfx.2.1 | exact hfx.2 | exact hfx.2.2.1 | exact hfx.2.2 | exact hfx.2.2.2.1 | exact hfx.2.2.2 | exact hfx.2.2.2.2.1 | exact hfx.2.2.2.2 | exact hfx.2.2.2.2.2.1 | exact hfx.2.2.2.2.2 | exact hfx.2.2.2.2.2.2.1 | exact hfx.2.2.2.2.2.2 | exact hfx.2.2.2.2.2.2.2.1 | exact hfx.2.2.2.2.2.2.2); (· first | exact hfz.1 | exact hfz | exact hfz.2.1 | exact hfz.2 | exact hfz.2.2.1 | exact hfz.2.2 | exact hfz.2.2.2.1 | exact hfz.2.2.2 | exact hfz.2.2.2.2.1 | exact hfz.2.2.2.2 | exact hfz.2.2.2.2.2.1 | exact hfz.2.2.2.2.2 | exact hfz.2.2.2.2.2.2.1 | exact hfz.2.2.2.2.2.2 | exact hfz.2.2.2.2.2.2.2.1 | exact hfz.2.2.2.2.2.2.2); rintro ⟨y, _⟩ hy)
    | ((with_reducible refine EvP.bind (slices_Equal_impl_Use_impl_Use_same _ _ ?_ ?_) ?_); (· first | exact hfx.1 | exact hfx | exact hfx.2.1 | exact hfx.2 | exact hfx.2.2.1 | exact hfx.2.2 | exact hfx.2.2.2.1 | exact hfx.2.2.2 | exact hfx.2.2.2.2.1 | exact hfx.2.2.2.2 | exact hfx.2.2.2.2.2.1 | exact hfx.2.2.2.2.2 | exact hfx.2.2.2.2.2.2.1 | exact hfx.2.2.2.2.2.2 | exact hfx.2.2.2.2.2.2.2.1 | exact hfx.2.2.2.2.2.2.2); (· first | exact hfz.1 | exact hfz | exact hfz.2.1 | exact hfz.2 | exact hfz.2.2.1 | exact hfz.2.2 | exact hfz.2.2.2.1 | exact hfz.2.2.2 | exact hfz.2.2.2.2.1 | exact hfz.2.2.2.2 | exact hfz.2.2.2.2.2.1 | exact hfz.2.2.2.2.2 | exact hfz.2.2.2.2.2.2.1 | exact hfz.2.2.2.2.2.2 | exact hfz.2.2.2.2.2.2.2.1 | exact hfz.2.2.2.2.2.2.2); rintro ⟨y, _⟩ hy))

/-! ### Walks through a table: which types have been met, in which order -/

def numN (σ : List Nat) (i : Nat) : Int := if i ∈ σ then (σ.idxOf i : Int) else -1
def numI (σ : List Nat) (n : Int) : Int := if n < 0 then n else numN σ n.toNat
def ords (σ : List Nat) : List Int := σ.map fun i : Nat => (i : Int)
def toL (N : Nat) (σ : List Nat) : List Int := (List.range N).map (numN σ)
/-- Met already, or no type at all. -/
def InM (σ : List Nat) (n : Int) : Prop := 0 ≤ n → n.toNat ∈ σ

structure Met (N : Nat) (σ : List Nat) : Prop where
  nodup : σ.Nodup
  lt : ∀ i ∈ σ, i < N

theorem ords_len (σ : List Nat) : (ords σ).length = σ.length := by simp [ords]
theorem toL_len (N : Nat) (σ : List Nat) : (toL N σ).length = N := by simp [toL]

theorem toL_rd {N i : Nat} (σ : List Nat) (h : i < N) : rdT (.int .i64) (toL N σ) i = numN σ i := by
  simp [rdT, List.getD, toL, h]

theorem Met.len {N : Nat} {σ : List Nat} (h : Met N σ) : σ.length ≤ N := by
  have := nodup_bound N (ords σ) (by
    unfold ords
    exact List.Pairwise.map _ (fun a b hab e => hab (by exact Int.ofNat.inj e)) h.nodup) (fun x hx => by
    obtain ⟨i, hi, rfl⟩ := List.mem_map.1 hx
    have := h.lt i hi
    exact ⟨by omega, by omega⟩)
  rwa [ords_len] at this

theorem numN_in {σ : List Nat} {i : Nat} (h : i ∈ σ) : numN σ i = (σ.idxOf i : Int) := by unfold numN; rw [if_pos h]
theorem numN_out {σ : List Nat} {i : Nat} (h : i ∉ σ) : numN σ i = -1 := by unfold numN; rw [if_neg h]

theorem numN_pre {σ τ : List Nat} (h : σ <+: τ) {i : Nat} (hi : i ∈ σ) : numN τ i = numN σ i := by
  obtain ⟨c, rfl⟩ := h
  rw [numN_in hi, numN_in (List.mem_append.2 (.inl hi)), List.idxOf_append, if_pos hi]

theorem InM.pre {σ τ : List Nat} (h : σ <+: τ) {n : Int} (hi : InM σ n) : InM τ n := fun h0 => h.subset (hi h0)

theorem numI_pre {σ τ : List Nat} (h : σ <+: τ) {n : Int} (hi : InM σ n) : numI τ n = numI σ n := by
  unfold numI
  split
  · rfl
  · exact numN_pre h (hi (by omega))

theorem Met.add {N : Nat} {σ : List Nat} (h : Met N σ) {n : Nat} (hn : n ∉ σ) (hl : n < N) : Met N (σ ++ [n]) := by
  refine ⟨?_, fun i hi => ?_⟩
  · rw [List.nodup_append]
    refine ⟨h.nodup, by simp, fun a ha b hb => ?_⟩
    rw [List.mem_singleton.1 hb]
    rintro rfl
    exact hn ha
  · rcases List.mem_append.1 hi with hi | hi
    · exact h.lt i hi
    · rw [List.mem_singleton.1 hi]; exact hl

theorem idxOf_new {σ : List Nat} {n : Nat} (hn : n ∉ σ) : (σ ++ [n]).idxOf n = σ.length := by
  rw [List.idxOf_append, if_neg hn]; simp

theorem toL_set {N : Nat} {σ : List Nat} {n : Nat} (hn : n ∉ σ) (hl : n < N) : (toL N σ).set n (σ.length : Int) = toL N (σ ++ [n]) := by
  apply List.ext_getElem (by simp [toL])
  intro i h1 h2
  simp only [toL, List.getElem_set, List.getElem_map, List.getElem_range]
  by_cases hi : n = i
  · subst hi
    rw [if_pos rfl, numN_in (by simp), idxOf_new hn]
  · rw [if_neg hi]
    by_cases hm : i ∈ σ
    · rw [numN_pre (List.prefix_append _ _) hm]
    · rw [numN_out hm, numN_out (by simp [hm, Ne.symm hi])]

theorem ords_add (σ : List Nat) (n : Nat) : ords σ ++ [(n : Int)] = ords (σ ++ [n]) := by simp [ords]

/-! ### Maps from numbers to numbers -/

theorem mget_put (l : List (Int × Int)) (x y z : Int) : mget (k := .int .i64) (v := .int .i64) (mput (k := .int .i64) (v := .int .i64) l x y) z = if z = x then some y else mget (k := .int .i64) (v := .int .i64) l z := by
  induction l with
  | nil =>
    simp only [mput, mget, eqD, beq_iff_eq]
  | cons e r ih =>
    simp only [mput, eqD, beq_iff_eq]
    split
    · rename_i h
      simp only [mget, eqD, beq_iff_eq]
      split
      · rfl
      · rename_i h2; rw [if_neg (by rw [← h]; exact h2)]
    · rename_i h
      simp only [mget, eqD, beq_iff_eq, ih]
      split
      · rename_i h2; rw [if_neg (by rw [h2]; exact fun e => h e.symm)]
      · rfl

/-! ### The pool -/

theorem refL_app {α : Type} (pl : List (List α)) (x : List α) : refL (pl ++ [x]) (pl.length + 1) = x := by simp [refL]

theorem refL_at {α : Type} (pl : List (List α)) (j : Nat) : refL pl (j + 1) = pl.getD j [] := rfl

theorem refSet_len {α : Type} (pl : List (List α)) (r : Nat) (l : List α) : (refSet pl r l).length = pl.length := by
  cases r <;> simp [refSet]

theorem refL_set {α : Type} (pl : List (List α)) {r : Nat} (h1 : 0 < r) (h2 : r ≤ pl.length) (l : List α) : refL (refSet pl r l) r = l := by
  obtain ⟨k, rfl⟩ : ∃ k, r = k + 1 := ⟨r - 1, by omega⟩
  simp [refL, refSet, List.getD, show k < pl.length by omega]

theorem refSet_other {α : Type} (pl : List (List α)) {r j : Nat} (h : j + 1 ≠ r) (l : List α) : (refSet pl r l)[j]? = pl[j]? := by
  cases r with
  | zero => rfl
  | succ k => simp only [refSet]; exact List.getElem?_set_ne (by omega)

theorem refL_same {α : Type} {pl pl' : List (List α)} {r : Nat} (h1 : 0 < r) (h : pl'[r - 1]? = pl[r - 1]?) : refL pl' r = refL pl r := by
  obtain ⟨k, rfl⟩ : ∃ k, r = k + 1 := ⟨r - 1, by omega⟩
  simp only [refL, List.getD]
  simp only [Nat.add_sub_cancel] at h
  rw [h]


end Go.Proofs.YtlkmfgnalobkmaaGreat.LawFnExactFileSum
