/- The plain law FnExactSizeOf: its Lean function answers true at all data. -/
import Derived.Test.YtmcdddghlcllbaaDFnExactSizeOf
set_option autoImplicit false
set_option linter.unusedVariables false
set_option linter.unusedSimpArgs false
namespace Go.Proofs.Ytmcdddghlcllbaa.LawFnExactSizeOf
open Go.Proofs.Ytmcdddghlcllbaa.Den Go.Proofs

theorem l1In_ev (a b c : Int) : EvP (fun k => spec_l1In.f k (a, b, c, ())) (fun y => y.1 = decide (b ≤ a ∧ a ≤ c)) := by
  simp only [spec_l1In.f, decide_eq_true_eq]
  refine EvP.ite (fun h => EvP.ret ?_) (fun h => EvP.ret ?_)
  · simp only [ge_iff_le] at h; simp [h]
  · simp only [ge_iff_le] at h; simp [h]

theorem in_ev (a b c : Int) : EvP (fun k => impl_in.f k (a, b, c, ())) (fun y => y.1 = decide (b ≤ a ∧ a ≤ c)) := by
  simp only [impl_in.f, decide_eq_true_eq]
  refine EvP.ite (fun h => EvP.ret ?_) (fun h => EvP.ret ?_)
  · simp only [ge_iff_le] at h; simp [h]
  · simp only [ge_iff_le] at h; simp [h]

def letter (b : Int) : Prop := (65 ≤ b ∧ b ≤ 90) ∨ (97 ≤ b ∧ b ≤ 122)
def digit (b : Int) : Prop := 48 ≤ b ∧ b ≤ 57

theorem isLetter_ev (b : Int) : EvP (fun k => impl_isLetter.f k (b, ())) (fun y => y.1 = true ↔ letter b) := by
  simp only [impl_isLetter.f, decide_eq_true_eq, letter]
  repeat' (first
    | (refine EvP.ret ?_; simp only [decide_eq_true_eq]; first | omega | (simp; omega))
    | (refine EvP.ite (fun _ => ?_) (fun _ => ?_)))

theorem isDigit_ev (b : Int) : EvP (fun k => impl_isDigit.f k (b, ())) (fun y => y.1 = true ↔ digit b) := by
  simp only [impl_isDigit.f, decide_eq_true_eq, digit]
  repeat' (first
    | (refine EvP.ret ?_; simp only [decide_eq_true_eq]; first | omega | (simp; omega))
    | (refine EvP.ite (fun _ => ?_) (fun _ => ?_)))

def good (x : ByteArray) (i : Nat) : Prop := letter (bt x i) ∨ (i ≠ 0 ∧ digit (bt x i))
def Named (x : ByteArray) : Prop := (∀ i < x.size, good x i) ∧ 1 ≤ x.size ∧ x.size ≤ 10

theorem spec_l1Name_ev (x : ByteArray) (hs : x.size ≤ 1048576) : EvP (fun k => spec_l1Name.f k (x, ())) (fun y => y.1 = true ↔ Named x) := by
  have loop := EvP.loop (L := spec_l1Name.l1) (Q := fun y => y.1 = true ↔ Named x) (fun j s => ∃ i : Nat, s = (x, (i : Int), ()) ∧ i ≤ x.size ∧ j = x.size - i ∧ ∀ p < i, good x p) ?_
  · simp only [spec_l1Name.f]
    exact loop _ _ ⟨0, rfl, Nat.zero_le _, rfl, fun p hp => absurd hp (Nat.not_lt_zero _)⟩
  · rintro j _ ⟨i, rfl, hi, rfl, hg⟩ ih
    simp only [spec_l1Name.l1, decide_eq_true_eq, Int.toNat_natCast, w64, IntKind.wrap_i64, Bool.not_eq_true', decide_eq_false_iff_not, beq_iff_eq]
    refine EvP.ite (fun hlt => EvP.pos (by omega) (EvP.pos (by omega) ?_)) (fun hge => ?_)
    · have hno : ¬ good x i → (((false, ()) : Bool × Unit).1 = true ↔ Named x) := fun h => ⟨fun e => (by cases e), fun hn => absurd (hn.1 i (by omega)) h⟩
      have hgo : good x i → EvP (fun k => spec_l1Name.l1 k (x, (((i : Int) + 1 + 9223372036854775808) % 18446744073709551616 - 9223372036854775808), ())) (fun y => y.1 = true ↔ Named x) := fun h => by
        refine ih (x.size - (i + 1)) _ (by omega) ⟨i + 1, ?_, by omega, rfl, fun p hp => ?_⟩
        · rw [show ((i + 1 : Nat) : Int) = ((i : Int) + 1 + 9223372036854775808) % 18446744073709551616 - 9223372036854775808 by omega]
        · rcases Nat.lt_or_ge p i with h2 | h2
          · exact hg p h2
          · obtain rfl : p = i := by omega
            exact h
      repeat' (first
        | (refine EvP.ite (fun _ => ?_) (fun _ => ?_))
        | (refine EvP.ret ?_; exact hno (by simp only [good, letter, digit]; omega))
        | (exact hgo (by simp only [good, letter, digit]; omega)))
    · refine EvP.bind (l1In_ev _ 1 10) ?_
      rintro ⟨y, _⟩ hy
      refine EvP.ret ?_
      simp only at hy
      subst hy
      simp only [decide_eq_true_eq]
      exact ⟨fun h => ⟨fun p hp => hg p (by omega), by omega, by omega⟩, fun h => by have := h.2; omega⟩

theorem impl_isName_ev (x : ByteArray) (hs : x.size ≤ 1048576) : EvP (fun k => impl_isName.f k (x, ())) (fun y => y.1 = true ↔ Named x) := by
  have loop := EvP.loop (L := impl_isName.l1) (Q := fun y => y.1 = true ↔ Named x) (fun j s => ∃ i : Nat, s = (x, (x.size : Int), (i : Int), ()) ∧ i ≤ x.size ∧ j = x.size - i ∧ ∀ p < i, good x p) ?_
  · simp only [impl_isName.f]
    exact loop _ _ ⟨0, rfl, Nat.zero_le _, rfl, fun p hp => absurd hp (Nat.not_lt_zero _)⟩
  · rintro j _ ⟨i, rfl, hi, rfl, hg⟩ ih
    simp only [impl_isName.l1, decide_eq_true_eq, Int.toNat_natCast, w64, IntKind.wrap_i64, Bool.not_eq_true', decide_eq_false_iff_not, beq_iff_eq]
    refine EvP.ite (fun hlt => EvP.pos (by omega) (EvP.pos (by omega) ?_)) (fun hge => ?_)
    · have hno : ¬ good x i → (((false, ()) : Bool × Unit).1 = true ↔ Named x) := fun h => ⟨fun e => (by cases e), fun hn => absurd (hn.1 i (by omega)) h⟩
      have hgo : good x i → EvP (fun k => impl_isName.l1 k (x, (x.size : Int), (((i : Int) + 1 + 9223372036854775808) % 18446744073709551616 - 9223372036854775808), ())) (fun y => y.1 = true ↔ Named x) := fun h => by
        refine ih (x.size - (i + 1)) _ (by omega) ⟨i + 1, ?_, by omega, rfl, fun p hp => ?_⟩
        · rw [show ((i + 1 : Nat) : Int) = ((i : Int) + 1 + 9223372036854775808) % 18446744073709551616 - 9223372036854775808 by omega]
        · rcases Nat.lt_or_ge p i with h2 | h2
          · exact hg p h2
          · obtain rfl : p = i := by omega
            exact h
      refine EvP.bind (isLetter_ev _) ?_
      rintro ⟨y, _⟩ hy
      simp only at hy
      refine EvP.ite (fun h => ?_) (fun h => hgo (.inl (hy.1 (by simpa using h))))
      have hl : ¬ letter (bt x i) := fun e => by
        have := hy.2 e
        simp_all
      refine EvP.ite (fun h0 => EvP.ret (hno fun e => ?_)) (fun h0 => EvP.pos (by omega) (EvP.pos (by omega) ?_))
      · rcases e with e | e
        · exact hl e
        · exact e.1 (by omega)
      · refine EvP.bind (isDigit_ev _) ?_
        rintro ⟨z, _⟩ hz
        simp only at hz
        refine EvP.ite (fun h1 => EvP.ret (hno fun e => ?_)) (fun h1 => hgo (.inr ⟨by omega, hz.1 (by simpa using h1)⟩))
        rcases e with e | e
        · exact hl e
        · have := hz.2 e.2
          simp_all
    · refine EvP.bind (in_ev _ 1 10) ?_
      rintro ⟨y, _⟩ hy
      refine EvP.ret ?_
      simp only at hy
      subst hy
      simp only [decide_eq_true_eq]
      exact ⟨fun h => ⟨fun p hp => hg p (by omega), by omega, by omega⟩, fun h => by have := h.2; omega⟩

theorem toList_nil {s : ByteArray} : s.toList = [] ↔ s = ByteArray.empty := by
  constructor
  · intro h
    exact toList_inj (h.trans (by simp))
  · intro h
    subst h
    simp

/-! ### Good tables of types, but perhaps round ones -/

def InR (N : Nat) (n : Int) : Prop := 0 ≤ n ∧ n < (N : Int)

def FieldOk (N : Nat) (x : TField.D) : Prop := (Named x.1 ∨ (x.1 = ByteArray.empty ∧ (x.2.1 : Int) = 0)) ∧ ((0 : Int) ≤ x.2.1 ∧ x.2.1 ≤ (2 : Int)) ∧ InR N x.2.2
def Apart (x y : TField.D) : Prop := ¬ (x.1 ≠ ByteArray.empty ∧ x.1 = y.1)
def FieldsOk (N : Nat) (f : List TField.D) : Prop := (∀ i, i < f.length → FieldOk N (rdT TField f i) ∧ ∀ j, j < i → Apart (rdT TField f i) (rdT TField f j)) ∧ f.length ≤ 6

def KindIs (l : List TType.D) (n : Int) (a b : Int) : Prop := InR l.length n ∧ ((rdT TType l n.toNat).1 = a ∨ (rdT TType l n.toNat).1 = b)

def NamedT (t : TType.D) : Prop := (Named t.2.2.2.2.2 ∧ Named t.2.2.2.2.1) ∨ (t.2.2.2.2.2 = ByteArray.empty ∧ t.2.2.2.2.1 = ByteArray.empty)
def TypeOk (l : List TType.D) (t : TType.D) : Prop :=
  NamedT t ∧ ((t.1 : Int) ≠ 5 → t.2.2.2.1.length = 0) ∧
    if (t.1 : Int) = 4 then ((1 : Int) ≤ t.2.1 ∧ t.2.1 ≤ (1000 : Int)) ∧ InR l.length t.2.2.1
    else if (t.1 : Int) = 5 then (t.2.1 : Int) = 0 ∧ ((t.2.2.1 : Int) = -1 ∨ KindIs l t.2.2.1 5 5) ∧ FieldsOk l.length t.2.2.2.1
    else (t.1 : Int) = 6 ∧ (t.2.1 : Int) = 0 ∧ KindIs l t.2.2.1 5 4

theorem len1 {α : Type} {l : List α} (h : l.length ≤ 1048576) : w64 ((l.length : Int) - (1 : Int)) = (l.length : Int) - 1 := w64_id (by omega) (by omega)

theorem isNumber_ev (l : List TType.D) (n : Int) (hl : l.length ≤ 1048576) : EvP (fun k => impl_isNumber.f k (l, n, ())) (fun y => y.1 = true ↔ InR l.length n) := by
  simp only [impl_isNumber.f, len1 hl]
  refine EvP.bind (in_ev _ _ _) ?_
  rintro ⟨y, _⟩ hy
  refine EvP.ret ?_
  simp only at hy
  subst hy
  simp only [decide_eq_true_eq, InR]
  omega

theorem l3Kind_ev (l : List TType.D) (n a b : Int) (hl : l.length ≤ 1048576) : EvP (fun k => spec_l3Kind.f k (l, n, a, b, ())) (fun y => y.1 = true ↔ KindIs l n a b) := by
  simp only [spec_l3Kind.f, len1 hl, beq_iff_eq]
  refine EvP.bind (l1In_ev _ _ _) ?_
  rintro ⟨y, _⟩ hy
  simp only at hy
  subst hy
  simp only [decide_eq_true_eq]
  refine EvP.ite (fun h => ?_) (fun h => EvP.ret ⟨fun e => (by cases e), fun e => ?_⟩)
  · have hi : InR l.length n := ⟨h.1, by omega⟩
    refine EvP.pos h.1 (EvP.pos hi.2 (EvP.ite (fun h1 => EvP.ret ⟨fun _ => ⟨hi, .inl h1⟩, fun _ => rfl⟩) (fun h1 => EvP.pos h.1 (EvP.pos hi.2 (EvP.ret ?_)))))
    simp only [beq_iff_eq]
    exact ⟨fun e => ⟨hi, .inr e⟩, fun e => e.2.resolve_left h1⟩
  · have := e.1
    unfold InR at this
    omega

theorem isRecord_ev (l : List TType.D) (n : Int) (hl : l.length ≤ 1048576) : EvP (fun k => impl_isRecord.f k (l, n, ())) (fun y => y.1 = true ↔ KindIs l n 5 5) := by
  simp only [impl_isRecord.f]
  refine EvP.bind (isNumber_ev _ _ hl) ?_
  rintro ⟨y, _⟩ hy
  simp only at hy
  refine EvP.ite (fun h => ?_) (fun h => EvP.ret ⟨fun e => (by cases e), fun e => absurd (hy.2 e.1) h⟩)
  have hi := hy.1 h
  refine EvP.pos hi.1 (EvP.pos hi.2 (EvP.ret ?_))
  simp only [beq_iff_eq]
  exact ⟨fun e => ⟨hi, .inl e⟩, fun e => e.2.elim id id⟩

theorem isNamed_ev (t : TType.D) (hf : Fit TType t) : EvP (fun k => impl_Type_isNamed.f k (t, ())) (fun y => y.1 = true ↔ NamedT t) := by
  simp only [impl_Type_isNamed.f, beq_iff_eq, toList_eq]
  refine EvP.bind (impl_isName_ev _ hf.2.2.2.2.2) ?_
  rintro ⟨y, _⟩ hy
  simp only at hy
  have hlast : ¬ (Named t.2.2.2.2.2 ∧ Named t.2.2.2.2.1) → EvP (fun k => if t.2.2.2.2.2 = ByteArray.empty then (some ((t.2.2.2.2.1.toList == ByteArray.empty.toList), ()) : Option (Bool × Unit)) else some (false, ())) (fun y => y.1 = true ↔ NamedT t) := fun hn => by
    refine EvP.ite (fun h => EvP.ret ?_) (fun h => EvP.ret ⟨fun e => (by cases e), fun e => absurd (e.resolve_left hn).1 h⟩)
    simp only [beq_iff_eq, toList_eq]
    exact ⟨fun e => .inr ⟨h, e⟩, fun e => (e.resolve_left hn).2⟩
  refine EvP.ite (fun h => ?_) (fun h => hlast fun e => h (hy.2 e.1))
  refine EvP.bind (impl_isName_ev _ hf.2.2.2.2.1) ?_
  rintro ⟨z, _⟩ hz
  simp only at hz
  exact EvP.ite (fun h' => EvP.ret ⟨fun _ => .inl ⟨hy.1 h, hz.1 h'⟩, fun _ => rfl⟩) (fun h' => hlast fun e => h' (hz.2 e.2))

/-! fields -/

theorem findF_ev (l : List TField.D) (x : TField.D) (hl : l.length ≤ 1048576) : EvP (fun k => slices_ContainsFunc_impl_Field_impl_Field.f k (l, (x, ()), ())) (fun y => y.1 = true ↔ ∃ p, p < l.length ∧ (rdT TField l p).1 = x.1) := by
  simp only [slices_ContainsFunc_impl_Field_impl_Field.f]
  have hi : EvP (fun k => slices_IndexFunc_impl_Field_impl_Field.f k (l, (x, ()), ())) (fun y => 0 ≤ y.1 ↔ ∃ p, p < l.length ∧ (rdT TField l p).1 = x.1) := by
    simp only [slices_IndexFunc_impl_Field_impl_Field.f]
    refine EvP.scan (L := fun k i => slices_IndexFunc_impl_Field_impl_Field.l1 k (l, (x, ()), (l.length : Int), i, ())) l.length (fun p => (rdT TField l p).1 ≠ x.1) (fun hall => ?_) (fun i hi hall hgo => ?_)
    · simp only [slices_IndexFunc_impl_Field_impl_Field.l1, decide_eq_true_eq]
      refine EvP.neg (by omega) (EvP.ret ⟨fun h => absurd h (by show ¬ (0 : Int) ≤ -1; decide), fun ⟨p, hp, h⟩ => absurd h (hall p hp)⟩)
    · simp only [slices_IndexFunc_impl_Field_impl_Field.l1, decide_eq_true_eq, Int.toNat_natCast, next64 (show i ≤ 1099511627776 by omega), impl_areFields_1.f, Option.bind_some, beq_iff_eq, toList_eq]
      refine EvP.pos (by omega) (EvP.pos (by omega) (EvP.pos (by omega) (EvP.ite (fun h => EvP.ret ⟨fun _ => ⟨i, hi, h⟩, fun _ => ?_⟩) (fun h => hgo h))))
      show (0 : Int) ≤ (i : Int)
      omega
  refine EvP.bind hi ?_
  rintro ⟨y, _⟩ hy
  refine EvP.ret ?_
  simpa using hy

theorem areFields_ev (l : List TType.D) (f : List TField.D) (hl : l.length ≤ 1048576) (hf : Fit (.slice TField) f) : EvP (fun k => impl_areFields.f k (l, f, ())) (fun y => y.1 = true ↔ FieldsOk l.length f) := by
  have hs : f.length ≤ 1048576 := hf.1
  simp only [impl_areFields.f]
  refine EvP.scan (L := fun k i => impl_areFields.l1 k (l, f, f, (f.length : Int), i, ())) f.length (fun i => FieldOk l.length (rdT TField f i) ∧ ∀ j, j < i → Apart (rdT TField f i) (rdT TField f j)) (fun hall => ?_) (fun i hi hall hgo => ?_)
  · simp only [impl_areFields.l1, decide_eq_true_eq]
    refine EvP.neg (by omega) (EvP.ret ?_)
    simp only [decide_eq_true_eq]
    exact ⟨fun h => ⟨hall, by omega⟩, fun h => by have := h.2; omega⟩
  · simp only [impl_areFields.l1, decide_eq_true_eq, Int.toNat_natCast, next64 (show i ≤ 1099511627776 by omega), beq_iff_eq, bne_iff_ne, toList_eq, Bool.not_eq_true']
    have hno : ¬ (FieldOk l.length (rdT TField f i) ∧ ∀ j, j < i → Apart (rdT TField f i) (rdT TField f j)) → (((false, ()) : Bool × Unit).1 = true ↔ FieldsOk l.length f) := fun h => ⟨fun e => (by cases e), fun e => absurd (e.1 i hi) h⟩
    refine EvP.pos (by omega) (EvP.pos (by omega) (EvP.pos (by omega) ?_))
    refine EvP.bind (in_ev _ _ _) ?_
    rintro ⟨y, _⟩ hy
    simp only at hy
    subst hy
    refine EvP.ite (fun h => EvP.ret (hno fun e => ?_)) (fun h => ?_)
    · simp only [decide_eq_false_iff_not] at h
      exact h e.1.2.1
    have hm : (0 : Int) ≤ (rdT TField f i).2.1 ∧ (rdT TField f i).2.1 ≤ (2 : Int) := by simpa using h
    refine EvP.bind (isNumber_ev _ _ hl) ?_
    rintro ⟨z, _⟩ hz
    simp only at hz
    refine EvP.ite (fun h1 => EvP.ret (hno fun e => ?_)) (fun h1 => ?_)
    · rw [hz.2 e.1.2.2] at h1; cases h1
    have ht : InR l.length (rdT TField f i).2.2 := hz.1 (by simpa using h1)
    refine EvP.ite (fun he => EvP.ite (fun h2 => EvP.ret (hno fun e => ?_)) (fun h2 => hgo ⟨⟨.inr ⟨he, by simpa using h2⟩, hm, ht⟩, fun j _ e => absurd he e.1⟩)) (fun he => ?_)
    · rcases e.1.1 with h3 | h3
      · rw [he] at h3
        have := h3.2.1
        simp at this
      · exact h2 h3.2
    refine EvP.bind (impl_isName_ev _ (hf.2 _ (rdT_mem hi)).1) ?_
    rintro ⟨u, _⟩ hu
    simp only at hu
    refine EvP.ite (fun h3 => EvP.ret (hno fun e => ?_)) (fun h3 => EvP.pos (by omega) (EvP.pos (by omega) ?_))
    · rcases e.1.1 with h4 | h4
      · rw [hu.2 h4] at h3; cases h3
      · exact he h4.1
    have hn : Named (rdT TField f i).1 := hu.1 (by simpa using h3)
    refine EvP.bind (findF_ev _ _ (by rw [List.length_take]; omega)) ?_
    rintro ⟨v, _⟩ hv
    simp only at hv
    have hiff : v = true ↔ ∃ j, j < i ∧ (rdT TField f j).1 = (rdT TField f i).1 := by
      rw [hv]
      constructor
      · rintro ⟨p, hp, h⟩
        rw [List.length_take] at hp
        rw [rdT_take (by omega)] at h
        exact ⟨p, by omega, h⟩
      · rintro ⟨p, hp, h⟩
        exact ⟨p, by rw [List.length_take]; omega, by rw [rdT_take hp]; exact h⟩
    refine EvP.ite (fun h4 => EvP.ret (hno fun e => ?_)) (fun h4 => hgo ⟨⟨.inl hn, hm, ht⟩, fun j hj e => h4 (hiff.2 ⟨j, hj, e.2.symm⟩)⟩)
    obtain ⟨j, hj, h⟩ := hiff.1 h4
    exact e.2 j hj ⟨he, h.symm⟩

theorem l3Fields_l6_ev (l : List TType.D) (f : List TField.D) (x : TField.D) (i : Nat) (a9 : List TField.D) (a10 a11 a32 : Int) (a33 a34 : Bool) (a38 : Int) (a39 : List TType.D) (a40 a41 : Int) (a42 a43 : Bool) (pre : List TField.D) (hp : pre.length ≤ 1048576) (Q : Bool × Unit → Prop)
    (hbad : ∀ p, p < pre.length → ¬ Apart x (rdT TField pre p) → Q (false, ())) (hgood : (∀ p, p < pre.length → Apart x (rdT TField pre p)) → EvP (fun k => spec_l3Fields.l1 k (l, f, a9, a10, w64 (a11 + (1 : Int)), ())) Q) :
    EvP (fun k => spec_l3Fields.l6 k (l, f, (x.1, (x.2.1, (x.2.2, ()))), a9, a10, a11, (), (), (), (), (), (), a32, a33, a34, a38, a39, a40, a41, a42, a43, pre, (pre.length : Int), 0, ())) Q := by
  refine EvP.scan (L := fun k i => spec_l3Fields.l6 k (l, f, (x.1, (x.2.1, (x.2.2, ()))), a9, a10, a11, (), (), (), (), (), (), a32, a33, a34, a38, a39, a40, a41, a42, a43, pre, (pre.length : Int), i, ())) pre.length (fun p => Apart x (rdT TField pre p)) (fun hall => ?_) (fun p hp' hall hgo => ?_)
  · simp only [spec_l3Fields.l6, decide_eq_true_eq]
    exact EvP.neg (by omega) (hgood hall)
  · simp only [spec_l3Fields.l6, decide_eq_true_eq, Int.toNat_natCast, next64 (show p ≤ 1099511627776 by omega), beq_iff_eq, toList_eq, Bool.not_eq_true', beq_eq_false_iff_ne, ne_eq]
    refine EvP.pos (by omega) (EvP.pos (by omega) (EvP.pos (by omega) (EvP.ite (fun h => EvP.ite (fun h2 => EvP.ret (hbad p hp' fun e => e ⟨h, h2⟩)) (fun h2 => hgo fun e => h2 e.2)) (fun h => hgo fun e => h e.1))))

theorem l3Fields_ev (l : List TType.D) (f : List TField.D) (hl : l.length ≤ 1048576) (hf : Fit (.slice TField) f) : EvP (fun k => spec_l3Fields.f k (l, f, ())) (fun y => y.1 = true ↔ FieldsOk l.length f) := by
  have hs : f.length ≤ 1048576 := hf.1
  simp only [spec_l3Fields.f]
  refine EvP.scan (L := fun k i => spec_l3Fields.l1 k (l, f, f, (f.length : Int), i, ())) f.length (fun i => FieldOk l.length (rdT TField f i) ∧ ∀ j, j < i → Apart (rdT TField f i) (rdT TField f j)) (fun hall => ?_) (fun i hi hall hgo => ?_)
  · simp only [spec_l3Fields.l1, decide_eq_true_eq]
    refine EvP.neg (by omega) (EvP.ret ?_)
    simp only [decide_eq_true_eq]
    exact ⟨fun h => ⟨hall, by omega⟩, fun h => by have := h.2; omega⟩
  · simp only [spec_l3Fields.l1, decide_eq_true_eq, Int.toNat_natCast, beq_iff_eq, bne_iff_ne, toList_eq, Bool.not_eq_true', len1 hl, beq_eq_false_iff_ne, ne_eq]
    have hno : ¬ (FieldOk l.length (rdT TField f i) ∧ ∀ j, j < i → Apart (rdT TField f i) (rdT TField f j)) → (((false, ()) : Bool × Unit).1 = true ↔ FieldsOk l.length f) := fun h => ⟨fun e => (by cases e), fun e => absurd (e.1 i hi) h⟩
    refine EvP.pos (by omega) (EvP.pos (by omega) (EvP.pos (by omega) ?_))
    refine EvP.bind (spec_l1Name_ev _ (hf.2 _ (rdT_mem hi)).1) ?_
    rintro ⟨u, _⟩ hu
    simp only at hu
    -- behind the name
    have hrest : (Named (rdT TField f i).1 ∨ ((rdT TField f i).1 = ByteArray.empty ∧ ((rdT TField f i).2.1 : Int) = 0)) → EvP (fun k => (spec_l1In.f k ((rdT TField f i).2.1, 0, 2, ())).bind fun y2 => if y2.1 = false then some (false, ()) else (spec_l1In.f k ((rdT TField f i).2.2, 0, (l.length : Int) - 1, ())).bind fun y3 => if y3.1 = false then some (false, ()) else
        if 0 ≤ (i : Int) then if (i : Int) ≤ (f.length : Int) then spec_l3Fields.l6 k (l, f, ((rdT TField f i).1, ((rdT TField f i).2.1, ((rdT TField f i).2.2, ()))), f, (f.length : Int), (i : Int), (), (), (), (), (), (), (rdT TField f i).2.1, y2.1, (!y2.1), (rdT TField f i).2.2, l, (l.length : Int), (l.length : Int) - 1, y3.1, (!y3.1), f.take i, ((f.take i).length : Int), 0, ()) else none else none) (fun y => y.1 = true ↔ FieldsOk l.length f) := by
      intro hname
      refine EvP.bind (l1In_ev _ _ _) ?_
      rintro ⟨y, _⟩ hy
      simp only at hy
      subst hy
      refine EvP.ite (fun h => EvP.ret (hno fun e => ?_)) (fun h => ?_)
      · simp only [decide_eq_false_iff_not] at h
        exact h e.1.2.1
      have hm : (0 : Int) ≤ (rdT TField f i).2.1 ∧ (rdT TField f i).2.1 ≤ (2 : Int) := by simpa using h
      refine EvP.bind (l1In_ev _ _ _) ?_
      rintro ⟨z, _⟩ hz
      simp only at hz
      subst hz
      refine EvP.ite (fun h => EvP.ret (hno fun e => ?_)) (fun h => EvP.pos (by omega) (EvP.pos (by omega) ?_))
      · simp only [decide_eq_false_iff_not] at h
        have := e.1.2.2
        unfold InR at this
        exact h ⟨this.1, by omega⟩
      have ht : InR l.length (rdT TField f i).2.2 := by
        have : (0 : Int) ≤ (rdT TField f i).2.2 ∧ (rdT TField f i).2.2 ≤ (l.length : Int) - 1 := by simpa using h
        exact ⟨this.1, Int.lt_of_le_sub_one this.2⟩
      refine l3Fields_l6_ev l f (rdT TField f i) i f _ _ _ _ _ _ _ _ _ _ _ (f.take i) (by rw [List.length_take]; omega) _ (fun p hp hbad => hno fun e => ?_) (fun hall => ?_)
      · rw [List.length_take] at hp
        rw [rdT_take (by omega)] at hbad
        exact hbad (e.2 p (by omega))
      · rw [next64 (show i ≤ 1099511627776 by omega)]
        refine hgo ⟨⟨hname, hm, ht⟩, fun j hj => ?_⟩
        have := hall j (by rw [List.length_take]; omega)
        rwa [rdT_take hj] at this
    refine EvP.ite (fun h3 => EvP.ite (fun h4 => EvP.ret (hno fun e => ?_)) (fun h4 => EvP.ite (fun h5 => EvP.ret (hno fun e => ?_)) (fun h5 => ?_))) (fun h3 => ?_)
    · rcases e.1.1 with h | h
      · rw [hu.2 h] at h3; cases h3
      · exact h4 h.1
    · rcases e.1.1 with h | h
      · rw [hu.2 h] at h3; cases h3
      · exact h5 h.2
    · exact hrest (.inr ⟨by simpa using h4, by simpa using h5⟩)
    · exact hrest (.inl (hu.1 (by simpa using h3)))

/-! one type -/

theorem cond_true {p : Prop} {b : Bool} (h : p) (hb : b = true) : (b = true ↔ p) := ⟨fun _ => h, fun _ => hb⟩

theorem isType_ev (l : List TType.D) (t : TType.D) (hl : l.length ≤ 1048576) (hf : Fit TType t) : EvP (fun k => impl_isType.f k (l, t, ())) (fun y => y.1 = true ↔ TypeOk l t) := by
  simp only [impl_isType.f, beq_iff_eq, bne_iff_ne, ne_eq, Bool.not_eq_true', decide_eq_true_eq]
  refine EvP.bind (isNamed_ev _ hf) ?_
  rintro ⟨y, _⟩ hy
  simp only at hy
  refine EvP.ite (fun h => EvP.ret ⟨fun e => (by cases e), fun e => ?_⟩) (fun h => ?_)
  · rw [hy.2 e.1] at h; cases h
  have hn : NamedT t := hy.1 (by simpa using h)
  -- the switch
  have hsw : ((t.1 : Int) ≠ 5 → t.2.2.2.1.length = 0) → EvP (fun k => if t.1 = (4 : Int) then ((impl_in.f k (t.2.1, 1, 1000, ())).bind fun y2 => if y2.1 = true then ((impl_isNumber.f k (l, t.2.2.1, ())).bind fun y3 => (some (y3.1, ()) : Option (Bool × Unit))) else some (false, ())) else if t.1 = (5 : Int) then (if t.2.1 = (0 : Int) then if t.2.2.1 = (-1 : Int) then ((impl_areFields.f k (l, t.2.2.2.1, ())).bind fun y4 => some (y4.1, ())) else ((impl_isRecord.f k (l, t.2.2.1, ())).bind fun y5 => if y5.1 = true then ((impl_areFields.f k (l, t.2.2.2.1, ())).bind fun y6 => some (y6.1, ())) else some (false, ())) else some (false, ())) else
      if t.1 = (6 : Int) then (if t.2.1 = (0 : Int) then ((impl_isRecord.f k (l, t.2.2.1, ())).bind fun y7 => if y7.1 = true then some (true, ()) else ((impl_isNumber.f k (l, t.2.2.1, ())).bind fun y8 => if y8.1 = true then (if 0 ≤ t.2.2.1 then if t.2.2.1 < (l.length : Int) then some ((rdT TType l t.2.2.1.toNat).1 == (4 : Int), ()) else none else none) else some (false, ()))) else some (false, ())) else some (false, ())) (fun y => y.1 = true ↔ TypeOk l t) := by
    intro hfl
    have key : TypeOk l t ↔ (if (t.1 : Int) = 4 then ((1 : Int) ≤ t.2.1 ∧ t.2.1 ≤ (1000 : Int)) ∧ InR l.length t.2.2.1 else if (t.1 : Int) = 5 then (t.2.1 : Int) = 0 ∧ ((t.2.2.1 : Int) = -1 ∨ KindIs l t.2.2.1 5 5) ∧ FieldsOk l.length t.2.2.2.1 else (t.1 : Int) = 6 ∧ (t.2.1 : Int) = 0 ∧ KindIs l t.2.2.1 5 4) := ⟨fun h => h.2.2, fun h => ⟨hn, hfl, h⟩⟩
    simp only [key]
    refine EvP.ite (fun h4 => ?_) (fun h4 => EvP.ite (fun h5 => ?_) (fun h5 => EvP.ite (fun h6 => ?_) (fun h6 => EvP.ret ?_)))
    · simp only [if_pos h4]
      refine EvP.bind (in_ev _ _ _) ?_
      rintro ⟨u, _⟩ hu
      simp only at hu
      subst hu
      refine EvP.ite (fun h => ?_) (fun h => EvP.ret ⟨fun e => (by cases e), fun e => absurd (decide_eq_true e.1) h⟩)
      refine EvP.bind (isNumber_ev _ _ hl) ?_
      rintro ⟨v, _⟩ hv
      exact EvP.ret (hv.trans ⟨fun e => ⟨of_decide_eq_true h, e⟩, fun e => e.2⟩)
    · simp only [if_neg h4, if_pos h5]
      refine EvP.ite (fun h0 => ?_) (fun h0 => EvP.ret ⟨fun e => (by cases e), fun e => absurd e.1 h0⟩)
      refine EvP.ite (fun h1 => ?_) (fun h1 => ?_)
      · refine EvP.bind (areFields_ev l _ hl hf.2.2.2.1) ?_
        rintro ⟨v, _⟩ hv
        exact EvP.ret (hv.trans ⟨fun e => ⟨h0, .inl h1, e⟩, fun e => e.2.2⟩)
      · refine EvP.bind (isRecord_ev _ _ hl) ?_
        rintro ⟨u, _⟩ hu
        simp only at hu
        refine EvP.ite (fun h => ?_) (fun h => EvP.ret ⟨fun e => (by cases e), fun e => absurd (hu.2 (e.2.1.resolve_left h1)) h⟩)
        refine EvP.bind (areFields_ev l _ hl hf.2.2.2.1) ?_
        rintro ⟨v, _⟩ hv
        exact EvP.ret (hv.trans ⟨fun e => ⟨h0, .inr (hu.1 h), e⟩, fun e => e.2.2⟩)
    · simp only [if_neg h4, if_neg h5]
      refine EvP.ite (fun h0 => ?_) (fun h0 => EvP.ret ⟨fun e => (by cases e), fun e => absurd e.2.1 h0⟩)
      refine EvP.bind (isRecord_ev _ _ hl) ?_
      rintro ⟨u, _⟩ hu
      simp only at hu
      refine EvP.ite (fun h => EvP.ret ⟨fun _ => ⟨h6, h0, (hu.1 h).1, .inl ((hu.1 h).2.elim id id)⟩, fun _ => rfl⟩) (fun h => ?_)
      refine EvP.bind (isNumber_ev _ _ hl) ?_
      rintro ⟨v, _⟩ hv
      simp only at hv
      refine EvP.ite (fun h' => ?_) (fun h' => EvP.ret ⟨fun e => (by cases e), fun e => absurd (hv.2 e.2.2.1) h'⟩)
      have hi := hv.1 h'
      refine EvP.pos hi.1 (EvP.pos hi.2 (EvP.ret ?_))
      simp only [beq_iff_eq]
      exact ⟨fun e => ⟨h6, h0, hi, .inr e⟩, fun e => e.2.2.2.resolve_left fun e' => h (hu.2 ⟨hi, .inl e'⟩)⟩
    · simp only [if_neg h4, if_neg h5]
      exact ⟨fun e => (by cases e), fun e => absurd e.1 h6⟩
  refine EvP.ite (fun h5 => EvP.ite (fun h => EvP.ret ⟨fun e => (by cases e), fun e => ?_⟩) (fun h => hsw fun _ => by omega)) (fun h5 => hsw fun e => absurd e (by simpa using h5))
  have := e.2.1 h5
  omega

theorem l3Type_ev (l : List TType.D) (t : TType.D) (hl : l.length ≤ 1048576) (hf : Fit TType t) : EvP (fun k => spec_l3Type.f k (l, t, ())) (fun y => y.1 = true ↔ TypeOk l t) := by
  simp only [spec_l3Type.f, beq_iff_eq, bne_iff_ne, ne_eq, Bool.not_eq_true', decide_eq_true_eq, toList_eq, beq_eq_false_iff_ne, len1 hl]
  -- the switch
  have hsw : NamedT t → ((t.1 : Int) ≠ 5 → t.2.2.2.1.length = 0) → EvP (fun k => if t.1 = (4 : Int) then ((spec_l1In.f k (t.2.1, 1, 1000, ())).bind fun y2 => if y2.1 = true then ((spec_l1In.f k (t.2.2.1, 0, (l.length : Int) - 1, ())).bind fun y3 => (some (y3.1, ()) : Option (Bool × Unit))) else some (false, ())) else if t.1 = (5 : Int) then (if t.2.1 = (0 : Int) then if t.2.2.1 = (-1 : Int) then ((spec_l3Fields.f k (l, t.2.2.2.1, ())).bind fun y4 => some (y4.1, ())) else ((spec_l3Kind.f k (l, t.2.2.1, 5, 5, ())).bind fun y5 => if y5.1 = true then ((spec_l3Fields.f k (l, t.2.2.2.1, ())).bind fun y6 => some (y6.1, ())) else some (false, ())) else some (false, ())) else
      if t.1 = (6 : Int) then (if t.2.1 = (0 : Int) then ((spec_l3Kind.f k (l, t.2.2.1, 5, 4, ())).bind fun y7 => some (y7.1, ())) else some (false, ())) else some (false, ())) (fun y => y.1 = true ↔ TypeOk l t) := by
    intro hn hfl
    have key : TypeOk l t ↔ (if (t.1 : Int) = 4 then ((1 : Int) ≤ t.2.1 ∧ t.2.1 ≤ (1000 : Int)) ∧ InR l.length t.2.2.1 else if (t.1 : Int) = 5 then (t.2.1 : Int) = 0 ∧ ((t.2.2.1 : Int) = -1 ∨ KindIs l t.2.2.1 5 5) ∧ FieldsOk l.length t.2.2.2.1 else (t.1 : Int) = 6 ∧ (t.2.1 : Int) = 0 ∧ KindIs l t.2.2.1 5 4) := ⟨fun h => h.2.2, fun h => ⟨hn, hfl, h⟩⟩
    simp only [key]
    refine EvP.ite (fun h4 => ?_) (fun h4 => EvP.ite (fun h5 => ?_) (fun h5 => EvP.ite (fun h6 => ?_) (fun h6 => EvP.ret ?_)))
    · simp only [if_pos h4]
      refine EvP.bind (l1In_ev _ _ _) ?_
      rintro ⟨u, _⟩ hu
      simp only at hu
      subst hu
      refine EvP.ite (fun h => ?_) (fun h => EvP.ret ⟨fun e => (by cases e), fun e => absurd (decide_eq_true e.1) h⟩)
      refine EvP.bind (l1In_ev _ _ _) ?_
      rintro ⟨v, _⟩ hv
      simp only at hv
      subst hv
      refine EvP.ret ?_
      simp only [decide_eq_true_eq]
      exact ⟨fun e => ⟨of_decide_eq_true h, e.1, Int.lt_of_le_sub_one e.2⟩, fun e => ⟨e.2.1, Int.le_sub_one_of_lt e.2.2⟩⟩
    · simp only [if_neg h4, if_pos h5]
      refine EvP.ite (fun h0 => ?_) (fun h0 => EvP.ret ⟨fun e => (by cases e), fun e => absurd e.1 h0⟩)
      refine EvP.ite (fun h1 => ?_) (fun h1 => ?_)
      · refine EvP.bind (l3Fields_ev l _ hl hf.2.2.2.1) ?_
        rintro ⟨v, _⟩ hv
        exact EvP.ret (hv.trans ⟨fun e => ⟨h0, .inl h1, e⟩, fun e => e.2.2⟩)
      · refine EvP.bind (l3Kind_ev _ _ _ _ hl) ?_
        rintro ⟨u, _⟩ hu
        simp only at hu
        refine EvP.ite (fun h => ?_) (fun h => EvP.ret ⟨fun e => (by cases e), fun e => absurd (hu.2 (e.2.1.resolve_left h1)) h⟩)
        refine EvP.bind (l3Fields_ev l _ hl hf.2.2.2.1) ?_
        rintro ⟨v, _⟩ hv
        exact EvP.ret (hv.trans ⟨fun e => ⟨h0, .inr (hu.1 h), e⟩, fun e => e.2.2⟩)
    · simp only [if_neg h4, if_neg h5]
      refine EvP.ite (fun h0 => ?_) (fun h0 => EvP.ret ⟨fun e => (by cases e), fun e => absurd e.2.1 h0⟩)
      refine EvP.bind (l3Kind_ev _ _ _ _ hl) ?_
      rintro ⟨u, _⟩ hu
      exact EvP.ret (hu.trans ⟨fun e => ⟨h6, h0, e⟩, fun e => e.2.2⟩)
    · simp only [if_neg h4, if_neg h5]
      exact ⟨fun e => (by cases e), fun e => absurd e.1 h6⟩
  have hfin : NamedT t → EvP (fun k => if ¬ t.1 = (5 : Int) then if (t.2.2.2.1.length : Int) > 0 then (some (false, ()) : Option (Bool × Unit)) else _ else _) (fun y => y.1 = true ↔ TypeOk l t) := fun hn =>
    EvP.ite (fun h5 => EvP.ite (fun h => EvP.ret ⟨fun e => (by cases e), fun e => by have := e.2.1 h5; omega⟩) (fun h => hsw hn fun _ => by omega)) (fun h5 => hsw hn fun e => absurd e (by simpa using h5))
  refine EvP.bind (spec_l1Name_ev _ hf.2.2.2.2.2) ?_
  rintro ⟨y, _⟩ hy
  simp only at hy
  refine EvP.ite (fun h => ?_) (fun h => ?_)
  · refine EvP.bind (spec_l1Name_ev _ hf.2.2.2.2.1) ?_
    rintro ⟨z, _⟩ hz
    simp only at hz
    refine EvP.ite (fun h' => EvP.ite (fun h1 => EvP.ret ⟨fun e => (by cases e), fun e => ?_⟩) (fun h1 => EvP.ite (fun h2 => EvP.ret ⟨fun e => (by cases e), fun e => ?_⟩) (fun h2 => hfin (.inr ⟨by simpa using h1, by simpa using h2⟩)))) (fun h' => hfin (.inl ⟨hy.1 h, hz.1 (by simpa using h')⟩))
    · rcases e.1 with e | e
      · rw [hz.2 e.2] at h'; cases h'
      · exact (h1 e.1).elim
    · rcases e.1 with e | e
      · rw [hz.2 e.2] at h'; cases h'
      · exact (h2 e.2).elim
  · refine EvP.ite (fun h1 => EvP.ret ⟨fun e => (by cases e), fun e => ?_⟩) (fun h1 => EvP.ite (fun h2 => EvP.ret ⟨fun e => (by cases e), fun e => ?_⟩) (fun h2 => hfin (.inr ⟨by simpa using h1, by simpa using h2⟩)))
    · rcases e.1 with e | e
      · exact (h (hy.2 e.1)).elim
      · exact (h1 e.1).elim
    · rcases e.1 with e | e
      · exact (h (hy.2 e.1)).elim
      · exact (h2 e.2).elim

/-! the first types, and all of them -/

def baseL : List TType.D := [(1, (0, ((-1), ([], (ByteArray.empty, (⟨#[73, 78, 84]⟩ : ByteArray)))))), (2, (0, ((-1), ([], (ByteArray.empty, (⟨#[66, 79, 79, 76]⟩ : ByteArray)))))), (3, (0, ((-1), ([], (ByteArray.empty, (⟨#[67, 72, 65, 82]⟩ : ByteArray))))))]

theorem eqTType (x y : TType.D) : x = y ↔ x.1 = y.1 ∧ x.2.1 = y.2.1 ∧ x.2.2.1 = y.2.2.1 ∧ x.2.2.2.1 = y.2.2.2.1 ∧ x.2.2.2.2.1 = y.2.2.2.2.1 ∧ x.2.2.2.2.2 = y.2.2.2.2.2 := ⟨fun h => by subst h; exact ⟨rfl, rfl, rfl, rfl, rfl, rfl⟩, fun ⟨h0, h1, h2, h3, h4, h5⟩ => Prod.ext h0 (Prod.ext h1 (Prod.ext h2 (Prod.ext h3 (Prod.ext h4 h5))))⟩
theorem eqTField (x y : TField.D) : x = y ↔ x.1 = y.1 ∧ x.2.1 = y.2.1 ∧ x.2.2 = y.2.2 := ⟨fun h => by subst h; exact ⟨rfl, rfl, rfl⟩, fun ⟨h0, h1, h2⟩ => Prod.ext h0 (Prod.ext h1 h2)⟩

theorem eqFields_ev (a b : List TField.D) (hfa : Fit (.slice TField) a) : EvP (fun k => slices_Equal_impl_Field_impl_Field.f k (a, b, ())) (fun y => y.1 = true ↔ a = b) := by
  have hs : a.length ≤ 1048576 := hfa.1
  simp only [slices_Equal_impl_Field_impl_Field.f, bne_iff_ne, ne_eq]
  refine EvP.ite (fun hl => EvP.ret ⟨fun h => (by cases h), fun h => absurd (by rw [h]) hl⟩) (fun hl => ?_)
  have hl' : a.length = b.length := by omega
  refine EvP.same (t := TField) (a := a) (b := b) (L := fun k i => slices_Equal_impl_Field_impl_Field.l2 k (a, b, (a.length : Int), i, ())) hl' (fun hne => ⟨fun h => (by cases h), fun h => absurd h hne⟩) (fun he => ?_) (fun i hi hno hgo => ?_)
  · simp only [slices_Equal_impl_Field_impl_Field.l2, decide_eq_true_eq]
    exact EvP.neg (by omega) (EvP.ret ⟨fun _ => he, fun _ => rfl⟩)
  · simp only [slices_Equal_impl_Field_impl_Field.l2, decide_eq_true_eq, Int.toNat_natCast, next64 (show i ≤ 1099511627776 by omega)]
    refine EvP.pos (by omega) (EvP.pos (by omega) (EvP.pos (by omega) (EvP.pos (by omega) (EvP.pos (by omega) ?_))))
    refine EvP.ite (fun h => EvP.ret (hno fun e => ?_)) (fun h => hgo ((eqTField _ _).2 (by simpa [toList_eq] using h)))
    rw [e] at h
    simp at h

theorem sameType_ev (x z : TType.D) (hfx : Fit TType x) : EvP (fun k => impl_sameType.f k (x, z, ())) (fun y => y.1 = true ↔ x = z) := by
  simp only [impl_sameType.f, beq_iff_eq, toList_eq]
  have hno : ∀ p : Prop, (x = z → p) → ¬ p → (((false, ()) : Bool × Unit).1 = true ↔ x = z) := fun p h hn => ⟨fun e => (by cases e), fun e => absurd (h e) hn⟩
  refine EvP.ite (fun h1 => EvP.ite (fun h2 => EvP.ite (fun h3 => ?_) (fun h3 => EvP.ret (hno _ (fun e => by rw [e]) h3))) (fun h2 => EvP.ret (hno _ (fun e => by rw [e]) h2))) (fun h1 => EvP.ret (hno _ (fun e => by rw [e]) h1))
  refine EvP.bind (eqFields_ev _ _ hfx.2.2.2.1) ?_
  rintro ⟨y, _⟩ hy
  simp only at hy
  refine EvP.ite (fun h4 => EvP.ite (fun h5 => EvP.ret ?_) (fun h5 => EvP.ret (hno _ (fun e => by rw [e]) h5))) (fun h4 => EvP.ret (hno _ (fun e => hy.2 (by rw [e])) h4))
  simp only [beq_iff_eq, toList_eq]
  rw [eqTType]
  exact ⟨fun e => ⟨h1, h2, h3, hy.1 h4, h5, e⟩, fun e => e.2.2.2.2.2⟩

theorem eqTypes_ev (a b : List TType.D) (hfa : Fit (.slice TType) a) : EvP (fun k => slices_EqualFunc_impl_Type_impl_Type_impl_Type_impl_Type.f k (a, b, (), ())) (fun y => y.1 = true ↔ a = b) := by
  have hs : a.length ≤ 1048576 := hfa.1
  simp only [slices_EqualFunc_impl_Type_impl_Type_impl_Type_impl_Type.f, bne_iff_ne, ne_eq]
  refine EvP.ite (fun hl => EvP.ret ⟨fun h => (by cases h), fun h => absurd (by rw [h]) hl⟩) (fun hl => ?_)
  have hl' : a.length = b.length := by omega
  refine EvP.same (t := TType) (a := a) (b := b) (L := fun k i => slices_EqualFunc_impl_Type_impl_Type_impl_Type_impl_Type.l2 k (b, (), a, (a.length : Int), i, ())) hl' (fun hne => ⟨fun h => (by cases h), fun h => absurd h hne⟩) (fun he => ?_) (fun i hi hno hgo => ?_)
  · simp only [slices_EqualFunc_impl_Type_impl_Type_impl_Type_impl_Type.l2, decide_eq_true_eq]
    exact EvP.neg (by omega) (EvP.ret ⟨fun _ => he, fun _ => rfl⟩)
  · simp only [slices_EqualFunc_impl_Type_impl_Type_impl_Type_impl_Type.l2, decide_eq_true_eq, Int.toNat_natCast, next64 (show i ≤ 1099511627776 by omega), Bool.not_eq_true']
    refine EvP.pos (by omega) (EvP.pos (by omega) (EvP.pos (by omega) (EvP.pos (by omega) (EvP.pos (by omega) ?_))))
    refine EvP.bind (sameType_ev _ _ (hfa.2 _ (rdT_mem hi))) ?_
    rintro ⟨y, _⟩ hy
    simp only at hy
    refine EvP.ite (fun h => EvP.ret (hno fun e => ?_)) (fun h => hgo (hy.1 (by simpa using h)))
    rw [hy.2 e] at h; cases h

def TypeAt (l : List TType.D) (i : Nat) : Prop := TypeOk l (rdT TType l i) ∧ ∀ j, 3 ≤ j → j < i → ¬ ((rdT TType l i).2.2.2.2.2 ≠ ByteArray.empty ∧ (rdT TType l i).2.2.2.2.2 = (rdT TType l j).2.2.2.2.2 ∧ (rdT TType l i).2.2.2.2.1 = (rdT TType l j).2.2.2.2.1)
def Nearly (l : List TType.D) : Prop := 3 ≤ l.length ∧ l.length ≤ 24 ∧ l.take 3 = baseL ∧ ∀ i, 3 ≤ i → i < l.length → TypeAt l i

theorem findT_ev (l : List TType.D) (x : TType.D) (hl : l.length ≤ 1048576) : EvP (fun k => slices_ContainsFunc_impl_Type_impl_Type.f k (l, (x, ()), ())) (fun y => y.1 = true ↔ ∃ p, p < l.length ∧ (rdT TType l p).2.2.2.2.2 = x.2.2.2.2.2 ∧ (rdT TType l p).2.2.2.2.1 = x.2.2.2.2.1) := by
  simp only [slices_ContainsFunc_impl_Type_impl_Type.f]
  have hi : EvP (fun k => slices_IndexFunc_impl_Type_impl_Type.f k (l, (x, ()), ())) (fun y => 0 ≤ y.1 ↔ ∃ p, p < l.length ∧ (rdT TType l p).2.2.2.2.2 = x.2.2.2.2.2 ∧ (rdT TType l p).2.2.2.2.1 = x.2.2.2.2.1) := by
    simp only [slices_IndexFunc_impl_Type_impl_Type.f]
    refine EvP.scan (L := fun k i => slices_IndexFunc_impl_Type_impl_Type.l1 k (l, (x, ()), (l.length : Int), i, ())) l.length (fun p => ¬ ((rdT TType l p).2.2.2.2.2 = x.2.2.2.2.2 ∧ (rdT TType l p).2.2.2.2.1 = x.2.2.2.2.1)) (fun hall => ?_) (fun i hi hall hgo => ?_)
    · simp only [slices_IndexFunc_impl_Type_impl_Type.l1, decide_eq_true_eq]
      refine EvP.neg (by omega) (EvP.ret ⟨fun h => absurd h (by show ¬ (0 : Int) ≤ -1; decide), fun ⟨p, hp, h⟩ => absurd h (hall p hp)⟩)
    · simp only [slices_IndexFunc_impl_Type_impl_Type.l1, decide_eq_true_eq, Int.toNat_natCast, next64 (show i ≤ 1099511627776 by omega), impl_areTypes_1.f, beq_iff_eq, toList_eq]
      refine EvP.pos (by omega) (EvP.pos (by omega) (EvP.pos (by omega) ?_))
      have hc : EvP (fun k => if (rdT TType l i).2.2.2.2.2 = x.2.2.2.2.2 then (some (((rdT TType l i).2.2.2.2.1.toList == x.2.2.2.2.1.toList), ()) : Option (Bool × Unit)) else some (false, ())) (fun y => y.1 = true ↔ ((rdT TType l i).2.2.2.2.2 = x.2.2.2.2.2 ∧ (rdT TType l i).2.2.2.2.1 = x.2.2.2.2.1)) := by
        refine EvP.ite (fun h1 => EvP.ret ?_) (fun h1 => EvP.ret ?_)
        · simp [h1, toList_eq]
        · simp [h1]
      refine EvP.bind hc ?_
      rintro ⟨y, _⟩ hy
      refine EvP.ite (fun h => EvP.ret ⟨fun _ => ⟨i, hi, hy.1 h⟩, fun _ => ?_⟩) (fun h => hgo fun e => h (hy.2 e))
      show (0 : Int) ≤ (i : Int)
      omega
  refine EvP.bind hi ?_
  rintro ⟨y, _⟩ hy
  refine EvP.ret ?_
  simpa using hy

theorem areTypes_ev (l : List TType.D) (hf : Fit (.slice TType) l) : EvP (fun k => impl_areTypes.f k (l, ())) (fun y => y.1 = true ↔ Nearly l) := by
  have hs : l.length ≤ 1048576 := hf.1
  simp only [impl_areTypes.f, impl_BaseTypes.f, Option.bind_some, Bool.not_eq_true']
  refine EvP.bind (in_ev _ _ _) ?_
  rintro ⟨y, _⟩ hy
  simp only at hy
  have h3 : ([(1, (0, ((-1), ([], (ByteArray.empty, (⟨#[73, 78, 84]⟩ : ByteArray)))))), (2, (0, ((-1), ([], (ByteArray.empty, (⟨#[66, 79, 79, 76]⟩ : ByteArray)))))), (3, (0, ((-1), ([], (ByteArray.empty, (⟨#[67, 72, 65, 82]⟩ : ByteArray))))))] : List TType.D) = baseL := rfl
  have h3' : baseL.length = 3 := rfl
  simp only [h3, h3'] at hy ⊢
  refine EvP.ite (fun h => EvP.ret ⟨fun e => (by cases e), fun e => ?_⟩) (fun h => ?_)
  · rw [hy] at h
    simp only [decide_eq_false_iff_not] at h
    have := e.1; have := e.2.1
    omega
  have hlen : 3 ≤ l.length ∧ l.length ≤ 24 := by
    have : y = true := by simpa using h
    rw [this] at hy
    have := of_decide_eq_true hy.symm
    omega
  have ht3 : ((3 : Nat) : Int).toNat = 3 := rfl
  simp only [ht3]
  refine EvP.pos (by omega) (EvP.pos (by omega) ?_)
  refine EvP.bind (eqTypes_ev (l.take 3) baseL ⟨by rw [List.length_take]; omega, fun x hx => hf.2 x (List.mem_of_mem_take hx)⟩) ?_
  rintro ⟨z, _⟩ hz
  simp only at hz
  refine EvP.ite (fun h => EvP.ret ⟨fun e => (by cases e), fun e => ?_⟩) (fun h => EvP.pos (by omega) (EvP.pos (by omega) ?_))
  · rw [hz.2 e.2.2.1] at h; cases h
  have hb : l.take 3 = baseL := hz.1 (by simpa using h)
  have hdl : (l.drop 3).length = l.length - 3 := List.length_drop
  refine EvP.scan (L := fun k i => impl_areTypes.l3 k (l, baseL, l.drop 3, ((l.drop 3).length : Int), i, ())) (l.drop 3).length (fun i => TypeAt l (3 + i)) (fun hall => ?_) (fun i hi hall hgo => ?_)
  · simp only [impl_areTypes.l3, decide_eq_true_eq]
    refine EvP.neg (by omega) (EvP.ret ⟨fun _ => ⟨hlen.1, hlen.2, hb, fun i h3 hi => ?_⟩, fun _ => rfl⟩)
    have := hall (i - 3) (by omega)
    rwa [show 3 + (i - 3) = i by omega] at this
  · have hw : w64 ((baseL.length : Int) + (i : Int)) = ((3 + i : Nat) : Int) := by
      rw [h3', w64_id (by omega) (by omega)]; omega
    have hb3 : (baseL.length : Int).toNat = 3 := rfl
    simp only [impl_areTypes.l3, decide_eq_true_eq, hw, Int.toNat_natCast, hb3, next64 (show i ≤ 1099511627776 by omega), Bool.not_eq_true', beq_eq_false_iff_ne, ne_eq, toList_eq, show rdT TType (l.drop 3) i = rdT TType l (3 + i) from rdT_drop]
    refine EvP.pos (by omega) (EvP.pos (by omega) (EvP.pos (by omega) ?_))
    have hno : ¬ TypeAt l (3 + i) → (((false, ()) : Bool × Unit).1 = true ↔ Nearly l) := fun h => ⟨fun e => (by cases e), fun e => absurd (e.2.2.2 (3 + i) (by omega) (by omega)) h⟩
    have hfi : Fit TType (rdT TType l (3 + i)) := hf.2 _ (rdT_mem (by omega))
    have hty : (∀ j, 3 ≤ j → j < 3 + i → ¬ ((rdT TType l (3 + i)).2.2.2.2.2 ≠ ByteArray.empty ∧ (rdT TType l (3 + i)).2.2.2.2.2 = (rdT TType l j).2.2.2.2.2 ∧ (rdT TType l (3 + i)).2.2.2.2.1 = (rdT TType l j).2.2.2.2.1)) →
        EvP (fun k => (impl_isType.f k (l, rdT TType l (3 + i), ())).bind fun y5 => if y5.1 = false then some (false, ()) else impl_areTypes.l3 k (l, baseL, l.drop 3, ((l.drop 3).length : Int), ((i + 1 : Nat) : Int), ())) (fun y => y.1 = true ↔ Nearly l) := by
      intro hap
      refine EvP.bind (isType_ev l _ hs hfi) ?_
      rintro ⟨u, _⟩ hu
      simp only at hu
      refine EvP.ite (fun h => EvP.ret (hno fun e => ?_)) (fun h => hgo ⟨hu.1 (by simpa using h), hap⟩)
      rw [hu.2 e.1] at h; cases h
    refine EvP.ite (fun he => ?_) (fun he => hty fun j _ _ e => e.1 (by simpa using he))
    refine EvP.pos (by omega) (EvP.pos (by omega) (EvP.pos (by omega) (EvP.pos (by omega) ?_)))
    have hpl : ((l.take (3 + i)).drop 3).length = i := by rw [List.length_drop, List.length_take]; omega
    refine EvP.bind (findT_ev _ _ (by rw [hpl]; omega)) ?_
    rintro ⟨v, _⟩ hv
    simp only at hv
    have hiff : v = true ↔ ∃ j, 3 ≤ j ∧ j < 3 + i ∧ (rdT TType l (3 + i)).2.2.2.2.2 = (rdT TType l j).2.2.2.2.2 ∧ (rdT TType l (3 + i)).2.2.2.2.1 = (rdT TType l j).2.2.2.2.1 := by
      rw [hv]
      constructor
      · rintro ⟨p, hp, h1, h2⟩
        rw [hpl] at hp
        rw [rdT_drop, rdT_take (by omega)] at h1 h2
        exact ⟨3 + p, by omega, by omega, h1.symm, h2.symm⟩
      · rintro ⟨j, h0, hj, h1, h2⟩
        refine ⟨j - 3, by rw [hpl]; omega, ?_⟩
        rw [rdT_drop, rdT_take (by omega), show 3 + (j - 3) = j by omega]
        exact ⟨h1.symm, h2.symm⟩
    refine EvP.ite (fun h4 => EvP.ret (hno fun e => ?_)) (fun h4 => hty fun j h0 hj e => h4 (hiff.2 ⟨j, h0, hj, e.2⟩))
    obtain ⟨j, h0, hj, h⟩ := hiff.1 h4
    exact e.2 j h0 hj ⟨he, h⟩

theorem base_iff (l : List TType.D) (h : 3 ≤ l.length) : l.take 3 = baseL ↔ ∀ i, i < 3 → rdT TType l i = rdT TType baseL i := by
  constructor
  · intro e i hi
    rw [← e, rdT_take hi]
  · intro e
    refine List.ext_getElem? fun i => ?_
    by_cases hi : i < 3
    · have h1 : (l.take 3)[i]? = some (rdT TType l i) := by rw [List.getElem?_take, if_pos hi]; exact rdT_some (by omega)
      have h2 : baseL[i]? = some (rdT TType baseL i) := rdT_some (by show i < 3; exact hi)
      rw [h1, h2, e i hi]
    · have h1 : (l.take 3)[i]? = none := List.getElem?_eq_none (by rw [List.length_take]; omega)
      have h2 : baseL[i]? = none := List.getElem?_eq_none (by show 3 ≤ i; omega)
      rw [h1, h2]

theorem base_parts (i : Nat) (h : i < 3) : (rdT TType baseL i).2.1 = (0 : Int) ∧ (rdT TType baseL i).2.2.1 = (-1 : Int) ∧ (rdT TType baseL i).2.2.2.1 = [] ∧ (rdT TType baseL i).2.2.2.2.1 = ByteArray.empty := by
  have : i = 0 ∨ i = 1 ∨ i = 2 := by omega
  rcases this with rfl | rfl | rfl <;> exact ⟨rfl, rfl, rfl, rfl⟩

theorem l3Base_ev (l : List TType.D) (hf : Fit (.slice TType) l) : EvP (fun k => spec_l3Base.f k (l, ())) (fun y => y.1 = true ↔ 3 ≤ l.length ∧ l.take 3 = baseL) := by
  have hs : l.length ≤ 1048576 := hf.1
  simp only [spec_l3Base.f, spec_BaseTypes.f, Option.bind_some, decide_eq_true_eq]
  refine EvP.ite (fun h => EvP.ret ⟨fun e => (by cases e), fun e => by have := e.1; omega⟩) (fun h => ?_)
  have h3 : ([(1, (0, ((-1), ([], (ByteArray.empty, (⟨#[73, 78, 84]⟩ : ByteArray)))))), (2, (0, ((-1), ([], (ByteArray.empty, (⟨#[66, 79, 79, 76]⟩ : ByteArray)))))), (3, (0, ((-1), ([], (ByteArray.empty, (⟨#[67, 72, 65, 82]⟩ : ByteArray))))))] : List TType.D) = baseL := rfl
  simp only [h3]
  have hlen : 3 ≤ l.length := by omega
  have h3' : baseL.length = 3 := rfl
  have hiff := base_iff l hlen
  refine EvP.scan (L := fun k i => spec_l3Base.l2 k (l, baseL, (baseL.length : Int), i, ())) baseL.length (fun i => rdT TType l i = rdT TType baseL i) (fun hall => ?_) (fun i hi hall hgo => ?_)
  · simp only [spec_l3Base.l2, decide_eq_true_eq]
    exact EvP.neg (by omega) (EvP.ret ⟨fun _ => ⟨hlen, hiff.2 hall⟩, fun _ => rfl⟩)
  · simp only [spec_l3Base.l2, decide_eq_true_eq, Int.toNat_natCast, next64 (show i ≤ 1099511627776 by omega), bne_iff_ne, ne_eq, Bool.not_eq_true', beq_eq_false_iff_ne, toList_eq]
    obtain ⟨b1, b2, b3, b4⟩ := base_parts i hi
    have hno : ∀ p : Prop, ¬ p → (rdT TType l i = rdT TType baseL i → p) → (((false, ()) : Bool × Unit).1 = true ↔ 3 ≤ l.length ∧ l.take 3 = baseL) := fun p h h' => ⟨fun e => (by cases e), fun e => absurd (h' (hiff.1 e.2 i hi)) h⟩
    refine EvP.pos (by omega) (EvP.pos (by omega) (EvP.pos (by omega) (EvP.pos (by omega) (EvP.pos (by omega) ?_))))
    refine EvP.ite (fun h1 => EvP.ret (hno _ (fun e => h1 e) (fun e => by rw [e]))) (fun h1 => ?_)
    refine EvP.ite (fun h2 => EvP.ret (hno _ (fun e => h2 e) (fun e => by rw [e]; exact b1))) (fun h2 => ?_)
    refine EvP.ite (fun h3 => EvP.ret (hno _ (fun e => h3 e) (fun e => by rw [e]; exact b2))) (fun h3 => ?_)
    refine EvP.ite (fun h4 => EvP.ret (hno ((rdT TType l i).2.2.2.1 = []) (fun e => by rw [e] at h4; simp at h4) (fun e => by rw [e]; exact b3))) (fun h4 => ?_)
    refine EvP.ite (fun h5 => EvP.ret (hno _ (fun e => h5 e) (fun e => by rw [e]; exact b4))) (fun h5 => ?_)
    refine EvP.ite (fun h6 => EvP.ret (hno _ (fun e => h6 e) (fun e => by rw [e]))) (fun h6 => hgo ((eqTType _ _).2 ⟨by simpa using h1, by rw [b1]; simpa using h2, by rw [b2]; simpa using h3, by rw [b3]; exact List.eq_nil_of_length_eq_zero (by omega), by rw [b4]; simpa using h5, by simpa using h6⟩))

theorem l3Nearly_l7_ev (l : List TType.D) (x : TType.D) (a16 : List TType.D) (a17 a18 : Int) (pre : List TType.D) (hp : pre.length ≤ 1048576) (Q : Bool × Unit → Prop)
    (hbad : ∀ p, p < pre.length → x.2.2.2.2.2 ≠ ByteArray.empty ∧ x.2.2.2.2.2 = (rdT TType pre p).2.2.2.2.2 ∧ x.2.2.2.2.1 = (rdT TType pre p).2.2.2.2.1 → Q (false, ()))
    (hgood : (∀ p, p < pre.length → ¬ (x.2.2.2.2.2 ≠ ByteArray.empty ∧ x.2.2.2.2.2 = (rdT TType pre p).2.2.2.2.2 ∧ x.2.2.2.2.1 = (rdT TType pre p).2.2.2.2.1)) → EvP (fun k => spec_l3Nearly.l3 k (l, a16, a17, w64 (a18 + (1 : Int)), ())) Q) :
    EvP (fun k => spec_l3Nearly.l7 k (l, (x.1, (x.2.1, (x.2.2.1, (x.2.2.2.1, (x.2.2.2.2.1, (x.2.2.2.2.2, ())))))), a16, a17, a18, pre, (pre.length : Int), 0, ())) Q := by
  refine EvP.scan (L := fun k i => spec_l3Nearly.l7 k (l, (x.1, (x.2.1, (x.2.2.1, (x.2.2.2.1, (x.2.2.2.2.1, (x.2.2.2.2.2, ())))))), a16, a17, a18, pre, (pre.length : Int), i, ())) pre.length (fun p => ¬ (x.2.2.2.2.2 ≠ ByteArray.empty ∧ x.2.2.2.2.2 = (rdT TType pre p).2.2.2.2.2 ∧ x.2.2.2.2.1 = (rdT TType pre p).2.2.2.2.1)) (fun hall => ?_) (fun p hp' hall hgo => ?_)
  · simp only [spec_l3Nearly.l7, decide_eq_true_eq]
    exact EvP.neg (by omega) (hgood hall)
  · simp only [spec_l3Nearly.l7, decide_eq_true_eq, Int.toNat_natCast, next64 (show p ≤ 1099511627776 by omega), beq_iff_eq, toList_eq, Bool.not_eq_true', beq_eq_false_iff_ne, ne_eq]
    refine EvP.pos (by omega) (EvP.pos (by omega) (EvP.pos (by omega) (EvP.ite (fun h => EvP.ite (fun h2 => EvP.ite (fun h3 => EvP.ret (hbad p hp' ⟨h, h2, h3⟩)) (fun h3 => hgo fun e => h3 e.2.2)) (fun h2 => hgo fun e => h2 e.2.1)) (fun h => hgo fun e => h e.1))))

theorem l3Nearly_ev (l : List TType.D) (hf : Fit (.slice TType) l) : EvP (fun k => spec_l3Nearly.f k (l, ())) (fun y => y.1 = true ↔ Nearly l) := by
  have hs : l.length ≤ 1048576 := hf.1
  simp only [spec_l3Nearly.f, Bool.not_eq_true', decide_eq_true_eq]
  refine EvP.bind (l3Base_ev l hf) ?_
  rintro ⟨y, _⟩ hy
  simp only at hy
  refine EvP.ite (fun h => EvP.ret ⟨fun e => (by cases e), fun e => ?_⟩) (fun h => EvP.ite (fun h' => EvP.ret ⟨fun e => (by cases e), fun e => by have := e.2.1; omega⟩) (fun h' => ?_))
  · rw [hy.2 ⟨e.1, e.2.2.1⟩] at h; cases h
  obtain ⟨hlen, hb⟩ := hy.1 (by simpa using h)
  refine EvP.pos (by omega) ?_
  have hdl : (l.drop 3).length = l.length - 3 := List.length_drop
  refine EvP.scan (L := fun k i => spec_l3Nearly.l3 k (l, l.drop 3, ((l.drop 3).length : Int), i, ())) (l.drop 3).length (fun i => TypeAt l (3 + i)) (fun hall => ?_) (fun i hi hall hgo => ?_)
  · simp only [spec_l3Nearly.l3, decide_eq_true_eq]
    refine EvP.neg (by omega) (EvP.ret ⟨fun _ => ⟨hlen, by omega, hb, fun i h3 hi => ?_⟩, fun _ => rfl⟩)
    have := hall (i - 3) (by omega)
    rwa [show 3 + (i - 3) = i by omega] at this
  · have hw : w64 ((3 : Int) + (i : Int)) = ((3 + i : Nat) : Int) := by
      rw [w64_id (by omega) (by omega)]; omega
    simp only [spec_l3Nearly.l3, decide_eq_true_eq, hw, Int.toNat_natCast, Bool.not_eq_true', show rdT TType (l.drop 3) i = rdT TType l (3 + i) from rdT_drop]
    refine EvP.pos (by omega) (EvP.pos (by omega) (EvP.pos (by omega) ?_))
    have hno : ¬ TypeAt l (3 + i) → (((false, ()) : Bool × Unit).1 = true ↔ Nearly l) := fun h => ⟨fun e => (by cases e), fun e => absurd (e.2.2.2 (3 + i) (by omega) (by omega)) h⟩
    have hfi : Fit TType (rdT TType l (3 + i)) := hf.2 _ (rdT_mem (by omega))
    refine EvP.bind (l3Type_ev l _ hs hfi) ?_
    rintro ⟨u, _⟩ hu
    simp only at hu
    refine EvP.ite (fun h => EvP.ret (hno fun e => ?_)) (fun h => ?_)
    · rw [hu.2 e.1] at h; cases h
    have hpl : ((l.take (3 + i)).drop 3).length = i := by rw [List.length_drop, List.length_take]; omega
    refine EvP.pos (by omega) (EvP.pos (by omega) (EvP.pos (by omega) ?_))
    refine l3Nearly_l7_ev l (rdT TType l (3 + i)) _ _ _ ((l.take (3 + i)).drop 3) (by rw [hpl]; omega) _ (fun p hp hbad => hno fun e => ?_) (fun hall => ?_)
    · rw [hpl] at hp
      rw [rdT_drop, rdT_take (by omega)] at hbad
      exact e.2 (3 + p) (by omega) (by omega) hbad
    · rw [next64 (show i ≤ 1099511627776 by omega)]
      refine hgo ⟨hu.1 (by simpa using h), fun j h0 hj => ?_⟩
      have := hall (j - 3) (by rw [hpl]; omega)
      rwa [rdT_drop, rdT_take (by omega), show 3 + (j - 3) = j by omega] at this

/-! ### What one comes to: parts, and all that is reached -/

def fparts (f : List TField.D) : List Int := f.map fun x => x.2.2
def parts (t : TType.D) (pointers : Bool) : List Int := (if (0 : Int) ≤ t.2.2.1 ∧ (pointers = true ∨ (t.1 : Int) ≠ 6) then [t.2.2.1] else []) ++ fparts t.2.2.2.1

theorem fparts_next {f : List TField.D} {i : Nat} (h : i < f.length) : fparts (f.take (i + 1)) = fparts (f.take i) ++ [(rdT TField f i).2.2] := by
  rw [List.take_add_one, rdT_some h]
  simp [fparts]

theorem parts_len (t : TType.D) (p : Bool) : (parts t p).length ≤ 1 + t.2.2.2.1.length := by
  unfold parts fparts
  split <;> simp <;> omega

theorem implParts_ev (t : TType.D) (p : Bool) (hf : Fit TType t) : EvP (fun k => impl_Type_parts.f k (t, p, ())) (· = (parts t p, ())) := by
  have hs : t.2.2.2.1.length ≤ 1048576 := hf.2.2.2.1.1
  have hbig := big_eq
  have loop : ∀ init : List Int, init.length ≤ 1 → EvP (fun k => impl_Type_parts.l3 k (init, t.2.2.2.1, (t.2.2.2.1.length : Int), 0, ())) (· = (init ++ fparts t.2.2.2.1, ())) := fun init hi0 => by
    have lp := EvP.loop (L := impl_Type_parts.l3) (Q := (· = (init ++ fparts t.2.2.2.1, ()))) (fun j s => ∃ i : Nat, s = (init ++ fparts (t.2.2.2.1.take i), t.2.2.2.1, (t.2.2.2.1.length : Int), (i : Int), ()) ∧ i ≤ t.2.2.2.1.length ∧ j = t.2.2.2.1.length - i) ?_
    · have := lp _ _ ⟨0, rfl, Nat.zero_le _, rfl⟩
      simpa [fparts] using this
    · rintro j _ ⟨i, rfl, hi, rfl⟩ ih
      simp only [impl_Type_parts.l3, decide_eq_true_eq, Int.toNat_natCast, next64 (show i ≤ 1099511627776 by omega)]
      refine EvP.ite (fun hlt => EvP.pos (by omega) (EvP.pos (by omega) (EvP.pos ?_ ?_))) (fun hge => EvP.ret ?_)
      · simp only [List.length_append, fparts, List.length_map, List.length_take]; omega
      · have := ih (t.2.2.2.1.length - (i + 1)) _ (by omega) ⟨i + 1, rfl, by omega, rfl⟩
        rwa [fparts_next (by omega), ← List.append_assoc] at this
      · rw [List.take_of_length_le (by omega)]
  simp only [impl_Type_parts.f, decide_eq_true_eq, bne_iff_ne, ne_eq]
  unfold parts
  refine EvP.ite (fun h => EvP.ite (fun hp => ?_) (fun hp => EvP.ite (fun hk => ?_) (fun hk => ?_))) (fun h => ?_)
  · rw [if_pos ⟨h, .inl hp⟩]; exact loop _ (by simp)
  · rw [if_pos ⟨h, .inr hk⟩]; exact loop _ (by simp)
  · rw [if_neg (fun e => e.2.elim hp hk)]; exact loop _ (by simp)
  · rw [if_neg (fun e => h e.1)]; exact loop _ (by simp)

theorem specParts_ev (t : TType.D) (hf : Fit TType t) : EvP (fun k => spec_l3Parts.f k (t, ())) (· = (parts t false, ())) := by
  have hs : t.2.2.2.1.length ≤ 1048576 := hf.2.2.2.1.1
  have hbig := big_eq
  have loop : ∀ init : List Int, init.length ≤ 1 → EvP (fun k => spec_l3Parts.l3 k (init, t.2.2.2.1, (t.2.2.2.1.length : Int), 0, ())) (· = (init ++ fparts t.2.2.2.1, ())) := fun init hi0 => by
    have lp := EvP.loop (L := spec_l3Parts.l3) (Q := (· = (init ++ fparts t.2.2.2.1, ()))) (fun j s => ∃ i : Nat, s = (init ++ fparts (t.2.2.2.1.take i), t.2.2.2.1, (t.2.2.2.1.length : Int), (i : Int), ()) ∧ i ≤ t.2.2.2.1.length ∧ j = t.2.2.2.1.length - i) ?_
    · have := lp _ _ ⟨0, rfl, Nat.zero_le _, rfl⟩
      simpa [fparts] using this
    · rintro j _ ⟨i, rfl, hi, rfl⟩ ih
      simp only [spec_l3Parts.l3, decide_eq_true_eq, Int.toNat_natCast, next64 (show i ≤ 1099511627776 by omega)]
      refine EvP.ite (fun hlt => EvP.pos (by omega) (EvP.pos (by omega) (EvP.pos ?_ ?_))) (fun hge => EvP.ret ?_)
      · simp only [List.length_append, fparts, List.length_map, List.length_take]; omega
      · have := ih (t.2.2.2.1.length - (i + 1)) _ (by omega) ⟨i + 1, rfl, by omega, rfl⟩
        rwa [fparts_next (by omega), ← List.append_assoc] at this
      · rw [List.take_of_length_le (by omega)]
  simp only [spec_l3Parts.f, decide_eq_true_eq, bne_iff_ne, ne_eq]
  unfold parts
  refine EvP.ite (fun h => EvP.ite (fun hk => ?_) (fun hk => ?_)) (fun h => ?_)
  · rw [if_pos ⟨h, .inr hk⟩]; exact loop _ (by simp)
  · rw [if_neg (fun e => e.2.elim (fun h => by cases h) hk)]; exact loop _ (by simp)
  · rw [if_neg (fun e => h e.1)]; exact loop _ (by simp)

/-! lists of numbers -/

theorem rdI_mem {l : List Int} {v : Int} : v ∈ l ↔ ∃ p, p < l.length ∧ rdT (.int .i64) l p = v := by
  constructor
  · intro h
    obtain ⟨p, hp, he⟩ := List.getElem_of_mem h
    exact ⟨p, hp, by rw [← he]; simp [rdT, List.getD, List.getElem?_eq_getElem hp]⟩
  · rintro ⟨p, hp, rfl⟩
    exact rdT_mem (t := .int .i64) hp

theorem contains_ev (l : List Int) (v : Int) (hl : l.length ≤ 1048576) : EvP (fun k => slices_Contains_int_int.f k (l, v, ())) (fun y => y.1 = true ↔ v ∈ l) := by
  simp only [slices_Contains_int_int.f]
  have hi : EvP (fun k => slices_Index_int_int.f k (l, v, ())) (fun y => 0 ≤ y.1 ↔ v ∈ l) := by
    simp only [slices_Index_int_int.f]
    refine EvP.scan (L := fun k i => slices_Index_int_int.l1 k (l, v, (l.length : Int), i, ())) l.length (fun p => ¬ v = rdT (.int .i64) l p) (fun hall => ?_) (fun i hi hall hgo => ?_)
    · simp only [slices_Index_int_int.l1, decide_eq_true_eq]
      refine EvP.neg (by omega) (EvP.ret ⟨fun h => absurd h (by show ¬ (0 : Int) ≤ -1; decide), fun h => ?_⟩)
      obtain ⟨p, hp, h⟩ := rdI_mem.1 h
      exact absurd h.symm (hall p hp)
    · simp only [slices_Index_int_int.l1, decide_eq_true_eq, Int.toNat_natCast, next64 (show i ≤ 1099511627776 by omega), beq_iff_eq]
      refine EvP.pos (by omega) (EvP.pos (by omega) (EvP.pos (by omega) (EvP.ite (fun h => EvP.ret ⟨fun _ => rdI_mem.2 ⟨i, hi, h.symm⟩, fun _ => ?_⟩) (fun h => hgo h))))
      show (0 : Int) ≤ (i : Int)
      omega
  refine EvP.bind hi ?_
  rintro ⟨y, _⟩ hy
  refine EvP.ret ?_
  simpa using hy

theorem l1Has_ev (l : List Int) (v : Int) (hl : l.length ≤ 1048576) : EvP (fun k => spec_l1Has.f k (l, v, ())) (fun y => y.1 = true ↔ v ∈ l) := by
  simp only [spec_l1Has.f]
  refine EvP.scan (L := fun k i => spec_l1Has.l1 k (v, l, (l.length : Int), i, ())) l.length (fun p => ¬ rdT (.int .i64) l p = v) (fun hall => ?_) (fun i hi hall hgo => ?_)
  · simp only [spec_l1Has.l1, decide_eq_true_eq]
    refine EvP.neg (by omega) (EvP.ret ⟨fun h => (by cases h), fun h => ?_⟩)
    obtain ⟨p, hp, h⟩ := rdI_mem.1 h
    exact absurd h (hall p hp)
  · simp only [spec_l1Has.l1, decide_eq_true_eq, Int.toNat_natCast, next64 (show i ≤ 1099511627776 by omega), beq_iff_eq]
    exact EvP.pos (by omega) (EvP.pos (by omega) (EvP.pos (by omega) (EvP.ite (fun h => EvP.ret ⟨fun _ => rdI_mem.2 ⟨i, hi, h⟩, fun _ => rfl⟩) (fun h => hgo h))))

/-- A number put to its place in a row. -/
def ins (n : Int) : List Int → List Int
  | [] => [n]
  | x :: r => if x < n then x :: ins n r else if x = n then x :: r else n :: x :: r

theorem mem_ins {n x : Int} : ∀ l : List Int, x ∈ ins n l ↔ x = n ∨ x ∈ l
  | [] => by simp [ins]
  | y :: r => by
    unfold ins
    split
    · simp only [List.mem_cons, mem_ins r]
      constructor
      · rintro (h | h | h) <;> simp [h]
      · rintro (h | h | h) <;> simp [h]
    · split
      · rename_i h; subst h; simp
      · simp

theorem ins_len {n : Int} : ∀ l : List Int, n ∉ l → (ins n l).length = l.length + 1
  | [], _ => rfl
  | y :: r, h => by
    unfold ins
    split
    · simp only [List.length_cons, ins_len r (fun e => h (List.mem_cons_of_mem _ e))]
    · split
      · rename_i e; exact absurd (by simp [e]) h
      · simp

theorem ins_nodup {n : Int} : ∀ l : List Int, l.Nodup → n ∉ l → (ins n l).Nodup
  | [], _, _ => by simp [ins]
  | y :: r, hn, h => by
    unfold ins
    rw [List.nodup_cons] at hn
    split
    · refine List.nodup_cons.2 ⟨fun e => ?_, ins_nodup r hn.2 (fun e => h (List.mem_cons_of_mem _ e))⟩
      rcases (mem_ins r).1 e with e | e
      · exact h (by simp [e])
      · exact hn.1 e
    · split
      · rename_i e; exact absurd (by simp [e]) h
      · exact List.nodup_cons.2 ⟨h, List.nodup_cons.2 hn⟩

theorem l1Put_ev (l : List Int) (n : Int) (hl : l.length ≤ 1048576) : EvP (fun k => spec_l1Put.f k (l, n, ())) (· = (ins n l, ())) := by
  have hbig := big_eq
  have hnil : ∀ r : List Int, ([] : List Int) ++ r = r := fun _ => rfl
  simp only [spec_l1Put.f]
  refine EvP.loop (L := spec_l1Put.l1) (Q := (· = (ins n l, ()))) (fun j s => ∃ i : Nat, s = (l, n, (i : Int), ()) ∧ i ≤ l.length ∧ j = l.length - i ∧ ins n l = l.take i ++ ins n (l.drop i)) ?_ l.length _ ⟨0, rfl, Nat.zero_le _, rfl, rfl⟩
  rintro j _ ⟨i, rfl, hi, rfl, hg⟩ ih
  simp only [spec_l1Put.l1, decide_eq_true_eq, Int.toNat_natCast, next64 (show i ≤ 1099511627776 by omega), beq_iff_eq, hnil, List.length_append, List.length_take, List.length_drop, List.length_singleton]
  rcases Nat.lt_or_ge i l.length with h | h
  · have hd := drop_rd (t := .int .i64) h
    rw [hd] at hg
    simp only [ins] at hg
    refine EvP.pos (by omega) (EvP.pos (by omega) (EvP.pos (by omega) (EvP.ite (fun hlt => ?_) (fun hge => ?_))))
    · rw [if_pos hlt] at hg
      refine ih (l.length - (i + 1)) _ (by omega) ⟨i + 1, rfl, by omega, rfl, ?_⟩
      rw [hg, List.take_add_one, rdT_some (t := .int .i64) h]
      simp
    · rw [if_neg hge] at hg
      refine EvP.pos (by omega) (EvP.pos (by omega) (EvP.pos (by omega) (EvP.ite (fun he => EvP.ret ?_) (fun he => ?_))))
      · rw [if_pos he, ← hd, List.take_append_drop] at hg
        rw [hg]
      · rw [if_neg he, ← hd] at hg
        refine EvP.pos (by omega) (EvP.pos (by omega) (EvP.pos (by omega) (EvP.pos (by omega) (EvP.pos (by omega) (EvP.pos (by omega) (EvP.pos (by omega) (EvP.ret ?_)))))))
        rw [hg]; simp
  · obtain rfl : i = l.length := by omega
    rw [List.drop_eq_nil_of_le (Nat.le_refl _)] at hg
    refine EvP.neg (by omega) (EvP.neg (by omega) (EvP.pos (by omega) (EvP.pos (by omega) (EvP.pos (by omega) (EvP.pos (by omega) (EvP.pos (by omega) (EvP.pos (by omega) (EvP.pos (by omega) (EvP.ret ?_)))))))))
    rw [hg, List.drop_eq_nil_of_le (Nat.le_refl _)]; simp [ins]

theorem mem_compact (l : List Int) (x : Int) : x ∈ Lib.compact l ↔ x ∈ l := by
  unfold Lib.compact Lib.compactUpTo
  simp only [List.mem_map, List.mem_filter, List.mem_range]
  have hget : ∀ i, i < l.length → l.toArray[i]! = rdT (.int .i64) l i := fun i hi => by
    simp [rdT, List.getD, hi]
  constructor
  · rintro ⟨i, ⟨hi, _⟩, rfl⟩
    rw [hget i hi]
    exact rdI_mem.2 ⟨i, hi, rfl⟩
  · intro h
    obtain ⟨m, ⟨hm, hx⟩, hmin⟩ := least (p := fun i => i < l.length ∧ rdT (.int .i64) l i = x) (rdI_mem.1 h)
    refine ⟨m, ⟨hm, ?_⟩, by rw [hget m hm]; exact hx⟩
    unfold Lib.keeps
    cases m with
    | zero => simp
    | succ m =>
      have hne : ¬ rdT (.int .i64) l m = x := fun e => by
        have := hmin m ⟨by omega, e⟩
        omega
      simp only [Bool.or_eq_true, decide_eq_true_eq, Nat.add_sub_cancel, hget (m + 1) hm, hget m (by omega)]
      right
      rw [hx]
      exact fun e => hne e.symm

theorem mem_sorted (l : List Int) (x : Int) : x ∈ sorted l ↔ x ∈ l := by
  unfold sorted
  exact List.mem_mergeSort

theorem sorted_len (l : List Int) : (sorted l).length = l.length := by simp [sorted]

inductive Reach (l : List TType.D) (start : Int → Prop) : Int → Prop where
  | base {n : Int} : start n → Reach l start n
  | step {m n : Int} : Reach l start m → n ∈ parts (rdT TType l m.toNat) false → Reach l start n

theorem Reach.mono {l : List TType.D} {s s' : Int → Prop} (h : ∀ n, s n → s' n) {n : Int} (r : Reach l s n) : Reach l s' n := by
  induction r with
  | base a => exact .base (h _ a)
  | step _ b ih => exact .step ih b

def Round (l : List TType.D) (n : Int) : Prop := Reach l (fun x => x ∈ parts (rdT TType l n.toNat) false) n

structure Tidy (l : List TType.D) : Prop where
  len : l.length ≤ 24
  inr : ∀ i, i < l.length → ∀ n ∈ parts (rdT TType l i) false, InR l.length n
  few : ∀ i, i < l.length → (parts (rdT TType l i) false).length ≤ 7

theorem InR.nat {N : Nat} {n : Int} (h : InR N n) : n.toNat < N ∧ ((n.toNat : Nat) : Int) = n := by
  unfold InR at h
  omega

theorem Nearly.tidy {l : List TType.D} (h : Nearly l) : Tidy l := by
  obtain ⟨h3, h24, hb, hall⟩ := h
  have hfields : ∀ f : List TField.D, FieldsOk l.length f → (∀ n ∈ fparts f, InR l.length n) ∧ (fparts f).length ≤ 6 := by
    intro f hf
    refine ⟨fun n hn => ?_, by simpa [fparts] using hf.2⟩
    simp only [fparts, List.mem_map] at hn
    obtain ⟨x, hx, rfl⟩ := hn
    obtain ⟨i, hi, rfl⟩ := List.getElem_of_mem hx
    have := (hf.1 i hi).1.2.2
    rwa [show rdT TField f i = f[i] from rdT_get hi] at this
  have main : ∀ i, i < l.length → (∀ n ∈ parts (rdT TType l i) false, InR l.length n) ∧ (parts (rdT TType l i) false).length ≤ 7 := by
    intro i hi
    rcases Nat.lt_or_ge i 3 with h | h
    · have e := (base_iff l h3).1 hb i h
      obtain ⟨_, b2, b3, _⟩ := base_parts i h
      have : parts (rdT TType l i) false = [] := by
        rw [e]
        unfold parts
        rw [b2, b3, if_neg (fun e => absurd e.1 (by decide))]
        rfl
      rw [this]
      exact ⟨fun n hn => (by cases hn), by simp⟩
    · obtain ⟨_, hnf, hk⟩ := (hall i h hi).1
      generalize rdT TType l i = t at *
      have hbase : (InR l.length t.2.2.1 ∨ (t.2.2.1 : Int) = -1) ∧ ((∀ n ∈ fparts t.2.2.2.1, InR l.length n) ∧ (fparts t.2.2.2.1).length ≤ 6) := by
        split at hk
        · rename_i h4
          have h0 := hnf (by rw [h4]; decide)
          have : t.2.2.2.1 = [] := List.eq_nil_of_length_eq_zero h0
          rw [this]
          exact ⟨.inl hk.2, fun n hn => by simp [fparts] at hn, by simp [fparts]⟩
        · split at hk
          · exact ⟨hk.2.1.elim .inr fun h => .inl h.1, hfields _ hk.2.2⟩
          · rename_i h5
            have : t.2.2.2.1 = [] := List.eq_nil_of_length_eq_zero (hnf h5)
            rw [this]
            exact ⟨.inl hk.2.2.1, fun n hn => by simp [fparts] at hn, by simp [fparts]⟩
      unfold parts
      split
      · rename_i hc
        refine ⟨fun n hn => ?_, by simp; omega⟩
        rcases List.mem_append.1 hn with hn | hn
        · rw [List.mem_singleton.1 hn]
          rcases hbase.1 with h | h
          · exact h
          · have := hc.1; rw [h] at this; exact absurd this (by decide)
        · exact hbase.2.1 n hn
      · refine ⟨fun n hn => hbase.2.1 n (by simpa using hn), ?_⟩
        have := hbase.2.2
        simp; omega
  exact ⟨h24, fun i hi => (main i hi).1, fun i hi => (main i hi).2⟩

theorem nodup_bound : ∀ (N : Nat) (l : List Int), l.Nodup → (∀ x ∈ l, InR N x) → l.length ≤ N
  | 0, l, _, h => by
    match l with
    | [] => simp
    | x :: r => have := h x (by simp); unfold InR at this; omega
  | N + 1, l, hn, h => by
    have h1 := nodup_bound N (l.erase (N : Int)) (hn.erase _) (fun x hx => by
      have h2 := (hn.mem_erase_iff).1 hx
      have h3 := h x h2.2
      have h4 := h2.1
      unfold InR at *
      omega)
    rw [List.length_erase] at h1
    split at h1 <;> omega

theorem parts_fit {l : List TType.D} (hf : Fit (.slice TType) l) {n : Int} (h : InR l.length n) : Fit TType (rdT TType l n.toNat) := hf.2 _ (rdT_mem h.nat.1)

theorem l3From_ev (l : List TType.D) (start : List Int) (hf : Fit (.slice TType) l) (ht : Tidy l) (hs : start.length ≤ 1000) (hr : ∀ n ∈ start, InR l.length n) :
    EvP (fun k => spec_l3From.f k (l, start, false, ())) (fun y => (∀ n, n ∈ y.1 ↔ Reach l (· ∈ start) n) ∧ y.1.length ≤ l.length) := by
  have hbig := big_eq
  have hlen := ht.len
  have hnil : ([] : List Int) ++ start = start := rfl
  simp only [spec_l3From.f, spec_l1Own.f, hnil]
  have h0 : EvP (fun _ => if 0 + start.length ≤ big then (some (start, ()) : Option (List Int × Unit)) else none) (· = (start, ())) := EvP.pos (by omega) (EvP.ret rfl)
  refine EvP.bind h0 ?_
  rintro _ rfl
  refine EvP.loop (L := spec_l3From.l1) (Q := fun y => (∀ n, n ∈ y.1 ↔ Reach l (· ∈ start) n) ∧ y.1.length ≤ l.length) (fun j s => ∃ out queue : List Int, s = (l, false, out, queue, ()) ∧ j = (l.length - out.length) * 8 + queue.length ∧ j ≤ 2000 ∧ out.Nodup ∧ (∀ n ∈ out, InR l.length n ∧ Reach l (· ∈ start) n) ∧ (∀ n ∈ queue, InR l.length n ∧ Reach l (· ∈ start) n) ∧
      (∀ m ∈ out, ∀ n ∈ parts (rdT TType l m.toNat) false, n ∈ out ∨ n ∈ queue) ∧ (∀ n ∈ start, n ∈ out ∨ n ∈ queue)) ?_ _ _ ⟨[], start, rfl, rfl, by simp; omega, List.nodup_nil, fun n h => (by cases h), fun n h => ⟨hr n h, .base h⟩, fun m h => (by cases h), fun n h => .inr h⟩
  rintro j _ ⟨out, queue, rfl, hj, hjb, hn, ho, hq, hp, hst⟩ ih
  have hol := nodup_bound l.length out hn fun x hx => (ho x hx).1
  simp only [spec_l3From.l1, decide_eq_true_eq, if_neg (show ¬ (false = true) by decide)]
  match queue, hj, hq, hp, hst, ih with
  | [], hj, hq, hp, hst, ih =>
    refine EvP.neg (by simp) (EvP.ret ⟨fun n => ⟨fun h => (ho n h).2, fun h => ?_⟩, hol⟩)
    induction h with
    | base a => exact (hst _ a).resolve_right (by simp)
    | step _ b ih => exact (hp _ ih _ b).resolve_right (by simp)
  | q :: r, hj, hq, hp, hst, ih =>
    have hq0 : rdT (.int .i64) (q :: r) 0 = q := rfl
    have hd1 : (q :: r).drop 1 = r := rfl
    have hl1 : (q :: r).length = r.length + 1 := rfl
    simp only [hq0, hd1]
    obtain ⟨hqi, hqr⟩ := hq q (by simp)
    refine EvP.pos (by rw [hl1]; omega) (EvP.pos (by rw [hl1]; omega) (EvP.pos (by rw [hl1]; omega) ?_))
    refine EvP.bind (l1Has_ev _ _ (by omega)) ?_
    rintro ⟨y, _⟩ hy
    simp only at hy
    refine EvP.ite (fun h => ?_) (fun h => ?_)
    · have hmem := hy.1 h
      refine ih ((l.length - out.length) * 8 + r.length) _ (by omega) ⟨out, r, rfl, rfl, by omega, hn, ho, fun n h => hq n (by simp [h]), fun m hm n h => ?_, fun n h => ?_⟩
      · rcases hp m hm n h with h | h
        · exact .inl h
        · rcases List.mem_cons.1 h with rfl | h
          · exact .inl hmem
          · exact .inr h
      · rcases hst n h with h | h
        · exact .inl h
        · rcases List.mem_cons.1 h with rfl | h
          · exact .inl hmem
          · exact .inr h
    · have hmem : q ∉ out := fun e => h (hy.2 e)
      refine EvP.bind (l1Put_ev _ _ (by omega)) ?_
      rintro _ rfl
      refine EvP.pos hqi.1 (EvP.pos hqi.2 ?_)
      refine EvP.bind (specParts_ev _ (parts_fit hf hqi)) ?_
      rintro _ rfl
      have hfew := ht.few _ hqi.nat.1
      have hil := ins_len out hmem
      have hin := nodup_bound l.length (ins q out) (ins_nodup out hn hmem) fun x hx => by
        rcases (mem_ins out).1 hx with rfl | hx
        · exact hqi
        · exact (ho x hx).1
      refine EvP.pos (show ((q :: r).length - 1) + (parts (rdT TType l q.toNat) false).length ≤ big by omega) ?_
      refine ih ((l.length - (ins q out).length) * 8 + (r ++ parts (rdT TType l q.toNat) false).length) _ (by rw [List.length_append, hil]; omega) ⟨ins q out, r ++ parts (rdT TType l q.toNat) false, rfl, rfl, by rw [List.length_append, hil]; omega, ins_nodup out hn hmem, fun n h => ?_, fun n h => ?_, fun m hm n h => ?_, fun n h => ?_⟩
      · rcases (mem_ins out).1 h with rfl | h
        · exact ⟨hqi, hqr⟩
        · exact ho n h
      · rcases List.mem_append.1 h with h | h
        · exact hq n (by simp [h])
        · exact ⟨ht.inr _ hqi.nat.1 n h, .step hqr h⟩
      · rcases (mem_ins out).1 hm with rfl | hm
        · exact .inr (List.mem_append.2 (.inr h))
        · rcases hp m hm n h with h | h
          · exact .inl ((mem_ins out).2 (.inr h))
          · rcases List.mem_cons.1 h with rfl | h
            · exact .inl ((mem_ins out).2 (.inl rfl))
            · exact .inr (List.mem_append.2 (.inl h))
      · rcases hst n h with h | h
        · exact .inl ((mem_ins out).2 (.inr h))
        · rcases List.mem_cons.1 h with rfl | h
          · exact .inl ((mem_ins out).2 (.inl rfl))
          · exact .inr (List.mem_append.2 (.inl h))

theorem sort_ev (l : List Int) (hl : l.length ≤ 1048576) : EvP (fun k => slices_Sort_int.f k (l, ())) (· = (sorted l, ())) := by
  have hbig := big_eq
  simp only [slices_Sort_int.f]
  exact EvP.pos (by omega) (EvP.ret rfl)

theorem compact_ev (l : List Int) (hl : l.length ≤ 1048576) : EvP (fun k => slices_Compact_int.f k (l, ())) (· = (Lib.compact l, ())) := by
  have hbig := big_eq
  simp only [slices_Compact_int.f]
  exact EvP.pos (by omega) (EvP.ret rfl)

theorem clone_ev (l : List Int) (hl : l.length ≤ 1048576) : EvP (fun k => slices_Clone_int_int.f k (l, ())) (· = (l, ())) := by
  have hbig := big_eq
  simp only [slices_Clone_int_int.f]
  refine EvP.fork (a := (l, ())) rfl (fun h => EvP.pos rfl (EvP.ret ?_)) (EvP.neg (by decide) (EvP.pos (by omega) (EvP.ret rfl)))
  rw [List.eq_nil_of_length_eq_zero h]

/-- What is known while all that is reached is gathered. -/
structure RInv (l : List TType.D) (start out : List Int) : Prop where
  new : ∃ new : List Int, out = start ++ new ∧ new.Nodup ∧ ∀ x ∈ new, InR l.length x
  all : ∀ n ∈ out, InR l.length n ∧ Reach l (· ∈ start) n

theorem RInv.len {l : List TType.D} {start out : List Int} (h : RInv l start out) : out.length ≤ start.length + l.length := by
  obtain ⟨new, rfl, h1, h2⟩ := h.new
  have := nodup_bound l.length new h1 h2
  rw [List.length_append]; omega

theorem RInv.add {l : List TType.D} {start out : List Int} (h : RInv l start out) {n : Int} (hn : n ∉ out) (hi : InR l.length n) (hr : Reach l (· ∈ start) n) : RInv l start (out ++ [n]) := by
  obtain ⟨new, rfl, h1, h2⟩ := h.new
  refine ⟨⟨new ++ [n], by simp, ?_, fun x hx => ?_⟩, fun x hx => ?_⟩
  · rw [List.nodup_append]
    refine ⟨h1, by simp, fun a ha b hb => ?_⟩
    rw [List.mem_singleton.1 hb]
    rintro rfl
    exact hn (List.mem_append.2 (.inr ha))
  · rcases List.mem_append.1 hx with hx | hx
    · exact h2 x hx
    · rw [List.mem_singleton.1 hx]; exact hi
  · rcases List.mem_append.1 hx with hx | hx
    · exact h.all x hx
    · rw [List.mem_singleton.1 hx]; exact ⟨hi, hr⟩

theorem rdI_left {a b : List Int} {i : Nat} (h : i < a.length) : rdT (.int .i64) (a ++ b) i = rdT (.int .i64) a i := by
  simp only [rdT, List.getD, List.getElem?_append_left h]

/-- The parts of one type are gathered. -/
theorem reached_l4_ev (l : List TType.D) (start : List Int) (i : Nat) (hi : i ≤ 10000) (ps : List Int) (hps : ps.length ≤ 7) (hpi : ∀ n ∈ ps, InR l.length n ∧ Reach l (· ∈ start) n) (hlen : l.length ≤ 24) (hst : start.length ≤ 1000) (Q : List Int × Unit → Prop) (out0 : List Int) (h0 : RInv l start out0)
    (hgo : ∀ new : List Int, RInv l start (out0 ++ new) → (∀ n ∈ ps, n ∈ out0 ++ new) → EvP (fun k => impl_reached.l1 k (l, false, out0 ++ new, ((i + 1 : Nat) : Int), ())) Q) :
    EvP (fun k => impl_reached.l4 k (l, false, out0, (i : Int), ps, (ps.length : Int), 0, ())) Q := by
  have hbig := big_eq
  refine EvP.loop (L := impl_reached.l4) (Q := Q) (fun j s => ∃ (p : Nat) (new : List Int), s = (l, false, out0 ++ new, (i : Int), ps, (ps.length : Int), (p : Int), ()) ∧ p ≤ ps.length ∧ j = ps.length - p ∧ RInv l start (out0 ++ new) ∧ ∀ q, q < p → rdT (.int .i64) ps q ∈ out0 ++ new) ?_ ps.length _ ⟨0, [], by simp, Nat.zero_le _, rfl, by simpa using h0, fun q h => absurd h (Nat.not_lt_zero _)⟩
  rintro j _ ⟨p, new, rfl, hp, rfl, hI, hall⟩ ih
  have hol := hI.len
  simp only [impl_reached.l4, decide_eq_true_eq, Int.toNat_natCast, next64 (show p ≤ 1099511627776 by omega), next64 (show i ≤ 1099511627776 by omega), Bool.not_eq_true']
  refine EvP.ite (fun hlt => EvP.pos (by omega) (EvP.pos (by omega) ?_)) (fun hge => hgo new hI fun n hn => ?_)
  · have hpl : p < ps.length := by omega
    have hmem := rdT_mem (t := .int .i64) hpl
    refine EvP.bind (contains_ev _ _ (by omega)) ?_
    rintro ⟨y, _⟩ hy
    simp only at hy
    refine EvP.ite (fun h => ?_) (fun h => ?_)
    · have hn : rdT (.int .i64) ps p ∉ out0 ++ new := fun e => by rw [hy.2 e] at h; cases h
      refine EvP.pos (by omega) ?_
      have := ih (ps.length - (p + 1)) _ (by omega) ⟨p + 1, new ++ [rdT (.int .i64) ps p], rfl, by omega, rfl, ?_, fun q hq => ?_⟩
      · rwa [← List.append_assoc] at this
      · rw [← List.append_assoc]; exact hI.add hn (hpi _ hmem).1 (hpi _ hmem).2
      · rw [← List.append_assoc]
        rcases Nat.lt_or_ge q p with h2 | h2
        · exact List.mem_append.2 (.inl (hall q h2))
        · obtain rfl : q = p := by omega
          exact List.mem_append.2 (.inr (by simp))
    · refine ih (ps.length - (p + 1)) _ (by omega) ⟨p + 1, new, rfl, by omega, rfl, hI, fun q hq => ?_⟩
      rcases Nat.lt_or_ge q p with h2 | h2
      · exact hall q h2
      · obtain rfl : q = p := by omega
        exact hy.1 (by simpa using h)
  · obtain ⟨q, hq, rfl⟩ := rdI_mem.1 hn
    exact hall q (by omega)

theorem reached_ev (l : List TType.D) (start : List Int) (hf : Fit (.slice TType) l) (ht : Tidy l) (hs : start.length ≤ 1000) (hr : ∀ n ∈ start, InR l.length n) :
    EvP (fun k => impl_reached.f k (l, start, false, ())) (fun y => (∀ n, n ∈ y.1 ↔ Reach l (· ∈ start) n) ∧ y.1.length ≤ 1024) := by
  have hbig := big_eq
  have hlen := ht.len
  simp only [impl_reached.f]
  refine EvP.bind (clone_ev _ (by omega)) ?_
  rintro _ rfl
  refine EvP.loop (L := impl_reached.l1) (Q := fun y => (∀ n, n ∈ y.1 ↔ Reach l (· ∈ start) n) ∧ y.1.length ≤ 1024) (fun j s => ∃ (i : Nat) (out : List Int), s = (l, false, out, (i : Int), ()) ∧ i ≤ out.length ∧ j = start.length + l.length - i ∧ RInv l start out ∧ ∀ q, q < i → ∀ n ∈ parts (rdT TType l (rdT (.int .i64) out q).toNat) false, n ∈ out) ?_ _ _ ⟨0, start, rfl, Nat.zero_le _, rfl, ⟨⟨[], by simp, List.nodup_nil, fun x h => (by cases h)⟩, fun n h => ⟨hr n h, .base h⟩⟩, fun q h => absurd h (Nat.not_lt_zero _)⟩
  rintro j _ ⟨i, out, rfl, hi, rfl, hI, hall⟩ ih
  have hol := hI.len
  simp only [impl_reached.l1, decide_eq_true_eq, Int.toNat_natCast]
  refine EvP.ite (fun hlt => ?_) (fun hge => ?_)
  · have hil : i < out.length := by omega
    obtain ⟨hni, hnr⟩ := hI.all _ (rdT_mem (t := .int .i64) hil)
    refine EvP.pos (by omega) (EvP.pos (by omega) (EvP.pos hni.1 (EvP.pos hni.2 ?_)))
    refine EvP.bind (implParts_ev _ _ (parts_fit hf hni)) ?_
    rintro _ rfl
    refine reached_l4_ev l start i (by omega) _ (ht.few _ hni.nat.1) (fun n hn => ⟨ht.inr _ hni.nat.1 n hn, .step hnr hn⟩) hlen hs _ out hI fun new hI' hps => ?_
    refine ih (start.length + l.length - (i + 1)) _ (by omega) ⟨i + 1, out ++ new, rfl, by rw [List.length_append]; omega, rfl, hI', fun q hq n hn => ?_⟩
    rw [rdI_left (by omega)] at hn
    rcases Nat.lt_or_ge q i with h2 | h2
    · exact List.mem_append.2 (.inl (hall q h2 n hn))
    · obtain rfl : q = i := by omega
      exact hps n hn
  · refine EvP.bind (sort_ev _ (by omega)) ?_
    rintro _ rfl
    refine EvP.ret ⟨fun n => ?_, by rw [sorted_len]; omega⟩
    rw [mem_sorted]
    refine ⟨fun h => (hI.all n h).2, fun h => ?_⟩
    induction h with
    | base a =>
      obtain ⟨new, rfl, _⟩ := hI.new
      exact List.mem_append.2 (.inl a)
    | step _ b ih =>
      obtain ⟨q, hq, he⟩ := rdI_mem.1 ih
      rw [← he] at b
      exact hall q (by omega) _ b

theorem isRound_ev (l : List TType.D) (n : Int) (hf : Fit (.slice TType) l) (ht : Tidy l) (hn : InR l.length n) : EvP (fun k => impl_isRound.f k (l, n, ())) (fun y => y.1 = true ↔ Round l n) := by
  simp only [impl_isRound.f]
  refine EvP.pos hn.1 (EvP.pos hn.2 ?_)
  refine EvP.bind (implParts_ev _ _ (parts_fit hf hn)) ?_
  rintro _ rfl
  have h7 := ht.few _ hn.nat.1
  refine EvP.bind (sort_ev _ (by simp only; omega)) ?_
  rintro _ rfl
  refine EvP.bind (compact_ev _ (by simp only [sorted_len]; omega)) ?_
  rintro _ rfl
  have hmem : ∀ x, x ∈ Lib.compact (sorted (parts (rdT TType l n.toNat) false)) ↔ x ∈ parts (rdT TType l n.toNat) false := fun x => (mem_compact _ x).trans (mem_sorted _ x)
  refine EvP.bind (reached_ev l _ hf ht ?_ fun x hx => ht.inr _ hn.nat.1 x ((hmem x).1 hx)) ?_
  · have := Lib.compact_length_le (sorted (parts (rdT TType l n.toNat) false))
    rw [sorted_len] at this
    simp only
    omega
  rintro ⟨y, _⟩ ⟨hy, hyl⟩
  refine EvP.bind (contains_ev y n (by simp only at hyl; omega)) ?_
  rintro ⟨z, _⟩ hz
  refine EvP.ret ?_
  simp only at hy hz ⊢
  rw [hz, hy]
  exact ⟨fun h => h.mono fun x hx => (hmem x).1 hx, fun h => h.mono fun x hx => (hmem x).2 hx⟩

theorem l3Round_ev (l : List TType.D) (n : Int) (hf : Fit (.slice TType) l) (ht : Tidy l) (hn : InR l.length n) : EvP (fun k => spec_l3Round.f k (l, n, ())) (fun y => y.1 = true ↔ Round l n) := by
  simp only [spec_l3Round.f]
  refine EvP.pos hn.1 (EvP.pos hn.2 ?_)
  refine EvP.bind (specParts_ev _ (parts_fit hf hn)) ?_
  rintro _ rfl
  have h7 := ht.few _ hn.nat.1
  have hlen := ht.len
  refine EvP.bind (l3From_ev l _ hf ht (by simp only; omega) fun x hx => ht.inr _ hn.nat.1 x hx) ?_
  rintro ⟨y, _⟩ ⟨hy, hyl⟩
  refine EvP.bind (l1Has_ev y n (by simp only at hyl; omega)) ?_
  rintro ⟨z, _⟩ hz
  refine EvP.ret ?_
  simp only at hy hz ⊢
  rw [hz, hy]
  rfl

def GoodT (l : List TType.D) : Prop := Nearly l ∧ ∀ i, i < l.length → ¬ Round l (i : Int)

theorem isTable_ev (l : List TType.D) (hf : Fit (.slice TType) l) : EvP (fun k => impl_isTable.f k (l, ())) (fun y => y.1 = true ↔ GoodT l) := by
  simp only [impl_isTable.f, Bool.not_eq_true']
  refine EvP.bind (areTypes_ev l hf) ?_
  rintro ⟨y, _⟩ hy
  simp only at hy
  refine EvP.ite (fun h => EvP.ret ⟨fun e => (by cases e), fun e => ?_⟩) (fun h => ?_)
  · rw [hy.2 e.1] at h; cases h
  have hn : Nearly l := hy.1 (by simpa using h)
  have hlen := hn.tidy.len
  refine EvP.scan (L := fun k i => impl_isTable.l2 k (l, (l.length : Int), i, ())) l.length (fun i => ¬ Round l (i : Int)) (fun hall => ?_) (fun i hi hall hgo => ?_)
  · simp only [impl_isTable.l2, decide_eq_true_eq]
    exact EvP.neg (by omega) (EvP.ret ⟨fun _ => ⟨hn, hall⟩, fun _ => rfl⟩)
  · simp only [impl_isTable.l2, decide_eq_true_eq, next64 (show i ≤ 1099511627776 by omega)]
    refine EvP.pos (by omega) ?_
    refine EvP.bind (isRound_ev l _ hf hn.tidy ⟨by omega, by omega⟩) ?_
    rintro ⟨z, _⟩ hz
    simp only at hz
    exact EvP.ite (fun h => EvP.ret ⟨fun e => (by cases e), fun e => absurd (hz.1 h) (e.2 i hi)⟩) (fun h => hgo fun e => h (hz.2 e))

theorem l3Good_ev (l : List TType.D) (hf : Fit (.slice TType) l) : EvP (fun k => spec_l3Good.f k (l, ())) (fun y => y.1 = true ↔ GoodT l) := by
  simp only [spec_l3Good.f, Bool.not_eq_true']
  refine EvP.bind (l3Nearly_ev l hf) ?_
  rintro ⟨y, _⟩ hy
  simp only at hy
  refine EvP.ite (fun h => EvP.ret ⟨fun e => (by cases e), fun e => ?_⟩) (fun h => ?_)
  · rw [hy.2 e.1] at h; cases h
  have hn : Nearly l := hy.1 (by simpa using h)
  have hlen := hn.tidy.len
  refine EvP.scan (L := fun k i => spec_l3Good.l2 k (l, (l.length : Int), i, ())) l.length (fun i => ¬ Round l (i : Int)) (fun hall => ?_) (fun i hi hall hgo => ?_)
  · simp only [spec_l3Good.l2, decide_eq_true_eq]
    exact EvP.neg (by omega) (EvP.ret ⟨fun _ => ⟨hn, hall⟩, fun _ => rfl⟩)
  · simp only [spec_l3Good.l2, decide_eq_true_eq, next64 (show i ≤ 1099511627776 by omega)]
    refine EvP.pos (by omega) ?_
    refine EvP.bind (l3Round_ev l _ hf hn.tidy ⟨by omega, by omega⟩) ?_
    rintro ⟨z, _⟩ hz
    simp only at hz
    exact EvP.ite (fun h => EvP.ret ⟨fun e => (by cases e), fun e => absurd (hz.1 h) (e.2 i hi)⟩) (fun h => hgo fun e => h (hz.2 e))

/-! ### How deep a type is -/

/-- Every way down from a type ends within f steps. -/
def Low (l : List TType.D) : Nat → Int → Prop
  | 0, _ => False
  | f + 1, n => ∀ p ∈ parts (rdT TType l n.toNat) false, Low l f p

theorem Low.mono {l : List TType.D} : ∀ {f : Nat} {n : Int}, Low l f n → Low l (f + 1) n
  | 0, _, h => h.elim
  | f + 1, n, h => fun p hp => Low.mono (h p hp)

theorem Low.le {l : List TType.D} {f g : Nat} {n : Int} (h : Low l f n) (hg : f ≤ g) : Low l g n := by
  induction hg with
  | refl => exact h
  | step _ ih => exact ih.mono

theorem reach_in {l : List TType.D} {p n x : Int} (hp : p ∈ parts (rdT TType l n.toNat) false) (h : Reach l (fun y => y ∈ parts (rdT TType l p.toNat) false) x) : Reach l (fun y => y ∈ parts (rdT TType l n.toNat) false) x := by
  induction h with
  | base h => exact .step (.base hp) h
  | step _ h ih => exact .step ih h

theorem chain {l : List TType.D} (ht : Tidy l) (hr : ∀ i, i < l.length → ¬ Round l (i : Int)) : ∀ (f : Nat) (n : Int), InR l.length n → ¬ Low l f n →
    ∃ L : List Int, L.length = f + 1 ∧ L.Nodup ∧ ∀ x ∈ L, InR l.length x ∧ (x = n ∨ Reach l (fun y => y ∈ parts (rdT TType l n.toNat) false) x)
  | 0, n, hn, _ => ⟨[n], rfl, by simp, fun x hx => by rw [List.mem_singleton.1 hx]; exact ⟨hn, .inl rfl⟩⟩
  | f + 1, n, hn, h => by
    obtain ⟨p, hp, hl⟩ : ∃ p, p ∈ parts (rdT TType l n.toNat) false ∧ ¬ Low l f p := by
      refine Classical.byContradiction fun hc => h fun p hp => ?_
      exact Classical.byContradiction fun hl => hc ⟨p, hp, hl⟩
    have hpr := ht.inr n.toNat hn.nat.1 p hp
    obtain ⟨L, h1, h2, h3⟩ := chain ht hr f p hpr hl
    have hnr : ¬ Round l n := by
      have := hr n.toNat hn.nat.1
      rwa [hn.nat.2] at this
    refine ⟨n :: L, by simp [h1], List.nodup_cons.2 ⟨fun hm => ?_, h2⟩, fun x hx => ?_⟩
    · rcases (h3 n hm).2 with e | e
      · subst e; exact hnr (.base hp)
      · exact hnr (reach_in hp e)
    · rcases List.mem_cons.1 hx with e | hx
      · subst e; exact ⟨hn, .inl rfl⟩
      · refine ⟨(h3 x hx).1, .inr ?_⟩
        rcases (h3 x hx).2 with e | e
        · subst e; exact .base hp
        · exact reach_in hp e

theorem low_all {l : List TType.D} (hg : GoodT l) {n : Int} (hn : InR l.length n) : Low l l.length n := by
  refine Classical.byContradiction fun h => ?_
  obtain ⟨L, h1, h2, h3⟩ := chain hg.1.tidy hg.2 l.length n hn h
  have := nodup_bound l.length L h2 fun x hx => (h3 x hx).1
  omega

/-! ### The size of a type -/

def capM (x : Int) : Int := if 1000000001 < x then 1000000001 else x
def sumM (S : Int → Int) (ps : List Int) : Int := ps.foldl (fun a p => a + S p) 0

def nodeM (t : TType.D) (S : Int → Int) : Int :=
  if (t.1 : Int) = 1 then 4 else if (t.1 : Int) = 2 then 1 else if (t.1 : Int) = 3 then 1 else if (t.1 : Int) = 6 then 8
  else if (t.1 : Int) = 4 then capM (sumM S (parts t false) * t.2.1) else capM (sumM S (parts t false))

def sizeM (l : List TType.D) : Nat → Int → Int
  | 0, _ => 0
  | f + 1, n => nodeM (rdT TType l n.toNat) (sizeM l f)

theorem sumM_congr {S T : Int → Int} : ∀ (ps : List Int) (a : Int), (∀ p ∈ ps, S p = T p) → ps.foldl (fun a p => a + S p) a = ps.foldl (fun a p => a + T p) a
  | [], _, _ => rfl
  | p :: r, a, h => by
    rw [List.foldl_cons, List.foldl_cons, h p List.mem_cons_self]
    exact sumM_congr r _ fun q hq => h q (List.mem_cons_of_mem _ hq)

theorem nodeM_congr {t : TType.D} {S T : Int → Int} (h : ∀ p ∈ parts t false, S p = T p) : nodeM t S = nodeM t T := by
  unfold nodeM sumM
  rw [sumM_congr _ 0 h]

theorem sizeM_next {l : List TType.D} : ∀ {f : Nat} {n : Int}, Low l f n → sizeM l (f + 1) n = sizeM l f n
  | 0, _, h => h.elim
  | f + 1, n, h => nodeM_congr fun p hp => sizeM_next (h p hp)

/-- The size. -/
def S (l : List TType.D) (n : Int) : Int := sizeM l l.length n

theorem S_node {l : List TType.D} (hg : GoodT l) {n : Int} (hn : InR l.length n) : S l n = nodeM (rdT TType l n.toNat) (S l) := by
  have h := sizeM_next (low_all hg hn)
  unfold S
  rw [← h]
  rfl

theorem sum_bound {T : Int → Int} : ∀ (ps : List Int) (a b : Int), 0 ≤ a → a ≤ b → (∀ p ∈ ps, 0 ≤ T p ∧ T p ≤ 1000000001) → 0 ≤ ps.foldl (fun a p => a + T p) a ∧ ps.foldl (fun a p => a + T p) a ≤ b + 1000000001 * ps.length
  | [], a, b, h0, h1, _ => by simp; omega
  | p :: r, a, b, h0, h1, h => by
    have hp := h p List.mem_cons_self
    have := sum_bound r (a + T p) (b + 1000000001) (by omega) (by omega) fun q hq => h q (List.mem_cons_of_mem _ hq)
    rw [List.foldl_cons, List.length_cons]
    omega

theorem cap_bound {x : Int} (h : 0 ≤ x) : 0 ≤ capM x ∧ capM x ≤ 1000000001 := by unfold capM; split <;> omega

theorem base_kinds (i : Nat) (h : i < 3) : ((rdT TType baseL i).1 : Int) = 1 ∨ ((rdT TType baseL i).1 : Int) = 2 ∨ ((rdT TType baseL i).1 : Int) = 3 := by
  have hc : i = 0 ∨ i = 1 ∨ i = 2 := by omega
  rcases hc with rfl | rfl | rfl
  · exact .inl rfl
  · exact .inr (.inl rfl)
  · exact .inr (.inr rfl)

theorem kinds {l : List TType.D} (hg : GoodT l) {n : Int} (hn : InR l.length n) :
    (((rdT TType l n.toNat).1 : Int) = 1 ∨ ((rdT TType l n.toNat).1 : Int) = 2 ∨ ((rdT TType l n.toNat).1 : Int) = 3) ∧ ((rdT TType l n.toNat).2.1 : Int) = 0 ∨
    (((rdT TType l n.toNat).1 : Int) = 4 ∧ (1 : Int) ≤ (rdT TType l n.toNat).2.1 ∧ ((rdT TType l n.toNat).2.1 : Int) ≤ 1000 ∧ parts (rdT TType l n.toNat) false = [(rdT TType l n.toNat).2.2.1]) ∨
    (((rdT TType l n.toNat).1 : Int) = 5 ∧ ((rdT TType l n.toNat).2.1 : Int) = 0) ∨ (((rdT TType l n.toNat).1 : Int) = 6 ∧ ((rdT TType l n.toNat).2.1 : Int) = 0) := by
  obtain ⟨h3, h24, hb, hall⟩ := hg.1
  obtain ⟨hlt, _⟩ := hn.nat
  rcases Nat.lt_or_ge n.toNat 3 with h | h
  · have e := (base_iff l h3).1 hb n.toNat h
    rw [e]
    exact .inl ⟨base_kinds _ h, (base_parts _ h).1⟩
  · obtain ⟨_, hnf, hk⟩ := (hall n.toNat h hlt).1
    generalize rdT TType l n.toNat = t at *
    split at hk
    · rename_i h4
      refine .inr (.inl ⟨h4, hk.1.1, hk.1.2, ?_⟩)
      have h0 : t.2.2.2.1 = [] := List.eq_nil_of_length_eq_zero (hnf (by rw [h4]; decide))
      unfold parts
      rw [h0, if_pos ⟨hk.2.1, .inr (by rw [h4]; decide)⟩]
      rfl
    · split at hk
      · rename_i h5
        exact .inr (.inr (.inl ⟨h5, hk.1⟩))
      · exact .inr (.inr (.inr ⟨hk.1, hk.2.1⟩))

theorem long_ok {l : List TType.D} (hg : GoodT l) {n : Int} (hn : InR l.length n) : (0 : Int) ≤ (rdT TType l n.toNat).2.1 ∧ ((rdT TType l n.toNat).2.1 : Int) ≤ 1000 := by
  rcases kinds hg hn with ⟨_, h⟩ | ⟨_, h1, h2, _⟩ | ⟨_, h⟩ | ⟨_, h⟩
  · rw [h]; decide
  · exact ⟨Int.le_trans (by decide) h1, h2⟩
  · rw [h]; decide
  · rw [h]; decide

theorem sizeM_bound {l : List TType.D} (hg : GoodT l) : ∀ (f : Nat) (n : Int), InR l.length n → 0 ≤ sizeM l f n ∧ sizeM l f n ≤ 1000000001
  | 0, _, _ => by unfold sizeM; omega
  | f + 1, n, hn => by
    have ht := hg.1.tidy
    have hps : ∀ p ∈ parts (rdT TType l n.toNat) false, 0 ≤ sizeM l f p ∧ sizeM l f p ≤ 1000000001 := fun p hp => sizeM_bound hg f p (ht.inr n.toNat hn.nat.1 p hp)
    have hb := sum_bound (T := sizeM l f) _ 0 0 (Int.le_refl _) (Int.le_refl _) hps
    have hlong := long_ok hg hn
    unfold sizeM nodeM sumM
    split
    · omega
    split
    · omega
    split
    · omega
    split
    · omega
    split
    · exact cap_bound (Int.mul_nonneg hb.1 hlong.1)
    · exact cap_bound hb.1

theorem S_bound {l : List TType.D} (hg : GoodT l) {n : Int} (hn : InR l.length n) : 0 ≤ S l n ∧ S l n ≤ 1000000001 := sizeM_bound hg _ n hn

/-! ### Both walks -/

structure OkS (l : List TType.D) (out : List Int) : Prop where
  len : out.length = l.length
  val : ∀ i, i < l.length → out.getD i 0 = -1 ∨ out.getD i 0 = S l (i : Int)

def KeepS (l : List TType.D) (out out' : List Int) : Prop := ∀ i, i < l.length → out.getD i 0 = S l (i : Int) → out'.getD i 0 = S l (i : Int)

theorem getD_set (out : List Int) (m i : Nat) (v : Int) (hm : m < out.length) : (out.set m v).getD i 0 = if i = m then v else out.getD i 0 := by
  simp only [List.getD, List.getElem?_set]
  by_cases h : m = i
  · subst h; simp [hm]
  · rw [if_neg h, if_neg (fun e => h e.symm)]

theorem OkS.set {l : List TType.D} {out : List Int} (h : OkS l out) {m : Nat} (hm : m < l.length) : OkS l (out.set m (S l (m : Int))) ∧ KeepS l out (out.set m (S l (m : Int))) ∧ (out.set m (S l (m : Int))).getD m 0 = S l (m : Int) := by
  have hl : m < out.length := by rw [h.len]; exact hm
  refine ⟨⟨by rw [List.length_set]; exact h.len, fun i hi => ?_⟩, fun i hi he => ?_, by rw [getD_set _ _ _ _ hl, if_pos rfl]⟩
  · rw [getD_set _ _ _ _ hl]
    split
    · rename_i e; subst e; exact .inr rfl
    · exact h.val i hi
  · rw [getD_set _ _ _ _ hl]
    split
    · rename_i e; subst e; rfl
    · exact he

theorem parts_all : ∀ (l : List TType.D), (∀ t ∈ l, Fit TType t) → ∃ K, ∀ k, K ≤ k → ∀ t ∈ l, ptK (TF := TField) impl_Type_parts.f k t = some (parts t false)
  | [], _ => ⟨0, fun _ _ t ht => by cases ht⟩
  | t :: r, h => by
    obtain ⟨K, hK⟩ := parts_all r fun t ht => h t (List.mem_cons_of_mem _ ht)
    obtain ⟨n, y, hn, rfl⟩ := implParts_ev t false (h t List.mem_cons_self)
    refine ⟨max K n, fun k hk u hu => ?_⟩
    rcases List.mem_cons.1 hu with e | hu
    · subst e
      have h1 : impl_Type_parts.f k (u, false, ()) = some (parts u false, ()) := hn k (by omega)
      show (impl_Type_parts.f k (u, false, ())).bind _ = _
      rw [h1]; rfl
    · exact hK k (by omega) u hu

theorem add_spec {l : List TType.D} (hg : GoodT l) (rec : List Int → Int → Option (List Int × Int)) : ∀ (ps : List Int) (s : Int) (out : List Int), 0 ≤ s → s + 1000000001 * ps.length ≤ 1000000000000 → (∀ p ∈ ps, InR l.length p) →
    (∀ p ∈ ps, ∀ out, OkS l out → ∃ out', rec out p = some (out', S l p) ∧ OkS l out' ∧ KeepS l out out') → OkS l out → ∃ out', addF rec out ps s = some (out', ps.foldl (fun a p => a + S l p) s) ∧ OkS l out' ∧ KeepS l out out'
  | [], s, out, _, _, _, _, ho => ⟨out, rfl, ho, fun _ _ h => h⟩
  | p :: r, s, out, h0, hb, hin, hr, ho => by
    obtain ⟨o1, e1, ho1, hk1⟩ := hr p List.mem_cons_self out ho
    have hS := S_bound hg (hin p List.mem_cons_self)
    rw [List.length_cons] at hb
    have hw : w64 (s + S l p) = s + S l p := w64_id (by omega) (by omega)
    obtain ⟨o2, e2, ho2, hk2⟩ := add_spec hg rec r (s + S l p) o1 (by omega) (by omega) (fun q hq => hin q (List.mem_cons_of_mem _ hq)) (fun q hq => hr q (List.mem_cons_of_mem _ hq)) ho1
    refine ⟨o2, ?_, ho2, fun i hi h => hk2 i hi (hk1 i hi h)⟩
    rw [addF, e1, List.foldl_cons]
    show addF rec o1 r (w64 (s + S l p)) = _
    rw [hw]
    exact e2

theorem note_spec {l : List TType.D} {out : List Int} {m : Nat} {size : Int} (h : capM size = S l (m : Int)) : noteF out m size = (out.set m (S l (m : Int)), S l (m : Int)) := by
  unfold noteF
  unfold capM at h
  rw [h]

theorem mul_cap (lg z : Int) (h0 : 1 ≤ lg) (h1 : lg ≤ 1000) (z0 : 0 ≤ z) (z1 : z ≤ 1000000001) : w64 (lg * z) = z * lg := by
  have h2 : 0 ≤ lg * z := Int.mul_nonneg (by omega) z0
  have h3 : lg * z ≤ 1000 * 1000000001 := Int.mul_le_mul h1 z1 z0 (by decide)
  rw [w64_id (by omega) (by omega), Int.mul_comm]

theorem of_spec {l : List TType.D} (hg : GoodT l) (pt : TType.D → Option (List Int)) (hpt : ∀ t ∈ l, pt t = some (parts t false)) : ∀ (f : Nat) (n : Int), InR l.length n → Low l f n → ∀ F, f ≤ F → ∀ out, OkS l out →
    ∃ out', ofF (TF := TField) pt l F out n = some (out', S l n) ∧ OkS l out' ∧ KeepS l out out' ∧ out'.getD n.toNat 0 = S l n := by
  intro f
  induction f with
  | zero => intro n _ h; exact h.elim
  | succ f ih =>
    intro n hn hlow F hF out ho
    obtain ⟨F, rfl⟩ : ∃ G, F = G + 1 := ⟨F - 1, by omega⟩
    obtain ⟨m, rfl⟩ : ∃ m : Nat, n = (m : Int) := ⟨n.toNat, hn.nat.2.symm⟩
    have hm : m < l.length := by have := hn.2; omega
    have hSn := S_node hg hn
    have hSb := S_bound hg hn
    have hkind := kinds hg hn
    have hpin := hg.1.tidy.inr m hm
    have hfew := hg.1.tidy.few m hm
    rw [Int.toNat_natCast] at *
    have hrd : rdT TType l m = l[m] := rdT_get hm
    have hmem : l[m] ∈ l := List.getElem_mem hm
    have hp := hpt _ hmem
    rw [ofF, if_pos ⟨hn.1, hn.2⟩]
    simp only [Int.toNat_natCast]
    by_cases h0 : 0 ≤ out.getD m 0
    · rw [if_pos h0]
      have hv : out.getD m 0 = S l (m : Int) := (ho.val m hm).resolve_left (by omega)
      exact ⟨out, by rw [hv], ho, fun _ _ h => h, hv⟩
    rw [if_neg h0, List.getElem?_eq_getElem hm]
    have hset := ho.set hm
    unfold Low at hlow
    rw [Int.toNat_natCast, hrd] at hlow
    rw [hrd] at hSn hkind hpin hfew
    generalize l[m] = t at *
    have done : ∀ (o1 : List Int) (size : Int), OkS l o1 → KeepS l out o1 → capM size = S l (m : Int) → ∃ out', some (noteF o1 m size) = some (out', S l (m : Int)) ∧ OkS l out' ∧ KeepS l out out' ∧ out'.getD m 0 = S l (m : Int) := by
      intro o1 size ho1 hk1 hc
      obtain ⟨q1, q2, q3⟩ := ho1.set hm
      exact ⟨_, by rw [note_spec hc], q1, fun i hi h => q2 i hi (hk1 i hi h), q3⟩
    have self : KeepS l out out := fun _ _ h => h
    show ∃ out', (if t.1 = 1 then some (noteF out m 4) else if t.1 = 2 then some (noteF out m 1) else if t.1 = 3 then some (noteF out m 1) else if t.1 = 6 then some (noteF out m 8) else if t.1 = 4 then (ofF (TF := TField) pt l F out t.2.2.1).bind fun o => some (noteF o.1 m (w64 (t.2.1 * o.2))) else if t.1 = 5 then (pt t).bind fun ps => if ps.length ≤ 1000 then (addF (ofF (TF := TField) pt l F) out ps 0).bind fun o => some (noteF o.1 m o.2) else none else some (noteF out m 0)) = some (out', S l (m : Int)) ∧ _
    by_cases e1 : (t.1 : Int) = 1
    · rw [if_pos e1]
      exact done out 4 ho self (by rw [hSn]; unfold nodeM; rw [if_pos e1]; rfl)
    rw [if_neg e1]
    by_cases e2 : (t.1 : Int) = 2
    · rw [if_pos e2]
      exact done out 1 ho self (by rw [hSn]; unfold nodeM; rw [if_neg e1, if_pos e2]; rfl)
    rw [if_neg e2]
    by_cases e3 : (t.1 : Int) = 3
    · rw [if_pos e3]
      exact done out 1 ho self (by rw [hSn]; unfold nodeM; rw [if_neg e1, if_neg e2, if_pos e3]; rfl)
    rw [if_neg e3]
    by_cases e6 : (t.1 : Int) = 6
    · rw [if_pos e6]
      exact done out 8 ho self (by rw [hSn]; unfold nodeM; rw [if_neg e1, if_neg e2, if_neg e3, if_pos e6]; rfl)
    rw [if_neg e6]
    by_cases e4 : (t.1 : Int) = 4
    · rw [if_pos e4]
      rcases hkind with ⟨h, _⟩ | ⟨_, hl1, hl2, hps⟩ | ⟨h, _⟩ | ⟨h, _⟩
      · exact absurd h (fun h => h.elim e1 fun h => h.elim e2 e3)
      · have hb : t.2.2.1 ∈ parts t false := by rw [hps]; exact List.mem_singleton.2 rfl
        obtain ⟨o1, g1, g2, g3, _⟩ := ih t.2.2.1 (hpin _ hb) (hlow _ hb) F (by omega) out ho
        rw [g1]
        refine done o1 (w64 (t.2.1 * S l t.2.2.1)) g2 g3 ?_
        have hSp := S_bound hg (hpin _ hb)
        rw [hSn]
        unfold nodeM sumM
        rw [if_neg e1, if_neg e2, if_neg e3, if_neg e6, if_pos e4, hps, List.foldl_cons, List.foldl_nil, Int.zero_add]
        rw [mul_cap t.2.1 (S l t.2.2.1) hl1 hl2 hSp.1 hSp.2]
      · exact absurd (e4.symm.trans h) (by decide)
      · exact absurd (e4.symm.trans h) (by decide)
    rw [if_neg e4]
    by_cases e5 : (t.1 : Int) = 5
    · rw [if_pos e5, hp]
      show ∃ out', (if (parts t false).length ≤ 1000 then _ else _) = _ ∧ _
      rw [if_pos (by omega)]
      obtain ⟨o1, g1, g2, g3⟩ := add_spec hg (ofF (TF := TField) pt l F) (parts t false) 0 out (Int.le_refl _) (by omega) hpin (fun p hp' q hq => by
        obtain ⟨q1, w1, w2, w3, _⟩ := ih p (hpin p hp') (hlow p hp') F (by omega) q hq
        exact ⟨q1, w1, w2, w3⟩) ho
      rw [g1]
      refine done o1 _ g2 g3 ?_
      rw [hSn]
      unfold nodeM sumM
      rw [if_neg e1, if_neg e2, if_neg e3, if_neg e6, if_neg e4]
    · exfalso
      rcases hkind with ⟨h, _⟩ | ⟨h, _⟩ | ⟨h, _⟩ | ⟨h, _⟩
      · exact h.elim e1 fun h => h.elim e2 e3
      · exact e4 h
      · exact e5 h
      · exact e6 h

def tblM (l : List TType.D) : List Int := (List.range l.length).map fun i : Nat => S l (i : Int)

theorem tbl_get (l : List TType.D) {i : Nat} (h : i < l.length) : (tblM l).getD i 0 = S l (i : Int) := by
  simp [tblM, List.getD, h]

theorem tbl_of {l : List TType.D} {o : List Int} (h1 : o.length = l.length) (h2 : ∀ j, j < l.length → o.getD j 0 = S l (j : Int)) : o = tblM l := by
  apply List.ext_getElem
  · simp [tblM, h1]
  · intro i h3 h4
    have := h2 i (by omega)
    rw [List.getD, List.getElem?_eq_getElem h3] at this
    simp only [Option.getD_some] at this
    rw [this]
    simp [tblM]

theorem all_spec {l : List TType.D} (hg : GoodT l) (pt : TType.D → Option (List Int)) (hpt : ∀ t ∈ l, pt t = some (parts t false)) (F : Nat) (hF : l.length ≤ F) : ∀ (r i : Nat) (out : List Int), i + r = l.length → OkS l out → (∀ j, j < i → out.getD j 0 = S l (j : Int)) →
    allF (ofF (TF := TField) pt l F) out i r = some (tblM l)
  | 0, i, out, hi, ho, hd => by
    rw [allF, tbl_of ho.len fun j hj => hd j (by omega)]
  | r + 1, i, out, hi, ho, hd => by
    have hn : InR l.length (i : Int) := ⟨by omega, by omega⟩
    obtain ⟨o1, e1, h1, h2, h3⟩ := of_spec hg pt hpt l.length (i : Int) hn (low_all hg hn) F hF out ho
    rw [allF, e1]
    show allF (ofF (TF := TField) pt l F) o1 (i + 1) r = _
    refine all_spec hg pt hpt F hF r (i + 1) o1 (by omega) h1 fun j hj => ?_
    rcases Nat.lt_or_ge j i with h | h
    · exact h2 j (by omega) (hd j h)
    · obtain rfl : j = i := by omega
      rw [Int.toNat_natCast] at h3
      exact h3

theorem implSizes_ev {l : List TType.D} (hg : GoodT l) (hf : Fit (.slice TType) l) : EvP (fun k => impl_sizes.f k (l, ())) (· = (tblM l, ())) := by
  obtain ⟨K, hK⟩ := parts_all l hf.2
  have h24 := hg.1.2.1
  refine ⟨max K l.length, _, fun k hk => ?_, rfl⟩
  show sizesF (TF := TField) impl_Type_parts.f k (l, ()) = _
  unfold sizesF
  have ho : OkS l (List.replicate l.length (-1)) := ⟨by simp, fun i hi => .inl (by simp [List.getD, hi])⟩
  have := all_spec hg (ptK (TF := TField) impl_Type_parts.f k) (fun t ht => hK k (by omega) t ht) k (by omega) l.length 0 _ (Nat.zero_add _) ho (fun j hj => absurd hj (Nat.not_lt_zero _))
  show (if l.length ≤ 1000 then _ else _) = _
  rw [if_pos (by omega)]
  show (allF (ofF (TF := TField) (ptK (TF := TField) impl_Type_parts.f k) l k) (List.replicate l.length (-1)) 0 l.length).bind _ = _
  rw [this]
  rfl

/-! ### The reference's passes -/

theorem least_ev (x : Int) : EvP (fun k => spec_l1Least.f k (1000000001, x, ())) (· = (capM x, ())) := by
  simp only [spec_l1Least.f, decide_eq_true_eq]
  unfold capM
  exact EvP.ite (fun h => EvP.ret (by rw [if_pos h])) (fun h => EvP.ret (by rw [if_neg h]))

theorem rdI (l : List Int) (i : Nat) : rdT (.int .i64) l i = l.getD i 0 := rfl

theorem foldl_nextS {T : Int → Int} {l : List Int} {i : Nat} (h : i < l.length) : (l.take (i + 1)).foldl (fun a p => a + T p) 0 = (l.take i).foldl (fun a p => a + T p) 0 + T (l.getD i 0) := by
  rw [List.take_add_one, List.foldl_append]
  simp [List.getD, List.getElem?_eq_getElem h]

theorem mul_wrap (z lg : Int) (z0 : 0 ≤ z) (z1 : z ≤ 10000000000) (h0 : 0 ≤ lg) (h1 : lg ≤ 1000) : w64 (z * lg) = z * lg := by
  have h2 : 0 ≤ z * lg := Int.mul_nonneg z0 h0
  have h3 : z * lg ≤ 10000000000 * 1000 := Int.mul_le_mul z1 h1 h0 (by decide)
  exact w64_id (by omega) (by omega)

def OneS (l : List TType.D) (t : TType.D) (size : List Int) (y : Int × Unit) : Prop :=
  (y.1 = -1 ∨ y.1 = nodeM t (S l)) ∧ ((∀ p ∈ parts t false, size.getD p.toNat 0 = S l p) → y.1 = nodeM t (S l))

theorem one_ev {l : List TType.D} (hg : GoodT l) {n : Int} (hn : InR l.length n) (hf : Fit (.slice TType) l) (size : List Int) (ho : OkS l size) :
    EvP (fun k => spec_l3One.f k (rdT TType l n.toNat, size, ())) (OneS l (rdT TType l n.toNat) size) := by
  have hpin := hg.1.tidy.inr n.toNat hn.nat.1
  have hfew := hg.1.tidy.few n.toNat hn.nat.1
  have hfit := parts_fit hf hn
  have hlong := long_ok hg hn
  have h24 := hg.1.2.1
  generalize rdT TType l n.toNat = t at *
  simp only [spec_l3One.f, beq_iff_eq]
  have const : ∀ c : Int, nodeM t (S l) = c → OneS l t size (c, ()) := fun c h => ⟨.inr h.symm, fun _ => h.symm⟩
  refine EvP.ite (fun e1 => EvP.ret (const 4 (by unfold nodeM; rw [if_pos e1]))) (fun e1 => ?_)
  refine EvP.ite (fun e2 => EvP.ret (const 1 (by unfold nodeM; rw [if_neg e1, if_pos e2]))) (fun e2 => ?_)
  refine EvP.ite (fun e3 => EvP.ret (const 1 (by unfold nodeM; rw [if_neg e1, if_neg e2, if_pos e3]))) (fun e3 => ?_)
  refine EvP.ite (fun e6 => EvP.ret (const 8 (by unfold nodeM; rw [if_neg e1, if_neg e2, if_neg e3, if_pos e6]))) (fun e6 => ?_)
  refine EvP.bind (specParts_ev t hfit) ?_
  rintro _ rfl
  simp only
  generalize hps : parts t false = ps at *
  have hb : ∀ i, 0 ≤ (ps.take i).foldl (fun a p => a + S l p) 0 ∧ (ps.take i).foldl (fun a p => a + S l p) 0 ≤ 10000000000 := fun i => by
    have := sum_bound (T := S l) (ps.take i) 0 0 (Int.le_refl _) (Int.le_refl _) fun p hp => S_bound hg (hpin p (List.mem_of_mem_take hp))
    have h2 : (ps.take i).length ≤ 7 := by rw [List.length_take]; omega
    omega
  have loop := EvP.loop (L := spec_l3One.l3) (Q := OneS l t size) (fun j x => ∃ i : Nat, x = (size, (t.1, (t.2.1, (t.2.2.1, (t.2.2.2.1, (t.2.2.2.2.1, (t.2.2.2.2.2, ())))))), (ps.take i).foldl (fun a p => a + S l p) 0, ps, (ps.length : Int), (i : Int), ()) ∧ i ≤ ps.length ∧ j = ps.length - i) ?_
  · exact loop _ _ ⟨0, rfl, Nat.zero_le _, rfl⟩
  · rintro j _ ⟨i, rfl, hi, rfl⟩ ih
    have hbi := hb i
    simp only [spec_l3One.l3, Int.toNat_natCast, next64 (show i ≤ 1099511627776 by omega), rdI, beq_iff_eq]
    refine EvP.ite (fun hlt => ?_) (fun hge => ?_)
    · have hil : i < ps.length := by have := of_decide_eq_true hlt; omega
      have hmem : ps.getD i 0 ∈ ps := by
        rw [List.getD, List.getElem?_eq_getElem hil]; exact List.getElem_mem hil
      have hr := hpin _ hmem
      have hnx := foldl_nextS (T := S l) hil
      have hb2 := hb (i + 1)
      rw [hnx] at hb2
      obtain ⟨p, hpe⟩ : ∃ p, ps.getD i 0 = p := ⟨_, rfl⟩
      rw [hpe] at hmem hr hnx hb2
      have hv := ho.val p.toNat hr.nat.1
      rw [hr.nat.2] at hv
      have hSp := S_bound hg hr
      have hplen : p < (size.length : Int) := by rw [ho.len]; exact hr.2
      have hp0 : 0 ≤ p := hr.1
      simp only [hpe]
      refine EvP.pos (by omega) (EvP.pos (by omega) (EvP.pos hp0 (EvP.pos hplen (EvP.ite (fun hneg => EvP.ret ⟨.inl rfl, fun hall => ?_⟩) (fun hneg => EvP.pos hp0 (EvP.pos hplen ?_))))))
      · have h1 : size.getD p.toNat 0 < 0 := of_decide_eq_true hneg
        have h2 := hall p (by rw [hps]; exact hmem)
        omega
      · have h1 : ¬ size.getD p.toNat 0 < 0 := fun h => hneg (decide_eq_true h)
        have h2 : size.getD p.toNat 0 = S l p := hv.resolve_left (by omega)
        have h3 : w64 ((ps.take i).foldl (fun a p => a + S l p) 0 + S l p) = (ps.take (i + 1)).foldl (fun a p => a + S l p) 0 := by
          rw [w64_id (by omega) (by omega), hnx]
        rw [h2, h3]
        exact ih (ps.length - (i + 1)) _ (by omega) ⟨i + 1, rfl, by omega, rfl⟩
    · have hie : i = ps.length := by
        have : ¬ ((i : Int) < (ps.length : Int)) := fun h => hge (decide_eq_true h)
        omega
      rw [hie, List.take_length] at hbi ⊢
      have hnode : nodeM t (S l) = if (t.1 : Int) = 4 then capM (ps.foldl (fun a p => a + S l p) 0 * t.2.1) else capM (ps.foldl (fun a p => a + S l p) 0) := by
        unfold nodeM sumM
        rw [if_neg e1, if_neg e2, if_neg e3, if_neg e6, hps]
      refine EvP.ite (fun e4 => EvP.bind (least_ev _) ?_) (fun e4 => EvP.bind (least_ev _) ?_)
      · rintro _ rfl
        refine EvP.ret (const _ ?_)
        rw [hnode, if_pos e4, mul_wrap _ t.2.1 hbi.1 hbi.2 hlong.1 hlong.2]
      · rintro _ rfl
        exact EvP.ret (const _ (by rw [hnode, if_neg e4]))

structure PassS (l : List TType.D) (r i : Nat) (size : List Int) : Prop where
  ok : OkS l size
  old : ∀ j, j < l.length → Low l r (j : Int) → size.getD j 0 = S l (j : Int)
  new : ∀ j, j < i → j < l.length → Low l (r + 1) (j : Int) → size.getD j 0 = S l (j : Int)

theorem l3Size_ev {l : List TType.D} (hg : GoodT l) {n : Int} (hn : InR l.length n) (hf : Fit (.slice TType) l) : EvP (fun k => spec_l3Size.f k (l, n, ())) (· = (S l n, ())) := by
  have hbig : big = 1099511627776 := rfl
  have h24 := hg.1.2.1
  have pass : ∀ (d r : Nat) (size : List Int), r + d = l.length → PassS l r 0 size → EvP (fun k => spec_l3Size.l5 k (l, n, size, (l.length : Int), (r : Int), ())) (· = (S l n, ())) := by
    intro d
    induction d with
    | zero =>
      intro r size hr hp
      refine EvP.succ ?_
      simp only [spec_l3Size.l5, decide_eq_true_eq, rdI]
      refine EvP.neg (by omega) (EvP.pos hn.1 (EvP.pos (by rw [hp.ok.len]; exact hn.2) (EvP.ret ?_)))
      have h1 := low_all hg hn
      rw [show l.length = r by omega] at h1
      have := hp.old n.toNat hn.nat.1 (by rw [hn.nat.2]; exact h1)
      rw [this, hn.nat.2]
    | succ d ihd =>
      intro r size hr hp
      have inner : ∀ (e i : Nat) (size : List Int), i + e = l.length → PassS l r i size → EvP (fun k => spec_l3Size.l8 k (l, n, size, (l.length : Int), (r : Int), l, (l.length : Int), (i : Int), ())) (· = (S l n, ())) := by
        intro e
        induction e with
        | zero =>
          intro i size hi hp
          refine EvP.succ ?_
          simp only [spec_l3Size.l8, decide_eq_true_eq, next64 (show r ≤ 1099511627776 by omega)]
          refine EvP.neg (by omega) (ihd (r + 1) size (by omega) ⟨hp.ok, fun j hj hl => hp.new j (by omega) hj hl, fun j hj => absurd hj (Nat.not_lt_zero _)⟩)
        | succ e ihe =>
          intro i size hi hp
          have hir : InR l.length (i : Int) := ⟨by omega, by omega⟩
          refine EvP.succ ?_
          simp only [spec_l3Size.l8, decide_eq_true_eq, Int.toNat_natCast, next64 (show i ≤ 1099511627776 by omega)]
          have h1 := one_ev hg hir hf size hp.ok
          rw [Int.toNat_natCast] at h1
          refine EvP.pos (by omega) (EvP.pos (by omega) (EvP.pos (by omega) (EvP.bind h1 ?_)))
          rintro ⟨v, _⟩ ⟨hv1, hv2⟩
          simp only at hv1 hv2
          have hS := S_node hg hir
          rw [Int.toNat_natCast] at hS
          rw [← hS] at hv1 hv2
          have hil : i < size.length := by rw [hp.ok.len]; omega
          refine EvP.pos (by omega) (EvP.pos (by omega) (ihe (i + 1) _ (by omega) ⟨⟨by rw [List.length_set]; exact hp.ok.len, fun j hj => ?_⟩, fun j hj hl => ?_, fun j hj hj2 hl => ?_⟩))
          · rw [getD_set _ _ _ _ hil]
            split
            · rename_i e; subst e; exact hv1
            · exact hp.ok.val j hj
          · rw [getD_set _ _ _ _ hil]
            split
            · rename_i e
              subst e
              have hl2 : Low l (r + 1) (j : Int) := hl.mono
              refine hv2 fun p hp' => ?_
              have hpr := hg.1.tidy.inr j hj p hp'
              have := hp.old p.toNat hpr.nat.1 (by rw [hpr.nat.2]; exact hl2 p (by rw [Int.toNat_natCast]; exact hp'))
              rw [this, hpr.nat.2]
            · exact hp.old j hj hl
          · rw [getD_set _ _ _ _ hil]
            split
            · rename_i e
              subst e
              refine hv2 fun p hp' => ?_
              have hpr := hg.1.tidy.inr j hj2 p hp'
              have := hp.old p.toNat hpr.nat.1 (by rw [hpr.nat.2]; exact hl p (by rw [Int.toNat_natCast]; exact hp'))
              rw [this, hpr.nat.2]
            · exact hp.new j (by omega) hj2 hl
      refine EvP.succ ?_
      simp only [spec_l3Size.l5, decide_eq_true_eq]
      exact EvP.pos (by omega) (inner l.length 0 size (Nat.zero_add _) ⟨hp.ok, hp.old, fun j hj => absurd hj (Nat.not_lt_zero _)⟩)
  have fill : ∀ (e i : Nat) (size : List Int), i + e = l.length → size.length = l.length → (∀ j, j < i → size.getD j 0 = -1) → EvP (fun k => spec_l3Size.l1 k (l, n, size, (l.length : Int), (i : Int), ())) (· = (S l n, ())) := by
    intro e
    induction e with
    | zero =>
      intro i size hi hs hd
      refine EvP.succ ?_
      simp only [spec_l3Size.l1, decide_eq_true_eq]
      exact EvP.neg (by omega) (pass l.length 0 size (Nat.zero_add _) ⟨⟨hs, fun j hj => .inl (hd j (by omega))⟩, fun j _ hl => hl.elim, fun j hj => absurd hj (Nat.not_lt_zero _)⟩)
    | succ e ihe =>
      intro i size hi hs hd
      refine EvP.succ ?_
      simp only [spec_l3Size.l1, decide_eq_true_eq, Int.toNat_natCast, next64 (show i ≤ 1099511627776 by omega)]
      refine EvP.pos (by omega) (EvP.pos (by omega) (EvP.pos (by omega) (ihe (i + 1) _ (by omega) (by rw [List.length_set]; exact hs) fun j hj => ?_)))
      rw [getD_set _ _ _ _ (by omega)]
      split
      · rfl
      · exact hd j (by omega)
  simp only [spec_l3Size.f, Int.toNat_natCast, List.length_replicate]
  exact EvP.pos (by omega) (EvP.pos (by omega) (EvP.pos (by omega) (fill l.length 0 _ (Nat.zero_add _) (by simp) fun j hj => absurd hj (Nat.not_lt_zero _))))

noncomputable def ans (l : List TType.D) (n : Int) : Int × Bool × Unit := pickP (GoodT l ∧ InR l.length n) (if (1000000000 : Int) < S l n then (0, false, ()) else (S l n, true, ())) (0, false, ())

theorem spec_ans (l : List TType.D) (n : Int) (hf : Fit (.slice TType) l) : EvP (fun k => spec_SizeOf.f k (l, n, ())) (· = ans l n) := by
  have hs : l.length ≤ 1048576 := hf.1
  simp only [spec_SizeOf.f, spec_l3At.f, Bool.not_eq_true', len1 hs]
  unfold ans
  refine EvP.bind (R := fun y => y.1 = true ↔ (GoodT l ∧ InR l.length n)) ?_ ?_
  · refine EvP.bind (l3Good_ev l hf) ?_
    rintro ⟨y, _⟩ hy
    simp only at hy
    refine EvP.ite (fun h => ?_) (fun h => EvP.ret ⟨fun e => (by cases e), fun e => absurd (hy.2 e.1) h⟩)
    refine EvP.bind (l1In_ev _ _ _) ?_
    rintro ⟨z, _⟩ hz
    simp only at hz
    subst hz
    refine EvP.ret ?_
    simp only [decide_eq_true_eq]
    exact ⟨fun e => ⟨hy.1 h, e.1, Int.lt_of_le_sub_one e.2⟩, fun e => ⟨e.2.1, Int.le_sub_one_of_lt e.2.2⟩⟩
  rintro ⟨y, _⟩ hy
  simp only at hy
  refine EvP.ite (fun h => EvP.ret ?_) (fun h => ?_)
  · rw [pickP_neg fun e => by rw [hy.2 e] at h; cases h]
  have hp : GoodT l ∧ InR l.length n := hy.1 (by simpa using h)
  rw [pickP_pos hp]
  refine EvP.bind (l3Size_ev hp.1 hp.2 hf) ?_
  rintro _ rfl
  simp only [decide_eq_true_eq]
  refine EvP.ite (fun h => EvP.ret (by rw [if_pos h])) (fun h => ?_)
  refine EvP.bind (l3Size_ev hp.1 hp.2 hf) ?_
  rintro _ rfl
  exact EvP.ret (by rw [if_neg h])

theorem impl_ans (l : List TType.D) (n : Int) (hf : Fit (.slice TType) l) : EvP (fun k => impl_SizeOf.f k (l, n, ())) (· = ans l n) := by
  have hs : l.length ≤ 1048576 := hf.1
  simp only [impl_SizeOf.f, Bool.not_eq_true']
  unfold ans
  refine EvP.bind (isTable_ev l hf) ?_
  rintro ⟨y, _⟩ hy
  simp only at hy
  refine EvP.ite (fun h => EvP.ret ?_) (fun h => ?_)
  · rw [pickP_neg fun e => by rw [hy.2 e.1] at h; cases h]
  have hg : GoodT l := hy.1 (by simpa using h)
  refine EvP.bind (isNumber_ev _ _ hs) ?_
  rintro ⟨z, _⟩ hz
  simp only at hz
  refine EvP.ite (fun h => EvP.ret ?_) (fun h => ?_)
  · rw [pickP_neg fun e => by rw [hz.2 e.2] at h; cases h]
  have hn : InR l.length n := hz.1 (by simpa using h)
  rw [pickP_pos ⟨hg, hn⟩]
  refine EvP.bind (implSizes_ev hg hf) ?_
  rintro _ rfl
  have hv : rdT (.int .i64) (tblM l) n.toNat = S l n := by
    rw [rdI, tbl_get l hn.nat.1, hn.nat.2]
  have hlen : (tblM l).length = l.length := by simp [tblM]
  simp only [hv, hlen, decide_eq_true_eq]
  exact EvP.pos hn.1 (EvP.pos hn.2 (EvP.ite (fun h => EvP.ret (by rw [if_pos h])) (fun h => EvP.ret (by rw [if_neg h]))))

theorem law (a0 : ((.slice TType) : Ty).D) (a1 : ((.int .i64) : Ty).D) (o0 : okD (.slice TType) a0) (o1 : okD (.int .i64) a1) : EvP (fun k => laws_FnExactSizeOf.f k (a0, a1, ())) (· = (true, ())) := by
  simp only [laws_FnExactSizeOf.f, decide_eq_true_eq]
  refine EvP.bind (szTypeS a0 1048576 (by omega) (by omega) o0) ?_
  rintro ⟨n1, _⟩ hn
  refine EvP.ite (fun _ => EvP.ret rfl) (fun h => ?_)
  rcases hn with hn | ⟨hl1, hu1, f0⟩
  · exact absurd hn h
  clear h
  refine EvP.bind (toTypeS _ f0) ?_
  rintro ⟨_, _⟩ (rfl : _ = _)
  refine EvP.bind (spec_ans _ _ f0) ?_
  rintro _ rfl
  refine EvP.bind (toTypeS _ f0) ?_
  rintro ⟨_, _⟩ (rfl : _ = _)
  refine EvP.bind (impl_ans _ _ f0) ?_
  rintro _ rfl
  refine EvP.neg (by simp) ?_
  refine EvP.neg (by simp) ?_
  refine EvP.bind (toTypeS _ f0) ?_
  rintro ⟨_, _⟩ (rfl : _ = _)
  refine EvP.bind (eqTypeS _ f0) ?_
  rintro ⟨_, _⟩ (rfl : _ = _)
  refine EvP.neg (by simp) ?_
  exact EvP.ret rfl


end Go.Proofs.Ytmcdddghlcllbaa.LawFnExactSizeOf
