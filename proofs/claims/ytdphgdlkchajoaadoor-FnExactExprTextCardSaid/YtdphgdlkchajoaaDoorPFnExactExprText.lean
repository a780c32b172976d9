/- The plain law FnExactExprText: its Lean function answers true at all data. -/
import Derived.Test.YtdphgdlkchajoaaDoorDFnExactExprText
set_option autoImplicit false
set_option linter.unusedVariables false
set_option linter.unusedSimpArgs false
namespace Go.Proofs.YtdphgdlkchajoaaDoor.LawFnExactExprText
open Go.Proofs.YtdphgdlkchajoaaDoor.Den Go.Proofs

theorem l1In_ev (a b c : Int) : EvP (fun k => spec_l1In.f k (a, b, c, ())) (fun y => y.1 = decide (b ≤ a ∧ a ≤ c)) := by
  simp only [spec_l1In.f, decide_eq_true_eq]
  refine EvP.ite (fun h => EvP.ret ?_) (fun h => EvP.ret ?_)
  · simp only [ge_iff_le] at h; simp [h]
  · simp only [ge_iff_le] at h; simp [h]

theorem in_ev (a b c : Int) : EvP (fun k => impl_in.f k (a, b, c, ())) (fun y => y.1 = decide (b ≤ a ∧ a ≤ c)) := by
  simp only [impl_in.f, decide_eq_true_eq]
  refine EvP.ite (fun h => EvP.ret ?_) (fun h => EvP.ret ?_)
  · simp only [ge_iff_le] at h; simp [h]
  · simp only [ge_iff_le] at h; simp [h]

def letter (b : Int) : Prop := (65 ≤ b ∧ b ≤ 90) ∨ (97 ≤ b ∧ b ≤ 122)
def digit (b : Int) : Prop := 48 ≤ b ∧ b ≤ 57

theorem isLetter_ev (b : Int) : EvP (fun k => impl_isLetter.f k (b, ())) (fun y => y.1 = true ↔ letter b) := by
  simp only [impl_isLetter.f, decide_eq_true_eq, letter]
  repeat' (first
    | (refine EvP.ret ?_; simp only [decide_eq_true_eq]; first | omega | (simp; omega))
    | (refine EvP.ite (fun _ => ?_) (fun _ => ?_)))

theorem isDigit_ev (b : Int) : EvP (fun k => impl_isDigit.f k (b, ())) (fun y => y.1 = true ↔ digit b) := by
  simp only [impl_isDigit.f, decide_eq_true_eq, digit]
  repeat' (first
    | (refine EvP.ret ?_; simp only [decide_eq_true_eq]; first | omega | (simp; omega))
    | (refine EvP.ite (fun _ => ?_) (fun _ => ?_)))

theorem l5Two_ev (a : Int) : EvP (fun k => spec_l5Two.f k (a, ())) (fun y => y.1 = decide (3 ≤ a ∧ a ≤ 7)) := by
  simp only [spec_l5Two.f]
  refine EvP.bind (l1In_ev a 3 7) ?_
  rintro ⟨y, _⟩ hy
  exact EvP.ret hy

def good (x : ByteArray) (i : Nat) : Prop := letter (bt x i) ∨ (i ≠ 0 ∧ digit (bt x i))
def Named (x : ByteArray) : Prop := (∀ i < x.size, good x i) ∧ 1 ≤ x.size ∧ x.size ≤ 10

theorem spec_l1Name_ev (x : ByteArray) (hs : x.size ≤ 1048576) : EvP (fun k => spec_l1Name.f k (x, ())) (fun y => y.1 = true ↔ Named x) := by
  have loop := EvP.loop (L := spec_l1Name.l1) (Q := fun y => y.1 = true ↔ Named x) (fun j s => ∃ i : Nat, s = (x, (i : Int), ()) ∧ i ≤ x.size ∧ j = x.size - i ∧ ∀ p < i, good x p) ?_
  · simp only [spec_l1Name.f]
    exact loop _ _ ⟨0, rfl, Nat.zero_le _, rfl, fun p hp => absurd hp (Nat.not_lt_zero _)⟩
  · rintro j _ ⟨i, rfl, hi, rfl, hg⟩ ih
    simp only [spec_l1Name.l1, decide_eq_true_eq, Int.toNat_natCast, w64, IntKind.wrap_i64, Bool.not_eq_true', decide_eq_false_iff_not, beq_iff_eq]
    refine EvP.ite (fun hlt => EvP.pos (by omega) (EvP.pos (by omega) ?_)) (fun hge => ?_)
    · have hno : ¬ good x i → (((false, ()) : Bool × Unit).1 = true ↔ Named x) := fun h => ⟨fun e => (by cases e), fun hn => absurd (hn.1 i (by omega)) h⟩
      have hgo : good x i → EvP (fun k => spec_l1Name.l1 k (x, (((i : Int) + 1 + 9223372036854775808) % 18446744073709551616 - 9223372036854775808), ())) (fun y => y.1 = true ↔ Named x) := fun h => by
        refine ih (x.size - (i + 1)) _ (by omega) ⟨i + 1, ?_, by omega, rfl, fun p hp => ?_⟩
        · rw [show ((i + 1 : Nat) : Int) = ((i : Int) + 1 + 9223372036854775808) % 18446744073709551616 - 9223372036854775808 by omega]
        · rcases Nat.lt_or_ge p i with h2 | h2
          · exact hg p h2
          · obtain rfl : p = i := by omega
            exact h
      repeat' (first
        | (refine EvP.ite (fun _ => ?_) (fun _ => ?_))
        | (refine EvP.ret ?_; exact hno (by simp only [good, letter, digit]; omega))
        | (exact hgo (by simp only [good, letter, digit]; omega)))
    · refine EvP.bind (l1In_ev _ 1 10) ?_
      rintro ⟨y, _⟩ hy
      refine EvP.ret ?_
      simp only at hy
      subst hy
      simp only [decide_eq_true_eq]
      exact ⟨fun h => ⟨fun p hp => hg p (by omega), by omega, by omega⟩, fun h => by have := h.2; omega⟩

theorem impl_isName_ev (x : ByteArray) (hs : x.size ≤ 1048576) : EvP (fun k => impl_isName.f k (x, ())) (fun y => y.1 = true ↔ Named x) := by
  have loop := EvP.loop (L := impl_isName.l1) (Q := fun y => y.1 = true ↔ Named x) (fun j s => ∃ i : Nat, s = (x, (x.size : Int), (i : Int), ()) ∧ i ≤ x.size ∧ j = x.size - i ∧ ∀ p < i, good x p) ?_
  · simp only [impl_isName.f]
    exact loop _ _ ⟨0, rfl, Nat.zero_le _, rfl, fun p hp => absurd hp (Nat.not_lt_zero _)⟩
  · rintro j _ ⟨i, rfl, hi, rfl, hg⟩ ih
    simp only [impl_isName.l1, decide_eq_true_eq, Int.toNat_natCast, w64, IntKind.wrap_i64, Bool.not_eq_true', decide_eq_false_iff_not, beq_iff_eq]
    refine EvP.ite (fun hlt => EvP.pos (by omega) (EvP.pos (by omega) ?_)) (fun hge => ?_)
    · have hno : ¬ good x i → (((false, ()) : Bool × Unit).1 = true ↔ Named x) := fun h => ⟨fun e => (by cases e), fun hn => absurd (hn.1 i (by omega)) h⟩
      have hgo : good x i → EvP (fun k => impl_isName.l1 k (x, (x.size : Int), (((i : Int) + 1 + 9223372036854775808) % 18446744073709551616 - 9223372036854775808), ())) (fun y => y.1 = true ↔ Named x) := fun h => by
        refine ih (x.size - (i + 1)) _ (by omega) ⟨i + 1, ?_, by omega, rfl, fun p hp => ?_⟩
        · rw [show ((i + 1 : Nat) : Int) = ((i : Int) + 1 + 9223372036854775808) % 18446744073709551616 - 9223372036854775808 by omega]
        · rcases Nat.lt_or_ge p i with h2 | h2
          · exact hg p h2
          · obtain rfl : p = i := by omega
            exact h
      refine EvP.bind (isLetter_ev _) ?_
      rintro ⟨y, _⟩ hy
      simp only at hy
      refine EvP.ite (fun h => ?_) (fun h => hgo (.inl (hy.1 (by simpa using h))))
      have hl : ¬ letter (bt x i) := fun e => by
        have := hy.2 e
        simp_all
      refine EvP.ite (fun h0 => EvP.ret (hno fun e => ?_)) (fun h0 => EvP.pos (by omega) (EvP.pos (by omega) ?_))
      · rcases e with e | e
        · exact hl e
        · exact e.1 (by omega)
      · refine EvP.bind (isDigit_ev _) ?_
        rintro ⟨z, _⟩ hz
        simp only at hz
        refine EvP.ite (fun h1 => EvP.ret (hno fun e => ?_)) (fun h1 => hgo (.inr ⟨by omega, hz.1 (by simpa using h1)⟩))
        rcases e with e | e
        · exact hl e
        · have := hz.2 e.2
          simp_all
    · refine EvP.bind (in_ev _ 1 10) ?_
      rintro ⟨y, _⟩ hy
      refine EvP.ret ?_
      simp only at hy
      subst hy
      simp only [decide_eq_true_eq]
      exact ⟨fun h => ⟨fun p hp => hg p (by omega), by omega, by omega⟩, fun h => by have := h.2; omega⟩

theorem toList_nil {s : ByteArray} : s.toList = [] ↔ s = ByteArray.empty := by
  constructor
  · intro h
    exact toList_inj (h.trans (by simp))
  · intro h
    subst h
    simp

def GoodS (k v : Int) (m n : ByteArray) : Prop :=
  if k = 1 then 0 ≤ v ∧ v ≤ 1000000000 ∧ m = ByteArray.empty ∧ n = ByteArray.empty
  else if k = 2 then v = 0 ∧ Named n ∧ (m = ByteArray.empty ∨ Named m)
  else 3 ≤ k ∧ k ≤ 8 ∧ v = 0 ∧ m = ByteArray.empty ∧ n = ByteArray.empty
def GoodStep (s : TStep.D) : Prop := GoodS s.1 s.2.1 s.2.2.1 s.2.2.2

theorem spec_l5Step_ev (s : TStep.D) (hs : Fit TStep s) : EvP (fun k => spec_l5Step.f k (s, ())) (fun y => y.1 = true ↔ GoodStep s) := by
  unfold GoodStep GoodS
  simp only [spec_l5Step.f, beq_iff_eq, toList_eq]
  repeat' (first
    | (refine EvP.ret ?_; simp_all [toList_eq, toList_nil, and_assoc] <;> try (intros; first | (exfalso; omega) | (simp_all <;> (exfalso; omega))))
    | (refine EvP.ite (fun _ => ?_) (fun _ => ?_))
    | ((with_reducible refine EvP.bind (l1In_ev _ _ _) ?_); rintro ⟨y, _⟩ hy)
    | ((with_reducible refine EvP.bind (spec_l1Name_ev _ ?_) ?_); (· first | exact hs.2.2.1 | exact hs.2.2.2); rintro ⟨y, _⟩ hy))

theorem impl_Step_isStep_ev (s : TStep.D) (hs : Fit TStep s) : EvP (fun k => impl_Step_isStep.f k (s, ())) (fun y => y.1 = true ↔ GoodStep s) := by
  unfold GoodStep GoodS
  simp only [impl_Step_isStep.f, beq_iff_eq, toList_eq]
  repeat' (first
    | (refine EvP.ret ?_; simp_all [toList_eq, toList_nil, and_assoc] <;> try (intros; first | (exfalso; omega) | (simp_all <;> (exfalso; omega))))
    | (refine EvP.ite (fun _ => ?_) (fun _ => ?_))
    | ((with_reducible refine EvP.bind (in_ev _ _ _) ?_); rintro ⟨y, _⟩ hy)
    | ((with_reducible refine EvP.bind (impl_isName_ev _ ?_) ?_); (· first | exact hs.2.2.1 | exact hs.2.2.2); rintro ⟨y, _⟩ hy))

def GoodE : List TStep.D → Int → Prop
  | [], n => n = 1
  | s :: r, n => GoodStep s ∧ (if (3 : Int) ≤ s.1 ∧ s.1 ≤ (7 : Int) then 2 ≤ n ∧ GoodE r (n - 1) else if s.1 = (8 : Int) then 1 ≤ n ∧ GoodE r n else GoodE r (n + 1))

theorem spec_l5Good_ev (l : List TStep.D) (hf : Fit (.slice TStep) l) : EvP (fun k => spec_l5Good.f k (l, ())) (fun y => y.1 = true ↔ GoodE l 0 ∧ l.length ≤ 40) := by
  have hs : l.length ≤ 1048576 := hf.1
  have loop := EvP.loop (L := spec_l5Good.l1) (Q := fun y => y.1 = true ↔ GoodE l 0 ∧ l.length ≤ 40) (fun j s => ∃ (i : Nat) (n : Int), s = (l, n, l, (l.length : Int), (i : Int), ()) ∧ i ≤ l.length ∧ j = l.length - i ∧ -(i : Int) ≤ n ∧ n ≤ i ∧ (GoodE l 0 ↔ GoodE (l.drop i) n)) ?_
  · simp only [spec_l5Good.f]
    exact loop _ _ ⟨0, 0, rfl, Nat.zero_le _, rfl, by omega, by omega, Iff.rfl⟩
  · rintro j _ ⟨i, n, rfl, hi, rfl, h0, h1, hg⟩ ih
    have e1 : (n - 1 + 9223372036854775808) % 18446744073709551616 - 9223372036854775808 = n - 1 := by omega
    have e2 : (n + 1 + 9223372036854775808) % 18446744073709551616 - 9223372036854775808 = n + 1 := by omega
    have e3 : ((i : Int) + 1 + 9223372036854775808) % 18446744073709551616 - 9223372036854775808 = ((i + 1 : Nat) : Int) := by omega
    simp only [spec_l5Good.l1, decide_eq_true_eq, Int.toNat_natCast, w64, IntKind.wrap_i64, Bool.not_eq_true', decide_eq_false_iff_not, beq_iff_eq, bne_iff_ne, ne_eq, e1, e2, e3]
    refine EvP.ite (fun hlt => EvP.pos (by omega) (EvP.pos (by omega) ?_)) (fun hge => ?_)
    · have hil : i < l.length := by omega
      have hd : l.drop i = rdT TStep l i :: l.drop (i + 1) := by rw [List.drop_eq_getElem_cons hil, rdT_get hil]
      rw [hd] at hg
      simp only [GoodE] at hg
      have hno : ¬ GoodE l 0 → (((false, ()) : Bool × Unit).1 = true ↔ GoodE l 0 ∧ l.length ≤ 40) := fun h => ⟨fun e => (by cases e), fun e => absurd e.1 h⟩
      have hgo : ∀ m : Int, (GoodE l 0 ↔ GoodE (l.drop (i + 1)) m) → -((i + 1 : Nat) : Int) ≤ m → m ≤ ((i + 1 : Nat) : Int) → EvP (fun k => spec_l5Good.l1 k (l, m, l, (l.length : Int), ((i + 1 : Nat) : Int), ())) (fun y => y.1 = true ↔ GoodE l 0 ∧ l.length ≤ 40) := fun m h a b =>
        ih (l.length - (i + 1)) _ (by omega) ⟨i + 1, m, rfl, by omega, rfl, a, b, h⟩
      refine EvP.bind (spec_l5Step_ev _ (hf.2 _ (rdT_mem hil))) ?_
      rintro ⟨y, _⟩ hy
      simp only at hy
      refine EvP.ite (fun h => EvP.ret (hno fun e => ?_)) (fun h => ?_)
      · have := hy.2 (hg.1 e).1
        simp_all
      have hst : GoodStep (rdT TStep l i) := hy.1 (by simpa using h)
      have hk : (rdT TStep l i).1 = (1 : Int) ∨ (rdT TStep l i).1 = (2 : Int) ∨ ((3 : Int) ≤ (rdT TStep l i).1 ∧ (rdT TStep l i).1 ≤ (8 : Int)) := by
        unfold GoodStep GoodS at hst
        split at hst
        · exact .inl ‹_›
        · split at hst
          · exact .inr (.inl ‹_›)
          · exact .inr (.inr ⟨hst.1, hst.2.1⟩)
      clear hy h
      simp only [hst, true_and] at hg
      clear hst
      revert hg hk
      generalize (rdT TStep l i).1 = kind0
      intro hk hg
      change Int at kind0
      dsimp only [Ty.D] at hk hg ⊢
      have hcase : ((3 : Int) ≤ kind0 ∧ kind0 ≤ (7 : Int) ∧ (GoodE l 0 ↔ 2 ≤ n ∧ GoodE (l.drop (i + 1)) (n - 1))) ∨ (kind0 = (8 : Int) ∧ (GoodE l 0 ↔ 1 ≤ n ∧ GoodE (l.drop (i + 1)) n)) ∨ (kind0 ≤ (2 : Int) ∧ (GoodE l 0 ↔ GoodE (l.drop (i + 1)) (n + 1))) := by
        rcases hk with hk | hk | hk
        · right; right
          subst hk
          exact ⟨by decide, by simpa using hg⟩
        · right; right
          subst hk
          exact ⟨by decide, by simpa using hg⟩
        · by_cases h8 : kind0 = (8 : Int)
          · right; left
            subst h8
            exact ⟨rfl, by simpa using hg⟩
          · left
            rw [if_pos ⟨hk.1, by omega⟩] at hg
            exact ⟨hk.1, by omega, hg⟩
      clear hg hk
      rcases hcase with ⟨ha, hb, hg⟩ | ⟨ha, hg⟩ | ⟨ha, hg⟩
      all_goals
        repeat' (first
          | (exfalso; omega)
          | (refine EvP.ite (fun _ => ?_) (fun _ => ?_))
          | ((with_reducible refine EvP.bind (l5Two_ev _) ?_); rintro ⟨z, _⟩ hz; simp only at hz; subst hz; simp only [decide_eq_true_eq])
          | (exact EvP.ret (hno fun e => by have := (hg.1 e).1; omega))
          | (exact hgo _ (hg.trans ⟨fun h => h.2, fun h => ⟨by omega, h⟩⟩) (by omega) (by omega))
          | (exact hgo _ hg (by omega) (by omega)))
    · have hdd : l.drop i = [] := List.drop_eq_nil_of_le (by omega)
      rw [hdd] at hg
      simp only [GoodE] at hg
      repeat' (first
        | (refine EvP.ite (fun _ => ?_) (fun _ => ?_))
        | (refine EvP.ret ?_; simp_all <;> omega))

theorem impl_isExpr_ev (l : List TStep.D) (hf : Fit (.slice TStep) l) : EvP (fun k => impl_isExpr.f k (l, ())) (fun y => y.1 = true ↔ GoodE l 0 ∧ l.length ≤ 40) := by
  have hs : l.length ≤ 1048576 := hf.1
  have loop := EvP.loop (L := impl_isExpr.l1) (Q := fun y => y.1 = true ↔ GoodE l 0 ∧ l.length ≤ 40) (fun j s => ∃ (i : Nat) (n : Int), s = (l, n, l, (l.length : Int), (i : Int), ()) ∧ i ≤ l.length ∧ j = l.length - i ∧ -(i : Int) ≤ n ∧ n ≤ i ∧ (GoodE l 0 ↔ GoodE (l.drop i) n)) ?_
  · simp only [impl_isExpr.f]
    exact loop _ _ ⟨0, 0, rfl, Nat.zero_le _, rfl, by omega, by omega, Iff.rfl⟩
  · rintro j _ ⟨i, n, rfl, hi, rfl, h0, h1, hg⟩ ih
    have e1 : (n - 1 + 9223372036854775808) % 18446744073709551616 - 9223372036854775808 = n - 1 := by omega
    have e2 : (n + 1 + 9223372036854775808) % 18446744073709551616 - 9223372036854775808 = n + 1 := by omega
    have e3 : ((i : Int) + 1 + 9223372036854775808) % 18446744073709551616 - 9223372036854775808 = ((i + 1 : Nat) : Int) := by omega
    simp only [impl_isExpr.l1, decide_eq_true_eq, Int.toNat_natCast, w64, IntKind.wrap_i64, Bool.not_eq_true', decide_eq_false_iff_not, beq_iff_eq, bne_iff_ne, ne_eq, e1, e2, e3]
    refine EvP.ite (fun hlt => EvP.pos (by omega) (EvP.pos (by omega) ?_)) (fun hge => ?_)
    · have hil : i < l.length := by omega
      have hd : l.drop i = rdT TStep l i :: l.drop (i + 1) := by rw [List.drop_eq_getElem_cons hil, rdT_get hil]
      rw [hd] at hg
      simp only [GoodE] at hg
      have hno : ¬ GoodE l 0 → (((false, ()) : Bool × Unit).1 = true ↔ GoodE l 0 ∧ l.length ≤ 40) := fun h => ⟨fun e => (by cases e), fun e => absurd e.1 h⟩
      have hgo : ∀ m : Int, (GoodE l 0 ↔ GoodE (l.drop (i + 1)) m) → -((i + 1 : Nat) : Int) ≤ m → m ≤ ((i + 1 : Nat) : Int) → EvP (fun k => impl_isExpr.l1 k (l, m, l, (l.length : Int), ((i + 1 : Nat) : Int), ())) (fun y => y.1 = true ↔ GoodE l 0 ∧ l.length ≤ 40) := fun m h a b =>
        ih (l.length - (i + 1)) _ (by omega) ⟨i + 1, m, rfl, by omega, rfl, a, b, h⟩
      refine EvP.bind (impl_Step_isStep_ev _ (hf.2 _ (rdT_mem hil))) ?_
      rintro ⟨y, _⟩ hy
      simp only at hy
      refine EvP.ite (fun h => EvP.ret (hno fun e => ?_)) (fun h => ?_)
      · have := hy.2 (hg.1 e).1
        simp_all
      have hst : GoodStep (rdT TStep l i) := hy.1 (by simpa using h)
      have hk : (rdT TStep l i).1 = (1 : Int) ∨ (rdT TStep l i).1 = (2 : Int) ∨ ((3 : Int) ≤ (rdT TStep l i).1 ∧ (rdT TStep l i).1 ≤ (8 : Int)) := by
        unfold GoodStep GoodS at hst
        split at hst
        · exact .inl ‹_›
        · split at hst
          · exact .inr (.inl ‹_›)
          · exact .inr (.inr ⟨hst.1, hst.2.1⟩)
      clear hy h
      simp only [hst, true_and] at hg
      clear hst
      revert hg hk
      generalize (rdT TStep l i).1 = kind0
      intro hk hg
      change Int at kind0
      dsimp only [Ty.D] at hk hg ⊢
      have hcase : ((3 : Int) ≤ kind0 ∧ kind0 ≤ (7 : Int) ∧ (GoodE l 0 ↔ 2 ≤ n ∧ GoodE (l.drop (i + 1)) (n - 1))) ∨ (kind0 = (8 : Int) ∧ (GoodE l 0 ↔ 1 ≤ n ∧ GoodE (l.drop (i + 1)) n)) ∨ (kind0 ≤ (2 : Int) ∧ (GoodE l 0 ↔ GoodE (l.drop (i + 1)) (n + 1))) := by
        rcases hk with hk | hk | hk
        · right; right
          subst hk
          exact ⟨by decide, by simpa using hg⟩
        · right; right
          subst hk
          exact ⟨by decide, by simpa using hg⟩
        · by_cases h8 : kind0 = (8 : Int)
          · right; left
            subst h8
            exact ⟨rfl, by simpa using hg⟩
          · left
            rw [if_pos ⟨hk.1, by omega⟩] at hg
            exact ⟨hk.1, by omega, hg⟩
      clear hg hk
      rcases hcase with ⟨ha, hb, hg⟩ | ⟨ha, hg⟩ | ⟨ha, hg⟩
      all_goals
        repeat' (first
          | (exfalso; omega)
          | (refine EvP.ite (fun _ => ?_) (fun _ => ?_))
          | (exact EvP.ret (hno fun e => by have := (hg.1 e).1; omega))
          | (exact hgo _ (hg.trans ⟨fun h => h.2, fun h => ⟨by omega, h⟩⟩) (by omega) (by omega))
          | (exact hgo _ hg (by omega) (by omega)))
    · have hdd : l.drop i = [] := List.drop_eq_nil_of_le (by omega)
      rw [hdd] at hg
      simp only [GoodE] at hg
      repeat' (first
        | (refine EvP.ite (fun _ => ?_) (fun _ => ?_))
        | (refine EvP.ret ?_; simp_all <;> omega))

/-! ### The text of an expression -/

theorem good_kind {s : TStep.D} (h : GoodStep s) : (s.1 = (1 : Int) ∧ (0 : Int) ≤ s.2.1 ∧ s.2.1 ≤ (1000000000 : Int)) ∨ (s.1 = (2 : Int) ∧ Named s.2.2.2 ∧ (s.2.2.1 = ByteArray.empty ∨ Named s.2.2.1)) ∨ ((3 : Int) ≤ s.1 ∧ s.1 ≤ (8 : Int)) := by
  unfold GoodStep GoodS at h
  split at h
  · rename_i e; exact .inl ⟨e, h.1, h.2.1⟩
  · split at h
    · rename_i e; exact .inr (.inl ⟨e, h.2⟩)
    · exact .inr (.inr ⟨h.1, h.2.1⟩)

abbrev Sh1 : Type := ByteArray × Int
def sp : ByteArray := ⟨#[32]⟩
def numT (n : Int) : ByteArray := ⟨(Lib.itoa n).toArray⟩
def nameT (m n : ByteArray) : ByteArray := if m = ByteArray.empty then n else (m ++ ⟨#[32, 46, 32]⟩) ++ n
def signT (k : Int) : ByteArray := if k = 3 then ⟨#[43]⟩ else if k = 4 then ⟨#[45]⟩ else if k = 5 then ⟨#[42]⟩ else if k = 6 then ⟨#[68, 73, 86]⟩ else ⟨#[77, 79, 68]⟩
def inn (a : Sh1) (r : Int) : ByteArray := if a.2 < r then ((⟨#[40, 32]⟩ : ByteArray) ++ a.1) ++ ⟨#[32, 41]⟩ else a.1
def strong (k : Int) : Int := if k ≤ 4 then 1 else 2
def opT (k : Int) (a b : Sh1) : ByteArray := (((inn a (strong k) ++ sp) ++ signT k) ++ sp) ++ inn b (strong k + 1)

def textM : List TStep.D → List Sh1 → ByteArray
  | [], S => (S.headD (ByteArray.empty, 0)).1
  | s :: r, S =>
    if s.1 = (1 : Int) then textM r ((numT s.2.1, 3) :: S)
    else if s.1 = (2 : Int) then textM r ((nameT s.2.2.1 s.2.2.2, 3) :: S)
    else if s.1 = (8 : Int) then match S with
      | b :: S1 => textM r (((⟨#[45, 32]⟩ : ByteArray) ++ inn b 3, 3) :: S1)
      | [] => ByteArray.empty
    else match S with
      | b :: a :: S2 => textM r ((opT s.1 a b, strong s.1) :: S2)
      | _ => ByteArray.empty

def tot (S : List Sh1) : Nat := (S.map fun x => x.1.size).sum

theorem inn_size (a : Sh1) (r : Int) : (inn a r).size ≤ a.1.size + 4 := by
  unfold inn
  split
  · simp only [ByteArray.size_append]
    show 2 + a.1.size + 2 ≤ _
    omega
  · omega

theorem signT_size (k : Int) : (signT k).size ≤ 3 := by
  unfold signT
  repeat' split
  all_goals decide

theorem digits_le : ∀ (d u : Nat), u < 10 ^ (d + 1) → Lib.nDigits u ≤ d + 1 := by
  intro d
  induction d with
  | zero => intro u h; rw [Lib.nDigits_small (by simpa using h)]; exact Nat.le_refl _
  | succ d ih =>
    intro u h
    by_cases hu : u < 10
    · rw [Lib.nDigits_small hu]; omega
    · rw [Lib.nDigits_big hu]
      have := ih (u / 10) (Nat.div_lt_of_lt_mul (by rw [Nat.pow_succ] at h; omega))
      omega

theorem numT_size {n : Int} (h0 : 0 ≤ n) (h1 : n ≤ 1000000000) : (numT n).size ≤ 10 := by
  unfold numT Lib.itoa
  rw [if_neg (by omega)]
  show (Lib.decDigits n.toNat).toArray.size ≤ 10
  rw [List.size_toArray, Lib.decDigits_length]
  exact digits_le 9 _ (by omega)

structure TInv (l : List TStep.D) (i : Nat) (S : List Sh1) : Prop where
  le : i ≤ l.length
  txt : textM l [] = textM (l.drop i) S
  len : S.length ≤ i
  tot : tot S ≤ 40 * i
  good : GoodE (l.drop i) S.length

theorem step_at {l : List TStep.D} {i : Nat} (hi : i < l.length) : l.drop i = rdT TStep l i :: l.drop (i + 1) := by rw [List.drop_eq_getElem_cons hi, rdT_get hi]

theorem TInv.step {l : List TStep.D} {i : Nat} {S : List Sh1} (h : TInv l i S) (hi : i < l.length) : GoodStep (rdT TStep l i) := by
  have := h.good
  rw [step_at hi] at this
  exact this.1

theorem tinv_leaf {l : List TStep.D} {i : Nat} {S : List Sh1} {v : ByteArray} (hi : i < l.length) (h : TInv l i S) (hk : (rdT TStep l i).1 = (1 : Int) ∨ (rdT TStep l i).1 = (2 : Int)) (hv : v.size ≤ 40)
    (ht : ∀ r, textM (rdT TStep l i :: r) S = textM r ((v, 3) :: S)) : TInv l (i + 1) ((v, 3) :: S) := by
  obtain ⟨_, h2, h3, h4, h5⟩ := h
  rw [step_at hi] at h2 h5
  rw [ht] at h2
  refine ⟨hi, h2, by simp; omega, by unfold tot at *; simp; omega, ?_⟩
  have h6 := h5.2
  rcases hk with hk | hk <;>
  · simp [hk] at h6
    simpa using h6

theorem tinv_neg {l : List TStep.D} {i : Nat} {S : List Sh1} (hi : i < l.length) (h : TInv l i S) (hk : (rdT TStep l i).1 = (8 : Int)) :
    ∃ b S1, S = b :: S1 ∧ (inn b 3).size ≤ 40 * i + 4 ∧ TInv l (i + 1) (((⟨#[45, 32]⟩ : ByteArray) ++ inn b 3, 3) :: S1) := by
  obtain ⟨_, h2, h3, h4, h5⟩ := h
  rw [step_at hi] at h2 h5
  have h6 := h5.2
  simp [hk] at h6
  match S, h2, h3, h4, h6 with
  | [], h2, h3, h4, h6 => simp at h6
  | b :: S1, h2, h3, h4, h6 =>
    have hs := inn_size b 3
    unfold tot at h4
    simp at h4
    refine ⟨b, S1, rfl, by omega, hi, ?_, by simpa using Nat.le_succ_of_le h3, ?_, by simpa using h6.2⟩
    · rw [h2]
      simp only [textM, hk]
      rfl
    · unfold tot
      simp [ByteArray.size_append]
      have : (⟨#[45, 32]⟩ : ByteArray).size = 2 := rfl
      omega

theorem tinv_op {l : List TStep.D} {i : Nat} {S : List Sh1} (hi : i < l.length) (h : TInv l i S) (hk : (3 : Int) ≤ (rdT TStep l i).1 ∧ (rdT TStep l i).1 ≤ (7 : Int)) :
    ∃ b a S2, S = b :: a :: S2 ∧ a.1.size + b.1.size ≤ 40 * i ∧ TInv l (i + 1) ((opT (rdT TStep l i).1 a b, strong (rdT TStep l i).1) :: S2) := by
  obtain ⟨_, h2, h3, h4, h5⟩ := h
  rw [step_at hi] at h2 h5
  revert h2 h5
  have hw : ∀ z : Int, z = (rdT TStep l i).1 → (3 : Int) ≤ z ∧ z ≤ 7 := fun z hz => hz ▸ hk
  generalize hs : rdT TStep l i = s at *
  have hz := hw s.1 rfl
  clear hw hk
  intro h2 h5
  have h6 := h5.2
  rw [if_pos hz] at h6
  have n1 : ¬ s.1 = (1 : Int) := fun h => by rw [h] at hz; exact absurd hz.1 (by decide)
  have n2 : ¬ s.1 = (2 : Int) := fun h => by rw [h] at hz; exact absurd hz.1 (by decide)
  have n8 : ¬ s.1 = (8 : Int) := fun h => by rw [h] at hz; exact absurd hz.2 (by decide)
  match S, h2, h3, h4, h6 with
  | [], h2, h3, h4, h6 => simp at h6
  | [b], h2, h3, h4, h6 => simp at h6
  | b :: a :: S2, h2, h3, h4, h6 =>
    unfold tot at h4
    simp at h4
    refine ⟨b, a, S2, rfl, by omega, hi, ?_, ?_, ?_, ?_⟩
    · rw [h2]
      simp only [textM, if_neg n1, if_neg n2, if_neg n8]
    · simp at h3 ⊢; omega
    · have e1 := inn_size a (strong s.1)
      have e2 := inn_size b (strong s.1 + 1)
      have e3 := signT_size s.1
      unfold tot opT
      simp only [List.map_cons, List.sum_cons, ByteArray.size_append]
      have : sp.size = 1 := rfl
      omega
    · have h7 := h6.2
      simp at h7 ⊢
      exact h7

theorem tinv_end {l : List TStep.D} {S : List Sh1} (h : TInv l l.length S) : ∃ b, S = [b] ∧ textM l [] = b.1 := by
  obtain ⟨_, h2, _, _, h5⟩ := h
  rw [List.drop_eq_nil_of_le (Nat.le_refl _)] at h2 h5
  simp only [GoodE] at h5
  match S, h2, h5 with
  | [b], h2, h5 => exact ⟨b, rfl, h2⟩
  | [], h2, h5 => simp at h5
  | a :: b :: r, h2, h5 => simp at h5; omega

theorem tinv_nil {l : List TStep.D} (h : GoodE l 0) : TInv l 0 [] := ⟨Nat.zero_le _, rfl, Nat.le_refl _, Nat.le_refl _, by simpa using h⟩

theorem digits_big : ∀ u : Nat, Lib.nDigits u ≤ u + 1 := by
  intro u
  induction u using Nat.strongRecOn with
  | ind u ih =>
    by_cases h : u < 10
    · rw [Lib.nDigits_small h]; omega
    · rw [Lib.nDigits_big h]
      have := ih (u / 10) (by omega)
      omega

theorem numT_nat (n : Nat) : numT (n : Int) = ⟨(Lib.decDigits n).toArray⟩ := by
  unfold numT Lib.itoa
  rw [if_neg (by omega), Int.toNat_natCast]

theorem digit_byte {d : Nat} (h : d < 10) : bytesOf [((IntKind.wrap .u8) (w64 ((48 : Int) + (d : Int))))] = ⟨#[UInt8.ofNat (48 + d)]⟩ := by
  have : (IntKind.wrap .u8) (w64 ((48 : Int) + (d : Int))) = ((48 + d : Nat) : Int) := by
    rw [w64_id (by omega) (by omega), IntKind.wrap_u8']
    omega
  rw [this]
  rfl

theorem l1Num_ev : ∀ n : Nat, n ≤ 1000000000 → EvP (fun k => spec_l1Num.f k ((n : Int), ())) (· = (numT (n : Int), ())) := by
  intro n
  induction n using Nat.strongRecOn with
  | ind n ih =>
    intro hn
    refine EvP.succ ?_
    simp only [spec_l1Num.f, decide_eq_true_eq]
    refine EvP.ite (fun h => EvP.ret ?_) (fun h => ?_)
    · rw [digit_byte (by omega), numT_nat, Lib.decDigits_one (by omega)]
    · have e1 : w64 (Int.tdiv (n : Int) (10 : Int)) = ((n / 10 : Nat) : Int) := by
        rw [show Int.tdiv (n : Int) (10 : Int) = ((n / 10 : Nat) : Int) from rfl, w64_id (by omega) (by omega)]
      have e2 : Int.tmod (n : Int) (10 : Int) = ((n % 10 : Nat) : Int) := rfl
      rw [e1, e2, digit_byte (Nat.mod_lt _ (by decide))]
      refine EvP.bind (ih (n / 10) (by omega) (by omega)) ?_
      rintro _ rfl
      have hs : (numT ((n / 10 : Nat) : Int)).size ≤ n / 10 + 1 := by
        rw [numT_nat]
        show (Lib.decDigits (n / 10)).toArray.size ≤ _
        rw [List.size_toArray, Lib.decDigits_length]
        exact digits_big _
      refine EvP.pos ?_ (EvP.ret ?_)
      · show (numT ((n / 10 : Nat) : Int)).size + 1 ≤ 9223372036854775807
        omega
      · have e3 : numT (n : Int) = ⟨(Lib.decDigits (n / 10) ++ [UInt8.ofNat (48 + n % 10)]).toArray⟩ := by
          rw [numT_nat, Lib.decDigits, dif_neg (by omega)]
        rw [e3]
        simp only
        rw [numT_nat]
        congr 1

theorem itoa_ev {n : Int} (h0 : 0 ≤ n) (h1 : n ≤ 1000000000) : EvP (fun k => strconv_Itoa.f k (n, ())) (· = (numT n, ())) := by
  simp only [strconv_Itoa.f]
  exact EvP.pos ⟨by omega, by omega⟩ (EvP.ret rfl)

theorem least_ev (a : Sh1) (r : Int) (h : a.1.size ≤ 10000) : EvP (fun k => impl_shown_least.f k (a, r, ())) (· = (inn a r, ())) := by
  simp only [impl_shown_least.f, decide_eq_true_eq]
  have e : (⟨#[40, 32]⟩ : ByteArray).size = 2 := rfl
  have e2 : (⟨#[32, 41]⟩ : ByteArray).size = 2 := rfl
  refine EvP.ite (fun h => EvP.pos ?_ (EvP.pos ?_ (EvP.ret ?_))) (fun h => EvP.ret ?_)
  · unfold sizeN; omega
  · unfold sizeN; rw [ByteArray.size_append]; omega
  · unfold inn; rw [if_pos h]
  · unfold inn; rw [if_neg h]

def rankK (k : Int) : Int := if k = 3 ∨ k = 4 then 0 else if 3 ≤ k ∧ k ≤ 7 then 1 else 2

theorem l5Rank_ev (a : Int) : EvP (fun k => spec_l5Rank.f k (a, ())) (· = (rankK a, ())) := by
  simp only [spec_l5Rank.f, beq_iff_eq]
  unfold rankK
  refine EvP.ite (fun h => EvP.ret (by rw [if_pos (.inl h)])) (fun h3 => EvP.ite (fun h => EvP.ret (by rw [if_pos (.inr h)])) (fun h4 => ?_))
  refine EvP.bind (l5Two_ev a) ?_
  rintro ⟨y, _⟩ hy
  simp only at hy
  subst hy
  have n34 : ¬ (a = 3 ∨ a = 4) := fun h => h.elim h3 h4
  refine EvP.ite (fun h => EvP.ret ?_) (fun h => EvP.ret ?_)
  · rw [if_neg n34, if_pos (of_decide_eq_true h)]
  · rw [if_neg n34, if_neg fun c => h (decide_eq_true c)]

/-- What the program keeps beside a text, out of what the reference keeps: the last step's kind. -/
def toS (t : Sh1) : Sh1 := (t.1, rankK t.2 + 1)

theorem l5In_ev (a : Sh1) (r : Int) (h : a.1.size ≤ 10000) : EvP (fun k => spec_l5In.f k (a, r, ())) (· = (inn (toS a) (r + 1), ())) := by
  simp only [spec_l5In.f, decide_eq_true_eq]
  have e : (⟨#[40, 32]⟩ : ByteArray).size = 2 := rfl
  have e2 : (⟨#[32, 41]⟩ : ByteArray).size = 2 := rfl
  refine EvP.bind (l5Rank_ev a.2) ?_
  rintro _ rfl
  unfold inn toS
  refine EvP.ite (fun h => EvP.pos ?_ (EvP.pos ?_ (EvP.ret ?_))) (fun h => EvP.ret ?_)
  · unfold sizeN; omega
  · unfold sizeN; rw [ByteArray.size_append]; omega
  · simp only at h
    rw [if_pos (show rankK a.2 + 1 < r + 1 by omega)]
  · simp only at h
    rw [if_neg (show ¬ rankK a.2 + 1 < r + 1 by omega)]

theorem l5Sign_ev (a : Int) (h : 3 ≤ a ∧ a ≤ 7) : EvP (fun k => spec_l5Sign.f k (a, ())) (· = (signT a, ())) := by
  simp only [spec_l5Sign.f]
  refine EvP.pos (by omega) (EvP.pos (by omega) (EvP.ret ?_))
  have : a = 3 ∨ a = 4 ∨ a = 5 ∨ a = 6 ∨ a = 7 := by omega
  rcases this with rfl | rfl | rfl | rfl | rfl <;> rfl

theorem sign_at (a : Int) (h : 3 ≤ a ∧ a ≤ 7) : rdT .str [(⟨#[43]⟩ : ByteArray), (⟨#[45]⟩ : ByteArray), (⟨#[42]⟩ : ByteArray), (⟨#[68, 73, 86]⟩ : ByteArray), (⟨#[77, 79, 68]⟩ : ByteArray)] ((w64 (a - (3 : Int))).toNat) = signT a := by
  have : a = 3 ∨ a = 4 ∨ a = 5 ∨ a = 6 ∨ a = 7 := by omega
  rcases this with rfl | rfl | rfl | rfl | rfl <;> rfl

theorem rdT_last {t : Ty} (b : t.D) (S : List t.D) : rdT t (b :: S).reverse S.length = b := by
  simp [rdT, List.getD]

theorem rdT_last2 {t : Ty} (b a : t.D) (S : List t.D) : rdT t (b :: a :: S).reverse S.length = a := by
  simp [rdT, List.getD, List.getElem?_append]

theorem take_rev {α : Type} (b a : α) (S : List α) : (b :: a :: S).reverse.take S.length = S.reverse := by
  simp

theorem set_rev {α : Type} (b v : α) (S : List α) : (b :: S).reverse.set S.length v = (v :: S).reverse := by
  simp

theorem size_nm {x : ByteArray} (h : Named x) : x.size ≤ 10 := h.2.2

theorem name_size {m n : ByteArray} (hn : Named n) (hm : m = ByteArray.empty ∨ Named m) : (nameT m n).size ≤ 40 := by
  have h1 := size_nm hn
  unfold nameT
  split
  · omega
  · rename_i h
    have h2 := size_nm (hm.resolve_left h)
    simp only [ByteArray.size_append]
    show m.size + 3 + n.size ≤ 40
    omega

theorem impl_exprText_ev (l : List TStep.D) (hl : l.length ≤ 40) (hg : GoodE l 0) : EvP (fun k => impl_exprText.f k (l, ())) (· = (textM l [], ())) := by
  have hbig := big_eq
  have loop := EvP.loop (L := impl_exprText.l1) (Q := (· = (textM l [], ()))) (fun j st => ∃ (i : Nat) (S : List Sh1), st = (S.reverse, l, (l.length : Int), (i : Int), ()) ∧ j = l.length - i ∧ TInv l i S) ?_
  · simp only [impl_exprText.f]
    exact loop _ _ ⟨0, [], rfl, rfl, tinv_nil hg⟩
  · rintro j _ ⟨i, S, rfl, rfl, hI⟩ ih
    have hil' := hI.le
    have hSl := hI.len
    have hgo : ∀ S' : List Sh1, i < l.length → TInv l (i + 1) S' → EvP (fun k => impl_exprText.l1 k (S'.reverse, l, (l.length : Int), ((i + 1 : Nat) : Int), ())) (· = (textM l [], ())) := fun S' h1 h2 => ih (l.length - (i + 1)) _ (by omega) ⟨i + 1, S', rfl, rfl, h2⟩
    simp only [impl_exprText.l1, decide_eq_true_eq, Int.toNat_natCast, beq_iff_eq, next64 (show i ≤ 1099511627776 by omega), Bool.not_eq_true', beq_eq_false_iff_ne, ne_eq, toList_eq]
    refine EvP.ite (fun hlt => EvP.pos (by omega) (EvP.pos (by omega) ?_)) (fun hge => ?_)
    · have hil : i < l.length := by omega
      have hst := good_kind (hI.step hil)
      refine EvP.ite (fun hk => ?_) (fun n1 => EvP.ite (fun hk => ?_) (fun n2 => EvP.ite (fun hk => ?_) (fun n8 => ?_)))
      · have hv : (0 : Int) ≤ (rdT TStep l i).2.1 ∧ (rdT TStep l i).2.1 ≤ (1000000000 : Int) := by
          rcases hst with h | h | h
          · exact h.2
          · rw [hk] at h; exact absurd h.1 (by decide)
          · rw [hk] at h; exact absurd h.1 (by decide)
        refine EvP.bind (itoa_ev hv.1 hv.2) ?_
        rintro _ rfl
        refine EvP.pos (by rw [List.length_reverse]; omega) ?_
        have := hgo _ hil (tinv_leaf (v := numT (rdT TStep l i).2.1) hil hI (.inl hk) (by have := numT_size hv.1 hv.2; omega) (fun r => by simp only [textM]; rw [if_pos hk]))
        rwa [List.reverse_cons] at this
      · have hv : Named (rdT TStep l i).2.2.2 ∧ ((rdT TStep l i).2.2.1 = ByteArray.empty ∨ Named (rdT TStep l i).2.2.1) := by
          rcases hst with h | h | h
          · exact absurd h.1 n1
          · exact h.2
          · rw [hk] at h; exact absurd h.1 (by decide)
        have h1 := size_nm hv.1
        have hnx := hgo _ hil (tinv_leaf (v := nameT (rdT TStep l i).2.2.1 (rdT TStep l i).2.2.2) hil hI (.inr hk) (name_size hv.1 hv.2) (fun r => by simp only [textM]; rw [if_neg n1, if_pos hk]))
        rw [List.reverse_cons] at hnx
        have e3 : (⟨#[32, 46, 32]⟩ : ByteArray).size = 3 := rfl
        refine EvP.ite (fun hm => ?_) (fun hm => ?_)
        · have h2 := size_nm (hv.2.resolve_left hm)
          unfold nameT at hnx
          rw [if_neg hm] at hnx
          refine EvP.pos (by unfold sizeN; omega) (EvP.pos (by unfold sizeN; rw [ByteArray.size_append]; omega) (EvP.pos (by rw [List.length_reverse]; omega) hnx))
        · unfold nameT at hnx
          rw [if_pos (Classical.not_not.1 hm)] at hnx
          exact EvP.pos (by rw [List.length_reverse]; omega) hnx
      · obtain ⟨b, S1, rfl, hb, hI'⟩ := tinv_neg hil hI hk
        have hlen : (b :: S1).length = S1.length + 1 := rfl
        have hw : w64 (((b :: S1).reverse.length : Int) - (1 : Int)) = (S1.length : Int) := by
          rw [List.length_reverse, w64_id (by omega) (by omega)]; omega
        have hbs : b.1.size ≤ 10000 := by
          have := hI.tot
          unfold tot at this
          simp at this
          omega
        simp only [hw, Int.toNat_natCast]
        rw [show rdT Tsi (b :: S1).reverse S1.length = b from rdT_last (t := Tsi) b S1]
        refine EvP.pos (by omega) (EvP.pos (by rw [List.length_reverse]; omega) ?_)
        refine EvP.bind (least_ev b 3 hbs) ?_
        rintro _ rfl
        refine EvP.pos ?_ (EvP.pos (by omega) (EvP.pos (by rw [List.length_reverse]; omega) ?_))
        · show 2 + (inn b 3).size ≤ 9223372036854775807
          omega
        · rw [set_rev]
          exact hgo _ hil hI'
      · have hk : (3 : Int) ≤ (rdT TStep l i).1 ∧ (rdT TStep l i).1 ≤ (7 : Int) := by
          rcases hst with h | h | h
          · exact absurd h.1 n1
          · exact absurd h.1 n2
          · refine ⟨h.1, ?_⟩
            have h8 := h.2
            revert n8 h8
            generalize (rdT TStep l i).1 = z
            intro n8 h8
            change Int at z
            dsimp only [Ty.D] at *
            omega
        obtain ⟨b, a, S2, rfl, hab, hI'⟩ := tinv_op hil hI hk
        have hlen : (b :: a :: S2).length = S2.length + 2 := rfl
        have hw1 : w64 (((b :: a :: S2).reverse.length : Int) - (1 : Int)) = ((a :: S2).length : Int) := by
          rw [List.length_reverse, w64_id (by omega) (by omega)]; simp
        have hw2 : w64 (((a :: S2).length : Int) - (1 : Int)) = (S2.length : Int) := by
          rw [w64_id (by simp <;> omega) (by simp <;> omega)]; simp
        have hl1 : (a :: S2).length = S2.length + 1 := rfl
        have hsg := sign_at _ hk
        have hk0 : (0 : Int) ≤ w64 ((rdT TStep l i).1 - (3 : Int)) ∧ w64 ((rdT TStep l i).1 - (3 : Int)) < (5 : Int) := by
          revert hk
          generalize (rdT TStep l i).1 = z
          intro hk
          change Int at z
          dsimp only [Ty.D] at *
          rw [w64_id (by omega) (by omega)]
          omega
        have hss := signT_size (rdT TStep l i).1
        have s1 : (⟨#[32]⟩ : ByteArray).size = 1 := rfl
        simp only [hw1, hw2, Int.toNat_natCast, hsg]
        rw [show rdT Tsi (b :: a :: S2).reverse (a :: S2).length = b from rdT_last (t := Tsi) b (a :: S2), show rdT Tsi (b :: a :: S2).reverse S2.length = a from rdT_last2 (t := Tsi) b a S2, take_rev]
        have hnx := hgo _ hil hI'
        rw [List.reverse_cons] at hnx
        have fin : ∀ st : Int, st = strong (rdT TStep l i).1 → EvP (fun k => ((impl_shown_least.f k (a, st, ())).bind fun y3 => (if sizeN y3.1 (⟨#[32]⟩ : ByteArray) then (if sizeN (y3.1 ++ (⟨#[32]⟩ : ByteArray)) (signT (rdT TStep l i).1) then (if sizeN ((y3.1 ++ (⟨#[32]⟩ : ByteArray)) ++ (signT (rdT TStep l i).1)) (⟨#[32]⟩ : ByteArray) then (if 0 ≤ ((a :: S2).length : Int) then (if ((a :: S2).length : Int) < ((b :: a :: S2).reverse.length : Int) then ((impl_shown_least.f k (b, st + 1, ())).bind fun y4 => (if sizeN (((y3.1 ++ (⟨#[32]⟩ : ByteArray)) ++ (signT (rdT TStep l i).1)) ++ (⟨#[32]⟩ : ByteArray)) y4.1 then (if S2.length + 1 ≤ big then (impl_exprText.l1 k (S2.reverse ++ [(((((y3.1 ++ (⟨#[32]⟩ : ByteArray)) ++ (signT (rdT TStep l i).1)) ++ (⟨#[32]⟩ : ByteArray)) ++ y4.1), st)], l, (l.length : Int), ((i + 1 : Nat) : Int), ())) else none) else none)) else none) else none) else none) else none) else none))) (· = (textM l [], ())) := by
          intro st hst
          have e1 := inn_size a st
          have e2 := inn_size b (st + 1)
          refine EvP.bind (least_ev a st (by omega)) ?_
          rintro _ rfl
          refine EvP.pos (by unfold sizeN; simp only; omega) (EvP.pos (by unfold sizeN; simp only [ByteArray.size_append]; omega) (EvP.pos (by unfold sizeN; simp only [ByteArray.size_append]; omega) (EvP.pos (by omega) (EvP.pos (by rw [List.length_reverse]; omega) ?_))))
          refine EvP.bind (least_ev b (st + 1) (by omega)) ?_
          rintro _ rfl
          refine EvP.pos (by unfold sizeN; simp only [ByteArray.size_append]; omega) (EvP.pos (by omega) ?_)
          rw [hst]
          exact hnx
        refine EvP.ite (fun h4 => ?_) (fun h4 => ?_)
        · refine EvP.pos hk0.1 (EvP.pos hk0.2 (EvP.pos (by omega) (EvP.pos (by rw [List.length_reverse]; omega) (EvP.pos (by omega) (EvP.pos (by rw [List.length_reverse]; omega) ?_)))))
          exact fin 1 (by unfold strong; rw [if_pos h4])
        · refine EvP.pos hk0.1 (EvP.pos hk0.2 (EvP.pos (by omega) (EvP.pos (by rw [List.length_reverse]; omega) (EvP.pos (by omega) (EvP.pos (by rw [List.length_reverse]; omega) ?_)))))
          exact fin 2 (by unfold strong; rw [if_neg h4])
    · have hie : i = l.length := by omega
      subst hie
      obtain ⟨b, rfl, hb⟩ := tinv_end hI
      refine EvP.pos (by simp) (EvP.ret ?_)
      rw [hb]
      rfl

theorem rank_strong {k : Int} (h : 3 ≤ k ∧ k ≤ 7) : rankK k + 1 = strong k := by
  unfold rankK strong
  by_cases h4 : k ≤ 4
  · rw [if_pos (by omega), if_pos h4]; rfl
  · rw [if_neg (by omega), if_pos h, if_neg h4]; rfl

theorem rank_range (k : Int) : rankK k ≤ 2 ∧ 0 ≤ rankK k := by
  unfold rankK
  split
  · exact ⟨by decide, by decide⟩
  · split <;> exact ⟨by decide, by decide⟩

theorem l5Text_ev (l : List TStep.D) (hl : l.length ≤ 40) (hg : GoodE l 0) : EvP (fun k => spec_l5Text.f k (l, ())) (· = (textM l [], ())) := by
  have hbig := big_eq
  have loop := EvP.loop (L := spec_l5Text.l1) (Q := (· = (textM l [], ()))) (fun j st => ∃ (i : Nat) (T : List Sh1), st = (T.reverse, l, (l.length : Int), (i : Int), ()) ∧ j = l.length - i ∧ TInv l i (T.map toS)) ?_
  · simp only [spec_l5Text.f]
    exact loop _ _ ⟨0, [], rfl, rfl, tinv_nil hg⟩
  · rintro j _ ⟨i, T, rfl, rfl, hI⟩ ih
    have hil' := hI.le
    have hSl := hI.len
    rw [List.length_map] at hSl
    have hgo : ∀ T' : List Sh1, i < l.length → TInv l (i + 1) (T'.map toS) → EvP (fun k => spec_l5Text.l1 k (T'.reverse, l, (l.length : Int), ((i + 1 : Nat) : Int), ())) (· = (textM l [], ())) := fun T' h1 h2 => ih (l.length - (i + 1)) _ (by omega) ⟨i + 1, T', rfl, rfl, h2⟩
    simp only [spec_l5Text.l1, decide_eq_true_eq, Int.toNat_natCast, beq_iff_eq, next64 (show i ≤ 1099511627776 by omega), Bool.not_eq_true', beq_eq_false_iff_ne, ne_eq, toList_eq]
    refine EvP.ite (fun hlt => EvP.pos (by omega) (EvP.pos (by omega) ?_)) (fun hge => ?_)
    · have hil : i < l.length := by omega
      have hst := good_kind (hI.step hil)
      by_cases hk1 : (rdT TStep l i).1 = (1 : Int)
      · refine EvP.pos hk1 ?_
        have hv : (0 : Int) ≤ (rdT TStep l i).2.1 ∧ (rdT TStep l i).2.1 ≤ (1000000000 : Int) := by
          rcases hst with h | h | h
          · exact h.2
          · rw [hk1] at h; exact absurd h.1 (by decide)
          · rw [hk1] at h; exact absurd h.1 (by decide)
        have hnum := l1Num_ev (rdT TStep l i).2.1.toNat (Int.toNat_le.2 hv.2)
        rw [Int.toNat_of_nonneg hv.1] at hnum
        refine EvP.bind hnum ?_
        rintro _ rfl
        refine EvP.pos (by rw [List.length_reverse]; omega) ?_
        have := hgo ((numT (rdT TStep l i).2.1, (rdT TStep l i).1) :: T) hil (by
          rw [List.map_cons, hk1]
          exact tinv_leaf (v := numT (rdT TStep l i).2.1) hil hI (.inl hk1) (by have := numT_size hv.1 hv.2; omega) (fun r => by simp only [textM]; rw [if_pos hk1]))
        rwa [List.reverse_cons] at this
      refine EvP.neg hk1 ?_
      by_cases hk2 : (rdT TStep l i).1 = (2 : Int)
      · have hv : Named (rdT TStep l i).2.2.2 ∧ ((rdT TStep l i).2.2.1 = ByteArray.empty ∨ Named (rdT TStep l i).2.2.1) := by
          rcases hst with h | h | h
          · exact absurd h.1 hk1
          · exact h.2
          · rw [hk2] at h; exact absurd h.1 (by decide)
        have h1 := size_nm hv.1
        have hnx := hgo ((nameT (rdT TStep l i).2.2.1 (rdT TStep l i).2.2.2, (rdT TStep l i).1) :: T) hil (by
          rw [List.map_cons, hk2]
          exact tinv_leaf (v := nameT (rdT TStep l i).2.2.1 (rdT TStep l i).2.2.2) hil hI (.inr hk2) (name_size hv.1 hv.2) (fun r => by simp only [textM]; rw [if_neg hk1, if_pos hk2]))
        rw [List.reverse_cons] at hnx
        have e3 : (⟨#[32, 46, 32]⟩ : ByteArray).size = 3 := rfl
        refine EvP.pos hk2 (EvP.ite (fun hm => ?_) (fun hm => EvP.pos hk2 ?_))
        · have h2 := size_nm (hv.2.resolve_left hm)
          unfold nameT at hnx
          rw [if_neg hm] at hnx
          refine EvP.pos (by unfold sizeN; omega) (EvP.pos (by unfold sizeN; rw [ByteArray.size_append]; omega) (EvP.pos (by rw [List.length_reverse]; omega) hnx))
        · unfold nameT at hnx
          rw [if_pos (Classical.not_not.1 hm)] at hnx
          exact EvP.pos (by rw [List.length_reverse]; omega) hnx
      refine EvP.neg hk2 (EvP.neg hk2 ?_)
      refine EvP.ite (fun hk => ?_) (fun n8 => ?_)
      · obtain ⟨b', S1, hT, hb, hI'⟩ := tinv_neg hil hI hk
        match T, hT, hSl, hI with
        | b :: T1, hT, hSl, hI =>
          rw [List.map_cons] at hT
          obtain ⟨rfl, rfl⟩ := List.cons.inj hT
          have hlen : (b :: T1).length = T1.length + 1 := rfl
          have hw : w64 (((b :: T1).reverse.length : Int) - (1 : Int)) = (T1.length : Int) := by
            rw [List.length_reverse, w64_id (by omega) (by omega)]; omega
          have hbs : b.1.size ≤ 10000 := by
            have := hI.tot
            unfold tot toS at this
            simp at this
            omega
          simp only [hw, Int.toNat_natCast]
          rw [show rdT Tsi (b :: T1).reverse T1.length = b from rdT_last (t := Tsi) b T1]
          refine EvP.pos (by omega) (EvP.pos (by rw [List.length_reverse]; omega) ?_)
          refine EvP.bind (l5In_ev b 2 hbs) ?_
          rintro _ rfl
          refine EvP.pos ?_ (EvP.pos (by omega) (EvP.pos (by rw [List.length_reverse]; omega) ?_))
          · show 2 + (inn (toS b) 3).size ≤ 9223372036854775807
            omega
          · rw [set_rev]
            exact hgo _ hil (by rw [List.map_cons, hk]; exact hI')
      · have hk : (3 : Int) ≤ (rdT TStep l i).1 ∧ (rdT TStep l i).1 ≤ (7 : Int) := by
          rcases hst with h | h | h
          · exact absurd h.1 hk1
          · exact absurd h.1 hk2
          · refine ⟨h.1, ?_⟩
            have h8 := h.2
            revert n8 h8
            generalize (rdT TStep l i).1 = z
            intro n8 h8
            change Int at z
            dsimp only [Ty.D] at *
            omega
        obtain ⟨b', a', S2', hT, hab, hI'⟩ := tinv_op hil hI hk
        match T, hT, hSl, hI with
        | [b], hT, hSl, hI => simp at hT
        | b :: a :: S2, hT, hSl, hI =>
          rw [List.map_cons, List.map_cons] at hT
          obtain ⟨rfl, hT2⟩ := List.cons.inj hT
          obtain ⟨rfl, rfl⟩ := List.cons.inj hT2
          have ea : (toS a).1 = a.1 := rfl
          have eb : (toS b).1 = b.1 := rfl
          rw [ea, eb] at hab
          have hlen : (b :: a :: S2).length = S2.length + 2 := rfl
          have hw1 : w64 (((b :: a :: S2).reverse.length : Int) - (1 : Int)) = ((a :: S2).length : Int) := by
            rw [List.length_reverse, w64_id (by omega) (by omega)]; simp
          have hw2 : w64 (((b :: a :: S2).reverse.length : Int) - (2 : Int)) = (S2.length : Int) := by
            rw [List.length_reverse, w64_id (by omega) (by omega)]; simp; omega
          have hl1 : (a :: S2).length = S2.length + 1 := rfl
          have hss := signT_size (rdT TStep l i).1
          have s1 : (⟨#[32]⟩ : ByteArray).size = 1 := rfl
          have hrs := rank_strong hk
          simp only [hw1, hw2, Int.toNat_natCast]
          rw [show rdT Tsi (b :: a :: S2).reverse (a :: S2).length = b from rdT_last (t := Tsi) b (a :: S2), show rdT Tsi (b :: a :: S2).reverse S2.length = a from rdT_last2 (t := Tsi) b a S2, take_rev]
          have hnx := hgo ((opT (rdT TStep l i).1 (toS a) (toS b), (rdT TStep l i).1) :: S2) hil (by
            rw [List.map_cons]
            show TInv l (i + 1) ((opT (rdT TStep l i).1 (toS a) (toS b), rankK (rdT TStep l i).1 + 1) :: S2.map toS)
            rw [hrs]
            exact hI')
          rw [List.reverse_cons] at hnx
          have hr2 := rank_range (rdT TStep l i).1
          refine EvP.bind (l5Rank_ev (rdT TStep l i).1) ?_
          rintro _ rfl
          generalize hR : rankK (rdT TStep l i).1 = R at *
          refine EvP.pos (by omega) (EvP.pos (by rw [List.length_reverse]; omega) ?_)
          have e1 := inn_size (toS a) (R + 1)
          have e2 := inn_size (toS b) (R + 1 + 1)
          rw [ea] at e1
          rw [eb] at e2
          refine EvP.bind (l5In_ev a R (by omega)) ?_
          rintro _ rfl
          refine EvP.pos (by unfold sizeN; simp only; omega) ?_
          refine EvP.bind (l5Sign_ev _ hk) ?_
          rintro _ rfl
          refine EvP.pos (by unfold sizeN; simp only [ByteArray.size_append]; omega) (EvP.pos (by unfold sizeN; simp only [ByteArray.size_append]; omega) (EvP.pos (by omega) (EvP.pos (by rw [List.length_reverse]; omega) ?_)))
          simp only
          rw [w64_id (x := R + 1) (by omega) (by omega)]
          refine EvP.bind (l5In_ev b (R + 1) (by omega)) ?_
          rintro _ rfl
          refine EvP.pos (by unfold sizeN; simp only [ByteArray.size_append]; omega) (EvP.pos (by omega) (EvP.pos (by rw [List.length_reverse]; omega) (EvP.pos (by omega) ?_)))
          unfold opT at hnx
          rw [← hrs] at hnx
          exact hnx
    · have hie : i = l.length := by omega
      subst hie
      obtain ⟨b, hT, hb⟩ := tinv_end hI
      match T, hT with
      | [b0], hT =>
        obtain ⟨rfl, _⟩ := List.cons.inj hT
        refine EvP.pos (by simp) (EvP.ret ?_)
        rw [hb]
        rfl

theorem rdS_mem {l : List ByteArray} {v : ByteArray} : v ∈ l ↔ ∃ p, p < l.length ∧ rdT .str l p = v := by
  constructor
  · intro h
    obtain ⟨p, hp, he⟩ := List.getElem_of_mem h
    exact ⟨p, hp, by rw [← he]; simp [rdT, List.getD, List.getElem?_eq_getElem hp]⟩
  · rintro ⟨p, hp, rfl⟩
    exact rdT_mem (t := .str) hp

theorem containsS_ev (l : List ByteArray) (v : ByteArray) (hl : l.length ≤ 1048576) : EvP (fun k => slices_Contains_string_string.f k (l, v, ())) (fun y => y.1 = true ↔ v ∈ l) := by
  simp only [slices_Contains_string_string.f]
  have hi : EvP (fun k => slices_Index_string_string.f k (l, v, ())) (fun y => 0 ≤ y.1 ↔ v ∈ l) := by
    simp only [slices_Index_string_string.f]
    refine EvP.scan (L := fun k i => slices_Index_string_string.l1 k (l, v, (l.length : Int), i, ())) l.length (fun p => ¬ v = rdT .str l p) (fun hall => ?_) (fun i hi hall hgo => ?_)
    · simp only [slices_Index_string_string.l1, decide_eq_true_eq]
      refine EvP.neg (by omega) (EvP.ret ⟨fun h => absurd h (by show ¬ (0 : Int) ≤ -1; decide), fun h => ?_⟩)
      obtain ⟨p, hp, h⟩ := rdS_mem.1 h
      exact absurd h.symm (hall p hp)
    · simp only [slices_Index_string_string.l1, decide_eq_true_eq, Int.toNat_natCast, next64 (show i ≤ 1099511627776 by omega), beq_iff_eq, toList_eq]
      refine EvP.pos (by omega) (EvP.pos (by omega) (EvP.pos (by omega) (EvP.ite (fun h => EvP.ret ⟨fun _ => rdS_mem.2 ⟨i, hi, h.symm⟩, fun _ => ?_⟩) (fun h => hgo h))))
      show (0 : Int) ≤ (i : Int)
      omega
  refine EvP.bind hi ?_
  rintro ⟨y, _⟩ hy
  refine EvP.ret ?_
  simpa using hy


def wordsL : List ByteArray := [(⟨#[77, 79, 68, 85, 76, 69]⟩ : ByteArray), (⟨#[73, 77, 80, 79, 82, 84]⟩ : ByteArray), (⟨#[67, 79, 78, 83, 84]⟩ : ByteArray), (⟨#[84, 89, 80, 69]⟩ : ByteArray), (⟨#[86, 65, 82]⟩ : ByteArray), (⟨#[80, 82, 79, 67]⟩ : ByteArray), (⟨#[85, 83, 69]⟩ : ByteArray), (⟨#[69, 78, 68]⟩ : ByteArray), (⟨#[65, 82, 82, 65, 89]⟩ : ByteArray), (⟨#[79, 70]⟩ : ByteArray), (⟨#[82, 69, 67, 79, 82, 68]⟩ : ByteArray), (⟨#[80, 79, 73, 78, 84, 69, 82]⟩ : ByteArray), (⟨#[84, 79]⟩ : ByteArray), (⟨#[68, 73, 86]⟩ : ByteArray), (⟨#[77, 79, 68]⟩ : ByteArray)]

theorem implWord_ev (s : ByteArray) : EvP (fun k => impl_IsWord.f k (s, ())) (fun y => y.1 = true ↔ s ∈ wordsL) := by
  simp only [impl_IsWord.f]
  refine EvP.bind (containsS_ev wordsL s (by decide)) ?_
  rintro ⟨y, _⟩ hy
  exact EvP.ret hy

theorem specWord_ev (s : ByteArray) : EvP (fun k => spec_IsWord.f k (s, ())) (fun y => y.1 = true ↔ s ∈ wordsL) := by
  simp only [spec_IsWord.f]
  refine EvP.bind (R := fun y => y.1 = wordsL) (EvP.ret rfl) ?_
  rintro ⟨L, _⟩ hL
  simp only at hL
  subst hL
  have hl : wordsL.length = 15 := rfl
  generalize wordsL = l at *
  refine EvP.scan (L := fun k i => spec_IsWord.l1 k (s, l, (l.length : Int), i, ())) l.length (fun p => ¬ rdT .str l p = s) (fun hall => ?_) (fun i hi hall hgo => ?_)
  · simp only [spec_IsWord.l1, decide_eq_true_eq]
    refine EvP.neg (by omega) (EvP.ret ⟨fun h => (by cases h), fun h => ?_⟩)
    obtain ⟨p, hp, h⟩ := rdS_mem.1 h
    exact absurd h (hall p hp)
  · simp only [spec_IsWord.l1, decide_eq_true_eq, Int.toNat_natCast, next64 (show i ≤ 1099511627776 by omega), beq_iff_eq, toList_eq]
    exact EvP.pos (by omega) (EvP.pos (by omega) (EvP.pos (by omega) (EvP.ite (fun h => EvP.ret ⟨fun _ => rdS_mem.2 ⟨i, hi, h⟩, fun _ => rfl⟩) (fun h => hgo h))))

/-- A step that has a text. -/
def Told (s : TStep.D) : Prop := (s.2.1 : Int) ≤ 999999999 ∧ s.2.2.2 ∉ wordsL ∧ s.2.2.1 ∉ wordsL

theorem told_1_ev (s : TStep.D) : EvP (fun k => impl_ExprText_1.f k (s, ())) (fun y => y.1 = true ↔ ¬ Told s) := by
  simp only [impl_ExprText_1.f]
  unfold Told
  refine EvP.ite (fun h => EvP.ret ⟨fun _ e => ?_, fun _ => rfl⟩) (fun h => ?_)
  · have h' : (1000000000 : Int) ≤ s.2.1 := of_decide_eq_true h
    exact absurd (Int.le_trans h' e.1) (by decide)
  · have h' : ¬ (1000000000 : Int) ≤ s.2.1 := fun c => h (decide_eq_true c)
    have h2 : (s.2.1 : Int) ≤ 999999999 := Int.le_sub_one_of_lt (Int.not_le.1 h')
    refine EvP.bind (implWord_ev _) ?_
    rintro ⟨y, _⟩ hy
    simp only at hy
    refine EvP.ite (fun h => EvP.ret ⟨fun _ e => e.2.1 (hy.1 h), fun _ => rfl⟩) (fun h => ?_)
    refine EvP.bind (implWord_ev _) ?_
    rintro ⟨z, _⟩ hz
    simp only at hz
    refine EvP.ret ⟨fun e c => c.2.2 (hz.1 e), fun e => hz.2 (Classical.byContradiction fun c => e ⟨h2, fun q => h (hy.2 q), c⟩)⟩

def AllTold (l : List TStep.D) : Prop := ∀ i, i < l.length → Told (rdT TStep l i)

theorem told_ev (l : List TStep.D) (hl : l.length ≤ 1048576) : EvP (fun k => slices_ContainsFunc_impl_Step_impl_Step.f k (l, (), ())) (fun y => y.1 = true ↔ ¬ AllTold l) := by
  simp only [slices_ContainsFunc_impl_Step_impl_Step.f]
  have hi : EvP (fun k => slices_IndexFunc_impl_Step_impl_Step.f k (l, (), ())) (fun y => 0 ≤ y.1 ↔ ¬ AllTold l) := by
    simp only [slices_IndexFunc_impl_Step_impl_Step.f]
    refine EvP.scan (L := fun k i => slices_IndexFunc_impl_Step_impl_Step.l1 k (l, (), (l.length : Int), i, ())) l.length (fun p => Told (rdT TStep l p)) (fun hall => ?_) (fun i hi hall hgo => ?_)
    · simp only [slices_IndexFunc_impl_Step_impl_Step.l1, decide_eq_true_eq]
      exact EvP.neg (by omega) (EvP.ret ⟨fun h => absurd h (by show ¬ (0 : Int) ≤ -1; decide), fun h => absurd hall h⟩)
    · simp only [slices_IndexFunc_impl_Step_impl_Step.l1, decide_eq_true_eq, Int.toNat_natCast, next64 (show i ≤ 1099511627776 by omega)]
      refine EvP.pos (by omega) (EvP.pos (by omega) (EvP.pos (by omega) ?_))
      refine EvP.bind (told_1_ev _) ?_
      rintro ⟨y, _⟩ hy
      simp only at hy
      refine EvP.ite (fun h => EvP.ret ⟨fun _ e => hy.1 h (e i hi), fun _ => ?_⟩) (fun h => hgo (Classical.not_not.1 fun c => h (hy.2 c)))
      show (0 : Int) ≤ (i : Int)
      omega
  refine EvP.bind hi ?_
  rintro ⟨y, _⟩ hy
  refine EvP.ret ?_
  simp only [decide_eq_true_eq]
  exact hy

noncomputable def ans (l : List TStep.D) : ByteArray × Bool × Unit := pickP ((GoodE l 0 ∧ l.length ≤ 40) ∧ (textM l []).size ≤ 1200 ∧ AllTold l) (textM l [], true, ()) (ByteArray.empty, false, ())

theorem spec_ans (l : List TStep.D) (hf : Fit (.slice TStep) l) : EvP (fun k => spec_ExprText.f k (l, ())) (· = ans l) := by
  simp only [spec_ExprText.f, Bool.not_eq_true', decide_eq_true_eq]
  unfold ans
  refine EvP.bind (spec_l5Good_ev l hf) ?_
  rintro ⟨y, _⟩ hy
  simp only at hy
  refine EvP.ite (fun h => EvP.ret ?_) (fun h => ?_)
  · rw [pickP_neg fun e => by rw [hy.2 e.1] at h; cases h]
  have hg := hy.1 (by simpa using h)
  refine EvP.bind (l5Text_ev l hg.2 hg.1) ?_
  rintro _ rfl
  refine EvP.ite (fun h => EvP.ret ?_) (fun h => ?_)
  · rw [pickP_neg fun e => by have := e.2.1; simp only at h; omega]
  have hsz : (textM l []).size ≤ 1200 := by simp only at h; omega
  have hlen := hg.2
  refine EvP.scan (L := fun k i => spec_ExprText.l3 k (l, l, (l.length : Int), i, ())) l.length (fun i => Told (rdT TStep l i)) (fun hall => ?_) (fun i hi hall hgo => ?_)
  · simp only [spec_ExprText.l3, decide_eq_true_eq]
    refine EvP.neg (by omega) ?_
    refine EvP.bind (l5Text_ev l hg.2 hg.1) ?_
    rintro _ rfl
    exact EvP.ret (by rw [pickP_pos ⟨hg, hsz, hall⟩])
  · simp only [spec_ExprText.l3, decide_eq_true_eq, Int.toNat_natCast, next64 (show i ≤ 1099511627776 by omega)]
    refine EvP.pos (by omega) (EvP.pos (by omega) (EvP.pos (by omega) ?_))
    have no : ¬ Told (rdT TStep l i) → ((ByteArray.empty, false, ()) : ByteArray × Bool × Unit) = pickP ((GoodE l 0 ∧ l.length ≤ 40) ∧ (textM l []).size ≤ 1200 ∧ AllTold l) (textM l [], true, ()) (ByteArray.empty, false, ()) := fun h => by rw [pickP_neg fun e => h (e.2.2 i hi)]
    refine EvP.ite (fun h => EvP.ret (no fun e => ?_)) (fun h => ?_)
    · exact absurd e.1 (Int.not_le.2 h)
    have h0 : ((rdT TStep l i).2.1 : Int) ≤ 999999999 := Int.not_lt.1 h
    refine EvP.bind (specWord_ev _) ?_
    rintro ⟨u, _⟩ hu
    simp only at hu
    refine EvP.ite (fun h => EvP.ret (no fun e => e.2.1 (hu.1 h))) (fun h1 => ?_)
    refine EvP.bind (specWord_ev _) ?_
    rintro ⟨v, _⟩ hv
    simp only at hv
    exact EvP.ite (fun h => EvP.ret (no fun e => e.2.2 (hv.1 h))) (fun h2 => hgo ⟨h0, fun q => h1 (hu.2 q), fun q => h2 (hv.2 q)⟩)

theorem impl_ans (l : List TStep.D) (hf : Fit (.slice TStep) l) : EvP (fun k => impl_ExprText.f k (l, ())) (· = ans l) := by
  have hs : l.length ≤ 1048576 := hf.1
  simp only [impl_ExprText.f, Bool.not_eq_true', decide_eq_true_eq]
  unfold ans
  refine EvP.bind (impl_isExpr_ev l hf) ?_
  rintro ⟨y, _⟩ hy
  simp only at hy
  refine EvP.ite (fun h => EvP.ret ?_) (fun h => ?_)
  · rw [pickP_neg fun e => by rw [hy.2 e.1] at h; cases h]
  have hg := hy.1 (by simpa using h)
  refine EvP.bind (told_ev l hs) ?_
  rintro ⟨z, _⟩ hz
  simp only at hz
  refine EvP.ite (fun h => EvP.ret ?_) (fun h => ?_)
  · rw [pickP_neg fun e => hz.1 h e.2.2]
  have ht : AllTold l := Classical.not_not.1 fun c => h (hz.2 c)
  refine EvP.bind (impl_exprText_ev l hg.2 hg.1) ?_
  rintro _ rfl
  refine EvP.ite (fun h => EvP.ret ?_) (fun h => EvP.ret ?_)
  · rw [pickP_neg fun e => by have := e.2.1; simp only at h; omega]
  · rw [pickP_pos ⟨hg, by simp only at h; omega, ht⟩]

theorem law (a0 : ((.slice TStep) : Ty).D) (o0 : okD (.slice TStep) a0) : EvP (fun k => laws_FnExactExprText.f k (a0, ())) (· = (true, ())) := by
  simp only [laws_FnExactExprText.f, decide_eq_true_eq]
  refine EvP.bind (szStepS a0 1048576 (by omega) (by omega) o0) ?_
  rintro ⟨n1, _⟩ hn
  refine EvP.ite (fun _ => EvP.ret rfl) (fun h => ?_)
  rcases hn with hn | ⟨hl1, hu1, f0⟩
  · exact absurd hn h
  clear h
  refine EvP.bind (toStepS _ f0) ?_
  rintro ⟨_, _⟩ (rfl : _ = _)
  refine EvP.bind (spec_ans _ f0) ?_
  rintro _ rfl
  refine EvP.bind (toStepS _ f0) ?_
  rintro ⟨_, _⟩ (rfl : _ = _)
  refine EvP.bind (impl_ans _ f0) ?_
  rintro _ rfl
  refine EvP.neg (by simp) ?_
  refine EvP.neg (by simp) ?_
  refine EvP.bind (toStepS _ f0) ?_
  rintro ⟨_, _⟩ (rfl : _ = _)
  refine EvP.bind (eqStepS _ f0) ?_
  rintro ⟨_, _⟩ (rfl : _ = _)
  refine EvP.neg (by simp) ?_
  exact EvP.ret rfl


end Go.Proofs.YtdphgdlkchajoaaDoor.LawFnExactExprText
