/- The plain law FnExactEvalExpr: its Lean function answers true at all data. -/
import Derived.Test.YtdphgdlkchajoaaDFnExactEvalExpr
set_option autoImplicit false
set_option linter.unusedVariables false
set_option linter.unusedSimpArgs false
namespace Go.Proofs.Ytdphgdlkchajoaa.LawFnExactEvalExpr
open Go.Proofs.Ytdphgdlkchajoaa.Den Go.Proofs

theorem l1In_ev (a b c : Int) : EvP (fun k => spec_l1In.f k (a, b, c, ())) (fun y => y.1 = decide (b ≤ a ∧ a ≤ c)) := by
  simp only [spec_l1In.f, decide_eq_true_eq]
  refine EvP.ite (fun h => EvP.ret ?_) (fun h => EvP.ret ?_)
  · simp only [ge_iff_le] at h; simp [h]
  · simp only [ge_iff_le] at h; simp [h]

theorem in_ev (a b c : Int) : EvP (fun k => impl_in.f k (a, b, c, ())) (fun y => y.1 = decide (b ≤ a ∧ a ≤ c)) := by
  simp only [impl_in.f, decide_eq_true_eq]
  refine EvP.ite (fun h => EvP.ret ?_) (fun h => EvP.ret ?_)
  · simp only [ge_iff_le] at h; simp [h]
  · simp only [ge_iff_le] at h; simp [h]

def letter (b : Int) : Prop := (65 ≤ b ∧ b ≤ 90) ∨ (97 ≤ b ∧ b ≤ 122)
def digit (b : Int) : Prop := 48 ≤ b ∧ b ≤ 57

theorem isLetter_ev (b : Int) : EvP (fun k => impl_isLetter.f k (b, ())) (fun y => y.1 = true ↔ letter b) := by
  simp only [impl_isLetter.f, decide_eq_true_eq, letter]
  repeat' (first
    | (refine EvP.ret ?_; simp only [decide_eq_true_eq]; first | omega | (simp; omega))
    | (refine EvP.ite (fun _ => ?_) (fun _ => ?_)))

theorem isDigit_ev (b : Int) : EvP (fun k => impl_isDigit.f k (b, ())) (fun y => y.1 = true ↔ digit b) := by
  simp only [impl_isDigit.f, decide_eq_true_eq, digit]
  repeat' (first
    | (refine EvP.ret ?_; simp only [decide_eq_true_eq]; first | omega | (simp; omega))
    | (refine EvP.ite (fun _ => ?_) (fun _ => ?_)))

theorem l5Two_ev (a : Int) : EvP (fun k => spec_l5Two.f k (a, ())) (fun y => y.1 = decide (3 ≤ a ∧ a ≤ 7)) := by
  simp only [spec_l5Two.f]
  refine EvP.bind (l1In_ev a 3 7) ?_
  rintro ⟨y, _⟩ hy
  exact EvP.ret hy

theorem isWhole_ev (a : Int) : EvP (fun k => impl_isWhole.f k (a, ())) (fun y => y.1 = decide (-1000000000 ≤ a ∧ a ≤ 1000000000)) := by
  simp only [impl_isWhole.f]
  refine EvP.bind (in_ev a (-1000000000) 1000000000) ?_
  rintro ⟨y, _⟩ hy
  exact EvP.ret hy

def good (x : ByteArray) (i : Nat) : Prop := letter (bt x i) ∨ (i ≠ 0 ∧ digit (bt x i))
def Named (x : ByteArray) : Prop := (∀ i < x.size, good x i) ∧ 1 ≤ x.size ∧ x.size ≤ 10

theorem spec_l1Name_ev (x : ByteArray) (hs : x.size ≤ 1048576) : EvP (fun k => spec_l1Name.f k (x, ())) (fun y => y.1 = true ↔ Named x) := by
  have loop := EvP.loop (L := spec_l1Name.l1) (Q := fun y => y.1 = true ↔ Named x) (fun j s => ∃ i : Nat, s = (x, (i : Int), ()) ∧ i ≤ x.size ∧ j = x.size - i ∧ ∀ p < i, good x p) ?_
  · simp only [spec_l1Name.f]
    exact loop _ _ ⟨0, rfl, Nat.zero_le _, rfl, fun p hp => absurd hp (Nat.not_lt_zero _)⟩
  · rintro j _ ⟨i, rfl, hi, rfl, hg⟩ ih
    simp only [spec_l1Name.l1, decide_eq_true_eq, Int.toNat_natCast, w64, IntKind.wrap_i64, Bool.not_eq_true', decide_eq_false_iff_not, beq_iff_eq]
    refine EvP.ite (fun hlt => EvP.pos (by omega) (EvP.pos (by omega) ?_)) (fun hge => ?_)
    · have hno : ¬ good x i → (((false, ()) : Bool × Unit).1 = true ↔ Named x) := fun h => ⟨fun e => (by cases e), fun hn => absurd (hn.1 i (by omega)) h⟩
      have hgo : good x i → EvP (fun k => spec_l1Name.l1 k (x, (((i : Int) + 1 + 9223372036854775808) % 18446744073709551616 - 9223372036854775808), ())) (fun y => y.1 = true ↔ Named x) := fun h => by
        refine ih (x.size - (i + 1)) _ (by omega) ⟨i + 1, ?_, by omega, rfl, fun p hp => ?_⟩
        · rw [show ((i + 1 : Nat) : Int) = ((i : Int) + 1 + 9223372036854775808) % 18446744073709551616 - 9223372036854775808 by omega]
        · rcases Nat.lt_or_ge p i with h2 | h2
          · exact hg p h2
          · obtain rfl : p = i := by omega
            exact h
      repeat' (first
        | (refine EvP.ite (fun _ => ?_) (fun _ => ?_))
        | (refine EvP.ret ?_; exact hno (by simp only [good, letter, digit]; omega))
        | (exact hgo (by simp only [good, letter, digit]; omega)))
    · refine EvP.bind (l1In_ev _ 1 10) ?_
      rintro ⟨y, _⟩ hy
      refine EvP.ret ?_
      simp only at hy
      subst hy
      simp only [decide_eq_true_eq]
      exact ⟨fun h => ⟨fun p hp => hg p (by omega), by omega, by omega⟩, fun h => by have := h.2; omega⟩

theorem impl_isName_ev (x : ByteArray) (hs : x.size ≤ 1048576) : EvP (fun k => impl_isName.f k (x, ())) (fun y => y.1 = true ↔ Named x) := by
  have loop := EvP.loop (L := impl_isName.l1) (Q := fun y => y.1 = true ↔ Named x) (fun j s => ∃ i : Nat, s = (x, (x.size : Int), (i : Int), ()) ∧ i ≤ x.size ∧ j = x.size - i ∧ ∀ p < i, good x p) ?_
  · simp only [impl_isName.f]
    exact loop _ _ ⟨0, rfl, Nat.zero_le _, rfl, fun p hp => absurd hp (Nat.not_lt_zero _)⟩
  · rintro j _ ⟨i, rfl, hi, rfl, hg⟩ ih
    simp only [impl_isName.l1, decide_eq_true_eq, Int.toNat_natCast, w64, IntKind.wrap_i64, Bool.not_eq_true', decide_eq_false_iff_not, beq_iff_eq]
    refine EvP.ite (fun hlt => EvP.pos (by omega) (EvP.pos (by omega) ?_)) (fun hge => ?_)
    · have hno : ¬ good x i → (((false, ()) : Bool × Unit).1 = true ↔ Named x) := fun h => ⟨fun e => (by cases e), fun hn => absurd (hn.1 i (by omega)) h⟩
      have hgo : good x i → EvP (fun k => impl_isName.l1 k (x, (x.size : Int), (((i : Int) + 1 + 9223372036854775808) % 18446744073709551616 - 9223372036854775808), ())) (fun y => y.1 = true ↔ Named x) := fun h => by
        refine ih (x.size - (i + 1)) _ (by omega) ⟨i + 1, ?_, by omega, rfl, fun p hp => ?_⟩
        · rw [show ((i + 1 : Nat) : Int) = ((i : Int) + 1 + 9223372036854775808) % 18446744073709551616 - 9223372036854775808 by omega]
        · rcases Nat.lt_or_ge p i with h2 | h2
          · exact hg p h2
          · obtain rfl : p = i := by omega
            exact h
      refine EvP.bind (isLetter_ev _) ?_
      rintro ⟨y, _⟩ hy
      simp only at hy
      refine EvP.ite (fun h => ?_) (fun h => hgo (.inl (hy.1 (by simpa using h))))
      have hl : ¬ letter (bt x i) := fun e => by
        have := hy.2 e
        simp_all
      refine EvP.ite (fun h0 => EvP.ret (hno fun e => ?_)) (fun h0 => EvP.pos (by omega) (EvP.pos (by omega) ?_))
      · rcases e with e | e
        · exact hl e
        · exact e.1 (by omega)
      · refine EvP.bind (isDigit_ev _) ?_
        rintro ⟨z, _⟩ hz
        simp only at hz
        refine EvP.ite (fun h1 => EvP.ret (hno fun e => ?_)) (fun h1 => hgo (.inr ⟨by omega, hz.1 (by simpa using h1)⟩))
        rcases e with e | e
        · exact hl e
        · have := hz.2 e.2
          simp_all
    · refine EvP.bind (in_ev _ 1 10) ?_
      rintro ⟨y, _⟩ hy
      refine EvP.ret ?_
      simp only at hy
      subst hy
      simp only [decide_eq_true_eq]
      exact ⟨fun h => ⟨fun p hp => hg p (by omega), by omega, by omega⟩, fun h => by have := h.2; omega⟩

theorem toList_nil {s : ByteArray} : s.toList = [] ↔ s = ByteArray.empty := by
  constructor
  · intro h
    exact toList_inj (h.trans (by simp))
  · intro h
    subst h
    simp

def GoodS (k v : Int) (m n : ByteArray) : Prop :=
  if k = 1 then 0 ≤ v ∧ v ≤ 1000000000 ∧ m = ByteArray.empty ∧ n = ByteArray.empty
  else if k = 2 then v = 0 ∧ Named n ∧ (m = ByteArray.empty ∨ Named m)
  else 3 ≤ k ∧ k ≤ 8 ∧ v = 0 ∧ m = ByteArray.empty ∧ n = ByteArray.empty
def GoodStep (s : TStep.D) : Prop := GoodS s.1 s.2.1 s.2.2.1 s.2.2.2

theorem spec_l5Step_ev (s : TStep.D) (hs : Fit TStep s) : EvP (fun k => spec_l5Step.f k (s, ())) (fun y => y.1 = true ↔ GoodStep s) := by
  unfold GoodStep GoodS
  simp only [spec_l5Step.f, beq_iff_eq, toList_eq]
  repeat' (first
    | (refine EvP.ret ?_; simp_all [toList_eq, toList_nil, and_assoc] <;> try (intros; first | (exfalso; omega) | (simp_all <;> (exfalso; omega))))
    | (refine EvP.ite (fun _ => ?_) (fun _ => ?_))
    | ((with_reducible refine EvP.bind (l1In_ev _ _ _) ?_); rintro ⟨y, _⟩ hy)
    | ((with_reducible refine EvP.bind (spec_l1Name_ev _ ?_) ?_); (· first | exact hs.2.2.1 | exact hs.2.2.2); rintro ⟨y, _⟩ hy))

theorem impl_Step_isStep_ev (s : TStep.D) (hs : Fit TStep s) : EvP (fun k => impl_Step_isStep.f k (s, ())) (fun y => y.1 = true ↔ GoodStep s) := by
  unfold GoodStep GoodS
  simp only [impl_Step_isStep.f, beq_iff_eq, toList_eq]
  repeat' (first
    | (refine EvP.ret ?_; simp_all [toList_eq, toList_nil, and_assoc] <;> try (intros; first | (exfalso; omega) | (simp_all <;> (exfalso; omega))))
    | (refine EvP.ite (fun _ => ?_) (fun _ => ?_))
    | ((with_reducible refine EvP.bind (in_ev _ _ _) ?_); rintro ⟨y, _⟩ hy)
    | ((with_reducible refine EvP.bind (impl_isName_ev _ ?_) ?_); (· first | exact hs.2.2.1 | exact hs.2.2.2); rintro ⟨y, _⟩ hy))

def GoodE : List TStep.D → Int → Prop
  | [], n => n = 1
  | s :: r, n => GoodStep s ∧ (if (3 : Int) ≤ s.1 ∧ s.1 ≤ (7 : Int) then 2 ≤ n ∧ GoodE r (n - 1) else if s.1 = (8 : Int) then 1 ≤ n ∧ GoodE r n else GoodE r (n + 1))

theorem spec_l5Good_ev (l : List TStep.D) (hf : Fit (.slice TStep) l) : EvP (fun k => spec_l5Good.f k (l, ())) (fun y => y.1 = true ↔ GoodE l 0 ∧ l.length ≤ 40) := by
  have hs : l.length ≤ 1048576 := hf.1
  have loop := EvP.loop (L := spec_l5Good.l1) (Q := fun y => y.1 = true ↔ GoodE l 0 ∧ l.length ≤ 40) (fun j s => ∃ (i : Nat) (n : Int), s = (l, n, l, (l.length : Int), (i : Int), ()) ∧ i ≤ l.length ∧ j = l.length - i ∧ -(i : Int) ≤ n ∧ n ≤ i ∧ (GoodE l 0 ↔ GoodE (l.drop i) n)) ?_
  · simp only [spec_l5Good.f]
    exact loop _ _ ⟨0, 0, rfl, Nat.zero_le _, rfl, by omega, by omega, Iff.rfl⟩
  · rintro j _ ⟨i, n, rfl, hi, rfl, h0, h1, hg⟩ ih
    have e1 : (n - 1 + 9223372036854775808) % 18446744073709551616 - 9223372036854775808 = n - 1 := by omega
    have e2 : (n + 1 + 9223372036854775808) % 18446744073709551616 - 9223372036854775808 = n + 1 := by omega
    have e3 : ((i : Int) + 1 + 9223372036854775808) % 18446744073709551616 - 9223372036854775808 = ((i + 1 : Nat) : Int) := by omega
    simp only [spec_l5Good.l1, decide_eq_true_eq, Int.toNat_natCast, w64, IntKind.wrap_i64, Bool.not_eq_true', decide_eq_false_iff_not, beq_iff_eq, bne_iff_ne, ne_eq, e1, e2, e3]
    refine EvP.ite (fun hlt => EvP.pos (by omega) (EvP.pos (by omega) ?_)) (fun hge => ?_)
    · have hil : i < l.length := by omega
      have hd : l.drop i = rdT TStep l i :: l.drop (i + 1) := by rw [List.drop_eq_getElem_cons hil, rdT_get hil]
      rw [hd] at hg
      simp only [GoodE] at hg
      have hno : ¬ GoodE l 0 → (((false, ()) : Bool × Unit).1 = true ↔ GoodE l 0 ∧ l.length ≤ 40) := fun h => ⟨fun e => (by cases e), fun e => absurd e.1 h⟩
      have hgo : ∀ m : Int, (GoodE l 0 ↔ GoodE (l.drop (i + 1)) m) → -((i + 1 : Nat) : Int) ≤ m → m ≤ ((i + 1 : Nat) : Int) → EvP (fun k => spec_l5Good.l1 k (l, m, l, (l.length : Int), ((i + 1 : Nat) : Int), ())) (fun y => y.1 = true ↔ GoodE l 0 ∧ l.length ≤ 40) := fun m h a b =>
        ih (l.length - (i + 1)) _ (by omega) ⟨i + 1, m, rfl, by omega, rfl, a, b, h⟩
      refine EvP.bind (spec_l5Step_ev _ (hf.2 _ (rdT_mem hil))) ?_
      rintro ⟨y, _⟩ hy
      simp only at hy
      refine EvP.ite (fun h => EvP.ret (hno fun e => ?_)) (fun h => ?_)
      · have := hy.2 (hg.1 e).1
        simp_all
      have hst : GoodStep (rdT TStep l i) := hy.1 (by simpa using h)
      have hk : (rdT TStep l i).1 = (1 : Int) ∨ (rdT TStep l i).1 = (2 : Int) ∨ ((3 : Int) ≤ (rdT TStep l i).1 ∧ (rdT TStep l i).1 ≤ (8 : Int)) := by
        unfold GoodStep GoodS at hst
        split at hst
        · exact .inl ‹_›
        · split at hst
          · exact .inr (.inl ‹_›)
          · exact .inr (.inr ⟨hst.1, hst.2.1⟩)
      clear hy h
      simp only [hst, true_and] at hg
      clear hst
      revert hg hk
      generalize (rdT TStep l i).1 = kind0
      intro hk hg
      change Int at kind0
      dsimp only [Ty.D] at hk hg ⊢
      have hcase : ((3 : Int) ≤ kind0 ∧ kind0 ≤ (7 : Int) ∧ (GoodE l 0 ↔ 2 ≤ n ∧ GoodE (l.drop (i + 1)) (n - 1))) ∨ (kind0 = (8 : Int) ∧ (GoodE l 0 ↔ 1 ≤ n ∧ GoodE (l.drop (i + 1)) n)) ∨ (kind0 ≤ (2 : Int) ∧ (GoodE l 0 ↔ GoodE (l.drop (i + 1)) (n + 1))) := by
        rcases hk with hk | hk | hk
        · right; right
          subst hk
          exact ⟨by decide, by simpa using hg⟩
        · right; right
          subst hk
          exact ⟨by decide, by simpa using hg⟩
        · by_cases h8 : kind0 = (8 : Int)
          · right; left
            subst h8
            exact ⟨rfl, by simpa using hg⟩
          · left
            rw [if_pos ⟨hk.1, by omega⟩] at hg
            exact ⟨hk.1, by omega, hg⟩
      clear hg hk
      rcases hcase with ⟨ha, hb, hg⟩ | ⟨ha, hg⟩ | ⟨ha, hg⟩
      all_goals
        repeat' (first
          | (exfalso; omega)
          | (refine EvP.ite (fun _ => ?_) (fun _ => ?_))
          | ((with_reducible refine EvP.bind (l5Two_ev _) ?_); rintro ⟨z, _⟩ hz; simp only at hz; subst hz; simp only [decide_eq_true_eq])
          | (exact EvP.ret (hno fun e => by have := (hg.1 e).1; omega))
          | (exact hgo _ (hg.trans ⟨fun h => h.2, fun h => ⟨by omega, h⟩⟩) (by omega) (by omega))
          | (exact hgo _ hg (by omega) (by omega)))
    · have hdd : l.drop i = [] := List.drop_eq_nil_of_le (by omega)
      rw [hdd] at hg
      simp only [GoodE] at hg
      repeat' (first
        | (refine EvP.ite (fun _ => ?_) (fun _ => ?_))
        | (refine EvP.ret ?_; simp_all <;> omega))

theorem impl_isExpr_ev (l : List TStep.D) (hf : Fit (.slice TStep) l) : EvP (fun k => impl_isExpr.f k (l, ())) (fun y => y.1 = true ↔ GoodE l 0 ∧ l.length ≤ 40) := by
  have hs : l.length ≤ 1048576 := hf.1
  have loop := EvP.loop (L := impl_isExpr.l1) (Q := fun y => y.1 = true ↔ GoodE l 0 ∧ l.length ≤ 40) (fun j s => ∃ (i : Nat) (n : Int), s = (l, n, l, (l.length : Int), (i : Int), ()) ∧ i ≤ l.length ∧ j = l.length - i ∧ -(i : Int) ≤ n ∧ n ≤ i ∧ (GoodE l 0 ↔ GoodE (l.drop i) n)) ?_
  · simp only [impl_isExpr.f]
    exact loop _ _ ⟨0, 0, rfl, Nat.zero_le _, rfl, by omega, by omega, Iff.rfl⟩
  · rintro j _ ⟨i, n, rfl, hi, rfl, h0, h1, hg⟩ ih
    have e1 : (n - 1 + 9223372036854775808) % 18446744073709551616 - 9223372036854775808 = n - 1 := by omega
    have e2 : (n + 1 + 9223372036854775808) % 18446744073709551616 - 9223372036854775808 = n + 1 := by omega
    have e3 : ((i : Int) + 1 + 9223372036854775808) % 18446744073709551616 - 9223372036854775808 = ((i + 1 : Nat) : Int) := by omega
    simp only [impl_isExpr.l1, decide_eq_true_eq, Int.toNat_natCast, w64, IntKind.wrap_i64, Bool.not_eq_true', decide_eq_false_iff_not, beq_iff_eq, bne_iff_ne, ne_eq, e1, e2, e3]
    refine EvP.ite (fun hlt => EvP.pos (by omega) (EvP.pos (by omega) ?_)) (fun hge => ?_)
    · have hil : i < l.length := by omega
      have hd : l.drop i = rdT TStep l i :: l.drop (i + 1) := by rw [List.drop_eq_getElem_cons hil, rdT_get hil]
      rw [hd] at hg
      simp only [GoodE] at hg
      have hno : ¬ GoodE l 0 → (((false, ()) : Bool × Unit).1 = true ↔ GoodE l 0 ∧ l.length ≤ 40) := fun h => ⟨fun e => (by cases e), fun e => absurd e.1 h⟩
      have hgo : ∀ m : Int, (GoodE l 0 ↔ GoodE (l.drop (i + 1)) m) → -((i + 1 : Nat) : Int) ≤ m → m ≤ ((i + 1 : Nat) : Int) → EvP (fun k => impl_isExpr.l1 k (l, m, l, (l.length : Int), ((i + 1 : Nat) : Int), ())) (fun y => y.1 = true ↔ GoodE l 0 ∧ l.length ≤ 40) := fun m h a b =>
        ih (l.length - (i + 1)) _ (by omega) ⟨i + 1, m, rfl, by omega, rfl, a, b, h⟩
      refine EvP.bind (impl_Step_isStep_ev _ (hf.2 _ (rdT_mem hil))) ?_
      rintro ⟨y, _⟩ hy
      simp only at hy
      refine EvP.ite (fun h => EvP.ret (hno fun e => ?_)) (fun h => ?_)
      · have := hy.2 (hg.1 e).1
        simp_all
      have hst : GoodStep (rdT TStep l i) := hy.1 (by simpa using h)
      have hk : (rdT TStep l i).1 = (1 : Int) ∨ (rdT TStep l i).1 = (2 : Int) ∨ ((3 : Int) ≤ (rdT TStep l i).1 ∧ (rdT TStep l i).1 ≤ (8 : Int)) := by
        unfold GoodStep GoodS at hst
        split at hst
        · exact .inl ‹_›
        · split at hst
          · exact .inr (.inl ‹_›)
          · exact .inr (.inr ⟨hst.1, hst.2.1⟩)
      clear hy h
      simp only [hst, true_and] at hg
      clear hst
      revert hg hk
      generalize (rdT TStep l i).1 = kind0
      intro hk hg
      change Int at kind0
      dsimp only [Ty.D] at hk hg ⊢
      have hcase : ((3 : Int) ≤ kind0 ∧ kind0 ≤ (7 : Int) ∧ (GoodE l 0 ↔ 2 ≤ n ∧ GoodE (l.drop (i + 1)) (n - 1))) ∨ (kind0 = (8 : Int) ∧ (GoodE l 0 ↔ 1 ≤ n ∧ GoodE (l.drop (i + 1)) n)) ∨ (kind0 ≤ (2 : Int) ∧ (GoodE l 0 ↔ GoodE (l.drop (i + 1)) (n + 1))) := by
        rcases hk with hk | hk | hk
        · right; right
          subst hk
          exact ⟨by decide, by simpa using hg⟩
        · right; right
          subst hk
          exact ⟨by decide, by simpa using hg⟩
        · by_cases h8 : kind0 = (8 : Int)
          · right; left
            subst h8
            exact ⟨rfl, by simpa using hg⟩
          · left
            rw [if_pos ⟨hk.1, by omega⟩] at hg
            exact ⟨hk.1, by omega, hg⟩
      clear hg hk
      rcases hcase with ⟨ha, hb, hg⟩ | ⟨ha, hg⟩ | ⟨ha, hg⟩
      all_goals
        repeat' (first
          | (exfalso; omega)
          | (refine EvP.ite (fun _ => ?_) (fun _ => ?_))
          | (exact EvP.ret (hno fun e => by have := (hg.1 e).1; omega))
          | (exact hgo _ (hg.trans ⟨fun h => h.2, fun h => ⟨by omega, h⟩⟩) (by omega) (by omega))
          | (exact hgo _ hg (by omega) (by omega)))
    · have hdd : l.drop i = [] := List.drop_eq_nil_of_le (by omega)
      rw [hdd] at hg
      simp only [GoodE] at hg
      repeat' (first
        | (refine EvP.ite (fun _ => ?_) (fun _ => ?_))
        | (refine EvP.ret ?_; simp_all <;> omega))

def Whole (a : Int) : Prop := -1000000000 ≤ a ∧ a ≤ 1000000000
def KnownOk (l : List TKnown.D) : Prop := ∀ p < l.length, Whole (rdT TKnown l p).2.2

theorem spec_l5Known_ev (l : List TKnown.D) (hf : Fit (.slice TKnown) l) : EvP (fun k => spec_l5Known.f k (l, ())) (fun y => y.1 = true ↔ KnownOk l ∧ l.length ≤ 40) := by
  have hs : l.length ≤ 1048576 := hf.1
  have loop := EvP.loop (L := spec_l5Known.l1) (Q := fun y => y.1 = true ↔ KnownOk l ∧ l.length ≤ 40) (fun j s => ∃ (i : Nat), s = (l, l, (l.length : Int), (i : Int), ()) ∧ i ≤ l.length ∧ j = l.length - i ∧ ∀ p < i, Whole (rdT TKnown l p).2.2) ?_
  · simp only [spec_l5Known.f]
    exact loop _ _ ⟨0, rfl, Nat.zero_le _, rfl, fun p hp => absurd hp (Nat.not_lt_zero _)⟩
  · rintro j _ ⟨i, rfl, hi, rfl, hg⟩ ih
    have e3 : ((i : Int) + 1 + 9223372036854775808) % 18446744073709551616 - 9223372036854775808 = ((i + 1 : Nat) : Int) := by omega
    simp only [spec_l5Known.l1, decide_eq_true_eq, Int.toNat_natCast, w64, IntKind.wrap_i64, e3]
    refine EvP.ite (fun hlt => EvP.pos (by omega) (EvP.pos (by omega) ?_)) (fun hge => EvP.ret ?_)
    · refine EvP.bind (l1In_ev _ _ _) ?_
      rintro ⟨y, _⟩ hy
      simp only at hy
      refine EvP.ite (fun h => EvP.ret ⟨fun e => (by cases e), fun e => ?_⟩) (fun h => ?_)
      · have := e.1 i (by omega)
        simp [hy, Whole] at h this
        omega
      · refine ih (l.length - (i + 1)) _ (by omega) ⟨i + 1, rfl, by omega, rfl, fun p hp => ?_⟩
        rcases Nat.lt_or_ge p i with h2 | h2
        · exact hg p h2
        · obtain rfl : p = i := by omega
          have : y = true := by simpa using h
          rw [this] at hy
          exact (of_decide_eq_true hy.symm : -1000000000 ≤ (rdT TKnown l p).2.2 ∧ (rdT TKnown l p).2.2 ≤ (1000000000 : Int))
    · simp only [decide_eq_true_eq]
      exact ⟨fun h => ⟨fun p hp => hg p (by omega), by omega⟩, fun h => by have := h.2; omega⟩

theorem areKnown_1_ev (x : TKnown.D) : EvP (fun k => impl_areKnown_1.f k (x, ())) (fun y => y.1 = true ↔ ¬ Whole x.2.2) := by
  simp only [impl_areKnown_1.f]
  refine EvP.bind (isWhole_ev _) ?_
  rintro ⟨y, _⟩ hy
  refine EvP.ret ?_
  simp only at hy
  subst hy
  simp [Whole]
  omega

theorem areKnown_find (l : List TKnown.D) (hf : Fit (.slice TKnown) l) : EvP (fun k => slices_IndexFunc_impl_Known_impl_Known.f k (l, (), ())) (fun y => 0 ≤ y.1 ↔ ¬ KnownOk l) := by
  have hs : l.length ≤ 1048576 := hf.1
  have loop := EvP.loop (L := slices_IndexFunc_impl_Known_impl_Known.l1) (Q := fun y => 0 ≤ y.1 ↔ ¬ KnownOk l) (fun j s => ∃ (i : Nat), s = (l, (), (l.length : Int), (i : Int), ()) ∧ i ≤ l.length ∧ j = l.length - i ∧ ∀ p < i, Whole (rdT TKnown l p).2.2) ?_
  · simp only [slices_IndexFunc_impl_Known_impl_Known.f]
    exact loop _ _ ⟨0, rfl, Nat.zero_le _, rfl, fun p hp => absurd hp (Nat.not_lt_zero _)⟩
  · rintro j _ ⟨i, rfl, hi, rfl, hg⟩ ih
    have e3 : ((i : Int) + 1 + 9223372036854775808) % 18446744073709551616 - 9223372036854775808 = ((i + 1 : Nat) : Int) := by omega
    simp only [slices_IndexFunc_impl_Known_impl_Known.l1, decide_eq_true_eq, Int.toNat_natCast, w64, IntKind.wrap_i64, e3]
    refine EvP.ite (fun hlt => EvP.pos (by omega) (EvP.pos (by omega) ?_)) (fun hge => EvP.ret ?_)
    · refine EvP.bind (areKnown_1_ev _) ?_
      rintro ⟨y, _⟩ hy
      simp only at hy
      refine EvP.ite (fun h => EvP.ret ⟨fun _ hk => hy.1 h (hk i (by omega)), fun _ => ?_⟩) (fun h => ?_)
      · show (0 : Int) ≤ (i : Int)
        omega
      · refine ih (l.length - (i + 1)) _ (by omega) ⟨i + 1, rfl, by omega, rfl, fun p hp => ?_⟩
        rcases Nat.lt_or_ge p i with h2 | h2
        · exact hg p h2
        · obtain rfl : p = i := by omega
          exact Classical.byContradiction fun e => h (hy.2 e)
    · exact ⟨fun h => absurd (show (0 : Int) ≤ -1 from h) (by decide), fun h => absurd (fun p hp => hg p (by omega)) h⟩

theorem areKnown_ev (l : List TKnown.D) (hf : Fit (.slice TKnown) l) : EvP (fun k => impl_areKnown.f k (l, ())) (fun y => y.1 = true ↔ KnownOk l ∧ l.length ≤ 40) := by
  simp only [impl_areKnown.f, slices_ContainsFunc_impl_Known_impl_Known.f, decide_eq_true_eq]
  refine EvP.ite (fun h => ?_) (fun h => EvP.ret ⟨fun e => (by cases e), fun e => absurd e.2 (by omega)⟩)
  have hc : EvP (fun k => (slices_IndexFunc_impl_Known_impl_Known.f k (l, (), ())).bind fun y1 => (some (decide (y1.1 ≥ (0 : Int)), ()) : Option (Bool × Unit))) (fun y => y.1 = true ↔ ¬ KnownOk l) := by
    refine EvP.bind (areKnown_find l hf) ?_
    rintro ⟨y, _⟩ hy
    refine EvP.ret ?_
    simpa using hy
  refine EvP.bind hc ?_
  · rintro ⟨y, _⟩ hy
    refine EvP.ret ?_
    simp only at hy
    have : l.length ≤ 40 := by omega
    cases y <;> simp_all

instance (a : Int) : Decidable (Whole a) := inferInstanceAs (Decidable (_ ∧ _))

def floorQ (a b : Int) : Int := if Int.tmod a b ≠ 0 ∧ ¬ (a < 0 ↔ b < 0) then Int.tdiv a b - 1 else Int.tdiv a b

def opV (k a b : Int) : Int :=
  if k = 3 then a + b else if k = 4 then a - b else if k = 5 then a * b else if k = 6 then floorQ a b else a - b * floorQ a b

def findK : List TKnown.D → ByteArray → ByteArray → Option Int
  | [], _, _ => none
  | p :: r, m, n => if p.1 = m ∧ p.2.1 = n then some p.2.2 else findK r m n

def evalM (K : List TKnown.D) : List TStep.D → List Int → Int × Int
  | [], S => (rdT (.int .i64) S.reverse 0, 0)
  | s :: r, S =>
    if s.1 = (1 : Int) then evalM K r (s.2.1 :: S)
    else if s.1 = (2 : Int) then match findK K s.2.2.1 s.2.2.2 with
      | none => (0, 1)
      | some v => evalM K r (v :: S)
    else match S with
      | [] => (0, 0)
      | b :: S1 => if s.1 = (8 : Int) then evalM K r (-b :: S1) else match S1 with
        | [] => (0, 0)
        | a :: S2 => if b = 0 ∧ (s.1 = (6 : Int) ∨ s.1 = (7 : Int)) then (0, 2) else if Whole (opV s.1 a b) then evalM K r (opV s.1 a b :: S2) else (0, 3)

theorem tdiv_bound {a b : Int} (ha : Whole a) : Whole (Int.tdiv a b) := by
  unfold Whole at *
  have h1 := Int.natAbs_tdiv a b
  have h2 : a.natAbs / b.natAbs ≤ a.natAbs := Nat.div_le_self _ _
  have h3 : (a.tdiv b).natAbs ≤ a.natAbs := h1 ▸ h2
  omega

theorem tmod_sign {a b : Int} (h : Int.tmod a b ≠ 0) : Int.tmod a b < 0 ↔ a < 0 := by
  rcases Int.lt_or_le a 0 with h0 | h0
  · have h1 := Int.tmod_nonneg (a := -a) b (by omega)
    rw [Int.neg_tmod] at h1
    omega
  · have := Int.tmod_nonneg (a := a) b h0
    omega

theorem tmod_bound {a b : Int} (hb : Whole b) (h : b ≠ 0) : (Int.tmod a b).natAbs < b.natAbs := by
  have h1 := Int.natAbs_tmod a b
  rw [h1]
  exact Nat.mod_lt _ (by omega)

theorem floorQ_eq (a b : Int) : b * floorQ a b = a - (if Int.tmod a b ≠ 0 ∧ ¬ (a < 0 ↔ b < 0) then Int.tmod a b + b else Int.tmod a b) := by
  have h3 : b * Int.tdiv a b + Int.tmod a b = a := Int.mul_tdiv_add_tmod a b
  unfold floorQ
  split
  · rw [Int.mul_sub]; omega
  · omega

theorem floorQ_bound {a b : Int} (ha : Whole a) (hb : Whole b) (h : b ≠ 0) : -1000000001 ≤ floorQ a b ∧ floorQ a b ≤ 1000000000 ∧ -1000000000 ≤ b * floorQ a b - a ∧ b * floorQ a b - a ≤ 1000000000 := by
  have h1 := tdiv_bound (b := b) ha
  have h2 := tmod_bound (a := a) hb h
  rw [floorQ_eq]
  have hs := @tmod_sign a b
  unfold Whole at *
  unfold floorQ
  split <;> omega

theorem quotient_ev (a b : Int) (ha : Whole a) (hb : Whole b) (h : b ≠ 0) : EvP (fun k => impl_quotient.f k (a, b, ())) (· = (floorQ a b, a - b * floorQ a b, ())) := by
  have h1 := tdiv_bound (b := b) ha
  have h2 := tmod_bound (a := a) hb h
  have hs := @tmod_sign a b
  rw [floorQ_eq]
  unfold Whole at *
  have e1 : w64 (Int.tdiv a b) = Int.tdiv a b := w64_id (by omega) (by omega)
  have e2 : w64 (Int.tdiv a b - 1) = Int.tdiv a b - 1 := w64_id (by omega) (by omega)
  have e3 : w64 (Int.tmod a b + b) = Int.tmod a b + b := w64_id (by omega) (by omega)
  simp only [impl_quotient.f, e1, e2, e3, bne_iff_ne, Bool.not_eq_true', beq_eq_false_iff_ne, ne_eq, decide_eq_decide]
  refine EvP.pos h (EvP.pos h ?_)
  unfold floorQ
  refine EvP.ite (fun hm => EvP.ite (fun hd => EvP.ret ?_) (fun hd => EvP.ret ?_)) (fun hm => EvP.ret ?_)
  · rw [hs hm] at hd
    rw [if_pos ⟨hm, hd⟩, if_pos ⟨hm, hd⟩]
    congr 2
    omega
  · rw [hs hm] at hd
    rw [if_neg (fun e => hd e.2), if_neg (fun e => hd e.2)]
    congr 2
    omega
  · rw [if_neg (fun e => hm e.1), if_neg (fun e => hm e.1)]
    congr 2
    omega

theorem l5Floor_ev (a b : Int) (ha : Whole a) (hb : Whole b) (h : b ≠ 0) : EvP (fun k => spec_l5Floor.f k (a, b, ())) (· = (floorQ a b, ())) := by
  have h1 := tdiv_bound (b := b) ha
  unfold Whole at *
  have e1 : w64 (Int.tdiv a b) = Int.tdiv a b := w64_id (by omega) (by omega)
  have e2 : w64 (Int.tdiv a b - 1) = Int.tdiv a b - 1 := w64_id (by omega) (by omega)
  simp only [spec_l5Floor.f, e1, e2, bne_iff_ne, Bool.not_eq_true', beq_eq_false_iff_ne, ne_eq, decide_eq_decide]
  refine EvP.pos h (EvP.pos h ?_)
  unfold floorQ
  refine EvP.ite (fun hm => EvP.ite (fun hd => EvP.ret ?_) (fun hd => EvP.ret ?_)) (fun hm => EvP.ret ?_)
  · rw [if_pos ⟨hm, hd⟩]
  · rw [if_neg (fun e => hd e.2)]
  · rw [if_neg (fun e => hm e.1)]

theorem mul_bound {a b : Int} (ha : Whole a) (hb : Whole b) : -1000000000000000000 ≤ a * b ∧ a * b ≤ 1000000000000000000 := by
  unfold Whole at *
  have h := Int.natAbs_mul a b
  have h2 : a.natAbs * b.natAbs ≤ 1000000000 * 1000000000 := Nat.mul_le_mul (by omega) (by omega)
  rw [← h] at h2
  omega

theorem opV_bound {k a b : Int} (ha : Whole a) (hb : Whole b) (hk : 3 ≤ k) (h : b ≠ 0 ∨ k < 6) : -1000000000000000001 ≤ opV k a b ∧ opV k a b ≤ 1000000000000000000 := by
  have hm := mul_bound ha hb
  unfold opV
  split
  · unfold Whole at *; omega
  · split
    · unfold Whole at *; omega
    · split
      · omega
      · have := fun h => floorQ_bound ha hb h
        unfold Whole at *
        split <;> omega

theorem l5Do_ev (k a b : Int) (ha : Whole a) (hb : Whole b) (hk : 3 ≤ k ∧ k ≤ 7) (h : b ≠ 0 ∨ k < 6) : EvP (fun j => spec_l5Do.f j (k, a, b, ())) (· = (opV k a b, ())) := by
  have hv := opV_bound ha hb hk.1 h
  have hm := mul_bound ha hb
  simp only [spec_l5Do.f, beq_iff_eq]
  refine EvP.ite (fun h3 => EvP.ret ?_) (fun h3 => EvP.ite (fun h4 => EvP.ret ?_) (fun h4 => EvP.ite (fun h5 => EvP.ret ?_) (fun h5 => EvP.ite (fun h6 => ?_) (fun h6 => ?_))))
  · subst h3
    rw [w64_id (by unfold Whole at *; omega) (by unfold Whole at *; omega)]; simp [opV]
  · subst h4
    rw [w64_id (by unfold Whole at *; omega) (by unfold Whole at *; omega)]; simp [opV]
  · subst h5
    rw [w64_id (by omega) (by omega)]; simp [opV]
  · subst h6
    refine EvP.bind (l5Floor_ev a b ha hb (by omega)) ?_
    rintro _ rfl
    exact EvP.ret (by simp [opV])
  · refine EvP.bind (l5Floor_ev a b ha hb (by omega)) ?_
    rintro _ rfl
    have hf := floorQ_bound ha hb (by omega)
    refine EvP.ret ?_
    simp only
    unfold Whole at ha hb
    rw [w64_id (x := b * floorQ a b) (by omega) (by omega), w64_id (by omega) (by omega)]
    simp [opV, h3, h4, h5, h6]

/-! ### The two loops -/

theorem rdT_last {t : Ty} (b : t.D) (S : List t.D) : rdT t (b :: S).reverse S.length = b := by
  simp [rdT, List.getD]

theorem rdT_last2 {t : Ty} (b a : t.D) (S : List t.D) : rdT t (b :: a :: S).reverse S.length = a := by
  simp [rdT, List.getD, List.getElem?_append]

theorem take_rev {α : Type} (b a : α) (S : List α) : (b :: a :: S).reverse.take S.length = S.reverse := by
  simp

theorem set_rev {α : Type} (b v : α) (S : List α) : (b :: S).reverse.set S.length v = (v :: S).reverse := by
  simp

theorem find_ev (l : List TKnown.D) (s : TStep.D) (hf : Fit (.slice TKnown) l) : EvP (fun k => slices_IndexFunc_impl_Known_impl_Known_2.f k (l, (s, ()), ()))
    (fun y => (y.1 < 0 ∧ findK l s.2.2.1 s.2.2.2 = none) ∨ ∃ i : Nat, y.1 = (i : Int) ∧ i < l.length ∧ findK l s.2.2.1 s.2.2.2 = some (rdT TKnown l i).2.2) := by
  have hs : l.length ≤ 1048576 := hf.1
  have loop := EvP.loop (L := slices_IndexFunc_impl_Known_impl_Known_2.l1) (Q := fun y => (y.1 < 0 ∧ findK l s.2.2.1 s.2.2.2 = none) ∨ ∃ i : Nat, y.1 = (i : Int) ∧ i < l.length ∧ findK l s.2.2.1 s.2.2.2 = some (rdT TKnown l i).2.2)
    (fun j st => ∃ (i : Nat), st = (l, (s, ()), (l.length : Int), (i : Int), ()) ∧ i ≤ l.length ∧ j = l.length - i ∧ findK l s.2.2.1 s.2.2.2 = findK (l.drop i) s.2.2.1 s.2.2.2) ?_
  · simp only [slices_IndexFunc_impl_Known_impl_Known_2.f]
    exact loop _ _ ⟨0, rfl, Nat.zero_le _, rfl, rfl⟩
  · rintro j _ ⟨i, rfl, hi, rfl, hg⟩ ih
    have e3 : ((i : Int) + 1 + 9223372036854775808) % 18446744073709551616 - 9223372036854775808 = ((i + 1 : Nat) : Int) := by omega
    simp only [slices_IndexFunc_impl_Known_impl_Known_2.l1, decide_eq_true_eq, Int.toNat_natCast, w64, IntKind.wrap_i64, e3, impl_eval_1.f, beq_iff_eq, toList_eq]
    refine EvP.ite (fun hlt => EvP.pos (by omega) (EvP.pos (by omega) ?_)) (fun hge => EvP.ret ?_)
    · have hil : i < l.length := by omega
      have hd : l.drop i = rdT TKnown l i :: l.drop (i + 1) := by rw [List.drop_eq_getElem_cons hil, rdT_get hil]
      rw [hd] at hg
      simp only [findK] at hg
      have hgo : ¬ ((rdT TKnown l i).1 = s.2.2.1 ∧ (rdT TKnown l i).2.1 = s.2.2.2) → EvP (fun k => slices_IndexFunc_impl_Known_impl_Known_2.l1 k (l, (s, ()), (l.length : Int), ((i + 1 : Nat) : Int), ())) (fun y => (y.1 < 0 ∧ findK l s.2.2.1 s.2.2.2 = none) ∨ ∃ i : Nat, y.1 = (i : Int) ∧ i < l.length ∧ findK l s.2.2.1 s.2.2.2 = some (rdT TKnown l i).2.2) := fun hne =>
        ih (l.length - (i + 1)) _ (by omega) ⟨i + 1, rfl, by omega, rfl, by rw [hg, if_neg hne]⟩
      have hc : EvP (fun k => if (rdT TKnown l i).1 = s.2.2.1 then (some (((rdT TKnown l i).2.1.toList == s.2.2.2.toList), ()) : Option (Bool × Unit)) else some (false, ())) (fun y => y.1 = true ↔ ((rdT TKnown l i).1 = s.2.2.1 ∧ (rdT TKnown l i).2.1 = s.2.2.2)) := by
        refine EvP.ite (fun h1 => EvP.ret ?_) (fun h1 => EvP.ret ?_)
        · simp [h1, toList_eq]
        · simp [h1]
      refine EvP.bind hc ?_
      rintro ⟨y, _⟩ hy
      refine EvP.ite (fun h => EvP.ret (.inr ⟨i, rfl, hil, ?_⟩)) (fun h => hgo fun e => h (hy.2 e))
      rw [hg, if_pos (hy.1 h)]
    · left
      rw [hg, List.drop_eq_nil_of_le (by omega)]
      exact ⟨by show (-1 : Int) < 0; decide, rfl⟩

theorem findK_whole (K : List TKnown.D) (hK : KnownOk K) {i : Nat} (hi : i < K.length) : Whole (rdT TKnown K i).2.2 := hK i hi

theorem good_kind {s : TStep.D} (h : GoodStep s) : (s.1 = (1 : Int) ∧ (0 : Int) ≤ s.2.1 ∧ s.2.1 ≤ (1000000000 : Int)) ∨ s.1 = (2 : Int) ∨ ((3 : Int) ≤ s.1 ∧ s.1 ≤ (8 : Int)) := by
  unfold GoodStep GoodS at h
  split at h
  · exact .inl ⟨‹_›, h.1, h.2.1⟩
  · split at h
    · exact .inr (.inl ‹_›)
    · exact .inr (.inr ⟨h.1, h.2.1⟩)

def Inv (K : List TKnown.D) (l : List TStep.D) (i : Nat) (S : List Int) : Prop :=
  i ≤ l.length ∧ evalM K l [] = evalM K (l.drop i) S ∧ S.length ≤ i ∧ (∀ x ∈ S, Whole x) ∧ GoodE (l.drop i) S.length

theorem inv_num {K : List TKnown.D} {l : List TStep.D} {i : Nat} {S : List Int} (hi : i < l.length) (h : Inv K l i S) (hk : (rdT TStep l i).1 = (1 : Int)) : Inv K l (i + 1) ((rdT TStep l i).2.1 :: S) := by
  obtain ⟨_, h2, h3, h4, h5⟩ := h
  have hd : l.drop i = rdT TStep l i :: l.drop (i + 1) := by rw [List.drop_eq_getElem_cons hi, rdT_get hi]
  rw [hd] at h2 h5
  simp only [evalM, GoodE, hk] at h2 h5
  refine ⟨by omega, by simpa using h2, by simp; omega, fun x hx => ?_, ?_⟩
  · rcases List.mem_cons.1 hx with rfl | hx
    · rcases good_kind h5.1 with ⟨_, h6, h7⟩ | h | h
      · exact ⟨by omega, h7⟩
      · rw [hk] at h; cases h
      · rw [hk] at h; exact absurd h.1 (by decide)
    · exact h4 x hx
  · have := h5.2
    simp at this
    simpa using this

theorem inv_name {K : List TKnown.D} {l : List TStep.D} {i : Nat} {S : List Int} {v : Int} (hi : i < l.length) (h : Inv K l i S) (hk : (rdT TStep l i).1 = (2 : Int)) (hf : findK K (rdT TStep l i).2.2.1 (rdT TStep l i).2.2.2 = some v) (hv : Whole v) : Inv K l (i + 1) (v :: S) := by
  obtain ⟨_, h2, h3, h4, h5⟩ := h
  have hd : l.drop i = rdT TStep l i :: l.drop (i + 1) := by rw [List.drop_eq_getElem_cons hi, rdT_get hi]
  rw [hd] at h2 h5
  simp only [evalM, GoodE, hk, hf] at h2 h5
  refine ⟨by omega, by simpa using h2, by simp; omega, fun x hx => ?_, ?_⟩
  · rcases List.mem_cons.1 hx with rfl | hx
    · exact hv
    · exact h4 x hx
  · have := h5.2
    simp at this
    simpa using this

theorem inv_neg {K : List TKnown.D} {l : List TStep.D} {i : Nat} {S : List Int} (hi : i < l.length) (h : Inv K l i S) (hk : (rdT TStep l i).1 = (8 : Int)) : ∃ b S1, S = b :: S1 ∧ Whole b ∧ Inv K l (i + 1) (-b :: S1) := by
  obtain ⟨_, h2, h3, h4, h5⟩ := h
  have hd : l.drop i = rdT TStep l i :: l.drop (i + 1) := by rw [List.drop_eq_getElem_cons hi, rdT_get hi]
  rw [hd] at h2 h5
  simp only [GoodE, hk] at h5
  match S, h2, h3, h4, h5 with
  | [], h2, h3, h4, h5 =>
    have := h5.2
    simp at this
  | b :: S1, h2, h3, h4, h5 =>
    have hb := h4 b (by simp)
    refine ⟨b, S1, rfl, hb, by omega, ?_, by simpa using Nat.le_succ_of_le h3, fun x hx => ?_, ?_⟩
    · simp only [evalM, hk] at h2
      simpa using h2
    · rcases List.mem_cons.1 hx with rfl | hx
      · unfold Whole at *; omega
      · exact h4 x (by simp [hx])
    · have := h5.2
      simp at this
      simpa using this.2

theorem inv_op {K : List TKnown.D} {l : List TStep.D} {i : Nat} {S : List Int} (hi : i < l.length) (h : Inv K l i S) (hk : (3 : Int) ≤ (rdT TStep l i).1 ∧ (rdT TStep l i).1 ≤ (7 : Int)) : ∃ b a S2, S = b :: a :: S2 ∧ Whole a ∧ Whole b ∧
    ((b = 0 ∧ ((rdT TStep l i).1 = (6 : Int) ∨ (rdT TStep l i).1 = (7 : Int))) → evalM K l [] = (0, 2)) ∧
    (¬ (b = 0 ∧ ((rdT TStep l i).1 = (6 : Int) ∨ (rdT TStep l i).1 = (7 : Int))) → ¬ Whole (opV (rdT TStep l i).1 a b) → evalM K l [] = (0, 3)) ∧
    (¬ (b = 0 ∧ ((rdT TStep l i).1 = (6 : Int) ∨ (rdT TStep l i).1 = (7 : Int))) → Whole (opV (rdT TStep l i).1 a b) → Inv K l (i + 1) (opV (rdT TStep l i).1 a b :: S2)) := by
  obtain ⟨_, h2, h3, h4, h5⟩ := h
  have hd : l.drop i = rdT TStep l i :: l.drop (i + 1) := by rw [List.drop_eq_getElem_cons hi, rdT_get hi]
  rw [hd] at h2 h5
  revert h2 h5
  have hw : ∀ z : Int, z = (rdT TStep l i).1 → (3 : Int) ≤ z ∧ z ≤ 7 := fun z hz => hz ▸ hk
  generalize hs : rdT TStep l i = s at *
  have hz := hw s.1 rfl
  clear hw hk
  intro h2 h5
  simp only [GoodE] at h5
  rw [if_pos hz] at h5
  have n1 : ¬ s.1 = (1 : Int) := fun h => by rw [h] at hz; exact absurd hz.1 (by decide)
  have n2 : ¬ s.1 = (2 : Int) := fun h => by rw [h] at hz; exact absurd hz.1 (by decide)
  have n8 : ¬ s.1 = (8 : Int) := fun h => by rw [h] at hz; exact absurd hz.2 (by decide)
  match S, h2, h3, h4, h5 with
  | [], h2, h3, h4, h5 =>
    have := h5.2.1
    simp at this
  | [b], h2, h3, h4, h5 =>
    have := h5.2.1
    simp at this
  | b :: a :: S2, h2, h3, h4, h5 =>
    have hb := h4 b (by simp)
    have ha := h4 a (by simp)
    simp only [evalM, if_neg n1, if_neg n2, if_neg n8] at h2
    refine ⟨b, a, S2, rfl, ha, hb, fun h => ?_, fun h h' => ?_, fun h h' => ⟨by omega, ?_, ?_, fun x hx => ?_, ?_⟩⟩
    · rw [if_pos h] at h2; exact h2
    · rw [if_neg h, if_neg h'] at h2; exact h2
    · rw [if_neg h, if_pos h'] at h2; exact h2
    · simp at h3 ⊢; omega
    · rcases List.mem_cons.1 hx with rfl | hx
      · exact h'
      · exact h4 x (by simp [hx])
    · have := h5.2.2
      simp at this ⊢
      exact this

theorem inv_end {K : List TKnown.D} {l : List TStep.D} {S : List Int} (h : Inv K l l.length S) : ∃ b, S = [b] ∧ evalM K l [] = (b, 0) := by
  obtain ⟨_, h2, h3, h4, h5⟩ := h
  rw [List.drop_eq_nil_of_le (Nat.le_refl _)] at h2 h5
  simp only [GoodE] at h5
  match S, h2, h5 with
  | [b], h2, h5 => exact ⟨b, rfl, by simpa [evalM, rdT] using h2⟩
  | [], h2, h5 => simp at h5
  | a :: b :: r, h2, h5 => simp at h5; omega

theorem big_eq : big = 1099511627776 := rfl

theorem impl_eval_ev (l : List TStep.D) (K : List TKnown.D) (hl : l.length ≤ 40) (hK : KnownOk K) (hg : GoodE l 0) (hf : Fit (.slice TKnown) K) : EvP (fun k => impl_eval.f k (l, K, ())) (· = ((evalM K l []).1, (evalM K l []).2, ())) := by
  have hbig := big_eq
  have loop := EvP.loop (L := impl_eval.l1) (Q := (· = ((evalM K l []).1, (evalM K l []).2, ()))) (fun j st => ∃ (i : Nat) (S : List Int), st = (K, S.reverse, l, (l.length : Int), (i : Int), ()) ∧ j = l.length - i ∧ Inv K l i S) ?_
  · simp only [impl_eval.f]
    exact loop _ _ ⟨0, [], rfl, rfl, Nat.zero_le _, rfl, Nat.le_refl _, fun x hx => (by cases hx), by simpa using hg⟩
  · rintro j _ ⟨i, S, rfl, rfl, hI⟩ ih
    have hil' := hI.1
    have hSl := hI.2.2.1
    have e3 : w64 ((i : Int) + (1 : Int)) = ((i + 1 : Nat) : Int) := by rw [w64_id (by omega) (by omega)]; omega
    have hgo : ∀ S' : List Int, i < l.length → Inv K l (i + 1) S' → EvP (fun k => impl_eval.l1 k (K, S'.reverse, l, (l.length : Int), ((i + 1 : Nat) : Int), ())) (· = ((evalM K l []).1, (evalM K l []).2, ())) := fun S' h1 h2 => ih (l.length - (i + 1)) _ (by omega) ⟨i + 1, S', rfl, rfl, h2⟩
    simp only [impl_eval.l1, decide_eq_true_eq, Int.toNat_natCast, beq_iff_eq, e3, Bool.not_eq_true', decide_eq_false_iff_not]
    refine EvP.ite (fun hlt => EvP.pos (by omega) (EvP.pos (by omega) ?_)) (fun hge => ?_)
    · have hil : i < l.length := by omega
      refine EvP.ite (fun hk => ?_) (fun n1 => EvP.ite (fun hk => ?_) (fun n2 => EvP.ite (fun hk => ?_) (fun n8 => ?_)))
      · refine EvP.pos (by rw [List.length_reverse]; omega) ?_
        have := hgo _ hil (inv_num hil hI hk)
        rwa [List.reverse_cons] at this
      · refine EvP.bind (find_ev K _ hf) ?_
        rintro ⟨y, _⟩ (⟨hy, hn⟩ | ⟨p, hy, hp, hs⟩)
        · refine EvP.pos hy (EvP.ret ?_)
          obtain ⟨_, h2, _⟩ := hI
          have hd : l.drop i = rdT TStep l i :: l.drop (i + 1) := by rw [List.drop_eq_getElem_cons hil, rdT_get hil]
          rw [hd] at h2
          simp only [evalM, hk, hn] at h2
          simp at h2
          rw [h2]
        · simp only at hy
          subst hy
          simp only [Int.toNat_natCast]
          refine EvP.neg (by omega) (EvP.pos (by omega) (EvP.pos (by omega) (EvP.pos (by rw [List.length_reverse]; omega) ?_)))
          have := hgo _ hil (inv_name hil hI hk hs (findK_whole K hK hp))
          rwa [List.reverse_cons] at this
      · obtain ⟨b, S1, rfl, hb, hI'⟩ := inv_neg hil hI hk
        have hlen : (b :: S1).length = S1.length + 1 := rfl
        have hw : w64 (((b :: S1).reverse.length : Int) - (1 : Int)) = (S1.length : Int) := by
          rw [List.length_reverse, w64_id (by omega) (by omega)]; omega
        have hn : w64 (0 - b) = -b := by unfold Whole at hb; rw [w64_id (by omega) (by omega)]; omega
        simp only [hw, Int.toNat_natCast]
        rw [rdT_last, hn, set_rev]
        refine EvP.pos (by omega) (EvP.pos (by rw [List.length_reverse]; omega) (EvP.pos (by omega) (EvP.pos (by rw [List.length_reverse]; omega) ?_)))
        exact hgo _ hil hI'
      · have hk : (3 : Int) ≤ (rdT TStep l i).1 ∧ (rdT TStep l i).1 ≤ (7 : Int) := by
          have hd : l.drop i = rdT TStep l i :: l.drop (i + 1) := by rw [List.drop_eq_getElem_cons hil, rdT_get hil]
          have h5 := hI.2.2.2.2
          rw [hd] at h5
          rcases good_kind h5.1 with h | h | h
          · exact absurd h.1 n1
          · exact absurd h n2
          · refine ⟨h.1, ?_⟩
            have h8 := h.2
            revert n8 h8
            generalize (rdT TStep l i).1 = z
            intro n8 h8
            change Int at z
            dsimp only [Ty.D] at *
            omega
        obtain ⟨b, a, S2, rfl, ha, hb, r2, r3, r1⟩ := inv_op hil hI hk
        clear n1 n2 n8
        have hlen : (b :: a :: S2).length = S2.length + 2 := rfl
        have hw1 : w64 (((b :: a :: S2).reverse.length : Int) - (1 : Int)) = ((a :: S2).length : Int) := by
          rw [List.length_reverse, w64_id (by omega) (by omega)]; simp
        have hw2 : w64 (((a :: S2).length : Int) - (1 : Int)) = (S2.length : Int) := by
          rw [w64_id (by simp <;> omega) (by simp <;> omega)]; simp
        have hl1 : (a :: S2).length = S2.length + 1 := rfl
        simp only [hw1, hw2, Int.toNat_natCast]
        rw [rdT_last, rdT_last2, take_rev]
        refine EvP.pos (by omega) (EvP.pos (by rw [List.length_reverse]; omega) (EvP.pos (by omega) (EvP.pos (by rw [List.length_reverse]; omega) ?_)))
        have hmul := mul_bound ha hb
        have hfin : ∀ v : Int, v = opV (rdT TStep l i).1 a b → ¬ (b = 0 ∧ ((rdT TStep l i).1 = (6 : Int) ∨ (rdT TStep l i).1 = (7 : Int))) → EvP (fun k => (impl_isWhole.f k (v, ())).bind fun y => if y.1 = false then some (0, 3, ()) else if 0 ≤ (S2.length : Int) then if (S2.length : Int) ≤ ((b :: a :: S2).reverse.length : Int) then if S2.length + 1 ≤ big then impl_eval.l1 k (K, S2.reverse ++ [v], l, (l.length : Int), ((i + 1 : Nat) : Int), ()) else none else none else none) (· = ((evalM K l []).1, (evalM K l []).2, ())) := by
          intro v hv hbad
          refine EvP.bind (isWhole_ev v) ?_
          rintro ⟨y, _⟩ hy
          simp only at hy
          refine EvP.ite (fun h => EvP.ret ?_) (fun h => EvP.pos (by omega) (EvP.pos (by rw [List.length_reverse]; omega) (EvP.pos (by omega) ?_)))
          · rw [r3 hbad (by rw [← hv]; intro hw; rw [hy] at h; exact absurd hw (by simpa [Whole] using h))]
          · have hw : Whole v := by rw [hy] at h; simpa [Whole] using h
            have := hgo _ hil (r1 hbad (hv ▸ hw))
            rwa [List.reverse_cons, ← hv] at this
        have e67 : ∀ z : Int, (rdT TStep l i).1 = z → z < 6 → ¬ (b = 0 ∧ ((rdT TStep l i).1 = (6 : Int) ∨ (rdT TStep l i).1 = (7 : Int))) := by
          intro z hz h6 hh
          rcases hh.2 with h | h
          · have h1 : z = 6 := hz.symm.trans h
            omega
          · have h1 : z = 7 := hz.symm.trans h
            omega
        unfold Whole at ha hb
        refine EvP.ite (fun hk3 => ?_) (fun n3 => EvP.ite (fun hk4 => ?_) (fun n4 => EvP.ite (fun hk5 => ?_) (fun n5 => EvP.ite (fun hb0 => ?_) (fun hb0 => ?_))))
        · rw [w64_id (x := a + b) (by omega) (by omega)]
          exact hfin _ (by rw [hk3]; simp [opV]) (e67 3 hk3 (by decide))
        · rw [w64_id (x := a - b) (by omega) (by omega)]
          exact hfin _ (by rw [hk4]; simp [opV]) (e67 4 hk4 (by decide))
        · rw [w64_id (x := a * b) (by omega) (by omega)]
          exact hfin _ (by rw [hk5]; simp [opV]) (e67 5 hk5 (by decide))
        · have hkk : (rdT TStep l i).1 = (6 : Int) ∨ (rdT TStep l i).1 = (7 : Int) := by
            revert hk n3 n4 n5
            generalize (rdT TStep l i).1 = z
            intro hk n3 n4 n5
            change Int at z
            dsimp only [Ty.D] at *
            omega
          exact EvP.ret (by rw [r2 ⟨hb0, hkk⟩])
        · refine EvP.bind (quotient_ev a b ha hb hb0) ?_
          rintro _ rfl
          simp only
          refine EvP.ite (fun hk7 => ?_) (fun n7 => ?_)
          · exact hfin _ (by rw [hk7]; simp [opV]) (fun e => hb0 e.1)
          · have hk6 : (rdT TStep l i).1 = (6 : Int) := by
              revert hk n3 n4 n5 n7
              generalize (rdT TStep l i).1 = z
              intro hk n3 n4 n5 n7
              change Int at z
              dsimp only [Ty.D] at *
              omega
            exact hfin _ (by rw [hk6]; simp [opV]) (fun e => hb0 e.1)
    · have hie : i = l.length := by omega
      subst hie
      obtain ⟨b, rfl, hb⟩ := inv_end hI
      refine EvP.pos (by simp) (EvP.ret ?_)
      rw [hb]
      rfl

theorem spec_l6_ev (l : List TStep.D) (K : List TKnown.D) (hK : KnownOk K) (hf : Fit (.slice TKnown) K) (i : Nat) (S : List Int) (s : TStep.D) (hS : S.length ≤ 40) (hi : i < 40) (Q : Int × Int × Unit → Prop) (hnone : findK K s.2.2.1 s.2.2.2 = none → Q (0, 1, ()))
    (hgo : ∀ v, Whole v → findK K s.2.2.1 s.2.2.2 = some v → EvP (fun k => spec_l5Eval.l1 k (K, (v :: S).reverse, l, (l.length : Int), ((i + 1 : Nat) : Int), ())) Q) :
    EvP (fun k => spec_l5Eval.l6 k (K, S.reverse, (s.1, (s.2.1, (s.2.2.1, (s.2.2.2, ())))), false, l, (l.length : Int), (i : Int), K, (K.length : Int), 0, ())) Q := by
  have hbig := big_eq
  have hs : K.length ≤ 1048576 := hf.1
  have e3 : w64 ((i : Int) + (1 : Int)) = ((i + 1 : Nat) : Int) := by rw [w64_id (by omega) (by omega)]; omega
  have loop := EvP.loop (L := spec_l5Eval.l6) (Q := Q) (fun j st => ∃ (p : Nat) (S' : List Int) (met : Bool), st = (K, S'.reverse, (s.1, (s.2.1, (s.2.2.1, (s.2.2.2, ())))), met, l, (l.length : Int), (i : Int), K, (K.length : Int), (p : Int), ()) ∧ p ≤ K.length ∧ j = K.length - p ∧
      ((met = false ∧ S' = S ∧ findK K s.2.2.1 s.2.2.2 = findK (K.drop p) s.2.2.1 s.2.2.2) ∨ (met = true ∧ ∃ v, S' = v :: S ∧ Whole v ∧ findK K s.2.2.1 s.2.2.2 = some v))) ?_
  · exact loop _ _ ⟨0, S, false, rfl, Nat.zero_le _, rfl, .inl ⟨rfl, rfl, rfl⟩⟩
  · rintro j _ ⟨p, S', met, rfl, hp, rfl, hm⟩ ih
    have e4 : w64 ((p : Int) + (1 : Int)) = ((p + 1 : Nat) : Int) := by rw [w64_id (by omega) (by omega)]; omega
    simp only [spec_l5Eval.l6, decide_eq_true_eq, Int.toNat_natCast, beq_iff_eq, e3, e4, Bool.not_eq_true', decide_eq_false_iff_not, toList_eq]
    refine EvP.ite (fun hlt => EvP.pos (by omega) (EvP.pos (by omega) ?_)) (fun hge => ?_)
    · have hil : p < K.length := by omega
      have hd : K.drop p = rdT TKnown K p :: K.drop (p + 1) := by rw [List.drop_eq_getElem_cons hil, rdT_get hil]
      rcases hm with ⟨rfl, rfl, hfi⟩ | ⟨rfl, v, rfl, hv, hfi⟩
      · rw [hd] at hfi
        simp only [findK] at hfi
        have hno : ¬ ((rdT TKnown K p).1 = s.2.2.1 ∧ (rdT TKnown K p).2.1 = s.2.2.2) → EvP (fun k => spec_l5Eval.l6 k (K, S'.reverse, (s.1, (s.2.1, (s.2.2.1, (s.2.2.2, ())))), false, l, (l.length : Int), (i : Int), K, (K.length : Int), ((p + 1 : Nat) : Int), ())) Q := fun hn =>
          ih (K.length - (p + 1)) _ (by omega) ⟨p + 1, S', false, rfl, by omega, rfl, .inl ⟨rfl, rfl, by rw [hfi, if_neg hn]⟩⟩
        refine EvP.pos rfl (EvP.ite (fun h1 => EvP.ite (fun h2 => EvP.pos (by rw [List.length_reverse]; omega) ?_) (fun h2 => hno fun e => h2 e.2)) (fun h1 => hno fun e => h1 e.1))
        rw [if_pos ⟨h1, h2⟩] at hfi
        have := ih (K.length - (p + 1)) _ (by omega) ⟨p + 1, (rdT TKnown K p).2.2 :: S', true, rfl, by omega, rfl, .inr ⟨rfl, _, rfl, findK_whole K hK hil, hfi⟩⟩
        rwa [List.reverse_cons] at this
      · refine EvP.neg (by decide) ?_
        exact ih (K.length - (p + 1)) _ (by omega) ⟨p + 1, v :: S, true, rfl, by omega, rfl, .inr ⟨rfl, v, rfl, hv, hfi⟩⟩
    · rcases hm with ⟨rfl, rfl, hfi⟩ | ⟨rfl, v, rfl, hv, hfi⟩
      · rw [List.drop_eq_nil_of_le (by omega)] at hfi
        exact EvP.pos rfl (EvP.ret (hnone hfi))
      · have hlen : (v :: S).length = S.length + 1 := rfl
        have hw1 : w64 (((v :: S).reverse.length : Int) - (1 : Int)) = (S.length : Int) := by
          rw [List.length_reverse, w64_id (by omega) (by omega)]; simp
        simp only [hw1, Int.toNat_natCast]
        rw [rdT_last]
        refine EvP.neg (by decide) (EvP.pos (by omega) (EvP.pos (by rw [List.length_reverse]; omega) ?_))
        refine EvP.bind (l1In_ev _ _ _) ?_
        rintro ⟨y, _⟩ hy
        refine EvP.neg ?_ (hgo v hv hfi)
        simp only at hy
        rw [hy]
        simpa [Whole] using hv

theorem spec_eval_ev (l : List TStep.D) (K : List TKnown.D) (hl : l.length ≤ 40) (hK : KnownOk K) (hg : GoodE l 0) (hf : Fit (.slice TKnown) K) : EvP (fun k => spec_l5Eval.f k (l, K, ())) (· = ((evalM K l []).1, (evalM K l []).2, ())) := by
  have hbig := big_eq
  have loop := EvP.loop (L := spec_l5Eval.l1) (Q := (· = ((evalM K l []).1, (evalM K l []).2, ()))) (fun j st => ∃ (i : Nat) (S : List Int), st = (K, S.reverse, l, (l.length : Int), (i : Int), ()) ∧ j = l.length - i ∧ Inv K l i S) ?_
  · simp only [spec_l5Eval.f]
    exact loop _ _ ⟨0, [], rfl, rfl, Nat.zero_le _, rfl, Nat.le_refl _, fun x hx => (by cases hx), by simpa using hg⟩
  · rintro j _ ⟨i, S, rfl, rfl, hI⟩ ih
    have hil' := hI.1
    have hSl := hI.2.2.1
    have e3 : w64 ((i : Int) + (1 : Int)) = ((i + 1 : Nat) : Int) := by rw [w64_id (by omega) (by omega)]; omega
    have hgo : ∀ S' : List Int, i < l.length → Inv K l (i + 1) S' → EvP (fun k => spec_l5Eval.l1 k (K, S'.reverse, l, (l.length : Int), ((i + 1 : Nat) : Int), ())) (· = ((evalM K l []).1, (evalM K l []).2, ())) := fun S' h1 h2 => ih (l.length - (i + 1)) _ (by omega) ⟨i + 1, S', rfl, rfl, h2⟩
    -- the check behind each step
    have htop : ∀ (v : Int) (S' : List Int), S'.length ≤ 40 → i < l.length → (Whole v → Inv K l (i + 1) (v :: S')) → (¬ Whole v → evalM K l [] = (0, 3)) → EvP (fun k => if 0 ≤ w64 ((((v :: S').reverse).length : Int) - (1 : Int)) then if w64 ((((v :: S').reverse).length : Int) - (1 : Int)) < (((v :: S').reverse).length : Int) then
        (spec_l1In.f k (rdT (.int .i64) (v :: S').reverse (w64 ((((v :: S').reverse).length : Int) - (1 : Int))).toNat, (-1000000000), 1000000000, ())).bind fun y => if y.1 = false then some (0, 3, ()) else spec_l5Eval.l1 k (K, (v :: S').reverse, l, (l.length : Int), ((i + 1 : Nat) : Int), ()) else none else none) (· = ((evalM K l []).1, (evalM K l []).2, ())) := by
      intro v S' hS' hil h1 h2
      have hw1 : w64 (((v :: S').reverse.length : Int) - (1 : Int)) = (S'.length : Int) := by
        rw [List.length_reverse, w64_id (by simp <;> omega) (by simp <;> omega)]; simp
      simp only [hw1, Int.toNat_natCast]
      rw [rdT_last]
      refine EvP.pos (by omega) (EvP.pos (by simp; omega) ?_)
      refine EvP.bind (l1In_ev _ _ _) ?_
      rintro ⟨y, _⟩ hy
      simp only at hy
      subst hy
      refine EvP.ite (fun h => EvP.ret ?_) (fun h => ?_)
      · rw [h2 (by simpa [Whole] using h)]
      · exact hgo _ hil (h1 (by simpa [Whole] using h))
    simp only [spec_l5Eval.l1, decide_eq_true_eq, Int.toNat_natCast, beq_iff_eq, e3, Bool.not_eq_true', decide_eq_false_iff_not]
    refine EvP.ite (fun hlt => EvP.pos (by omega) (EvP.pos (by omega) ?_)) (fun hge => ?_)
    · have hil : i < l.length := by omega
      have hd : l.drop i = rdT TStep l i :: l.drop (i + 1) := by rw [List.drop_eq_getElem_cons hil, rdT_get hil]
      refine EvP.ite (fun hk => ?_) (fun n1 => EvP.ite (fun hk => ?_) (fun n8 => EvP.ite (fun hk => ?_) (fun n2 => ?_)))
      · refine EvP.pos (by rw [List.length_reverse]; omega) ?_
        have h1 := inv_num hil hI hk
        have := htop _ S (by omega) hil (fun _ => h1) (fun h => absurd (h1.2.2.2.1 _ (by simp)) h)
        rwa [List.reverse_cons] at this
      · obtain ⟨b, S1, rfl, hb, hI'⟩ := inv_neg hil hI hk
        have hlen : (b :: S1).length = S1.length + 1 := rfl
        have hw : w64 (((b :: S1).reverse.length : Int) - (1 : Int)) = (S1.length : Int) := by
          rw [List.length_reverse, w64_id (by omega) (by omega)]; omega
        have hn : w64 (0 - b) = -b := by unfold Whole at hb; rw [w64_id (by omega) (by omega)]; omega
        simp only [hw, Int.toNat_natCast]
        rw [rdT_last, hn, set_rev]
        refine EvP.pos (by omega) (EvP.pos (by rw [List.length_reverse]; omega) (EvP.pos (by omega) (EvP.pos (by rw [List.length_reverse]; omega) ?_)))
        exact htop _ S1 (by omega) hil (fun _ => hI') (fun h => absurd (hI'.2.2.2.1 _ (by simp)) h)
      · refine spec_l6_ev l K hK hf i S _ (by omega) (by omega) _ (fun hn => ?_) (fun v hv hs => hgo _ hil (inv_name hil hI hk hs hv))
        obtain ⟨_, h2, _⟩ := hI
        rw [hd] at h2
        simp only [evalM, hk, hn] at h2
        simp at h2
        rw [h2]
      · have hk : (3 : Int) ≤ (rdT TStep l i).1 ∧ (rdT TStep l i).1 ≤ (7 : Int) := by
          have h5 := hI.2.2.2.2
          rw [hd] at h5
          rcases good_kind h5.1 with h | h | h
          · exact absurd h.1 n1
          · exact absurd h n2
          · refine ⟨h.1, ?_⟩
            have h8 := h.2
            revert n8 h8
            generalize (rdT TStep l i).1 = z
            intro n8 h8
            change Int at z
            dsimp only [Ty.D] at *
            omega
        obtain ⟨b, a, S2, rfl, ha, hb, r2, r3, r1⟩ := inv_op hil hI hk
        clear n1 n2 n8
        have hlen : (b :: a :: S2).length = S2.length + 2 := rfl
        have hw1 : w64 (((b :: a :: S2).reverse.length : Int) - (1 : Int)) = ((a :: S2).length : Int) := by
          rw [List.length_reverse, w64_id (by omega) (by omega)]; simp
        have hw2 : w64 (((b :: a :: S2).reverse.length : Int) - (2 : Int)) = (S2.length : Int) := by
          rw [List.length_reverse, w64_id (by omega) (by omega)]; simp <;> omega
        have hl1 : (a :: S2).length = S2.length + 1 := rfl
        simp only [hw1, hw2, Int.toNat_natCast]
        rw [rdT_last, rdT_last2, take_rev]
        refine EvP.pos (by omega) (EvP.pos (by rw [List.length_reverse]; omega) (EvP.pos (by omega) (EvP.pos (by rw [List.length_reverse]; omega) ?_)))
        have hfin := fun hbad => htop (opV (rdT TStep l i).1 a b) S2 (by omega) hil (r1 hbad) (r3 hbad)
        simp only [List.reverse_cons (a := opV (rdT TStep l i).1 a b)] at hfin
        refine EvP.ite (fun hb0 => EvP.ite (fun h6 => EvP.ret (by rw [r2 ⟨hb0, .inl h6⟩])) (fun h6 => EvP.ite (fun h7 => EvP.ret (by rw [r2 ⟨hb0, .inr h7⟩])) (fun h7 => ?_))) (fun hb0 => ?_)
        · refine EvP.pos (by omega) (EvP.pos (by rw [List.length_reverse]; omega) ?_)
          have hbad : ¬ (b = 0 ∧ ((rdT TStep l i).1 = (6 : Int) ∨ (rdT TStep l i).1 = (7 : Int))) := fun e => e.2.elim h6 h7
          refine EvP.bind (l5Do_ev _ a b ha hb hk ?_) ?_
          · right
            revert hk h6 h7
            generalize (rdT TStep l i).1 = z
            intro hk h6 h7
            change Int at z
            dsimp only [Ty.D] at *
            omega
          · rintro _ rfl
            exact EvP.pos (by omega) (hfin hbad)
        · refine EvP.pos (by omega) (EvP.pos (by rw [List.length_reverse]; omega) ?_)
          have hbad : ¬ (b = 0 ∧ ((rdT TStep l i).1 = (6 : Int) ∨ (rdT TStep l i).1 = (7 : Int))) := fun e => hb0 e.1
          refine EvP.bind (l5Do_ev _ a b ha hb hk (.inl hb0)) ?_
          rintro _ rfl
          exact EvP.pos (by omega) (hfin hbad)
    · have hie : i = l.length := by omega
      subst hie
      obtain ⟨b, rfl, hb⟩ := inv_end hI
      refine EvP.pos (by simp) (EvP.ret ?_)
      rw [hb]
      rfl

noncomputable def pickP {α : Type} (p : Prop) (a b : α) : α := @ite α p (Classical.propDecidable p) a b
theorem pickP_pos {α : Type} {p : Prop} (h : p) (a b : α) : pickP p a b = a := by unfold pickP; rw [if_pos h]
theorem pickP_neg {α : Type} {p : Prop} (h : ¬ p) (a b : α) : pickP p a b = b := by unfold pickP; rw [if_neg h]

theorem spec_EvalExpr_ev (l : List TStep.D) (K : List TKnown.D) (hl : Fit (.slice TStep) l) (hK : Fit (.slice TKnown) K) : EvP (fun k => spec_EvalExpr.f k (l, K, ())) (· = pickP ((GoodE l 0 ∧ l.length ≤ 40) ∧ (KnownOk K ∧ K.length ≤ 40)) ((evalM K l []).1, (evalM K l []).2, true, ()) (0, 0, false, ())) := by
  simp only [spec_EvalExpr.f, Bool.not_eq_true']
  refine EvP.bind (spec_l5Good_ev l hl) ?_
  rintro ⟨y, _⟩ hy
  simp only at hy
  refine EvP.ite (fun h => EvP.ret ?_) (fun h => ?_)
  · rw [pickP_neg (fun e => by rw [hy.2 e.1] at h; cases h)]
  have hg := hy.1 (by simpa using h)
  refine EvP.bind (spec_l5Known_ev K hK) ?_
  rintro ⟨z, _⟩ hz
  simp only at hz
  refine EvP.ite (fun h => EvP.ret ?_) (fun h => ?_)
  · rw [pickP_neg (fun e => by rw [hz.2 e.2] at h; cases h)]
  have hk := hz.1 (by simpa using h)
  refine EvP.bind (spec_eval_ev l K hg.2 hk.1 hg.1 hK) ?_
  rintro _ rfl
  exact EvP.ret (by rw [pickP_pos ⟨hg, hk⟩])

theorem impl_EvalExpr_ev (l : List TStep.D) (K : List TKnown.D) (hl : Fit (.slice TStep) l) (hK : Fit (.slice TKnown) K) : EvP (fun k => impl_EvalExpr.f k (l, K, ())) (· = pickP ((GoodE l 0 ∧ l.length ≤ 40) ∧ (KnownOk K ∧ K.length ≤ 40)) ((evalM K l []).1, (evalM K l []).2, true, ()) (0, 0, false, ())) := by
  simp only [impl_EvalExpr.f, Bool.not_eq_true']
  refine EvP.bind (impl_isExpr_ev l hl) ?_
  rintro ⟨y, _⟩ hy
  simp only at hy
  refine EvP.ite (fun h => EvP.ret ?_) (fun h => ?_)
  · rw [pickP_neg (fun e => by rw [hy.2 e.1] at h; cases h)]
  have hg := hy.1 (by simpa using h)
  refine EvP.bind (areKnown_ev K hK) ?_
  rintro ⟨z, _⟩ hz
  simp only at hz
  refine EvP.ite (fun h => EvP.ret ?_) (fun h => ?_)
  · rw [pickP_neg (fun e => by rw [hz.2 e.2] at h; cases h)]
  have hk := hz.1 (by simpa using h)
  refine EvP.bind (impl_eval_ev l K hg.2 hk.1 hg.1 hK) ?_
  rintro _ rfl
  exact EvP.ret (by rw [pickP_pos ⟨hg, hk⟩])

theorem law (a : List TStep.D) (b : List TKnown.D) (ha : okD (.slice TStep) a) (hb : okD (.slice TKnown) b) : EvP (fun k => laws_FnExactEvalExpr.f k (a, b, ())) (· = (true, ())) := by
  simp only [laws_FnExactEvalExpr.f, decide_eq_true_eq]
  refine EvP.bind (szStepS a 1048576 (by omega) (by omega) ha) ?_
  rintro ⟨n, _⟩ hn
  refine EvP.ite (fun _ => EvP.ret rfl) (fun h => ?_)
  rcases hn with hn | ⟨hn0, hn1, fa⟩
  · exact absurd hn h
  refine EvP.bind (szKnownS b n hn0 hn1 hb) ?_
  rintro ⟨m, _⟩ hm
  refine EvP.ite (fun _ => EvP.ret rfl) (fun h => ?_)
  rcases hm with hm | ⟨hm0, hm1, fb⟩
  · exact absurd hm h
  refine EvP.bind (toStepS a fa) ?_
  rintro ⟨_, _⟩ (rfl : _ = _)
  refine EvP.bind (toKnownS b fb) ?_
  rintro ⟨_, _⟩ (rfl : _ = _)
  refine EvP.bind (spec_EvalExpr_ev _ _ fa fb) ?_
  rintro _ rfl
  refine EvP.bind (toStepS _ fa) ?_
  rintro ⟨_, _⟩ (rfl : _ = _)
  refine EvP.bind (toKnownS _ fb) ?_
  rintro ⟨_, _⟩ (rfl : _ = _)
  refine EvP.bind (impl_EvalExpr_ev _ _ fa fb) ?_
  rintro _ rfl
  refine EvP.neg (by simp) (EvP.neg (by simp) (EvP.neg (by simp) ?_))
  refine EvP.bind (toStepS _ fa) ?_
  rintro ⟨_, _⟩ (rfl : _ = _)
  refine EvP.bind (eqStepS _ fa) ?_
  rintro ⟨_, _⟩ (rfl : _ = _)
  refine EvP.neg (by simp) ?_
  refine EvP.bind (toKnownS _ fb) ?_
  rintro ⟨_, _⟩ (rfl : _ = _)
  refine EvP.bind (eqKnownS _ fb) ?_
  rintro ⟨_, _⟩ (rfl : _ = _)
  exact EvP.neg (by simp) (EvP.ret rfl)


end Go.Proofs.Ytdphgdlkchajoaa.LawFnExactEvalExpr
