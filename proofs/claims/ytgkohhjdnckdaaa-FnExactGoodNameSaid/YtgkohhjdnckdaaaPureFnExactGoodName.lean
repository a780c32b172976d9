/- The plain statement of the law FnExactGoodName: at all arguments within the row's bounds the printed function answers true. No further condition. -/
import Derived.Test.YtgkohhjdnckdaaaPFnExactGoodNamex1
import Derived.Test.YtgkohhjdnckdaaaBase
set_option linter.unusedVariables false
set_option linter.unusedSimpArgs false
namespace Go.Proofs.Ytgkohhjdnckdaaa.Pure
open Go.RowKit Go.Proofs.Ytgkohhjdnckdaaa.PFnExactGoodName Go.Proofs.YtgkohhjdnckdaaaW.PrintWords Go.Proofs.YtgkohhjdnckdaaaW.PrintLast

/-! ### inF -/
theorem spec_l1In_eq (a b c : Int) : spec_l1In.f a b c = some (decide (b ≤ a ∧ a ≤ c)) := by
  unfold spec_l1In.f
  by_cases h : a ≥ b
  · rw [if_pos h]; simp [h]
  · rw [if_neg h]; simp [h]
theorem impl_in_eq (a b c : Int) : impl_in.f a b c = some (decide (b ≤ a ∧ a ≤ c)) := by
  unfold impl_in.f
  by_cases h : a ≥ b
  · rw [if_pos h]; simp [h]
  · rw [if_neg h]; simp [h]

/-! ### nameDef -/
def letB (c : Int) : Prop := (65 ≤ c ∧ c ≤ 90) ∨ (97 ≤ c ∧ c ≤ 122)
def digB (c : Int) : Prop := 48 ≤ c ∧ c ≤ 57
instance (c : Int) : Decidable (letB c) := by unfold letB; infer_instance
instance (c : Int) : Decidable (digB c) := by unfold digB; infer_instance
/-- The byte at j may stand in a name. -/
def nmAt (s : ByteArray) (j : Nat) : Prop := letB (bt s (j : Int)) ∨ (j ≠ 0 ∧ digB (bt s (j : Int)))
instance (s : ByteArray) (j : Nat) : Decidable (nmAt s j) := by unfold nmAt; infer_instance
def nameOk (s : ByteArray) : Bool := decide (1 ≤ s.size ∧ s.size ≤ 10 ∧ ∀ j, j < s.size → nmAt s j)
theorem nameOk_not {s : ByteArray} {j : Nat} (h : j < s.size) (hn : ¬ nmAt s j) : nameOk s = false := by
  unfold nameOk
  exact decide_eq_false fun H => hn (H.2.2 j h)
theorem nameOk_all {s : ByteArray} (h : ∀ j, j < s.size → nmAt s j) : nameOk s = decide ((1 : Int) ≤ (s.size : Int) ∧ (s.size : Int) ≤ 10) := by
  unfold nameOk
  by_cases hs : 1 ≤ s.size ∧ s.size ≤ 10
  · rw [decide_eq_true (by exact ⟨hs.1, hs.2, h⟩), decide_eq_true (by omega)]
  · rw [decide_eq_false (fun H => hs ⟨H.1, H.2.1⟩), decide_eq_false (by omega)]

/-! ### isName -/
theorem impl_isLetter_eq (c : Int) : impl_isLetter.f c = some (decide (letB c)) := by
  unfold impl_isLetter.f letB
  repeat' split
  all_goals simp only [Option.some.injEq]
  all_goals first | (symm; apply decide_eq_true; omega) | (symm; apply decide_eq_false; omega) | (apply decide_eq_decide.2; omega)
theorem impl_isDigit_eq (c : Int) : impl_isDigit.f c = some (decide (digB c)) := by
  unfold impl_isDigit.f digB
  repeat' split
  all_goals simp only [Option.some.injEq]
  all_goals first | (symm; apply decide_eq_true; omega) | (symm; apply decide_eq_false; omega) | (apply decide_eq_decide.2; omega)
theorem impl_isName_l0 (s : ByteArray) (hs : s.size ≤ 140737488355328) (d : Nat) : ∀ i : Nat, i + d = s.size → (∀ j, j < i → nmAt s j) → Ev (fun k => impl_isName.l0 k s (s.size : Int) (i : Int)) (nameOk s) := by
  induction d with
  | zero =>
    intro i hi hall
    refine evSucc ?_
    simp only [impl_isName.l0]
    refine evNeg (by omega) ?_
    simp only [impl_in_eq, Option.bind_some]
    exact evNow (nameOk_all (fun j hj => hall j (by omega))).symm
  | succ d ih =>
    intro i hi hall
    refine evSucc ?_
    simp only [impl_isName.l0]
    refine evPos (by omega) (evPos (by omega) (evPos (by omega) ?_))
    simp only [impl_isLetter_eq, impl_isDigit_eq, Option.bind_some, wrap64_nat i (by omega)]
    by_cases h1 : letB (bt s (i : Int))
    · refine evPos (decide_eq_true h1) (ih (i + 1) (by omega) fun j hj => ?_)
      by_cases e : j = i
      · subst e; exact .inl h1
      · exact hall j (by omega)
    · refine evNeg (by simpa using h1) ?_
      by_cases h0 : i = 0
      · refine evPos (by omega) (evNow (nameOk_not (j := i) (by omega) ?_).symm)
        rintro (H | H)
        · exact h1 H
        · exact H.1 h0
      · refine evNeg (by omega) ?_
        by_cases h2 : digB (bt s (i : Int))
        · refine evPos (decide_eq_true h2) (ih (i + 1) (by omega) fun j hj => ?_)
          by_cases e : j = i
          · subst e; exact .inr ⟨h0, h2⟩
          · exact hall j (by omega)
        · refine evNeg (by simpa using h2) (evNow (nameOk_not (j := i) (by omega) ?_).symm)
          rintro (H | H)
          · exact h1 H
          · exact h2 H.2
theorem impl_isName_ev (s : ByteArray) (hs : s.size ≤ 140737488355328) : Ev (fun k => impl_isName.f k s) (nameOk s) := by
  simp only [impl_isName.f]
  exact impl_isName_l0 s hs s.size 0 (by omega) (fun j hj => absurd hj (Nat.not_lt_zero _))
theorem spec_l1Name_l0 (s : ByteArray) (hs : s.size ≤ 140737488355328) (d : Nat) : ∀ i : Nat, i + d = s.size → (∀ j, j < i → nmAt s j) → Ev (fun k => spec_l1Name.l0 k s (i : Int)) (nameOk s) := by
  induction d with
  | zero =>
    intro i hi hall
    refine evSucc ?_
    simp only [spec_l1Name.l0]
    refine evNeg (by omega) ?_
    simp only [spec_l1In_eq, Option.bind_some]
    exact evNow (nameOk_all (fun j hj => hall j (by omega))).symm
  | succ d ih =>
    intro i hi hall
    refine evSucc ?_
    simp only [spec_l1Name.l0]
    refine evPos (by omega) (evPos (by omega) ?_)
    simp only [wrap64_nat i (by omega)]
    have yes : nmAt s i → Ev (fun k => spec_l1Name.l0 k s ((i + 1 : Nat) : Int)) (nameOk s) := fun h => ih (i + 1) (by omega) fun j hj => by
      by_cases e : j = i
      · subst e; exact h
      · exact hall j (by omega)
    have no : ¬ nmAt s i → Ev (fun _ : Nat => some false) (nameOk s) := fun h => evNow (nameOk_not (j := i) (by omega) h).symm
    unfold nmAt letB digB at yes no
    generalize bt s (i : Int) = c at yes no ⊢
    have dec : ∀ (p : Prop) [Decidable p] (g f : Nat → Option Bool), (p → Ev g (nameOk s)) → (¬ p → Ev f (nameOk s)) → Ev (fun n => if p then g n else f n) (nameOk s) := fun p _ g f hg hf => by
      by_cases h : p
      · exact evPos h (hg h)
      · exact evNeg h (hf h)
    repeat' (first | exact yes (by omega) | exact no (by omega) | (refine dec _ _ _ (fun _ => ?_) (fun _ => ?_)))
theorem spec_l1Name_ev (s : ByteArray) (hs : s.size ≤ 140737488355328) : Ev (fun k => spec_l1Name.f k s) (nameOk s) := by
  simp only [spec_l1Name.f]
  exact spec_l1Name_l0 s hs s.size 0 (by omega) (fun j hj => absurd hj (Nat.not_lt_zero _))

theorem FnExactGoodName : laws_FnExactGoodName.Pure := by
  intro s hs
  refine Ev.rounds (r := true) ?_
  simp only [laws_FnExactGoodName.f, spec_GoodName.f, impl_GoodName.f]
  by_cases hb : (s.size : Int) > 1048576
  · exact evPos hb (evNow rfl)
  · refine evNeg hb (evB (evB (spec_l1Name_ev s (by omega)) (evNow rfl)) (evB (evB (impl_isName_ev s (by omega)) (evNow rfl)) ?_))
    refine evNeg (by simp) (evNow rfl)

end Go.Proofs.Ytgkohhjdnckdaaa.Pure
