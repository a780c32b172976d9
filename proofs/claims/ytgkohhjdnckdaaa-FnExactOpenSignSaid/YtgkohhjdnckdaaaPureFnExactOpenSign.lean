/- The plain statement of the law FnExactOpenSign: at all arguments within the row's bounds the printed function answers true. No further condition. -/
import Derived.Test.YtgkohhjdnckdaaaPFnExactOpenSignx1
import Derived.Test.YtgkohhjdnckdaaaBase
set_option linter.unusedVariables false
set_option linter.unusedSimpArgs false
namespace Go.Proofs.Ytgkohhjdnckdaaa.Pure
open Go.RowKit Go.Proofs.Ytgkohhjdnckdaaa.PFnExactOpenSign Go.Proofs.YtgkohhjdnckdaaaW.PrintWords Go.Proofs.YtgkohhjdnckdaaaW.PrintLast

/-! ### inF -/
theorem spec_l1In_eq (a b c : Int) : spec_l1In.f a b c = some (decide (b ≤ a ∧ a ≤ c)) := by
  unfold spec_l1In.f
  by_cases h : a ≥ b
  · rw [if_pos h]; simp [h]
  · rw [if_neg h]; simp [h]
theorem impl_in_eq (a b c : Int) : impl_in.f a b c = some (decide (b ≤ a ∧ a ≤ c)) := by
  unfold impl_in.f
  by_cases h : a ≥ b
  · rw [if_pos h]; simp [h]
  · rw [if_neg h]; simp [h]

theorem FnExactOpenSign : laws_FnExactOpenSign.Pure := by
  intro a _
  have h : spec_OpenSign.f a = impl_OpenSign.f a := by
    simp only [spec_OpenSign.f, impl_OpenSign.f, spec_l1In_eq, impl_in_eq, Option.bind_some]
    split
    · rename_i ha
      have ha := of_decide_eq_true ha
      unfold spec_l1Open.f impl_open.f
      rw [tmod_nn ha.1]
      by_cases h2 : a % 2 = 1
      · rw [if_pos h2, if_neg (by omega)]
      · rw [if_neg h2, if_pos (by omega)]
    · rfl
  have : ∃ r, impl_OpenSign.f a = some r := by
    simp only [impl_OpenSign.f, impl_in_eq, Option.bind_some, impl_open.f]
    repeat' split
    all_goals exact ⟨_, rfl⟩
  obtain ⟨r, hr⟩ := this
  simp only [laws_FnExactOpenSign.f, h, hr, Option.bind_some]
  simp

end Go.Proofs.Ytgkohhjdnckdaaa.Pure
