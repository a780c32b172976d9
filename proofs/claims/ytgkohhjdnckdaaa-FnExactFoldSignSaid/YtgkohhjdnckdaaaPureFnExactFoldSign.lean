/- The plain statement of the law FnExactFoldSign: at all arguments within the row's bounds the printed function answers true. No further condition. -/
import Derived.Test.YtgkohhjdnckdaaaPFnExactFoldSignx1
import Derived.Test.YtgkohhjdnckdaaaBase
set_option linter.unusedVariables false
set_option linter.unusedSimpArgs false
namespace Go.Proofs.Ytgkohhjdnckdaaa.Pure
open Go.RowKit Go.Proofs.Ytgkohhjdnckdaaa.PFnExactFoldSign Go.Proofs.YtgkohhjdnckdaaaW.PrintWords Go.Proofs.YtgkohhjdnckdaaaW.PrintLast

/-! ### inF -/
theorem spec_l1In_eq (a b c : Int) : spec_l1In.f a b c = some (decide (b ≤ a ∧ a ≤ c)) := by
  unfold spec_l1In.f
  by_cases h : a ≥ b
  · rw [if_pos h]; simp [h]
  · rw [if_neg h]; simp [h]
theorem impl_in_eq (a b c : Int) : impl_in.f a b c = some (decide (b ≤ a ∧ a ≤ c)) := by
  unfold impl_in.f
  by_cases h : a ≥ b
  · rw [if_pos h]; simp [h]
  · rw [if_neg h]; simp [h]

theorem FnExactFoldSign : laws_FnExactFoldSign.Pure := by
  intro a _
  have h : spec_FoldSign.f a = impl_FoldSign.f a := by
    simp only [spec_FoldSign.f, impl_FoldSign.f, impl_isWhole.f, spec_l1In_eq, impl_in_eq, Option.bind_some]
    split
    · unfold spec_l1Fold.f impl_fold.f
      by_cases ha : a < 0
      · rw [if_pos ha, if_neg (by omega)]
      · rw [if_neg ha, if_pos (by omega)]
    · rfl
  have : ∃ r, impl_FoldSign.f a = some r := by
    simp only [impl_FoldSign.f, impl_isWhole.f, impl_in_eq, Option.bind_some, impl_fold.f]
    repeat' split
    all_goals exact ⟨_, rfl⟩
  obtain ⟨r, hr⟩ := this
  simp only [laws_FnExactFoldSign.f, h, hr, Option.bind_some]
  simp

end Go.Proofs.Ytgkohhjdnckdaaa.Pure
