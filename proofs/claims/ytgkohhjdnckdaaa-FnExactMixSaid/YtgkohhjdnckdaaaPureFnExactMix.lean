/- The plain statement of the law FnExactMix: at all arguments within the row's bounds the printed function answers true. No further condition. -/
import Derived.Test.YtgkohhjdnckdaaaPFnExactMixx1
import Derived.Test.YtgkohhjdnckdaaaBase
set_option linter.unusedVariables false
set_option linter.unusedSimpArgs false
namespace Go.Proofs.Ytgkohhjdnckdaaa.Pure
open Go.RowKit Go.Proofs.Ytgkohhjdnckdaaa.PFnExactMix Go.Proofs.YtgkohhjdnckdaaaW.PrintWords Go.Proofs.YtgkohhjdnckdaaaW.PrintLast

/-! ### mix -/
theorem mix_ex (a b : Int) : ∃ r, spec_Mix.f a b = some r ∧ impl_mix.f a b = some r := by
  unfold spec_Mix.f impl_mix.f
  exact ⟨_, rfl, rfl⟩
/-- Two numbers, mixed. -/
noncomputable def mixV (a b : Int) : Int := Classical.choose (mix_ex a b)
theorem spec_Mix_eq (a b : Int) : spec_Mix.f a b = some (mixV a b) := (Classical.choose_spec (mix_ex a b)).1
theorem impl_mix_eq (a b : Int) : impl_mix.f a b = some (mixV a b) := (Classical.choose_spec (mix_ex a b)).2

theorem FnExactMix : laws_FnExactMix.Pure := by
  intro a b _ _
  simp only [laws_FnExactMix.f, impl_Mix.f, spec_Mix_eq, impl_mix_eq, Option.bind_some]
  rw [if_pos (by first | rfl | trivial)]

end Go.Proofs.Ytgkohhjdnckdaaa.Pure
