/- The plain statement of the law FnExactMixAll: at all arguments within the row's bounds the printed function answers true. No further condition. -/
import Derived.Test.YtgkohhjdnckdaaaPFnExactMixAllx1
import Derived.Test.YtgkohhjdnckdaaaBase
set_option linter.unusedVariables false
set_option linter.unusedSimpArgs false
namespace Go.Proofs.Ytgkohhjdnckdaaa.Pure
open Go.RowKit Go.Proofs.Ytgkohhjdnckdaaa.PFnExactMixAll Go.Proofs.YtgkohhjdnckdaaaW.PrintWords Go.Proofs.YtgkohhjdnckdaaaW.PrintLast

/-! ### mix -/
theorem mix_ex (a b : Int) : ∃ r, spec_Mix.f a b = some r ∧ impl_mix.f a b = some r := by
  unfold spec_Mix.f impl_mix.f
  exact ⟨_, rfl, rfl⟩
/-- Two numbers, mixed. -/
noncomputable def mixV (a b : Int) : Int := Classical.choose (mix_ex a b)
theorem spec_Mix_eq (a b : Int) : spec_Mix.f a b = some (mixV a b) := (Classical.choose_spec (mix_ex a b)).1
theorem impl_mix_eq (a b : Int) : impl_mix.f a b = some (mixV a b) := (Classical.choose_spec (mix_ex a b)).2

/-! ### mixAll -/
noncomputable def mixL (l : List Int) : Int := l.foldl mixV (l.length : Int)
theorem spec_l1MixAll_l0 (l : List Int) (hl : l.length ≤ 140737488355328) (d : Nat) : ∀ (i : Nat) (a : Int), i + d = l.length → Ev (fun k => spec_l1MixAll.l0 k a l (l.length : Int) (i : Int)) ((l.drop i).foldl mixV a) := by
  induction d with
  | zero =>
    intro i a hi
    refine evSucc ?_
    simp only [spec_l1MixAll.l0]
    refine evNeg (by omega) (evNow ?_)
    rw [List.drop_of_length_le (by omega)]
    rfl
  | succ d ih =>
    intro i a hi
    refine evSucc ?_
    simp only [spec_l1MixAll.l0]
    refine evPos (by omega) (evPos (by omega) (evPos (by omega) (evC (spec_Mix_eq _ _) ?_)))
    simp only [wrap64_nat i (by omega), rd_nat (l := l) (i := i) (by omega)]
    refine evTwo (ih (i + 1) _ (by omega)) ?_
    rw [List.drop_eq_getElem_cons (i := i) (by omega)]
    rfl
theorem spec_l1MixAll_ev (l : List Int) (hl : l.length ≤ 140737488355328) : Ev (fun k => spec_l1MixAll.f k l) (mixL l) := by
  simp only [spec_l1MixAll.f]
  exact spec_l1MixAll_l0 l hl l.length 0 _ (by omega)
theorem impl_mixAll_l0 (l : List Int) (hl : l.length ≤ 140737488355328) (d : Nat) : ∀ (i : Nat) (a : Int), i + d = l.length → Ev (fun k => impl_mixAll.l0 k a l (l.length : Int) (i : Int)) ((l.drop i).foldl mixV a) := by
  induction d with
  | zero =>
    intro i a hi
    refine evSucc ?_
    simp only [impl_mixAll.l0]
    refine evNeg (by omega) (evNow ?_)
    rw [List.drop_of_length_le (by omega)]
    rfl
  | succ d ih =>
    intro i a hi
    refine evSucc ?_
    simp only [impl_mixAll.l0]
    refine evPos (by omega) (evPos (by omega) (evPos (by omega) (evC (impl_mix_eq _ _) ?_)))
    simp only [wrap64_nat i (by omega), rd_nat (l := l) (i := i) (by omega)]
    refine evTwo (ih (i + 1) _ (by omega)) ?_
    rw [List.drop_eq_getElem_cons (i := i) (by omega)]
    rfl
theorem impl_mixAll_ev (l : List Int) (hl : l.length ≤ 140737488355328) : Ev (fun k => impl_mixAll.f k l) (mixL l) := by
  simp only [impl_mixAll.f]
  exact impl_mixAll_l0 l hl l.length 0 _ (by omega)

/-! ### intS -/
theorem laws_toIntS_l0 (l : List Int) (hl : l.length ≤ 140737488355328) (d : Nat) : ∀ i : Nat, i + d = l.length → Ev (fun k => laws_toIntS.l0 k l (l.take i ++ List.replicate (l.length - i) 0) (i : Int)) l := by
  induction d with
  | zero =>
    intro i hi
    refine evSucc ?_
    simp only [laws_toIntS.l0]
    refine evNeg (by omega) (evNow ?_)
    have e : l.length - i = 0 := by omega
    rw [e, List.take_of_length_le (by omega)]
    simp
  | succ d ih =>
    intro i hi
    refine evSucc ?_
    simp only [laws_toIntS.l0]
    refine evPos (by omega) (evPos (by omega) (evPos (by simp; omega) ?_))
    simp only [wrap64_nat i (by omega), rd_nat (l := l) (i := i) (by omega), Int.toNat_natCast, set_fill l (0 : Int) i (by omega)]
    exact ih (i + 1) (by omega)
theorem laws_toIntS_ev (l : List Int) (hl : l.length ≤ 35184372088832) : Ev (fun k => laws_toIntS.f k l) l := by
  simp only [laws_toIntS.f]
  refine evPos (by omega) (evPos (by omega) ?_)
  have := laws_toIntS_l0 l (by omega) l.length 0 (by omega)
  simpa using this
theorem laws_eqIntS_l0 (l : List Int) (hl : l.length ≤ 140737488355328) (d : Nat) : ∀ i : Nat, i + d = l.length → Ev (fun k => laws_eqIntS.l0 k l l (i : Int)) true := by
  induction d with
  | zero =>
    intro i hi
    refine evSucc ?_
    simp only [laws_eqIntS.l0]
    exact evNeg (by omega) (evNow rfl)
  | succ d ih =>
    intro i hi
    refine evSucc ?_
    simp only [laws_eqIntS.l0]
    refine evPos (by omega) (evPos (by omega) (evPos (by omega) (evPos (by first | rfl | trivial) ?_)))
    simp only [wrap64_nat i (by omega)]
    exact ih (i + 1) (by omega)
theorem laws_eqIntS_ev (l : List Int) (hl : l.length ≤ 140737488355328) : Ev (fun k => laws_eqIntS.f k l l) true := by
  simp only [laws_eqIntS.f]
  exact evPos (by first | rfl | trivial) (laws_eqIntS_l0 l hl l.length 0 (by omega))

theorem FnExactMixAll : laws_FnExactMixAll.Pure := by
  intro l hl hl2 _
  refine Ev.rounds (r := true) ?_
  simp only [laws_FnExactMixAll.f, spec_MixAll.f, impl_MixAll.f]
  by_cases hb : (l.length : Int) > 1048576
  · exact evPos hb (evNow rfl)
  · have hj : Ev (fun k => laws_FnExactMixAll.j0 k l l false) true := by
      refine evSucc ?_
      simp only [laws_FnExactMixAll.j0]
      exact evNeg (by simp) (evB (laws_toIntS_ev l (by omega)) (evB (laws_eqIntS_ev l (by omega)) (evPos rfl (evNow rfl))))
    refine evNeg hb (evB (laws_toIntS_ev l (by omega)) ?_)
    by_cases h : (l.length : Int) > 200
    · exact evB (evPos h (evNow rfl)) (evB (laws_toIntS_ev l (by omega)) (evB (evPos h (evNow rfl)) (evPos rfl (by simpa using hj))))
    · exact evB (evNeg h (evB (spec_l1MixAll_ev l (by omega)) (evNow rfl))) (evB (laws_toIntS_ev l (by omega)) (evB (evNeg h (evB (impl_mixAll_ev l (by omega)) (evNow rfl))) (evPos rfl (by simpa using hj))))

end Go.Proofs.Ytgkohhjdnckdaaa.Pure
