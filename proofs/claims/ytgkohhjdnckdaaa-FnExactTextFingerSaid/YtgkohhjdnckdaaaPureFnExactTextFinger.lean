/- The plain statement of the law FnExactTextFinger: at all arguments within the row's bounds the printed function answers true. No further condition. -/
import Derived.Test.YtgkohhjdnckdaaaPFnExactTextFingerx1
import Derived.Test.YtgkohhjdnckdaaaBase
set_option linter.unusedVariables false
set_option linter.unusedSimpArgs false
namespace Go.Proofs.Ytgkohhjdnckdaaa.Pure
open Go.RowKit Go.Proofs.Ytgkohhjdnckdaaa.PFnExactTextFinger Go.Proofs.YtgkohhjdnckdaaaW.PrintWords Go.Proofs.YtgkohhjdnckdaaaW.PrintLast

/-! ### mix -/
theorem mix_ex (a b : Int) : ∃ r, spec_Mix.f a b = some r ∧ impl_mix.f a b = some r := by
  unfold spec_Mix.f impl_mix.f
  exact ⟨_, rfl, rfl⟩
/-- Two numbers, mixed. -/
noncomputable def mixV (a b : Int) : Int := Classical.choose (mix_ex a b)
theorem spec_Mix_eq (a b : Int) : spec_Mix.f a b = some (mixV a b) := (Classical.choose_spec (mix_ex a b)).1
theorem impl_mix_eq (a b : Int) : impl_mix.f a b = some (mixV a b) := (Classical.choose_spec (mix_ex a b)).2

/-! ### mixAll -/
noncomputable def mixL (l : List Int) : Int := l.foldl mixV (l.length : Int)
theorem spec_l1MixAll_l0 (l : List Int) (hl : l.length ≤ 140737488355328) (d : Nat) : ∀ (i : Nat) (a : Int), i + d = l.length → Ev (fun k => spec_l1MixAll.l0 k a l (l.length : Int) (i : Int)) ((l.drop i).foldl mixV a) := by
  induction d with
  | zero =>
    intro i a hi
    refine evSucc ?_
    simp only [spec_l1MixAll.l0]
    refine evNeg (by omega) (evNow ?_)
    rw [List.drop_of_length_le (by omega)]
    rfl
  | succ d ih =>
    intro i a hi
    refine evSucc ?_
    simp only [spec_l1MixAll.l0]
    refine evPos (by omega) (evPos (by omega) (evPos (by omega) (evC (spec_Mix_eq _ _) ?_)))
    simp only [wrap64_nat i (by omega), rd_nat (l := l) (i := i) (by omega)]
    refine evTwo (ih (i + 1) _ (by omega)) ?_
    rw [List.drop_eq_getElem_cons (i := i) (by omega)]
    rfl
theorem spec_l1MixAll_ev (l : List Int) (hl : l.length ≤ 140737488355328) : Ev (fun k => spec_l1MixAll.f k l) (mixL l) := by
  simp only [spec_l1MixAll.f]
  exact spec_l1MixAll_l0 l hl l.length 0 _ (by omega)
theorem impl_mixAll_l0 (l : List Int) (hl : l.length ≤ 140737488355328) (d : Nat) : ∀ (i : Nat) (a : Int), i + d = l.length → Ev (fun k => impl_mixAll.l0 k a l (l.length : Int) (i : Int)) ((l.drop i).foldl mixV a) := by
  induction d with
  | zero =>
    intro i a hi
    refine evSucc ?_
    simp only [impl_mixAll.l0]
    refine evNeg (by omega) (evNow ?_)
    rw [List.drop_of_length_le (by omega)]
    rfl
  | succ d ih =>
    intro i a hi
    refine evSucc ?_
    simp only [impl_mixAll.l0]
    refine evPos (by omega) (evPos (by omega) (evPos (by omega) (evC (impl_mix_eq _ _) ?_)))
    simp only [wrap64_nat i (by omega), rd_nat (l := l) (i := i) (by omega)]
    refine evTwo (ih (i + 1) _ (by omega)) ?_
    rw [List.drop_eq_getElem_cons (i := i) (by omega)]
    rfl
theorem impl_mixAll_ev (l : List Int) (hl : l.length ≤ 140737488355328) : Ev (fun k => impl_mixAll.f k l) (mixL l) := by
  simp only [impl_mixAll.f]
  exact impl_mixAll_l0 l hl l.length 0 _ (by omega)

/-! ### text -/
/-- The numbers of a text's bytes. -/
def bytesL (s : ByteArray) : List Int := (List.range s.size).map fun (j : Nat) => bt s (j : Int)
theorem bytesL_length (s : ByteArray) : (bytesL s).length = s.size := by simp [bytesL]
theorem bytesL_take (s : ByteArray) (i : Nat) (h : i < s.size) : (bytesL s).take i ++ [bt s (i : Int)] = (bytesL s).take (i + 1) := by
  rw [List.take_succ_eq_append_getElem (by rw [bytesL_length]; exact h)]
  simp [bytesL]
theorem wrap_bt (s : ByteArray) (i : Int) : wrap64 (bt s i) = bt s i := by
  have := bt_range s i
  exact wrap64_id (by omega) (by omega)
theorem spec_l8Text_l0 (s : ByteArray) (hs : s.size ≤ 10000000) (d : Nat) : ∀ i : Nat, i + d = s.size → Ev (fun k => spec_l8Text.l0 k s ((bytesL s).take i) (i : Int)) (mixL (bytesL s)) := by
  induction d with
  | zero =>
    intro i hi
    refine evSucc ?_
    simp only [spec_l8Text.l0]
    refine evNeg (by omega) ?_
    rw [List.take_of_length_le (by rw [bytesL_length]; omega)]
    exact evB (spec_l1MixAll_ev _ (by rw [bytesL_length]; omega)) (evNow rfl)
  | succ d ih =>
    intro i hi
    refine evSucc ?_
    simp only [spec_l8Text.l0]
    refine evPos (by omega) (evPos (by omega) (evPos (by simp [bytesL_length]; omega) ?_))
    simp only [wrap64_nat i (by omega), wrap_bt, bytesL_take s i (by omega)]
    exact ih (i + 1) (by omega)
theorem spec_l8Text_ev (s : ByteArray) (hs : s.size ≤ 10000000) : Ev (fun k => spec_l8Text.f k s) (mixL (bytesL s)) := by
  simp only [spec_l8Text.f]
  exact spec_l8Text_l0 s hs s.size 0 (by omega)
theorem impl_bytesOf_l0 (s : ByteArray) (hs : s.size ≤ 10000000) (d : Nat) : ∀ i : Nat, i + d = s.size → Ev (fun k => impl_bytesOf.l0 k s ((bytesL s).take i) (s.size : Int) (i : Int)) (bytesL s) := by
  induction d with
  | zero =>
    intro i hi
    refine evSucc ?_
    simp only [impl_bytesOf.l0]
    refine evNeg (by omega) ?_
    rw [List.take_of_length_le (by rw [bytesL_length]; omega)]
    exact evNow rfl
  | succ d ih =>
    intro i hi
    refine evSucc ?_
    simp only [impl_bytesOf.l0]
    refine evPos (by omega) (evPos (by omega) (evPos (by omega) (evPos (by simp [bytesL_length]; omega) ?_)))
    simp only [wrap64_nat i (by omega), wrap_bt, bytesL_take s i (by omega)]
    exact ih (i + 1) (by omega)
theorem impl_bytesOf_ev (s : ByteArray) (hs : s.size ≤ 10000000) : Ev (fun k => impl_bytesOf.f k s) (bytesL s) := by
  simp only [impl_bytesOf.f]
  exact impl_bytesOf_l0 s hs s.size 0 (by omega)
theorem impl_textFinger_ev (s : ByteArray) (hs : s.size ≤ 10000000) : Ev (fun k => impl_textFinger.f k s) (mixL (bytesL s)) := by
  simp only [impl_textFinger.f]
  exact evB (impl_bytesOf_ev s hs) (evB (impl_mixAll_ev _ (by rw [bytesL_length]; omega)) (evNow rfl))

theorem FnExactTextFinger : laws_FnExactTextFinger.Pure := by
  intro s hs
  refine Ev.rounds (r := true) ?_
  simp only [laws_FnExactTextFinger.f, spec_TextFinger.f, impl_TextFinger.f]
  by_cases hb : (s.size : Int) > 1048576
  · exact evPos hb (evNow rfl)
  · refine evNeg hb ?_
    by_cases h : (s.size : Int) > 200
    · exact evB (evPos h (evNow rfl)) (evB (evPos h (evNow rfl)) (evPos rfl (evNeg (by simp) (evNow rfl))))
    · exact evB (evNeg h (evB (spec_l8Text_ev s (by omega)) (evNow rfl))) (evB (evNeg h (evB (impl_textFinger_ev s (by omega)) (evNow rfl))) (evPos rfl (evNeg (by simp) (evNow rfl))))

end Go.Proofs.Ytgkohhjdnckdaaa.Pure
