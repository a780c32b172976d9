/- The plain statement of the law FnExactIsWord: at all arguments within the row's bounds the printed function answers true. No further condition. -/
import Derived.Test.YtgkohhjdnckdaaaPFnExactIsWordx1
import Derived.Test.YtgkohhjdnckdaaaBase
set_option linter.unusedVariables false
set_option linter.unusedSimpArgs false
namespace Go.Proofs.Ytgkohhjdnckdaaa.Pure
open Go.RowKit Go.Proofs.Ytgkohhjdnckdaaa.PFnExactIsWord Go.Proofs.YtgkohhjdnckdaaaW.PrintWords Go.Proofs.YtgkohhjdnckdaaaW.PrintLast

/-! ### slicesIndexS -/
theorem slices_Index_string_string_l0 (l : List ByteArray) (x : ByteArray) (hl : l.length ≤ 140737488355328) (d : Nat) : ∀ i : Nat, i + d = l.length → (∀ j (hj : j < i) (hj2 : j < l.length), decide (l[j] = x) = false) → Ev (fun k => slices_Index_string_string.l0 k l x (l.length : Int) (i : Int)) (idxI (fun y => decide (y = x)) l) := by
  induction d with
  | zero =>
    intro i hi hn
    refine evSucc ?_
    simp only [slices_Index_string_string.l0]
    exact evNeg (by omega) (evNow (idxI_none fun j hj => hn j (by omega) hj).symm)
  | succ d ih =>
    intro i hi hn
    refine evSucc ?_
    simp only [slices_Index_string_string.l0]
    refine evPos (by omega) (evPos (by omega) (evPos (by omega) ?_))
    simp only [wrap64_nat i (by omega), rdOf_nat (l := l) (i := i) (d := ByteArray.empty) (by omega)]
    by_cases h : l[i] = x
    · exact evPos (by rw [h]) (evNow (idxI_at (by omega) (by simpa using h) fun j hj => hn j hj (by omega)).symm)
    · refine evNeg (fun e => h (toList_inj e.symm)) (ih (i + 1) (by omega) fun j hj hj2 => ?_)
      by_cases e : j = i
      · subst e; simpa using h
      · exact hn j (by omega) hj2
theorem slices_Index_string_string_ev (l : List ByteArray) (x : ByteArray) (hl : l.length ≤ 140737488355328) : Ev (fun k => slices_Index_string_string.f k l x) (idxI (fun y => decide (y = x)) l) := by
  simp only [slices_Index_string_string.f]
  exact slices_Index_string_string_l0 l x hl l.length 0 (by omega) fun j hj => absurd hj (Nat.not_lt_zero _)
theorem slices_Contains_string_string_ev (l : List ByteArray) (x : ByteArray) (hl : l.length ≤ 140737488355328) : Ev (fun k => slices_Contains_string_string.f k l x) (l.any fun y => decide (y = x)) := by
  simp only [slices_Contains_string_string.f]
  exact evB (slices_Index_string_string_ev l x hl) (evNow (idxI_any _ _))

/-! ### isWord -/
def wordsL : List ByteArray := [(⟨#[77, 79, 68, 85, 76, 69]⟩ : ByteArray), (⟨#[73, 77, 80, 79, 82, 84]⟩ : ByteArray), (⟨#[67, 79, 78, 83, 84]⟩ : ByteArray), (⟨#[84, 89, 80, 69]⟩ : ByteArray), (⟨#[86, 65, 82]⟩ : ByteArray), (⟨#[80, 82, 79, 67]⟩ : ByteArray), (⟨#[85, 83, 69]⟩ : ByteArray), (⟨#[69, 78, 68]⟩ : ByteArray), (⟨#[65, 82, 82, 65, 89]⟩ : ByteArray), (⟨#[79, 70]⟩ : ByteArray), (⟨#[82, 69, 67, 79, 82, 68]⟩ : ByteArray), (⟨#[80, 79, 73, 78, 84, 69, 82]⟩ : ByteArray), (⟨#[84, 79]⟩ : ByteArray), (⟨#[68, 73, 86]⟩ : ByteArray), (⟨#[77, 79, 68]⟩ : ByteArray)]
def wordOk (s : ByteArray) : Bool := wordsL.any fun y => decide (y = s)
theorem spec_IsWord_l0 (l : List ByteArray) (x : ByteArray) (hl : l.length ≤ 140737488355328) (d : Nat) : ∀ i : Nat, i + d = l.length → (∀ j (hj : j < i) (hj2 : j < l.length), l[j] ≠ x) → Ev (fun k => spec_IsWord.l0 k x l (l.length : Int) (i : Int)) (l.any fun y => decide (y = x)) := by
  induction d with
  | zero =>
    intro i hi hn
    refine evSucc ?_
    simp only [spec_IsWord.l0]
    refine evNeg (by omega) (evNow ?_)
    symm
    rw [List.any_eq_false]
    intro y hy
    obtain ⟨j, hj, rfl⟩ := List.getElem_of_mem hy
    simpa using hn j (by omega) hj
  | succ d ih =>
    intro i hi hn
    refine evSucc ?_
    simp only [spec_IsWord.l0]
    refine evPos (by omega) (evPos (by omega) (evPos (by omega) ?_))
    simp only [wrap64_nat i (by omega), rdOf_nat (l := l) (i := i) (d := ByteArray.empty) (by omega)]
    by_cases h : l[i] = x
    · refine evPos (by rw [h]) (evNow ?_)
      symm
      exact List.any_eq_true.2 ⟨l[i], List.getElem_mem (by omega), by simpa using h⟩
    · refine evNeg (fun e => h (toList_inj e)) (ih (i + 1) (by omega) fun j hj hj2 => ?_)
      by_cases e : j = i
      · subst e; exact h
      · exact hn j (by omega) hj2
theorem spec_IsWord_ev (s : ByteArray) : Ev (fun k => spec_IsWord.f k s) (wordOk s) := by
  simp only [spec_IsWord.f]
  exact evC rfl (spec_IsWord_l0 wordsL s (by decide) 15 0 (by decide) fun j hj => absurd hj (Nat.not_lt_zero _))
theorem impl_IsWord_ev (s : ByteArray) : Ev (fun k => impl_IsWord.f k s) (wordOk s) := by
  simp only [impl_IsWord.f]
  exact evB (slices_Contains_string_string_ev wordsL s (by decide)) (evNow rfl)

theorem FnExactIsWord : laws_FnExactIsWord.Pure := by
  intro s hs
  refine Ev.rounds (r := true) ?_
  simp only [laws_FnExactIsWord.f]
  by_cases hb : (s.size : Int) > 1048576
  · exact evPos hb (evNow rfl)
  · exact evNeg hb (evB (spec_IsWord_ev s) (evB (impl_IsWord_ev s) (evNeg (by simp) (evNow rfl))))

end Go.Proofs.Ytgkohhjdnckdaaa.Pure
