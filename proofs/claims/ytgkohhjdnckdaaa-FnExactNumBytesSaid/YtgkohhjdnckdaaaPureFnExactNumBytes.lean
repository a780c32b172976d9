/- The plain statement of the law FnExactNumBytes: at all arguments within the row's bounds the printed function answers true. No further condition. -/
import Derived.Test.YtgkohhjdnckdaaaPFnExactNumBytesx1
import Derived.Test.YtgkohhjdnckdaaaBase
set_option linter.unusedVariables false
set_option linter.unusedSimpArgs false
namespace Go.Proofs.Ytgkohhjdnckdaaa.Pure
open Go.RowKit Go.Proofs.Ytgkohhjdnckdaaa.PFnExactNumBytes Go.Proofs.YtgkohhjdnckdaaaW.PrintWords Go.Proofs.YtgkohhjdnckdaaaW.PrintLast

/-! ### inF -/
theorem spec_l1In_eq (a b c : Int) : spec_l1In.f a b c = some (decide (b ≤ a ∧ a ≤ c)) := by
  unfold spec_l1In.f
  by_cases h : a ≥ b
  · rw [if_pos h]; simp [h]
  · rw [if_neg h]; simp [h]
theorem impl_in_eq (a b c : Int) : impl_in.f a b c = some (decide (b ≤ a ∧ a ≤ c)) := by
  unfold impl_in.f
  by_cases h : a ≥ b
  · rw [if_pos h]; simp [h]
  · rw [if_neg h]; simp [h]

/-! ### nb -/
/-- The bytes of a number, seven bits each. -/
def nb (x : Nat) : List Int := if h : x < 128 then [(x : Int)] else ((x % 128 + 128 : Nat) : Int) :: nb (x / 128)
termination_by x
decreasing_by omega
theorem nb_small {x : Nat} (h : x < 128) : nb x = [(x : Int)] := by
  rw [nb, dif_pos h]
theorem nb_big {x : Nat} (h : ¬ x < 128) : nb x = ((x % 128 + 128 : Nat) : Int) :: nb (x / 128) := by
  rw [nb, dif_neg h]
theorem nb_or (x : Nat) (h : x < 4611686018427387904) : Go.bits .or .i64 (Go.bits .and .i64 (x : Int) 127) 128 = ((x % 128 + 128 : Nat) : Int) := by
  have h1 : Go.bits .and .i64 (x : Int) 127 = (x : Int) % 128 := bits_mask .i64 63 (by decide) wraps_i64 7 (by decide) x (by omega) (by omega)
  have h2 : Go.bits .or .i64 ((x : Int) % 128) 128 = Go.bits .or .i64 128 ((x : Int) % 128) := by
    unfold Go.bits
    simp only [BitVec.or_comm]
  rw [h1, h2, bits_join .i64 63 (by decide) wraps_i64 7 128 ((x : Int) % 128) (by decide) (by decide) (by decide) (by omega) (by omega) (by omega)]
  omega
/-- What a number is without its sign. -/
def foldN (n : Int) : Nat := if n < 0 then (-2 * n - 1).toNat else (2 * n).toNat

/-! ### numBytes -/
theorem spec_l1Fold_eq {n : Int} (h0 : -1000000000 ≤ n) (h1 : n ≤ 1000000000) : spec_l1Fold.f n = some ((foldN n : Nat) : Int) := by
  unfold spec_l1Fold.f foldN
  by_cases h : n < 0
  · rw [if_pos h, if_pos h, wrap64_id (x := -2 * n) (by omega) (by omega), wrap64_id (by omega) (by omega)]
    congr 1
    omega
  · rw [if_neg h, if_neg h, wrap64_id (by omega) (by omega)]
    congr 1
    omega
theorem impl_fold_eq {n : Int} (h0 : -1000000000 ≤ n) (h1 : n ≤ 1000000000) : impl_fold.f n = some ((foldN n : Nat) : Int) := by
  rw [← spec_l1Fold_eq h0 h1]
  unfold spec_l1Fold.f impl_fold.f
  by_cases h : n < 0
  · rw [if_pos h, if_neg (by omega)]
  · rw [if_neg h, if_pos (by omega)]
theorem foldN_lt {n : Int} (h0 : -1000000000 ≤ n) (h1 : n ≤ 1000000000) : foldN n ≤ 2000000000 := by
  unfold foldN
  split <;> omega
theorem spec_l1NumBytes_l0 (d : Nat) : ∀ (x : Nat) (l : List Int), x < 128 ^ (d + 1) → x < 4611686018427387904 → l.length + d < 140737488355328 → Ev (fun k => spec_l1NumBytes.l0 k (x : Int) l) (strOfNums (l ++ nb x)) := by
  induction d with
  | zero =>
    intro x l hx hx2 hl
    refine evSucc ?_
    simp only [spec_l1NumBytes.l0]
    refine evNeg (by omega) (evPos (by omega) (evNow ?_))
    rw [nb_small (by omega)]
    congr 3
    omega
  | succ d ih =>
    intro x l hx hx2 hl
    refine evSucc ?_
    simp only [spec_l1NumBytes.l0]
    by_cases h : x < 128
    · refine evNeg (by omega) (evPos (by omega) (evNow ?_))
      rw [nb_small h]
      congr 3
      omega
    · refine evPos (by omega) (evPos (by omega) ?_)
      rw [nb_big h]
      have hd : x / 128 < 128 ^ (d + 1) := by
        rw [Nat.pow_succ] at hx
        omega
      refine evTwo (r := strOfNums ((l ++ [((x % 128 + 128 : Nat) : Int)]) ++ nb (x / 128))) ?_ (by rw [List.append_assoc]; rfl)
      have e1 : wrap64 (Int.tdiv (x : Int) 128) = ((x / 128 : Nat) : Int) := by
        rw [tdiv_nn (by omega), wrap64_id (by omega) (by omega)]
        omega
      have e2 : wrap64 ((Int.tmod (x : Int) 128) + 128) % 256 = ((x % 128 + 128 : Nat) : Int) := by
        rw [tmod_nn (by omega), wrap64_id (by omega) (by omega)]
        omega
      simp only [e1, e2]
      exact ih (x / 128) _ hd (by omega) (by simp; omega)
theorem impl_numBytes_l0 (d : Nat) : ∀ (x : Nat) (l : List Int), x < 128 ^ (d + 1) → x < 4611686018427387904 → l.length + d < 140737488355328 → Ev (fun k => impl_numBytes.l0 k l (x : Int)) (strOfNums (l ++ nb x)) := by
  induction d with
  | zero =>
    intro x l hx hx2 hl
    refine evSucc ?_
    simp only [impl_numBytes.l0]
    refine evNeg (by omega) (evPos (by omega) (evNow ?_))
    rw [nb_small (by omega)]
    congr 3
    omega
  | succ d ih =>
    intro x l hx hx2 hl
    refine evSucc ?_
    simp only [impl_numBytes.l0]
    by_cases h : x < 128
    · refine evNeg (by omega) (evPos (by omega) (evNow ?_))
      rw [nb_small h]
      congr 3
      omega
    · refine evPos (by omega) (evPos (by omega) ?_)
      rw [nb_big h]
      have hd : x / 128 < 128 ^ (d + 1) := by
        rw [Nat.pow_succ] at hx
        omega
      refine evTwo (r := strOfNums ((l ++ [((x % 128 + 128 : Nat) : Int)]) ++ nb (x / 128))) ?_ (by rw [List.append_assoc]; rfl)
      have e1 : (x : Int) / 128 = ((x / 128 : Nat) : Int) := by omega
      have e2 : Go.bits .or .i64 (Go.bits .and .i64 (x : Int) 127) 128 % 256 = ((x % 128 + 128 : Nat) : Int) := by
        rw [nb_or x hx2]
        omega
      simp only [e1, e2]
      exact ih (x / 128) _ hd (by omega) (by simp; omega)
theorem spec_l1NumBytes_ev {n : Int} (h0 : -1000000000 ≤ n) (h1 : n ≤ 1000000000) : Ev (fun k => spec_l1NumBytes.f k n) (strOfNums (nb (foldN n))) := by
  have := foldN_lt h0 h1
  simp only [spec_l1NumBytes.f]
  exact evC (spec_l1Fold_eq h0 h1) (spec_l1NumBytes_l0 8 _ [] (by simp; omega) (by omega) (by simp))
theorem impl_numBytes_ev {n : Int} (h0 : -1000000000 ≤ n) (h1 : n ≤ 1000000000) : Ev (fun k => impl_numBytes.f k n) (strOfNums (nb (foldN n))) := by
  have := foldN_lt h0 h1
  simp only [impl_numBytes.f]
  exact evC (impl_fold_eq h0 h1) (impl_numBytes_l0 8 _ [] (by simp; omega) (by omega) (by simp))

theorem FnExactNumBytes : laws_FnExactNumBytes.Pure := by
  intro a _
  refine Ev.rounds (r := true) ?_
  simp only [laws_FnExactNumBytes.f, spec_NumBytes.f, impl_NumBytes.f, impl_isWhole.f, spec_l1In_eq, impl_in_eq, Option.bind_some]
  by_cases h : -1000000000 ≤ a ∧ a ≤ 1000000000
  · refine evB (evPos (decide_eq_true h) (evB (spec_l1NumBytes_ev h.1 h.2) (evNow rfl))) (evB (evPos (decide_eq_true h) (evB (impl_numBytes_ev h.1 h.2) (evNow rfl))) ?_)
    exact evPos rfl (evNeg (by simp) (evNow rfl))
  · refine evB (evNeg (by simpa using h) (evNow rfl)) (evB (evNeg (by simpa using h) (evNow rfl)) ?_)
    exact evPos rfl (evNeg (by simp) (evNow rfl))

end Go.Proofs.Ytgkohhjdnckdaaa.Pure
