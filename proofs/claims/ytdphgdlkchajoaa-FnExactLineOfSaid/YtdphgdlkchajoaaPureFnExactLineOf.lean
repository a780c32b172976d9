/- The plain statement of the law FnExactLineOf: at all arguments within the row's bounds the printed function answers true. No further condition. -/
import Derived.Test.YtdphgdlkchajoaaPFnExactLineOfx1
import Derived.Test.YtdphgdlkchajoaaBase
set_option linter.unusedVariables false
set_option linter.unusedSimpArgs false
namespace Go.Proofs.Ytdphgdlkchajoaa.Pure
open Go.RowKit Go.Proofs.Ytdphgdlkchajoaa.PFnExactLineOf Go.Proofs.YtdphgdlkchajoaaW.PrintWords Go.Proofs.YtdphgdlkchajoaaW.PrintLast

/-! ### inF -/
theorem spec_l1In_eq (a b c : Int) : spec_l1In.f a b c = some (decide (b ≤ a ∧ a ≤ c)) := by
  unfold spec_l1In.f
  by_cases h : a ≥ b
  · rw [if_pos h]; simp [h]
  · rw [if_neg h]; simp [h]
theorem impl_in_eq (a b c : Int) : impl_in.f a b c = some (decide (b ≤ a ∧ a ≤ c)) := by
  unfold impl_in.f
  by_cases h : a ≥ b
  · rw [if_pos h]; simp [h]
  · rw [if_neg h]; simp [h]

/-! ### lines -/
def cntN (s : ByteArray) : Nat → Nat
  | 0 => 0
  | i + 1 => cntN s i + (if bt s (i : Int) = 10 then 1 else 0)
def lastN (s : ByteArray) : Nat → Nat
  | 0 => 0
  | i + 1 => if bt s (i : Int) = 10 then i + 1 else lastN s i
theorem cntN_le (s : ByteArray) (n : Nat) : cntN s n ≤ n := by
  induction n with
  | zero => exact Nat.le_refl _
  | succ n ih =>
    simp only [cntN]
    split <;> omega
theorem lastN_le (s : ByteArray) (n : Nat) : lastN s n ≤ n := by
  induction n with
  | zero => exact Nat.le_refl _
  | succ n ih =>
    simp only [lastN]
    split <;> omega
theorem bt_at {s : ByteArray} {i : Nat} (h : i < s.size) : bt s (i : Int) = (((s.data.toList)[i]'(by rw [Array.length_toList]; exact h)).toNat : Int) := by
  unfold bt
  rw [dif_pos (show (i : Int).toNat < s.size by simpa using h)]
  simp only [Int.toNat_natCast, Array.getElem_toList]
  rfl
theorem extract_list (s : ByteArray) (n : Nat) : (s.extract 0 n).data.toList = s.data.toList.take n := by
  simp [ByteArray.data_extract]
theorem bt_extract {s : ByteArray} {n j : Nat} (hn : n ≤ s.size) (hj : j < n) : bt (s.extract 0 n) (j : Int) = bt s (j : Int) := by
  have h1 : j < (s.extract 0 n).size := by rw [ByteArray.size_extract]; omega
  rw [bt_at h1, bt_at (show j < s.size by omega)]
  have e : ∀ (l : List UInt8) (q : l = s.data.toList.take n) (h : j < l.length), ((l[j]'h).toNat : Int) = (((s.data.toList)[j]'(by rw [Array.length_toList]; exact Nat.lt_of_lt_of_le hj hn)).toNat : Int) := by
    intro l q h
    subst q
    rw [List.getElem_take]
  exact e _ (extract_list s n) _
theorem count_take (s : ByteArray) (n : Nat) (hn : n ≤ s.size) : (s.data.toList.take n).count 10 = cntN s n := by
  induction n with
  | zero => rfl
  | succ n ih =>
    have h : n < s.data.toList.length := by rw [Array.length_toList]; exact hn
    rw [List.take_succ_eq_append_getElem h, List.count_append, ih (by omega)]
    simp only [cntN, bt_at (show n < s.size by omega)]
    have e : ∀ x : UInt8, List.count 10 [x] = if ((x.toNat : Nat) : Int) = 10 then 1 else 0 := by
      intro x
      rw [List.count_singleton]
      by_cases hx : x = 10
      · subst hx
        rfl
      · have h2 : ¬ ((x.toNat : Nat) : Int) = 10 := by
          intro q
          apply hx
          apply UInt8.toNat_inj.1
          have : x.toNat = 10 := by omega
          rw [this]
          rfl
        rw [if_neg h2]
        simp [hx]
    rw [e]
theorem strings_Count_eq (s : ByteArray) (n : Nat) (hn : n ≤ s.size) : strings_Count.f (s.extract 0 n) (⟨#[10]⟩ : ByteArray) = some ((cntN s n : Nat) : Int) := by
  rw [← count_take s n hn, ← extract_list]
  rfl
theorem spec_LineOf_l0 (s : ByteArray) (n : Nat) (hn : n ≤ s.size) (h : s.size ≤ 1200) (d : Nat) : ∀ i : Nat, i + d = n → Ev (fun k => spec_LineOf.l0 k s (n : Int) ((cntN s i + 1 : Nat) : Int) ((lastN s i : Nat) : Int) (i : Int)) (((cntN s n + 1 : Nat) : Int), (n : Int) - (lastN s n : Nat), true) := by
  induction d with
  | zero =>
    intro i hi
    obtain rfl : i = n := by omega
    have := lastN_le s i
    refine evSucc ?_
    simp only [spec_LineOf.l0]
    refine evNeg (by omega) (evNow ?_)
    rw [wrap64_id (by omega) (by omega)]
  | succ d ih =>
    intro i hi
    have h1 := cntN_le s i
    refine evSucc ?_
    simp only [spec_LineOf.l0, wrap64_nat i (show i < 4611686018427387904 by omega), wrap64_nat (cntN s i + 1) (show cntN s i + 1 < 4611686018427387904 by omega)]
    refine evPos (by omega) (evPos (by omega) (evPos (by omega) ?_))
    have hgo := ih (i + 1) (by omega)
    by_cases hb : bt s (i : Int) = 10
    · simp only [cntN, lastN, if_pos hb] at hgo
      exact evPos hb hgo
    · simp only [cntN, lastN, if_neg hb, Nat.add_zero] at hgo
      exact evNeg hb hgo
theorem last_l0 (s t : ByteArray) (n : Nat) (ht : t.size = n) (h : n ≤ 1200) (he : ∀ j : Nat, j < n → bt t (j : Int) = bt s (j : Int)) (i : Nat) : i ≤ n → Ev (fun k => bytealg_LastIndexByteString.l0 k t 10 ((i : Int) - 1)) (((lastN s i : Nat) : Int) - 1) := by
  induction i with
  | zero =>
    intro _
    refine evSucc ?_
    simp only [bytealg_LastIndexByteString.l0]
    exact evNeg (by omega) (evNow rfl)
  | succ i ih =>
    intro hi
    refine evSucc ?_
    have e : ((i + 1 : Nat) : Int) - 1 = (i : Int) := by omega
    simp only [bytealg_LastIndexByteString.l0, e, he i (by omega), wrap64_id (x := (i : Int) - 1) (by omega) (by omega)]
    refine evPos (by omega) (evPos (by omega) (evPos (by omega) ?_))
    by_cases hb : bt s (i : Int) = 10
    · refine evPos hb (evNow ?_)
      simp only [lastN, if_pos hb]
      omega
    · simp only [lastN, if_neg hb]
      exact ih (by omega)
theorem strings_LastIndex_ev (s : ByteArray) (n : Nat) (hn : n ≤ s.size) (h : s.size ≤ 1200) : Ev (fun k => strings_LastIndex.f k (s.extract 0 n) (⟨#[10]⟩ : ByteArray)) (((lastN s n : Nat) : Int) - 1) := by
  have hs : (s.extract 0 n).size = n := by rw [ByteArray.size_extract]; omega
  simp only [strings_LastIndex.f]
  refine evNeg (by decide) (evPos (by decide) (evPos (by decide) (evB ?_ (evNow rfl))))
  simp only [bytealg_LastIndexByteString.f]
  have e1 : bt (⟨#[10]⟩ : ByteArray) 0 = 10 := by decide
  rw [e1, hs]
  rw [wrap64_id (x := (n : Int) - 1) (by omega) (by omega)]
  exact last_l0 s _ n hs (by omega) (fun j hj => bt_extract hn hj) n (Nat.le_refl n)
def lineV (s : ByteArray) (a : Int) : Int × Int × Bool := if s.size ≤ 1200 ∧ 0 ≤ a ∧ a ≤ (s.size : Int) then (((cntN s a.toNat + 1 : Nat) : Int), a - (lastN s a.toNat : Nat), true) else (0, 0, false)
theorem spec_LineOf_ev (s : ByteArray) (a : Int) : Ev (fun k => spec_LineOf.f k s a) (lineV s a) := by
  have no : ¬ (s.size ≤ 1200 ∧ 0 ≤ a ∧ a ≤ (s.size : Int)) → Ev (fun k => spec_LineOf.j0 k s a true) (lineV s a) := fun h => by
    unfold lineV
    rw [if_neg h]
    refine evSucc ?_
    simp only [spec_LineOf.j0]
    exact evPos (by first | rfl | trivial) (evNow rfl)
  simp only [spec_LineOf.f, spec_l1In_eq, Option.bind_some]
  by_cases h0 : (s.size : Int) > 1200
  · exact evPos h0 (no (by omega))
  · refine evNeg h0 ?_
    by_cases h1 : 0 ≤ a ∧ a ≤ (s.size : Int)
    · rw [decide_eq_true h1]
      obtain ⟨n, rfl⟩ := Int.eq_ofNat_of_zero_le h1.1
      unfold lineV
      rw [if_pos ⟨by omega, h1⟩]
      refine evSucc ?_
      simp only [spec_LineOf.j0]
      refine evNeg (by simp) ?_
      exact spec_LineOf_l0 s n (by omega) (by omega) n 0 (by omega)
    · rw [decide_eq_false h1]
      exact no (fun q => h1 q.2)
theorem impl_LineOf_ev (s : ByteArray) (a : Int) : Ev (fun k => impl_LineOf.f k s a) (lineV s a) := by
  have no : ¬ (s.size ≤ 1200 ∧ 0 ≤ a ∧ a ≤ (s.size : Int)) → Ev (fun k => impl_LineOf.j0 k s a true) (lineV s a) := fun h => by
    unfold lineV
    rw [if_neg h]
    refine evSucc ?_
    simp only [impl_LineOf.j0]
    exact evPos (by first | rfl | trivial) (evNow rfl)
  simp only [impl_LineOf.f, impl_in_eq, Option.bind_some]
  by_cases h0 : (s.size : Int) > 1200
  · exact evPos h0 (no (by omega))
  · refine evNeg h0 ?_
    by_cases h1 : 0 ≤ a ∧ a ≤ (s.size : Int)
    · rw [decide_eq_true h1]
      obtain ⟨n, rfl⟩ := Int.eq_ofNat_of_zero_le h1.1
      unfold lineV
      rw [if_pos ⟨by omega, h1⟩]
      have hn : n ≤ s.size := by omega
      have c1 := cntN_le s n
      have c2 := lastN_le s n
      refine evSucc ?_
      simp only [impl_LineOf.j0, Int.toNat_natCast, strings_Count_eq s n hn, Option.bind_some]
      refine evNeg (by simp) (evPos (by omega) (evPos (by omega) (evB (strings_LastIndex_ev s n hn (by omega)) (evNow ?_))))
      rw [wrap64_nat (cntN s n) (by omega), wrap64_id (x := (n : Int) - (((lastN s n : Nat) : Int) - 1)) (by omega) (by omega), wrap64_id (by omega) (by omega)]
      congr 2
      omega
    · rw [decide_eq_false h1]
      exact no (fun q => h1 q.2)
theorem FnExactLineOf : laws_FnExactLineOf.Pure := by
  intro s a _ _
  refine Ev.rounds (r := true) ?_
  simp only [laws_FnExactLineOf.f]
  by_cases h : (s.size : Int) > 1048576
  · exact evPos h (evNow rfl)
  · refine evNeg h (evB (spec_LineOf_ev s a) (evB (impl_LineOf_ev s a) (evPos (by first | rfl | trivial) (evPos (by first | rfl | trivial) (evNeg (by simp) (evNow rfl))))))

end Go.Proofs.Ytdphgdlkchajoaa.Pure
