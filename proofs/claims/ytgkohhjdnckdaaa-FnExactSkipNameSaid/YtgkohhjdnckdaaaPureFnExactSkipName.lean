/- The plain statement of the law FnExactSkipName: at all arguments within the row's bounds the printed function answers true. No further condition. -/
import Derived.Test.YtgkohhjdnckdaaaPFnExactSkipNamex3
import Derived.Test.YtgkohhjdnckdaaaBase
set_option linter.unusedVariables false
set_option linter.unusedSimpArgs false
namespace Go.Proofs.Ytgkohhjdnckdaaa.Pure
open Go.RowKit Go.Proofs.Ytgkohhjdnckdaaa.PFnExactSkipName Go.Proofs.YtgkohhjdnckdaaaW.PrintWords Go.Proofs.YtgkohhjdnckdaaaW.PrintLast

/-! ### inF -/
theorem spec_l1In_eq (a b c : Int) : spec_l1In.f a b c = some (decide (b ≤ a ∧ a ≤ c)) := by
  unfold spec_l1In.f
  by_cases h : a ≥ b
  · rw [if_pos h]; simp [h]
  · rw [if_neg h]; simp [h]
theorem impl_in_eq (a b c : Int) : impl_in.f a b c = some (decide (b ≤ a ∧ a ≤ c)) := by
  unfold impl_in.f
  by_cases h : a ≥ b
  · rw [if_pos h]; simp [h]
  · rw [if_neg h]; simp [h]

/-! ### nameDef -/
def letB (c : Int) : Prop := (65 ≤ c ∧ c ≤ 90) ∨ (97 ≤ c ∧ c ≤ 122)
def digB (c : Int) : Prop := 48 ≤ c ∧ c ≤ 57
instance (c : Int) : Decidable (letB c) := by unfold letB; infer_instance
instance (c : Int) : Decidable (digB c) := by unfold digB; infer_instance
/-- The byte at j may stand in a name. -/
def nmAt (s : ByteArray) (j : Nat) : Prop := letB (bt s (j : Int)) ∨ (j ≠ 0 ∧ digB (bt s (j : Int)))
instance (s : ByteArray) (j : Nat) : Decidable (nmAt s j) := by unfold nmAt; infer_instance
def nameOk (s : ByteArray) : Bool := decide (1 ≤ s.size ∧ s.size ≤ 10 ∧ ∀ j, j < s.size → nmAt s j)
theorem nameOk_not {s : ByteArray} {j : Nat} (h : j < s.size) (hn : ¬ nmAt s j) : nameOk s = false := by
  unfold nameOk
  exact decide_eq_false fun H => hn (H.2.2 j h)
theorem nameOk_all {s : ByteArray} (h : ∀ j, j < s.size → nmAt s j) : nameOk s = decide ((1 : Int) ≤ (s.size : Int) ∧ (s.size : Int) ≤ 10) := by
  unfold nameOk
  by_cases hs : 1 ≤ s.size ∧ s.size ≤ 10
  · rw [decide_eq_true (by exact ⟨hs.1, hs.2, h⟩), decide_eq_true (by omega)]
  · rw [decide_eq_false (fun H => hs ⟨H.1, H.2.1⟩), decide_eq_false (by omega)]

/-! ### isName -/
theorem impl_isLetter_eq (c : Int) : impl_isLetter.f c = some (decide (letB c)) := by
  unfold impl_isLetter.f letB
  repeat' split
  all_goals simp only [Option.some.injEq]
  all_goals first | (symm; apply decide_eq_true; omega) | (symm; apply decide_eq_false; omega) | (apply decide_eq_decide.2; omega)
theorem impl_isDigit_eq (c : Int) : impl_isDigit.f c = some (decide (digB c)) := by
  unfold impl_isDigit.f digB
  repeat' split
  all_goals simp only [Option.some.injEq]
  all_goals first | (symm; apply decide_eq_true; omega) | (symm; apply decide_eq_false; omega) | (apply decide_eq_decide.2; omega)
theorem impl_isName_l0 (s : ByteArray) (hs : s.size ≤ 140737488355328) (d : Nat) : ∀ i : Nat, i + d = s.size → (∀ j, j < i → nmAt s j) → Ev (fun k => impl_isName.l0 k s (s.size : Int) (i : Int)) (nameOk s) := by
  induction d with
  | zero =>
    intro i hi hall
    refine evSucc ?_
    simp only [impl_isName.l0]
    refine evNeg (by omega) ?_
    simp only [impl_in_eq, Option.bind_some]
    exact evNow (nameOk_all (fun j hj => hall j (by omega))).symm
  | succ d ih =>
    intro i hi hall
    refine evSucc ?_
    simp only [impl_isName.l0]
    refine evPos (by omega) (evPos (by omega) (evPos (by omega) ?_))
    simp only [impl_isLetter_eq, impl_isDigit_eq, Option.bind_some, wrap64_nat i (by omega)]
    by_cases h1 : letB (bt s (i : Int))
    · refine evPos (decide_eq_true h1) (ih (i + 1) (by omega) fun j hj => ?_)
      by_cases e : j = i
      · subst e; exact .inl h1
      · exact hall j (by omega)
    · refine evNeg (by simpa using h1) ?_
      by_cases h0 : i = 0
      · refine evPos (by omega) (evNow (nameOk_not (j := i) (by omega) ?_).symm)
        rintro (H | H)
        · exact h1 H
        · exact H.1 h0
      · refine evNeg (by omega) ?_
        by_cases h2 : digB (bt s (i : Int))
        · refine evPos (decide_eq_true h2) (ih (i + 1) (by omega) fun j hj => ?_)
          by_cases e : j = i
          · subst e; exact .inr ⟨h0, h2⟩
          · exact hall j (by omega)
        · refine evNeg (by simpa using h2) (evNow (nameOk_not (j := i) (by omega) ?_).symm)
          rintro (H | H)
          · exact h1 H
          · exact h2 H.2
theorem impl_isName_ev (s : ByteArray) (hs : s.size ≤ 140737488355328) : Ev (fun k => impl_isName.f k s) (nameOk s) := by
  simp only [impl_isName.f]
  exact impl_isName_l0 s hs s.size 0 (by omega) (fun j hj => absurd hj (Nat.not_lt_zero _))
theorem spec_l1Name_l0 (s : ByteArray) (hs : s.size ≤ 140737488355328) (d : Nat) : ∀ i : Nat, i + d = s.size → (∀ j, j < i → nmAt s j) → Ev (fun k => spec_l1Name.l0 k s (i : Int)) (nameOk s) := by
  induction d with
  | zero =>
    intro i hi hall
    refine evSucc ?_
    simp only [spec_l1Name.l0]
    refine evNeg (by omega) ?_
    simp only [spec_l1In_eq, Option.bind_some]
    exact evNow (nameOk_all (fun j hj => hall j (by omega))).symm
  | succ d ih =>
    intro i hi hall
    refine evSucc ?_
    simp only [spec_l1Name.l0]
    refine evPos (by omega) (evPos (by omega) ?_)
    simp only [wrap64_nat i (by omega)]
    have yes : nmAt s i → Ev (fun k => spec_l1Name.l0 k s ((i + 1 : Nat) : Int)) (nameOk s) := fun h => ih (i + 1) (by omega) fun j hj => by
      by_cases e : j = i
      · subst e; exact h
      · exact hall j (by omega)
    have no : ¬ nmAt s i → Ev (fun _ : Nat => some false) (nameOk s) := fun h => evNow (nameOk_not (j := i) (by omega) h).symm
    unfold nmAt letB digB at yes no
    generalize bt s (i : Int) = c at yes no ⊢
    have dec : ∀ (p : Prop) [Decidable p] (g f : Nat → Option Bool), (p → Ev g (nameOk s)) → (¬ p → Ev f (nameOk s)) → Ev (fun n => if p then g n else f n) (nameOk s) := fun p _ g f hg hf => by
      by_cases h : p
      · exact evPos h (hg h)
      · exact evNeg h (hf h)
    repeat' (first | exact yes (by omega) | exact no (by omega) | (refine dec _ _ _ (fun _ => ?_) (fun _ => ?_)))
theorem spec_l1Name_ev (s : ByteArray) (hs : s.size ≤ 140737488355328) : Ev (fun k => spec_l1Name.f k s) (nameOk s) := by
  simp only [spec_l1Name.f]
  exact spec_l1Name_l0 s hs s.size 0 (by omega) (fun j hj => absurd hj (Nat.not_lt_zero _))

/-! ### readName -/
/-- The byte at a, as a number from 0 on. -/
def byN (s : ByteArray) (a : Nat) : Nat := (bt s (a : Int)).toNat
theorem byN_eq (s : ByteArray) (a : Nat) : bt s (a : Int) = (byN s a : Int) := by
  have := bt_range s (a : Int)
  unfold byN
  omega
theorem byN_le (s : ByteArray) (a : Nat) : byN s a ≤ 255 := by
  have := bt_range s (a : Int)
  unfold byN
  omega
/-- A name's bytes stand at a. -/
def rdOk (s : ByteArray) (a : Nat) : Prop := a < s.size ∧ a + 1 + byN s a ≤ s.size ∧ nameOk (s.extract (a + 1) (a + 1 + byN s a)) = true
instance (s : ByteArray) (a : Nat) : Decidable (rdOk s a) := by unfold rdOk; infer_instance
def rdName (s : ByteArray) (a : Nat) : ByteArray := s.extract (a + 1) (a + 1 + byN s a)
def readNmV (s : ByteArray) (a : Nat) : ByteArray × Int × Bool := if rdOk s a then (rdName s a, ((a + 1 + byN s a : Nat) : Int), true) else (⟨#[]⟩, 0, false)
theorem extract_le (s : ByteArray) (i j : Nat) : (s.extract i j).size ≤ s.size := by
  rw [ByteArray.size_extract]
  omega
theorem impl_readName_ev (s : ByteArray) (hs : s.size ≤ 1000000) (a : Nat) (ha : a ≤ 1000000) : Ev (fun k => impl_readName.f k s (a : Int)) (readNmV s a) := by
  simp only [impl_readName.f]
  by_cases h1 : a < s.size
  · have hn := byN_eq s a
    have hn2 := byN_le s a
    have e1 : wrap64 ((a : Int) + 1) = ((a + 1 : Nat) : Int) := wrap64_nat a (by omega)
    have e0 : wrap64 (byN s a : Int) = byN s a := wrap64_id (by omega) (by omega)
    have e2 : wrap64 (((a + 1 : Nat) : Int) + (byN s a : Int)) = ((a + 1 + byN s a : Nat) : Int) := by rw [wrap64_id] <;> omega
    refine evNeg (by omega) (evPos (by omega) (evPos (by omega) ?_))
    simp only [hn, e1, e0, e2]
    by_cases h2 : a + 1 + byN s a ≤ s.size
    · refine evNeg (by omega) (evPos (by omega) (evPos (by omega) (evPos (by omega) ?_)))
      simp only [Int.toNat_natCast]
      refine evB (impl_isName_ev _ (Nat.le_trans (extract_le _ _ _) (by omega))) ?_
      by_cases h3 : nameOk (s.extract (a + 1) (a + 1 + byN s a)) = true
      · exact evPos h3 (evNow (if_pos (show rdOk s a from ⟨h1, h2, h3⟩)).symm)
      · exact evNeg h3 (evNow (if_neg (show ¬ rdOk s a from fun H => h3 H.2.2)).symm)
    · exact evPos (by omega) (evNow (if_neg (show ¬ rdOk s a from fun H => h2 H.2.1)).symm)
  · exact evPos (by omega) (evNow (if_neg (show ¬ rdOk s a from fun H => h1 H.1)).symm)
theorem spec_l1B_byte1_eq (s : ByteArray) (hs : s.size ≤ 1000000) (a : Nat) : spec_l1B_byte1.f s (a : Int) false = some (if a < s.size then ((byN s a : Int), s, ((a + 1 : Nat) : Int), false) else (0, s, (a : Int), true)) := by
  simp only [spec_l1B_byte1.f]
  by_cases h : a < s.size
  · have e1 : wrap64 ((a : Int) + 1) = ((a + 1 : Nat) : Int) := wrap64_nat a (by omega)
    have e2 : wrap64 (((a + 1 : Nat) : Int) - 1) = (a : Int) := by rw [wrap64_id] <;> omega
    have e0 : wrap64 (byN s a : Int) = byN s a := by
      have := byN_le s a
      exact wrap64_id (by omega) (by omega)
    rw [if_neg (by simp), if_neg (by omega), if_pos h]
    simp only [e1, e2, byN_eq, e0]
    rw [if_pos (by omega), if_pos (by omega)]
  · rw [if_neg (by simp), if_pos (by omega), if_neg h]
def nmV (s : ByteArray) (a : Nat) : ByteArray × ByteArray × Int × Bool := if rdOk s a then (rdName s a, s, ((a + 1 + byN s a : Nat) : Int), false) else (⟨#[]⟩, s, (if a < s.size then ((a + 1 : Nat) : Int) else (a : Int)), true)
theorem spec_l1B_name_ev (s : ByteArray) (hs : s.size ≤ 1000000) (a : Nat) (ha : a ≤ 1000000) : Ev (fun k => spec_l1B_name.f k s (a : Int) false) (nmV s a) := by
  simp only [spec_l1B_name.f]
  refine evC (spec_l1B_byte1_eq s hs a) ?_
  by_cases h1 : a < s.size
  · have hn2 := byN_le s a
    have e2 : wrap64 (((a + 1 : Nat) : Int) + (byN s a : Int)) = ((a + 1 + byN s a : Nat) : Int) := by rw [wrap64_id] <;> omega
    have e3 : wrap64 (((a + 1 + byN s a : Nat) : Int) - (byN s a : Int)) = ((a + 1 : Nat) : Int) := by rw [wrap64_id] <;> omega
    simp only [h1, if_true, e2, e3, Int.toNat_natCast]
    refine evNeg (by simp) ?_
    by_cases h2 : a + 1 + byN s a ≤ s.size
    · refine evNeg (by omega) (evPos (by omega) (evPos (by omega) (evPos (by omega) ?_)))
      refine evB (spec_l1Name_ev _ (Nat.le_trans (extract_le _ _ _) (by omega))) ?_
      by_cases h3 : nameOk (s.extract (a + 1) (a + 1 + byN s a)) = true
      · exact evPos h3 (evPos (by omega) (evPos (by omega) (evNow (if_pos (show rdOk s a from ⟨h1, h2, h3⟩)).symm)))
      · refine evNeg h3 (evNow ?_)
        rw [nmV, if_neg (show ¬ rdOk s a from fun H => h3 H.2.2), if_pos h1]
    · refine evPos (by omega) (evNow ?_)
      rw [nmV, if_neg (show ¬ rdOk s a from fun H => h2 H.2.1), if_pos h1]
  · simp only [h1, if_false]
    refine evPos (by simp) (evNow ?_)
    rw [nmV, if_neg (show ¬ rdOk s a from fun H => h1 H.1), if_neg h1]

theorem FnExactSkipName : laws_FnExactSkipName.Pure := by
  intro s hs
  refine Ev.rounds (r := true) ?_
  simp only [laws_FnExactSkipName.f]
  by_cases hb : (s.size : Int) > 1048576
  · exact evPos hb (evNow rfl)
  · refine evNeg hb ?_
    have fin : ∀ v : ByteArray × Bool, Ev (fun k => spec_SkipName.f k s) v → Ev (fun k => impl_SkipName.f k s) v → Ev (fun k => (spec_SkipName.f k s).bind fun b => (impl_SkipName.f k s).bind fun c => if c.1.toList = b.1.toList then (if (c.2 != b.2) = true then some false else some true) else some false) true := fun v h1 h2 =>
      evB h1 (evB h2 (evPos (by first | rfl | trivial) (evNeg (by simp) (evNow rfl))))
    by_cases h1 : s.size ≤ 3000
    · by_cases h2 : 3 ≤ s.size
      · by_cases h3 : (s.extract 0 3).toList = ([79, 83, 49] : List UInt8)
        · have e1 := spec_l1B_name_ev s (by omega) 3 (by omega)
          have e2 := impl_readName_ev s (by omega) 3 (by omega)
          refine fin ((readNmV s 3).1, (readNmV s 3).2.2) ?_ ?_
          · simp only [spec_SkipName.f]
            refine evNeg (by omega) (evNeg (by omega) (evPos (by omega) (evPos (by omega) ?_)))
            refine evSucc ?_
            simp only [spec_SkipName.j0, h3]
            refine evNeg (by simp) (evB e1 ?_)
            unfold nmV readNmV
            by_cases hr : rdOk s 3
            · simp only [hr, if_true]
              exact evNeg (by simp) (evNow rfl)
            · simp only [hr, if_false]
              exact evPos (by first | rfl | trivial) (evNow rfl)
          · simp only [impl_SkipName.f]
            refine evNeg (by omega) (evC (a := true) ?_ (evPos rfl (evB e2 (evNow rfl))))
            simp only [strings_HasPrefix.f, stringslite_HasPrefix.f]
            have e3 : ((⟨#[79, 83, 49]⟩ : ByteArray).size : Int) = 3 := rfl
            have e4 : (⟨#[79, 83, 49]⟩ : ByteArray).toList = [79, 83, 49] := by rw [ByteArray.toList_eq]
            rw [e3, if_pos (by omega), if_pos (by omega), if_pos (by omega)]
            show (some ((s.extract 0 3).toList == _)).bind _ = _
            rw [h3, e4]
            rfl
        · refine fin (⟨#[]⟩, false) ?_ ?_
          · simp only [spec_SkipName.f]
            refine evNeg (by omega) (evNeg (by omega) (evPos (by omega) (evPos (by omega) ?_)))
            refine evSucc ?_
            simp only [spec_SkipName.j0]
            exact evPos (by simpa using h3) (evNow rfl)
          · simp only [impl_SkipName.f]
            refine evNeg (by omega) (evC (a := false) ?_ (evNeg (by simp) (evNow rfl)))
            simp only [strings_HasPrefix.f, stringslite_HasPrefix.f]
            have e3 : ((⟨#[79, 83, 49]⟩ : ByteArray).size : Int) = 3 := rfl
            have e4 : (⟨#[79, 83, 49]⟩ : ByteArray).toList = [79, 83, 49] := by rw [ByteArray.toList_eq]
            rw [e3, if_pos (by omega), if_pos (by omega), if_pos (by omega)]
            show (some ((s.extract 0 3).toList == _)).bind _ = _
            rw [e4]
            simpa using h3
      · refine fin (⟨#[]⟩, false) ?_ ?_
        · simp only [spec_SkipName.f]
          refine evNeg (by omega) (evPos (by omega) ?_)
          refine evSucc ?_
          simp only [spec_SkipName.j0]
          exact evPos (by first | rfl | trivial) (evNow rfl)
        · simp only [impl_SkipName.f]
          refine evNeg (by omega) (evC (a := false) ?_ (evNeg (by simp) (evNow rfl)))
          simp only [strings_HasPrefix.f, stringslite_HasPrefix.f]
          have e3 : ((⟨#[79, 83, 49]⟩ : ByteArray).size : Int) = 3 := rfl
          rw [e3, if_neg (by omega)]
          rfl
    · refine fin (⟨#[]⟩, false) ?_ ?_
      · simp only [spec_SkipName.f]
        refine evPos (by omega) ?_
        refine evSucc ?_
        simp only [spec_SkipName.j0]
        exact evPos (by first | rfl | trivial) (evNow rfl)
      · simp only [impl_SkipName.f]
        exact evPos (by omega) (evNow rfl)

end Go.Proofs.Ytgkohhjdnckdaaa.Pure
