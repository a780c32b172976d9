/- The plain statement of the law FnExactTypeBytes: at all arguments within the row's bounds the printed function answers true. No further condition. -/
import Derived.Test.YtdphgdlkchajoaaRichFnExactTypeBytes
import Derived.Test.YtdphgdlkchajoaaPFnExactTypeBytesx7
import Derived.Test.YtdphgdlkchajoaaBase
set_option linter.unusedVariables false
set_option linter.unusedSimpArgs false
namespace Go.Proofs.Ytdphgdlkchajoaa.Pure
open Go.RowKit Go.Proofs.Ytdphgdlkchajoaa.PFnExactTypeBytes Go.Proofs.YtdphgdlkchajoaaW.PrintWords Go.Proofs.YtdphgdlkchajoaaW.PrintLast Go.Proofs.Ytdphgdlkchajoaa.Opens Go.Proofs.Ytdphgdlkchajoaa.RichFnExactTypeBytes

/-! ### inF -/
theorem spec_l1In_eq (a b c : Int) : spec_l1In.f a b c = some (decide (b ≤ a ∧ a ≤ c)) := by
  unfold spec_l1In.f
  by_cases h : a ≥ b
  · rw [if_pos h]; simp [h]
  · rw [if_neg h]; simp [h]
theorem impl_in_eq (a b c : Int) : impl_in.f a b c = some (decide (b ≤ a ∧ a ≤ c)) := by
  unfold impl_in.f
  by_cases h : a ≥ b
  · rw [if_pos h]; simp [h]
  · rw [if_neg h]; simp [h]

/-! ### nameDef -/
def letB (c : Int) : Prop := (65 ≤ c ∧ c ≤ 90) ∨ (97 ≤ c ∧ c ≤ 122)
def digB (c : Int) : Prop := 48 ≤ c ∧ c ≤ 57
instance (c : Int) : Decidable (letB c) := by unfold letB; infer_instance
instance (c : Int) : Decidable (digB c) := by unfold digB; infer_instance
/-- The byte at j may stand in a name. -/
def nmAt (s : ByteArray) (j : Nat) : Prop := letB (bt s (j : Int)) ∨ (j ≠ 0 ∧ digB (bt s (j : Int)))
instance (s : ByteArray) (j : Nat) : Decidable (nmAt s j) := by unfold nmAt; infer_instance
def nameOk (s : ByteArray) : Bool := decide (1 ≤ s.size ∧ s.size ≤ 10 ∧ ∀ j, j < s.size → nmAt s j)
theorem nameOk_not {s : ByteArray} {j : Nat} (h : j < s.size) (hn : ¬ nmAt s j) : nameOk s = false := by
  unfold nameOk
  exact decide_eq_false fun H => hn (H.2.2 j h)
theorem nameOk_all {s : ByteArray} (h : ∀ j, j < s.size → nmAt s j) : nameOk s = decide ((1 : Int) ≤ (s.size : Int) ∧ (s.size : Int) ≤ 10) := by
  unfold nameOk
  by_cases hs : 1 ≤ s.size ∧ s.size ≤ 10
  · rw [decide_eq_true (by exact ⟨hs.1, hs.2, h⟩), decide_eq_true (by omega)]
  · rw [decide_eq_false (fun H => hs ⟨H.1, H.2.1⟩), decide_eq_false (by omega)]

/-! ### isName -/
theorem impl_isLetter_eq (c : Int) : impl_isLetter.f c = some (decide (letB c)) := by
  unfold impl_isLetter.f letB
  repeat' split
  all_goals simp only [Option.some.injEq]
  all_goals first | (symm; apply decide_eq_true; omega) | (symm; apply decide_eq_false; omega) | (apply decide_eq_decide.2; omega)
theorem impl_isDigit_eq (c : Int) : impl_isDigit.f c = some (decide (digB c)) := by
  unfold impl_isDigit.f digB
  repeat' split
  all_goals simp only [Option.some.injEq]
  all_goals first | (symm; apply decide_eq_true; omega) | (symm; apply decide_eq_false; omega) | (apply decide_eq_decide.2; omega)
theorem impl_isName_l0 (s : ByteArray) (hs : s.size ≤ 140737488355328) (d : Nat) : ∀ i : Nat, i + d = s.size → (∀ j, j < i → nmAt s j) → Ev (fun k => impl_isName.l0 k s (s.size : Int) (i : Int)) (nameOk s) := by
  induction d with
  | zero =>
    intro i hi hall
    refine evSucc ?_
    simp only [impl_isName.l0]
    refine evNeg (by omega) ?_
    simp only [impl_in_eq, Option.bind_some]
    exact evNow (nameOk_all (fun j hj => hall j (by omega))).symm
  | succ d ih =>
    intro i hi hall
    refine evSucc ?_
    simp only [impl_isName.l0]
    refine evPos (by omega) (evPos (by omega) (evPos (by omega) ?_))
    simp only [impl_isLetter_eq, impl_isDigit_eq, Option.bind_some, wrap64_nat i (by omega)]
    by_cases h1 : letB (bt s (i : Int))
    · refine evPos (decide_eq_true h1) (ih (i + 1) (by omega) fun j hj => ?_)
      by_cases e : j = i
      · subst e; exact .inl h1
      · exact hall j (by omega)
    · refine evNeg (by simpa using h1) ?_
      by_cases h0 : i = 0
      · refine evPos (by omega) (evNow (nameOk_not (j := i) (by omega) ?_).symm)
        rintro (H | H)
        · exact h1 H
        · exact H.1 h0
      · refine evNeg (by omega) ?_
        by_cases h2 : digB (bt s (i : Int))
        · refine evPos (decide_eq_true h2) (ih (i + 1) (by omega) fun j hj => ?_)
          by_cases e : j = i
          · subst e; exact .inr ⟨h0, h2⟩
          · exact hall j (by omega)
        · refine evNeg (by simpa using h2) (evNow (nameOk_not (j := i) (by omega) ?_).symm)
          rintro (H | H)
          · exact h1 H
          · exact h2 H.2
theorem impl_isName_ev (s : ByteArray) (hs : s.size ≤ 140737488355328) : Ev (fun k => impl_isName.f k s) (nameOk s) := by
  simp only [impl_isName.f]
  exact impl_isName_l0 s hs s.size 0 (by omega) (fun j hj => absurd hj (Nat.not_lt_zero _))
theorem spec_l1Name_l0 (s : ByteArray) (hs : s.size ≤ 140737488355328) (d : Nat) : ∀ i : Nat, i + d = s.size → (∀ j, j < i → nmAt s j) → Ev (fun k => spec_l1Name.l0 k s (i : Int)) (nameOk s) := by
  induction d with
  | zero =>
    intro i hi hall
    refine evSucc ?_
    simp only [spec_l1Name.l0]
    refine evNeg (by omega) ?_
    simp only [spec_l1In_eq, Option.bind_some]
    exact evNow (nameOk_all (fun j hj => hall j (by omega))).symm
  | succ d ih =>
    intro i hi hall
    refine evSucc ?_
    simp only [spec_l1Name.l0]
    refine evPos (by omega) (evPos (by omega) ?_)
    simp only [wrap64_nat i (by omega)]
    have yes : nmAt s i → Ev (fun k => spec_l1Name.l0 k s ((i + 1 : Nat) : Int)) (nameOk s) := fun h => ih (i + 1) (by omega) fun j hj => by
      by_cases e : j = i
      · subst e; exact h
      · exact hall j (by omega)
    have no : ¬ nmAt s i → Ev (fun _ : Nat => some false) (nameOk s) := fun h => evNow (nameOk_not (j := i) (by omega) h).symm
    unfold nmAt letB digB at yes no
    generalize bt s (i : Int) = c at yes no ⊢
    have dec : ∀ (p : Prop) [Decidable p] (g f : Nat → Option Bool), (p → Ev g (nameOk s)) → (¬ p → Ev f (nameOk s)) → Ev (fun n => if p then g n else f n) (nameOk s) := fun p _ g f hg hf => by
      by_cases h : p
      · exact evPos h (hg h)
      · exact evNeg h (hf h)
    repeat' (first | exact yes (by omega) | exact no (by omega) | (refine dec _ _ _ (fun _ => ?_) (fun _ => ?_)))
theorem spec_l1Name_ev (s : ByteArray) (hs : s.size ≤ 140737488355328) : Ev (fun k => spec_l1Name.f k s) (nameOk s) := by
  simp only [spec_l1Name.f]
  exact spec_l1Name_l0 s hs s.size 0 (by omega) (fun j hj => absurd hj (Nat.not_lt_zero _))

/-! ### nb -/
/-- The bytes of a number, seven bits each. -/
def nb (x : Nat) : List Int := if h : x < 128 then [(x : Int)] else ((x % 128 + 128 : Nat) : Int) :: nb (x / 128)
termination_by x
decreasing_by omega
theorem nb_small {x : Nat} (h : x < 128) : nb x = [(x : Int)] := by
  rw [nb, dif_pos h]
theorem nb_big {x : Nat} (h : ¬ x < 128) : nb x = ((x % 128 + 128 : Nat) : Int) :: nb (x / 128) := by
  rw [nb, dif_neg h]
theorem nb_or (x : Nat) (h : x < 4611686018427387904) : Go.bits .or .i64 (Go.bits .and .i64 (x : Int) 127) 128 = ((x % 128 + 128 : Nat) : Int) := by
  have h1 : Go.bits .and .i64 (x : Int) 127 = (x : Int) % 128 := bits_mask .i64 63 (by decide) wraps_i64 7 (by decide) x (by omega) (by omega)
  have h2 : Go.bits .or .i64 ((x : Int) % 128) 128 = Go.bits .or .i64 128 ((x : Int) % 128) := by
    unfold Go.bits
    simp only [BitVec.or_comm]
  rw [h1, h2, bits_join .i64 63 (by decide) wraps_i64 7 128 ((x : Int) % 128) (by decide) (by decide) (by decide) (by omega) (by omega) (by omega)]
  omega
/-- What a number is without its sign. -/
def foldN (n : Int) : Nat := if n < 0 then (-2 * n - 1).toNat else (2 * n).toNat

/-! ### numBytes -/
theorem spec_l1Fold_eq {n : Int} (h0 : -1000000000 ≤ n) (h1 : n ≤ 1000000000) : spec_l1Fold.f n = some ((foldN n : Nat) : Int) := by
  unfold spec_l1Fold.f foldN
  by_cases h : n < 0
  · rw [if_pos h, if_pos h, wrap64_id (x := -2 * n) (by omega) (by omega), wrap64_id (by omega) (by omega)]
    congr 1
    omega
  · rw [if_neg h, if_neg h, wrap64_id (by omega) (by omega)]
    congr 1
    omega
theorem impl_fold_eq {n : Int} (h0 : -1000000000 ≤ n) (h1 : n ≤ 1000000000) : impl_fold.f n = some ((foldN n : Nat) : Int) := by
  rw [← spec_l1Fold_eq h0 h1]
  unfold spec_l1Fold.f impl_fold.f
  by_cases h : n < 0
  · rw [if_pos h, if_neg (by omega)]
  · rw [if_neg h, if_pos (by omega)]
theorem foldN_lt {n : Int} (h0 : -1000000000 ≤ n) (h1 : n ≤ 1000000000) : foldN n ≤ 2000000000 := by
  unfold foldN
  split <;> omega
theorem spec_l1NumBytes_l0 (d : Nat) : ∀ (x : Nat) (l : List Int), x < 128 ^ (d + 1) → x < 4611686018427387904 → l.length + d < 140737488355328 → Ev (fun k => spec_l1NumBytes.l0 k (x : Int) l) (strOfNums (l ++ nb x)) := by
  induction d with
  | zero =>
    intro x l hx hx2 hl
    refine evSucc ?_
    simp only [spec_l1NumBytes.l0]
    refine evNeg (by omega) (evPos (by omega) (evNow ?_))
    rw [nb_small (by omega)]
    congr 3
    omega
  | succ d ih =>
    intro x l hx hx2 hl
    refine evSucc ?_
    simp only [spec_l1NumBytes.l0]
    by_cases h : x < 128
    · refine evNeg (by omega) (evPos (by omega) (evNow ?_))
      rw [nb_small h]
      congr 3
      omega
    · refine evPos (by omega) (evPos (by omega) ?_)
      rw [nb_big h]
      have hd : x / 128 < 128 ^ (d + 1) := by
        rw [Nat.pow_succ] at hx
        omega
      refine evTwo (r := strOfNums ((l ++ [((x % 128 + 128 : Nat) : Int)]) ++ nb (x / 128))) ?_ (by rw [List.append_assoc]; rfl)
      have e1 : wrap64 (Int.tdiv (x : Int) 128) = ((x / 128 : Nat) : Int) := by
        rw [tdiv_nn (by omega), wrap64_id (by omega) (by omega)]
        omega
      have e2 : wrap64 ((Int.tmod (x : Int) 128) + 128) % 256 = ((x % 128 + 128 : Nat) : Int) := by
        rw [tmod_nn (by omega), wrap64_id (by omega) (by omega)]
        omega
      simp only [e1, e2]
      exact ih (x / 128) _ hd (by omega) (by simp; omega)
theorem impl_numBytes_l0 (d : Nat) : ∀ (x : Nat) (l : List Int), x < 128 ^ (d + 1) → x < 4611686018427387904 → l.length + d < 140737488355328 → Ev (fun k => impl_numBytes.l0 k l (x : Int)) (strOfNums (l ++ nb x)) := by
  induction d with
  | zero =>
    intro x l hx hx2 hl
    refine evSucc ?_
    simp only [impl_numBytes.l0]
    refine evNeg (by omega) (evPos (by omega) (evNow ?_))
    rw [nb_small (by omega)]
    congr 3
    omega
  | succ d ih =>
    intro x l hx hx2 hl
    refine evSucc ?_
    simp only [impl_numBytes.l0]
    by_cases h : x < 128
    · refine evNeg (by omega) (evPos (by omega) (evNow ?_))
      rw [nb_small h]
      congr 3
      omega
    · refine evPos (by omega) (evPos (by omega) ?_)
      rw [nb_big h]
      have hd : x / 128 < 128 ^ (d + 1) := by
        rw [Nat.pow_succ] at hx
        omega
      refine evTwo (r := strOfNums ((l ++ [((x % 128 + 128 : Nat) : Int)]) ++ nb (x / 128))) ?_ (by rw [List.append_assoc]; rfl)
      have e1 : (x : Int) / 128 = ((x / 128 : Nat) : Int) := by omega
      have e2 : Go.bits .or .i64 (Go.bits .and .i64 (x : Int) 127) 128 % 256 = ((x % 128 + 128 : Nat) : Int) := by
        rw [nb_or x hx2]
        omega
      simp only [e1, e2]
      exact ih (x / 128) _ hd (by omega) (by simp; omega)
theorem spec_l1NumBytes_ev {n : Int} (h0 : -1000000000 ≤ n) (h1 : n ≤ 1000000000) : Ev (fun k => spec_l1NumBytes.f k n) (strOfNums (nb (foldN n))) := by
  have := foldN_lt h0 h1
  simp only [spec_l1NumBytes.f]
  exact evC (spec_l1Fold_eq h0 h1) (spec_l1NumBytes_l0 8 _ [] (by simp; omega) (by omega) (by simp))
theorem impl_numBytes_ev {n : Int} (h0 : -1000000000 ≤ n) (h1 : n ≤ 1000000000) : Ev (fun k => impl_numBytes.f k n) (strOfNums (nb (foldN n))) := by
  have := foldN_lt h0 h1
  simp only [impl_numBytes.f]
  exact evC (impl_fold_eq h0 h1) (impl_numBytes_l0 8 _ [] (by simp; omega) (by omega) (by simp))

/-! ### nameBytes -/
/-- The bytes of a name: its length, and it. -/
def nameB (s : ByteArray) : ByteArray := strOfNums [(s.size : Int) % 256] ++ s
theorem nameB_fits (s : ByteArray) (hs : s.size ≤ 140737488355328) : (strOfNums [(s.size : Int) % 256]).size + s.size ≤ 9223372036854775807 := by
  rw [strOfNums_size]
  simp
  omega
theorem spec_l1NameBytes_eq (s : ByteArray) (hs : s.size ≤ 140737488355328) : spec_l1NameBytes.f s = some (nameB s) := by
  simp only [spec_l1NameBytes.f, Option.bind_some]
  exact if_pos (nameB_fits s hs)
theorem impl_nameBytes_eq (s : ByteArray) (hs : s.size ≤ 140737488355328) : impl_nameBytes.f s = some (nameB s) := by
  simp only [impl_nameBytes.f, Option.bind_some]
  exact if_pos (nameB_fits s hs)
def nameBytesV (s : ByteArray) : ByteArray × Bool := if nameOk s = true then (nameB s, true) else (⟨#[]⟩, false)

/-! ### pieces -/
/-! ### the pieces of bytes -/
def numB (n : Int) : ByteArray := strOfNums (nb (foldN n))
theorem nb_len (d : Nat) : ∀ x : Nat, x < 128 ^ (d + 1) → (nb x).length ≤ d + 1 := by
  induction d with
  | zero =>
    intro x hx
    rw [nb_small (by simpa using hx)]
    simp
  | succ d ih =>
    intro x hx
    by_cases h : x < 128
    · rw [nb_small h]
      simp
    · rw [nb_big h]
      have := ih (x / 128) (by rw [Nat.div_lt_iff_lt_mul (by omega)]; rw [Nat.pow_succ] at hx; exact hx)
      simp only [List.length_cons]
      omega
theorem numB_size {n : Int} (h0 : -1000000000 ≤ n) (h1 : n ≤ 1000000000) : (numB n).size ≤ 9 := by
  have := foldN_lt h0 h1
  unfold numB
  rw [strOfNums_size]
  exact nb_len 8 _ (by omega)
theorem nameB_size (s : ByteArray) : (nameB s).size = 1 + s.size := by
  unfold nameB
  rw [ByteArray.size_append, strOfNums_size]
  rfl
def oneB (n : Int) : ByteArray := strOfNums [n % 256]
theorem oneB_size (n : Int) : (oneB n).size = 1 := by
  unfold oneB
  rw [strOfNums_size]
  rfl
theorem empty_app (x : ByteArray) : x ++ (⟨#[]⟩ : ByteArray) = x := by
  apply ByteArray.ext
  simp
theorem nameB_nil {s : ByteArray} (h : s.toList = ([] : List UInt8)) : nameB s = ⟨#[0]⟩ := by
  have e : s = ⟨#[]⟩ := toList_inj (h.trans (by rw [ByteArray.toList_eq]))
  rw [e]
  rfl

/-! ### ty_Field -/
def cField (x : S166) : S167 := ⟨x.f0, x.f1, x.f2⟩
/-- No larger than memory lets it be. -/
def smField (x : S166) : Prop := x.f0.size ≤ 140737488351232
def smsField (l : List S166) : Prop := l.length ≤ 4398046510976 ∧ ∀ x ∈ l, smField x
theorem rdLField {l : List S166} {i : Nat} (h : i < l.length) : rd_T166 l (i : Int) = l[i] := by
  simp [rd_T166, List.getD_eq_getElem?_getD, h]
theorem rdIField {l : List S167} {i : Nat} (h : i < l.length) : rd_T167 l (i : Int) = l[i] := by
  simp [rd_T167, List.getD_eq_getElem?_getD, h]
theorem szField_flat (f0 : ByteArray) (f1 : Int) (f2 : Int) (hx : f0.size ≤ 140737488351232) (left : Int) (h0 : 0 ≤ left) (h1 : left ≤ 1048576) : ∃ r, Ev (fun k => laws_szField.f f0 f1 f2 left) r ∧ r ≤ left := by
  simp only [laws_szField.f]
  have z0 := hx
  have w0 : wrap64 (left - (f0.size : Int)) = left - f0.size := wrap64_id (by omega) (by omega)
  try simp only [w0]
  by_cases d0 : left - (f0.size : Int) < 0
  · exact ⟨-1, evPos d0 (evNow rfl), by omega⟩
  · skip
    exact ⟨(left - (f0.size : Int)), evNeg d0 (evNow rfl), by omega⟩
theorem szField_ex (x : S166) (hx : smField x) (left : Int) (h0 : 0 ≤ left) (h1 : left ≤ 1048576) : ∃ r, Ev (fun k => laws_szField.f x.f0 x.f1 x.f2 left) r ∧ r ≤ left := szField_flat x.f0 x.f1 x.f2 hx left h0 h1
theorem szFieldS_l0 (l : List S166) (hl : l.length ≤ 140737488351232) (hs : ∀ x ∈ l, smField x) (d : Nat) : ∀ (i : Nat) (left : Int), i + d = l.length → 0 ≤ left → left ≤ 1048576 → ∃ r, Ev (fun k => laws_szFieldS.l0 k l left (i : Int)) r ∧ r ≤ left := by
  induction d with
  | zero =>
    intro i left hi h0 h1
    refine ⟨left, evSucc ?_, Int.le_refl _⟩
    simp only [laws_szFieldS.l0]
    exact evNeg (by omega) (evNow rfl)
  | succ d ih =>
    intro i left hi h0 h1
    have hlt : i < l.length := by omega
    obtain ⟨r, e, h4⟩ := szField_ex l[i] (hs _ (List.getElem_mem hlt)) left h0 h1
    by_cases hr : r < 0
    · refine ⟨-1, evSucc ?_, by omega⟩
      simp only [laws_szFieldS.l0, rdLField hlt]
      exact evPos (by omega) (evPos (by omega) (evB e (evPos hr (evNow rfl))))
    · obtain ⟨q, hq, hq2⟩ := ih (i + 1) r (by omega) (by omega) (by omega)
      refine ⟨q, evSucc ?_, by omega⟩
      simp only [laws_szFieldS.l0, rdLField hlt, wrap64_nat i (by omega)]
      exact evPos (by omega) (evPos (by omega) (evB e (evNeg hr hq)))
theorem szFieldS_ex (l : List S166) (hs : smsField l) (left : Int) (h0 : 0 ≤ left) (h1 : left ≤ 1048576) : ∃ r, Ev (fun k => laws_szFieldS.f k l left) r ∧ r ≤ left ∧ (0 ≤ r → (l.length : Int) ≤ left) := by
  have hl := hs.1
  simp only [laws_szFieldS.f]
  have e1 : wrap64 (left - (l.length : Int)) = left - l.length := wrap64_id (by omega) (by omega)
  simp only [e1]
  by_cases h : left - (l.length : Int) < 0
  · exact ⟨-1, evPos h (evNow rfl), by omega, by omega⟩
  · obtain ⟨r, hr, hr2⟩ := szFieldS_l0 l (by omega) hs.2 l.length 0 (left - l.length) (by omega) (by omega) (by omega)
    exact ⟨r, evNeg h hr, by omega, by omega⟩
theorem toField_flat (f0 : ByteArray) (f1 : Int) (f2 : Int) (hx : f0.size ≤ 140737488351232) : Ev (fun k => laws_toField.f f0 f1 f2) (f0, f1, f2) := by
  simp only [laws_toField.f]
  exact evNow rfl
theorem toField_ev (x : S166) (hx : smField x) : Ev (fun k => laws_toField.f x.f0 x.f1 x.f2) (x.f0, x.f1, x.f2) := toField_flat x.f0 x.f1 x.f2 hx
theorem toFieldS_l0 (l : List S166) (hl : l.length ≤ 140737488351232) (hs : ∀ x ∈ l, smField x) (d : Nat) : ∀ i : Nat, i + d = l.length → Ev (fun k => laws_toFieldS.l0 k l ((l.map cField).take i ++ List.replicate ((l.map cField).length - i) z167) (i : Int)) (l.map cField) := by
  induction d with
  | zero =>
    intro i hi
    refine evSucc ?_
    simp only [laws_toFieldS.l0]
    refine evNeg (by omega) (evNow ?_)
    have e : (l.map cField).length - i = 0 := by simp; omega
    rw [e, List.take_of_length_le (by simp; omega)]
    simp
  | succ d ih =>
    intro i hi
    have hlt : i < l.length := by omega
    refine evSucc ?_
    simp only [laws_toFieldS.l0, rdLField hlt]
    refine evPos (by omega) (evPos (by omega) (evB (toField_ev l[i] (hs _ (List.getElem_mem hlt))) (evPos (by simp; omega) ?_)))
    have e : (⟨(l[i]).f0, (l[i]).f1, (l[i]).f2⟩ : S167) = (l.map cField)[i]'(by simp; omega) := by simp [cField]
    simp only [wrap64_nat i (by omega), Int.toNat_natCast, e, set_fill (l.map cField) z167 i (by simp; omega)]
    exact ih (i + 1) (by omega)
theorem toFieldS_ev (l : List S166) (hs : smsField l) : Ev (fun k => laws_toFieldS.f k l) (l.map cField) := by
  have hl := hs.1
  simp only [laws_toFieldS.f]
  refine evPos (by omega) (evPos (by omega) ?_)
  have := toFieldS_l0 l (by omega) hs.2 l.length 0 (by omega)
  simpa using this
def lqField (x : S167) : Prop := x = x
def lsField (l : List S167) : Prop := l.length ≤ 140737488351232 ∧ ∀ x ∈ l, lqField x
theorem eqField_flat (f0 : ByteArray) (f1 : Int) (f2 : Int) : Ev (fun k => laws_eqField.f f0 f1 f2 f0 f1 f2) true := by
  simp only [laws_eqField.f]
  exact evPos (by first | rfl | trivial) (evPos (by first | rfl | trivial) (evPos (by first | rfl | trivial) (evNow rfl)))
theorem eqField_ev (x : S167) (hx : lqField x) : Ev (fun k => laws_eqField.f x.f0 x.f1 x.f2 x.f0 x.f1 x.f2) true := eqField_flat x.f0 x.f1 x.f2
theorem eqFieldS_l0 (l : List S167) (hs : lsField l) (d : Nat) : ∀ i : Nat, i + d = l.length → Ev (fun k => laws_eqFieldS.l0 k l l (i : Int)) true := by
  have hl := hs.1
  induction d with
  | zero =>
    intro i hi
    refine evSucc ?_
    simp only [laws_eqFieldS.l0]
    exact evNeg (by omega) (evNow rfl)
  | succ d ih =>
    intro i hi
    have hlt : i < l.length := by omega
    refine evSucc ?_
    simp only [laws_eqFieldS.l0, rdIField hlt]
    refine evPos (by omega) (evPos (by omega) (evPos (by omega) (evB (eqField_ev l[i] (hs.2 _ (List.getElem_mem hlt))) (evPos (by first | rfl | trivial) ?_))))
    simp only [wrap64_nat i (by omega)]
    exact ih (i + 1) (by omega)
theorem eqFieldS_ev (l : List S167) (hs : lsField l) : Ev (fun k => laws_eqFieldS.f k l l) true := by
  simp only [laws_eqFieldS.f]
  exact evPos (by first | rfl | trivial) (eqFieldS_l0 l hs l.length 0 (by omega))
theorem lqField_of {x : S166} (hx : smField x) : lqField (cField x) := rfl
theorem lsField_of {l : List S166} (hs : smsField l) : lsField (l.map cField) := ⟨by have := hs.1; simp; omega, fun y hy => by
  obtain ⟨x, hx, rfl⟩ := List.mem_map.1 hy
  exact lqField_of (hs.2 x hx)⟩

/-! ### ty_Type -/

theorem szType_flat (f0 : Int) (f1 : Int) (f2 : Int) (f3 : List S166) (f4 : ByteArray) (f5 : ByteArray) (hx : smsField f3 ∧ f4.size ≤ 140737488351232 ∧ f5.size ≤ 140737488351232) (left : Int) (h0 : 0 ≤ left) (h1 : left ≤ 1048576) : ∃ r, Ev (fun k => laws_szType.f k f0 f1 f2 f3 f4 f5 left) r ∧ r ≤ left := by
  simp only [laws_szType.f]
  obtain ⟨r0, v0, u0, _⟩ := szFieldS_ex f3 (hx.1) left (by omega) (by omega)
  by_cases d0 : r0 < 0
  · exact ⟨-1, evB v0 (evPos d0 (evNow rfl)), by omega⟩
  · skip
    have z1 := hx.2.1
    have w1 : wrap64 (r0 - (f4.size : Int)) = r0 - f4.size := wrap64_id (by omega) (by omega)
    try simp only [w1]
    by_cases d1 : r0 - (f4.size : Int) < 0
    · exact ⟨-1, evB v0 (evNeg d0 (evPos (by first | exact d1 | (simp only [w1]; exact d1)) (evNow rfl))), by omega⟩
    · skip
      have z2 := hx.2.2
      have w2 : wrap64 ((r0 - (f4.size : Int)) - (f5.size : Int)) = (r0 - (f4.size : Int)) - f5.size := wrap64_id (by omega) (by omega)
      try simp only [w2]
      by_cases d2 : (r0 - (f4.size : Int)) - (f5.size : Int) < 0
      · exact ⟨-1, evB v0 (evNeg d0 (evNeg (by first | exact d1 | (simp only [w1]; exact d1)) (evPos (by first | exact d2 | (simp only [w1, w2]; exact d2)) (evNow rfl)))), by omega⟩
      · skip
        exact ⟨((r0 - (f4.size : Int)) - (f5.size : Int)), evB v0 (evNeg d0 (evNeg (by first | exact d1 | (simp only [w1]; exact d1)) (evNeg (by first | exact d2 | (simp only [w1, w2]; exact d2)) (evNow (by first | rfl | simp only [w1, w2]))))), by omega⟩
theorem toType_flat (f0 : Int) (f1 : Int) (f2 : Int) (f3 : List S166) (f4 : ByteArray) (f5 : ByteArray) (hx : smsField f3 ∧ f4.size ≤ 140737488351232 ∧ f5.size ≤ 140737488351232) : Ev (fun k => laws_toType.f k f0 f1 f2 f3 f4 f5) (f0, f1, f2, f3.map cField, f4, f5) := by
  simp only [laws_toType.f]
  exact evB (toFieldS_ev f3 (hx.1)) (evNow rfl)
theorem eqType_flat (f0 : Int) (f1 : Int) (f2 : Int) (f3 : List S167) (f4 : ByteArray) (f5 : ByteArray) (hx : lsField f3) : Ev (fun k => laws_eqType.f k f0 f1 f2 f3 f4 f5 f0 f1 f2 f3 f4 f5) true := by
  simp only [laws_eqType.f]
  exact evPos (by first | rfl | trivial) (evPos (by first | rfl | trivial) (evPos (by first | rfl | trivial) (evB (eqFieldS_ev f3 (hx)) (evPos (by first | rfl | trivial) (evPos (by first | rfl | trivial) (evPos (by first | rfl | trivial) (evNow rfl)))))))

/-! ### names or none -/
def orOk (s : ByteArray) : Bool := if s.toList = ([] : List UInt8) then true else nameOk s
theorem spec_l7Maybe_ev (s : ByteArray) (hs : s.size ≤ 140737488351232) : Ev (fun k => spec_l7Maybe.f k s) (orOk s) := by
  simp only [spec_l7Maybe.f]
  exact evIf (fun _ => evNow rfl) (fun _ => evB (spec_l1Name_ev s (by omega)) (evNow rfl))
theorem impl_isNameOr_ev (s : ByteArray) (hs : s.size ≤ 140737488351232) : Ev (fun k => impl_isNameOr.f k s) (orOk s) := by
  simp only [impl_isNameOr.f]
  exact evIf (fun _ => evNow rfl) (fun _ => evB (impl_isName_ev s (by omega)) (evNow rfl))
theorem spec_l7Named_eq (s : ByteArray) (hs : s.size ≤ 140737488351232) : spec_l7Named.f s = some (nameB s) := by
  unfold spec_l7Named.f
  by_cases h : s.toList = ([] : List UInt8)
  · rw [if_pos h, nameB_nil h]
  · rw [if_neg h, spec_l1NameBytes_eq s (by omega)]
    rfl
/-! ### the fit -/
def fOk (p : S167) : Bool := decide (0 ≤ p.f1 ∧ p.f1 ≤ 2) && (orOk p.f0 && decide (0 ≤ p.f2 ∧ p.f2 ≤ 24))
def lenOk (l : List S167) : Prop := l.length ≤ 4398046510976 ∧ ∀ x ∈ l, x.f0.size ≤ 140737488351232
def ownOk (f0 f1 f2 : Int) (n : Nat) (f4 f5 : ByteArray) : Bool := decide (4 ≤ f0 ∧ f0 ≤ 6) && (decide (0 ≤ f1 ∧ f1 ≤ 1000) && (decide (-1 ≤ f2 ∧ f2 ≤ 24) && (decide ((n : Int) ≤ 6) && (orOk f4 && orOk f5))))
theorem fOk_at {l : List S167} (h : l.all fOk = true) {i : Nat} (hi : i < l.length) : fOk l[i] = true := (List.all_eq_true.1 h) _ (List.getElem_mem hi)
theorem drop_all {l : List S167} {i : Nat} (h : i < l.length) : (l.drop i).all fOk = (fOk l[i] && (l.drop (i + 1)).all fOk) := by
  rw [List.drop_eq_getElem_cons h, List.all_cons]
theorem spec_l7TypeFits_l0 (l : List S167) (hl : lenOk l) (f0 f1 f2 : Int) (f4 f5 : ByteArray) (h4 : f4.size ≤ 140737488351232) (h5 : f5.size ≤ 140737488351232) (d : Nat) : ∀ i : Nat, i + d = l.length → Ev (fun k => spec_l7TypeFits.l0 k l (l.length : Int) (i : Int) f0 f1 f2 l f4 f5) ((l.drop i).all fOk && ownOk f0 f1 f2 l.length f4 f5) := by
  have hlen := hl.1
  induction d with
  | zero =>
    intro i hi
    have e : l.drop i = [] := List.drop_eq_nil_of_le (by omega)
    rw [e]
    refine evSucc ?_
    simp only [spec_l7TypeFits.l0, spec_l1In_eq, Option.bind_some]
    refine evNeg (by omega) ?_
    unfold ownOk
    cases h1 : decide (4 ≤ f0 ∧ f0 ≤ 6)
    · exact evNeg (by simp) (evNow rfl)
    refine evPos (by first | rfl | trivial) ?_
    cases h2 : decide (0 ≤ f1 ∧ f1 ≤ 1000)
    · exact evNeg (by simp) (evNow rfl)
    refine evPos (by first | rfl | trivial) ?_
    cases h3 : decide (-1 ≤ f2 ∧ f2 ≤ 24)
    · exact evNeg (by simp) (evNow rfl)
    refine evPos (by first | rfl | trivial) ?_
    by_cases h6 : (l.length : Int) ≤ 6
    · rw [decide_eq_true h6]
      refine evPos h6 (evB (spec_l7Maybe_ev f4 h4) ?_)
      cases h7 : orOk f4
      · exact evNeg (by simp) (evNow rfl)
      exact evPos (by first | rfl | trivial) (evB (spec_l7Maybe_ev f5 h5) (evNow rfl))
    · rw [decide_eq_false h6]
      exact evNeg h6 (evNow rfl)
  | succ d ih =>
    intro i hi
    have hlt : i < l.length := by omega
    rw [drop_all hlt]
    refine evSucc ?_
    simp only [spec_l7TypeFits.l0, spec_l1In_eq, Option.bind_some, rdIField hlt, wrap64_nat i (show i < 4611686018427387904 by omega)]
    refine evPos (by omega) (evPos (by omega) (evPos (by omega) ?_))
    cases h1 : decide (0 ≤ (l[i]).f1 ∧ (l[i]).f1 ≤ 2)
    · exact evNeg (by simp) (evNow (by simp only [fOk, h1, Bool.false_and]))
    refine evPos (by first | rfl | trivial) (evB (spec_l7Maybe_ev _ (hl.2 _ (List.getElem_mem hlt))) ?_)
    cases h2 : orOk (l[i]).f0
    · exact evNeg (by simp) (evNow (by simp only [fOk, h2, Bool.false_and, Bool.and_false]))
    refine evPos (by first | rfl | trivial) ?_
    cases h3 : decide (0 ≤ (l[i]).f2 ∧ (l[i]).f2 ≤ 24)
    · exact evNeg (by simp) (evNow (by simp only [fOk, h3, Bool.false_and, Bool.and_false]))
    have hp : fOk l[i] = true := by simp only [fOk, h1, h2, h3, Bool.and_self]
    rw [hp, Bool.true_and]
    exact evPos (by first | rfl | trivial) (ih (i + 1) (by omega))
theorem impl_isTold_1_ev (p : S167) (hs : p.f0.size ≤ 140737488351232) : Ev (fun k => impl_isTold_1.f k p.f0 p.f1 p.f2) (!fOk p) := by
  simp only [impl_isTold_1.f, impl_in_eq, Option.bind_some]
  unfold fOk
  cases h1 : decide (0 ≤ p.f1 ∧ p.f1 ≤ 2)
  · exact evNeg (by simp) (evNow rfl)
  refine evPos (by first | rfl | trivial) (evB (impl_isNameOr_ev _ hs) ?_)
  cases h2 : orOk p.f0
  · exact evNeg (by simp) (evNow rfl)
  exact evPos (by first | rfl | trivial) (evNow rfl)
theorem index_l0 (l : List S167) (hl : lenOk l) (d : Nat) : ∀ i : Nat, i + d = l.length → (∀ j, (hj : j < l.length) → j < i → (!fOk l[j]) = false) → Ev (fun k => slices_IndexFunc_Field_of_impl_isTold_1.l0 k l (l.length : Int) (i : Int)) (idxI (fun p => !fOk p) l) := by
  have hlen := hl.1
  induction d with
  | zero =>
    intro i hi hall
    refine evSucc ?_
    simp only [slices_IndexFunc_Field_of_impl_isTold_1.l0]
    exact evNeg (by omega) (evNow (idxI_none fun j hj => hall j hj (by omega)).symm)
  | succ d ih =>
    intro i hi hall
    have hlt : i < l.length := by omega
    refine evSucc ?_
    simp only [slices_IndexFunc_Field_of_impl_isTold_1.l0, rdIField hlt, wrap64_nat i (show i < 4611686018427387904 by omega)]
    refine evPos (by omega) (evPos (by omega) (evPos (by omega) (evB (impl_isTold_1_ev l[i] (hl.2 _ (List.getElem_mem hlt))) ?_)))
    cases hp : (!fOk l[i])
    · refine evNeg (by simp) (ih (i + 1) (by omega) fun j hj hji => ?_)
      by_cases hji2 : j < i
      · exact hall j hj hji2
      · obtain rfl : j = i := by omega
        exact hp
    · exact evPos (by first | rfl | trivial) (evNow (idxI_at (p := fun p => !fOk p) hlt hp fun j hj => hall j (by omega) hj).symm)
theorem any_not (l : List S167) : (!(l.any fun p => !fOk p)) = l.all fOk := by
  induction l with
  | nil => rfl
  | cons p l ih => simp only [List.any_cons, List.all_cons, Bool.not_or, Bool.not_not, ih]
theorem contains_ev (l : List S167) (hl : lenOk l) : Ev (fun k => slices_ContainsFunc_Field_of_impl_isTold_1.f k l 0) (l.any fun p => !fOk p) := by
  simp only [slices_ContainsFunc_Field_of_impl_isTold_1.f, slices_IndexFunc_Field_of_impl_isTold_1.f]
  refine evB (index_l0 l hl l.length 0 (by omega) (fun j hj hji => absurd hji (Nat.not_lt_zero _))) (evNow ?_)
  exact idxI_any _ l
def fitAll (f0 f1 f2 : Int) (l : List S167) (f4 f5 : ByteArray) : Bool := l.all fOk && ownOk f0 f1 f2 l.length f4 f5
theorem impl_isTold_ev (f0 f1 f2 : Int) (l : List S167) (hl : lenOk l) (f4 f5 : ByteArray) (h4 : f4.size ≤ 140737488351232) (h5 : f5.size ≤ 140737488351232) : Ev (fun k => impl_isTold.f k f0 f1 f2 l f4 f5) (fitAll f0 f1 f2 l f4 f5) := by
  simp only [impl_isTold.f, impl_in_eq, Option.bind_some]
  unfold fitAll ownOk
  cases h1 : decide (4 ≤ f0 ∧ f0 ≤ 6)
  · exact evNeg (by simp) (evNow (by simp only [Bool.false_and, Bool.and_false]))
  refine evPos (by first | rfl | trivial) ?_
  cases h2 : decide (0 ≤ f1 ∧ f1 ≤ 1000)
  · exact evNeg (by simp) (evNow (by simp only [Bool.false_and, Bool.and_false]))
  refine evPos (by first | rfl | trivial) ?_
  cases h3 : decide (-1 ≤ f2 ∧ f2 ≤ 24)
  · exact evNeg (by simp) (evNow (by simp only [Bool.false_and, Bool.and_false]))
  refine evPos (by first | rfl | trivial) ?_
  by_cases h6 : (l.length : Int) ≤ 6
  · rw [decide_eq_true h6]
    refine evPos h6 (evB (impl_isNameOr_ev f4 h4) ?_)
    cases h7 : orOk f4
    · exact evNeg (by simp) (evNow (by simp only [Bool.false_and, Bool.and_false]))
    refine evPos (by first | rfl | trivial) (evB (impl_isNameOr_ev f5 h5) ?_)
    cases h8 : orOk f5
    · exact evNeg (by simp) (evNow (by simp only [Bool.and_false]))
    refine evPos (by first | rfl | trivial) (evB (contains_ev l hl) (evNow ?_))
    rw [any_not]
    simp only [Bool.and_true]
  · rw [decide_eq_false h6]
    exact evNeg h6 (evNow (by simp only [Bool.false_and, Bool.and_false]))

/-! ### the bytes -/
def fB (p : S167) : ByteArray := (oneB p.f1 ++ nameB p.f0) ++ numB p.f2
def fsB : List S167 → ByteArray
  | [] => ⟨#[]⟩
  | p :: r => fB p ++ fsB r
theorem fOk_num {p : S167} (h : fOk p = true) : 0 ≤ p.f2 ∧ p.f2 ≤ 24 := by
  simp only [fOk, Bool.and_eq_true, decide_eq_true_eq] at h
  exact h.2.2
theorem spec_l7Type_l0 (l : List S167) (hl : lenOk l) (hok : l.all fOk = true) (d : Nat) : ∀ (i : Nat) (x : ByteArray), i + d = l.length → x.size + d * 140737488351300 ≤ 9000000000000000000 → Ev (fun k => spec_l7Type.l0 k x l (l.length : Int) (i : Int)) (x ++ fsB (l.drop i)) := by
  have hlen := hl.1
  induction d with
  | zero =>
    intro i x hi hx
    have e : l.drop i = [] := List.drop_eq_nil_of_le (by omega)
    rw [e]
    refine evSucc ?_
    simp only [spec_l7Type.l0]
    refine evNeg (by omega) (evNow ?_)
    simp only [fsB, empty_app]
  | succ d ih =>
    intro i x hi hx
    have hlt : i < l.length := by omega
    have hs := hl.2 _ (List.getElem_mem hlt)
    have hf := fOk_num (fOk_at hok hlt)
    have ht := oneB_size (l[i]).f1
    have hn := nameB_size (l[i]).f0
    have hm := numB_size (n := (l[i]).f2) (by omega) (by omega)
    have hd : x ++ fsB (l.drop i) = (x ++ ((oneB (l[i]).f1 ++ nameB (l[i]).f0) ++ numB (l[i]).f2)) ++ fsB (l.drop (i + 1)) := by
      rw [List.drop_eq_getElem_cons hlt]
      simp only [fsB, fB, ByteArray.append_assoc]
    have hsz2 : (x ++ ((oneB (l[i]).f1 ++ nameB (l[i]).f0) ++ numB (l[i]).f2)).size + d * 140737488351300 ≤ 9000000000000000000 := by
      simp only [ByteArray.size_append]
      omega
    have hgo := ih (i + 1) _ (by omega) hsz2
    rw [← hd] at hgo
    refine evSucc ?_
    simp only [spec_l7Type.l0, rdIField hlt, spec_l7Named_eq _ hs, Option.bind_some, wrap64_nat i (show i < 4611686018427387904 by omega)]
    refine evPos (by omega) (evPos (by omega) (evPos (by omega) (evPos ?_ (evB (spec_l1NumBytes_ev (by omega) (by omega)) (evPos ?_ (evPos ?_ hgo))))))
    · show (oneB (l[i]).f1).size + (nameB (l[i]).f0).size ≤ _
      omega
    · show (oneB (l[i]).f1 ++ nameB (l[i]).f0).size + (numB (l[i]).f2).size ≤ _
      simp only [ByteArray.size_append]
      omega
    · show x.size + ((oneB (l[i]).f1 ++ nameB (l[i]).f0) ++ numB (l[i]).f2).size ≤ _
      simp only [ByteArray.size_append]
      omega
theorem impl_typeBytes_l0 (l : List S167) (hl : lenOk l) (hok : l.all fOk = true) (d : Nat) : ∀ (i : Nat) (x : ByteArray), i + d = l.length → x.size + d * 140737488351300 ≤ 9000000000000000000 → Ev (fun k => impl_typeBytes.l0 k x l (l.length : Int) (i : Int)) (x ++ fsB (l.drop i)) := by
  have hlen := hl.1
  induction d with
  | zero =>
    intro i x hi hx
    have e : l.drop i = [] := List.drop_eq_nil_of_le (by omega)
    rw [e]
    refine evSucc ?_
    simp only [impl_typeBytes.l0]
    refine evNeg (by omega) (evNow ?_)
    simp only [fsB, empty_app]
  | succ d ih =>
    intro i x hi hx
    have hlt : i < l.length := by omega
    have hs := hl.2 _ (List.getElem_mem hlt)
    have hf := fOk_num (fOk_at hok hlt)
    have ht := oneB_size (l[i]).f1
    have hn := nameB_size (l[i]).f0
    have hm := numB_size (n := (l[i]).f2) (by omega) (by omega)
    have hd : x ++ fsB (l.drop i) = (x ++ ((oneB (l[i]).f1 ++ nameB (l[i]).f0) ++ numB (l[i]).f2)) ++ fsB (l.drop (i + 1)) := by
      rw [List.drop_eq_getElem_cons hlt]
      simp only [fsB, fB, ByteArray.append_assoc]
    have hsz2 : (x ++ ((oneB (l[i]).f1 ++ nameB (l[i]).f0) ++ numB (l[i]).f2)).size + d * 140737488351300 ≤ 9000000000000000000 := by
      simp only [ByteArray.size_append]
      omega
    have hgo := ih (i + 1) _ (by omega) hsz2
    rw [← hd] at hgo
    refine evSucc ?_
    simp only [impl_typeBytes.l0, rdIField hlt, impl_one.f, impl_nameBytes_eq _ (show (l[i]).f0.size ≤ 140737488355328 by omega), Option.bind_some, wrap64_nat i (show i < 4611686018427387904 by omega)]
    refine evPos (by omega) (evPos (by omega) (evPos (by omega) (evPos ?_ (evB (impl_numBytes_ev (by omega) (by omega)) (evPos ?_ (evPos ?_ hgo))))))
    · show (oneB (l[i]).f1).size + (nameB (l[i]).f0).size ≤ _
      omega
    · show (oneB (l[i]).f1 ++ nameB (l[i]).f0).size + (numB (l[i]).f2).size ≤ _
      simp only [ByteArray.size_append]
      omega
    · show x.size + ((oneB (l[i]).f1 ++ nameB (l[i]).f0) ++ numB (l[i]).f2).size ≤ _
      simp only [ByteArray.size_append]
      omega
def typB (f0 f1 f2 : Int) (l : List S167) (f4 f5 : ByteArray) : ByteArray := (((((oneB f0 ++ numB f1) ++ numB f2) ++ nameB f4) ++ nameB f5) ++ numB (l.length : Int)) ++ fsB l
theorem spec_l7Type_ev (f0 f1 f2 : Int) (l : List S167) (hl : lenOk l) (f4 f5 : ByteArray) (h4 : f4.size ≤ 140737488351232) (h5 : f5.size ≤ 140737488351232) (h1 : 0 ≤ f1 ∧ f1 ≤ 1000) (h2 : -1 ≤ f2 ∧ f2 ≤ 24) (hn : l.length ≤ 6) (hok : l.all fOk = true) : Ev (fun k => spec_l7Type.f k f0 f1 f2 l f4 f5) (typB f0 f1 f2 l f4 f5) := by
  have s0 := oneB_size f0
  have s1 := numB_size (n := f1) (by omega) (by omega)
  have s2 := numB_size (n := f2) (by omega) (by omega)
  have s4 := nameB_size f4
  have s5 := nameB_size f5
  have s6 := numB_size (n := (l.length : Int)) (by omega) (by omega)
  simp only [spec_l7Type.f, spec_l7Named_eq f4 h4, spec_l7Named_eq f5 h5, Option.bind_some]
  refine evB (spec_l1NumBytes_ev (by omega) (by omega)) (evPos ?_ (evB (spec_l1NumBytes_ev (by omega) (by omega)) (evPos ?_ (evPos ?_ (evPos ?_ (evB (spec_l1NumBytes_ev (by omega) (by omega)) (evPos ?_ ?_)))))))
  · show (oneB f0).size + (numB f1).size ≤ _
    omega
  · show (oneB f0 ++ numB f1).size + (numB f2).size ≤ _
    simp only [ByteArray.size_append]
    omega
  · show ((oneB f0 ++ numB f1) ++ numB f2).size + (nameB f4).size ≤ _
    simp only [ByteArray.size_append]
    omega
  · show (((oneB f0 ++ numB f1) ++ numB f2) ++ nameB f4).size + (nameB f5).size ≤ _
    simp only [ByteArray.size_append]
    omega
  · show ((((oneB f0 ++ numB f1) ++ numB f2) ++ nameB f4) ++ nameB f5).size + (numB (l.length : Int)).size ≤ _
    simp only [ByteArray.size_append]
    omega
  · refine spec_l7Type_l0 l hl hok l.length 0 (((((oneB f0 ++ numB f1) ++ numB f2) ++ nameB f4) ++ nameB f5) ++ numB (l.length : Int)) (by omega) ?_
    simp only [ByteArray.size_append]
    omega
theorem impl_typeBytes_ev (f0 f1 f2 : Int) (l : List S167) (hl : lenOk l) (f4 f5 : ByteArray) (h4 : f4.size ≤ 140737488351232) (h5 : f5.size ≤ 140737488351232) (h1 : 0 ≤ f1 ∧ f1 ≤ 1000) (h2 : -1 ≤ f2 ∧ f2 ≤ 24) (hn : l.length ≤ 6) (hok : l.all fOk = true) : Ev (fun k => impl_typeBytes.f k f0 f1 f2 l f4 f5) (typB f0 f1 f2 l f4 f5) := by
  have s0 := oneB_size f0
  have s1 := numB_size (n := f1) (by omega) (by omega)
  have s2 := numB_size (n := f2) (by omega) (by omega)
  have s4 := nameB_size f4
  have s5 := nameB_size f5
  have s6 := numB_size (n := (l.length : Int)) (by omega) (by omega)
  simp only [impl_typeBytes.f, impl_one.f, impl_nameBytes_eq f4 (show f4.size ≤ 140737488355328 by omega), impl_nameBytes_eq f5 (show f5.size ≤ 140737488355328 by omega), Option.bind_some]
  refine evB (impl_numBytes_ev (by omega) (by omega)) (evPos ?_ (evB (impl_numBytes_ev (by omega) (by omega)) (evPos ?_ (evPos ?_ (evPos ?_ (evB (impl_numBytes_ev (by omega) (by omega)) (evPos ?_ ?_)))))))
  · show (oneB f0).size + (numB f1).size ≤ _
    omega
  · show (oneB f0 ++ numB f1).size + (numB f2).size ≤ _
    simp only [ByteArray.size_append]
    omega
  · show ((oneB f0 ++ numB f1) ++ numB f2).size + (nameB f4).size ≤ _
    simp only [ByteArray.size_append]
    omega
  · show (((oneB f0 ++ numB f1) ++ numB f2) ++ nameB f4).size + (nameB f5).size ≤ _
    simp only [ByteArray.size_append]
    omega
  · show ((((oneB f0 ++ numB f1) ++ numB f2) ++ nameB f4) ++ nameB f5).size + (numB (l.length : Int)).size ≤ _
    simp only [ByteArray.size_append]
    omega
  · refine impl_typeBytes_l0 l hl hok l.length 0 (((((oneB f0 ++ numB f1) ++ numB f2) ++ nameB f4) ++ nameB f5) ++ numB (l.length : Int)) (by omega) ?_
    simp only [ByteArray.size_append]
    omega

/-! ### both sides -/
def typV (f0 f1 f2 : Int) (l : List S167) (f4 f5 : ByteArray) : ByteArray × Bool := if fitAll f0 f1 f2 l f4 f5 = true then (typB f0 f1 f2 l f4 f5, true) else (⟨#[]⟩, false)
theorem fit_get {f0 f1 f2 : Int} {l : List S167} {f4 f5 : ByteArray} (h : fitAll f0 f1 f2 l f4 f5 = true) : l.all fOk = true ∧ (0 ≤ f1 ∧ f1 ≤ 1000) ∧ (-1 ≤ f2 ∧ f2 ≤ 24) ∧ l.length ≤ 6 := by
  unfold fitAll ownOk at h
  simp only [Bool.and_eq_true, decide_eq_true_eq] at h
  exact ⟨h.1, h.2.2.1, h.2.2.2.1, by omega⟩
theorem spec_TypeBytes_ev (f0 f1 f2 : Int) (l : List S167) (hl : lenOk l) (f4 f5 : ByteArray) (h4 : f4.size ≤ 140737488351232) (h5 : f5.size ≤ 140737488351232) : Ev (fun k => spec_TypeBytes.f k f0 f1 f2 l f4 f5) (typV f0 f1 f2 l f4 f5) := by
  have hfit : Ev (fun k => spec_l7TypeFits.f k f0 f1 f2 l f4 f5) (fitAll f0 f1 f2 l f4 f5) := by
    simp only [spec_l7TypeFits.f]
    exact spec_l7TypeFits_l0 l hl f0 f1 f2 f4 f5 h4 h5 l.length 0 (by omega)
  simp only [spec_TypeBytes.f]
  refine evB hfit ?_
  unfold typV
  cases h : fitAll f0 f1 f2 l f4 f5
  · exact evNeg (by simp) (evNow rfl)
  · obtain ⟨ha, h1, h2, hn⟩ := fit_get h
    exact evPos (by first | rfl | trivial) (evB (spec_l7Type_ev f0 f1 f2 l hl f4 f5 h4 h5 h1 h2 hn ha) (evNow rfl))
theorem impl_TypeBytes_ev (f0 f1 f2 : Int) (l : List S167) (hl : lenOk l) (f4 f5 : ByteArray) (h4 : f4.size ≤ 140737488351232) (h5 : f5.size ≤ 140737488351232) : Ev (fun k => impl_TypeBytes.f k f0 f1 f2 l f4 f5) (typV f0 f1 f2 l f4 f5) := by
  simp only [impl_TypeBytes.f]
  refine evB (impl_isTold_ev f0 f1 f2 l hl f4 f5 h4 h5) ?_
  unfold typV
  cases h : fitAll f0 f1 f2 l f4 f5
  · exact evNeg (by simp) (evNow rfl)
  · obtain ⟨ha, h1, h2, hn⟩ := fit_get h
    exact evPos (by first | rfl | trivial) (evB (impl_typeBytes_ev f0 f1 f2 l hl f4 f5 h4 h5 h1 h2 hn ha) (evNow rfl))

theorem FnExactTypeBytes : Pure := by
  intro f0 f1 f2 l f4 f5 _ _ _ w3 w4 w5
  refine Ev.rounds (r := true) ?_
  have hl : smsField l := ⟨by have := w3.1; omega, fun x hx => (w3.2 x hx).1⟩
  have hx : smsField l ∧ f4.size ≤ 140737488351232 ∧ f5.size ≤ 140737488351232 := ⟨hl, w4, w5⟩
  obtain ⟨r, hr, _⟩ := szType_flat f0 f1 f2 l f4 f5 hx 1048576 (by omega) (by omega)
  have hL : lenOk (l.map cField) := ⟨by have := hl.1; simpa using this, fun y hy => by
    obtain ⟨x, hx', rfl⟩ := List.mem_map.1 hy
    exact hl.2 x hx'⟩
  simp only [laws_FnExactTypeBytes.f]
  refine evB hr ?_
  by_cases h0 : r < 0
  · exact evPos h0 (evNow rfl)
  · refine evNeg h0 (evB (toType_flat f0 f1 f2 l f4 f5 hx) (evB (spec_TypeBytes_ev f0 f1 f2 _ hL f4 f5 w4 w5) (evB (toType_flat f0 f1 f2 l f4 f5 hx) (evB (impl_TypeBytes_ev f0 f1 f2 _ hL f4 f5 w4 w5) (evPos (by first | rfl | trivial) ?_)))))
    rw [bne_self_eq_false]
    refine evSucc ?_
    simp only [laws_FnExactTypeBytes.j0]
    exact evNeg (by simp) (evB (toType_flat f0 f1 f2 l f4 f5 hx) (evB (eqType_flat f0 f1 f2 _ f4 f5 (lsField_of hl)) (evPos (by first | rfl | trivial) (evNow rfl))))

end Go.Proofs.Ytdphgdlkchajoaa.Pure
