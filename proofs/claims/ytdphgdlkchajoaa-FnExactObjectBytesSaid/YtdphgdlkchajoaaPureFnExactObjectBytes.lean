/- The plain statement of the law FnExactObjectBytes: at all arguments within the row's bounds the printed function answers true. No further condition. -/
import Derived.Test.YtdphgdlkchajoaaRichFnExactObjectBytes
import Derived.Test.YtdphgdlkchajoaaPFnExactObjectBytesx8
import Derived.Test.YtdphgdlkchajoaaBase
set_option linter.unusedVariables false
set_option linter.unusedSimpArgs false
namespace Go.Proofs.Ytdphgdlkchajoaa.Pure
open Go.RowKit Go.Proofs.Ytdphgdlkchajoaa.PFnExactObjectBytes Go.Proofs.YtdphgdlkchajoaaW.PrintWords Go.Proofs.YtdphgdlkchajoaaW.PrintLast Go.Proofs.Ytdphgdlkchajoaa.Opens Go.Proofs.Ytdphgdlkchajoaa.RichFnExactObjectBytes

/-! ### inF -/
theorem spec_l1In_eq (a b c : Int) : spec_l1In.f a b c = some (decide (b ≤ a ∧ a ≤ c)) := by
  unfold spec_l1In.f
  by_cases h : a ≥ b
  · rw [if_pos h]; simp [h]
  · rw [if_neg h]; simp [h]
theorem impl_in_eq (a b c : Int) : impl_in.f a b c = some (decide (b ≤ a ∧ a ≤ c)) := by
  unfold impl_in.f
  by_cases h : a ≥ b
  · rw [if_pos h]; simp [h]
  · rw [if_neg h]; simp [h]

/-! ### nameDef -/
def letB (c : Int) : Prop := (65 ≤ c ∧ c ≤ 90) ∨ (97 ≤ c ∧ c ≤ 122)
def digB (c : Int) : Prop := 48 ≤ c ∧ c ≤ 57
instance (c : Int) : Decidable (letB c) := by unfold letB; infer_instance
instance (c : Int) : Decidable (digB c) := by unfold digB; infer_instance
/-- The byte at j may stand in a name. -/
def nmAt (s : ByteArray) (j : Nat) : Prop := letB (bt s (j : Int)) ∨ (j ≠ 0 ∧ digB (bt s (j : Int)))
instance (s : ByteArray) (j : Nat) : Decidable (nmAt s j) := by unfold nmAt; infer_instance
def nameOk (s : ByteArray) : Bool := decide (1 ≤ s.size ∧ s.size ≤ 10 ∧ ∀ j, j < s.size → nmAt s j)
theorem nameOk_not {s : ByteArray} {j : Nat} (h : j < s.size) (hn : ¬ nmAt s j) : nameOk s = false := by
  unfold nameOk
  exact decide_eq_false fun H => hn (H.2.2 j h)
theorem nameOk_all {s : ByteArray} (h : ∀ j, j < s.size → nmAt s j) : nameOk s = decide ((1 : Int) ≤ (s.size : Int) ∧ (s.size : Int) ≤ 10) := by
  unfold nameOk
  by_cases hs : 1 ≤ s.size ∧ s.size ≤ 10
  · rw [decide_eq_true (by exact ⟨hs.1, hs.2, h⟩), decide_eq_true (by omega)]
  · rw [decide_eq_false (fun H => hs ⟨H.1, H.2.1⟩), decide_eq_false (by omega)]

/-! ### isName -/
theorem impl_isLetter_eq (c : Int) : impl_isLetter.f c = some (decide (letB c)) := by
  unfold impl_isLetter.f letB
  repeat' split
  all_goals simp only [Option.some.injEq]
  all_goals first | (symm; apply decide_eq_true; omega) | (symm; apply decide_eq_false; omega) | (apply decide_eq_decide.2; omega)
theorem impl_isDigit_eq (c : Int) : impl_isDigit.f c = some (decide (digB c)) := by
  unfold impl_isDigit.f digB
  repeat' split
  all_goals simp only [Option.some.injEq]
  all_goals first | (symm; apply decide_eq_true; omega) | (symm; apply decide_eq_false; omega) | (apply decide_eq_decide.2; omega)
theorem impl_isName_l0 (s : ByteArray) (hs : s.size ≤ 140737488355328) (d : Nat) : ∀ i : Nat, i + d = s.size → (∀ j, j < i → nmAt s j) → Ev (fun k => impl_isName.l0 k s (s.size : Int) (i : Int)) (nameOk s) := by
  induction d with
  | zero =>
    intro i hi hall
    refine evSucc ?_
    simp only [impl_isName.l0]
    refine evNeg (by omega) ?_
    simp only [impl_in_eq, Option.bind_some]
    exact evNow (nameOk_all (fun j hj => hall j (by omega))).symm
  | succ d ih =>
    intro i hi hall
    refine evSucc ?_
    simp only [impl_isName.l0]
    refine evPos (by omega) (evPos (by omega) (evPos (by omega) ?_))
    simp only [impl_isLetter_eq, impl_isDigit_eq, Option.bind_some, wrap64_nat i (by omega)]
    by_cases h1 : letB (bt s (i : Int))
    · refine evPos (decide_eq_true h1) (ih (i + 1) (by omega) fun j hj => ?_)
      by_cases e : j = i
      · subst e; exact .inl h1
      · exact hall j (by omega)
    · refine evNeg (by simpa using h1) ?_
      by_cases h0 : i = 0
      · refine evPos (by omega) (evNow (nameOk_not (j := i) (by omega) ?_).symm)
        rintro (H | H)
        · exact h1 H
        · exact H.1 h0
      · refine evNeg (by omega) ?_
        by_cases h2 : digB (bt s (i : Int))
        · refine evPos (decide_eq_true h2) (ih (i + 1) (by omega) fun j hj => ?_)
          by_cases e : j = i
          · subst e; exact .inr ⟨h0, h2⟩
          · exact hall j (by omega)
        · refine evNeg (by simpa using h2) (evNow (nameOk_not (j := i) (by omega) ?_).symm)
          rintro (H | H)
          · exact h1 H
          · exact h2 H.2
theorem impl_isName_ev (s : ByteArray) (hs : s.size ≤ 140737488355328) : Ev (fun k => impl_isName.f k s) (nameOk s) := by
  simp only [impl_isName.f]
  exact impl_isName_l0 s hs s.size 0 (by omega) (fun j hj => absurd hj (Nat.not_lt_zero _))
theorem spec_l1Name_l0 (s : ByteArray) (hs : s.size ≤ 140737488355328) (d : Nat) : ∀ i : Nat, i + d = s.size → (∀ j, j < i → nmAt s j) → Ev (fun k => spec_l1Name.l0 k s (i : Int)) (nameOk s) := by
  induction d with
  | zero =>
    intro i hi hall
    refine evSucc ?_
    simp only [spec_l1Name.l0]
    refine evNeg (by omega) ?_
    simp only [spec_l1In_eq, Option.bind_some]
    exact evNow (nameOk_all (fun j hj => hall j (by omega))).symm
  | succ d ih =>
    intro i hi hall
    refine evSucc ?_
    simp only [spec_l1Name.l0]
    refine evPos (by omega) (evPos (by omega) ?_)
    simp only [wrap64_nat i (by omega)]
    have yes : nmAt s i → Ev (fun k => spec_l1Name.l0 k s ((i + 1 : Nat) : Int)) (nameOk s) := fun h => ih (i + 1) (by omega) fun j hj => by
      by_cases e : j = i
      · subst e; exact h
      · exact hall j (by omega)
    have no : ¬ nmAt s i → Ev (fun _ : Nat => some false) (nameOk s) := fun h => evNow (nameOk_not (j := i) (by omega) h).symm
    unfold nmAt letB digB at yes no
    generalize bt s (i : Int) = c at yes no ⊢
    have dec : ∀ (p : Prop) [Decidable p] (g f : Nat → Option Bool), (p → Ev g (nameOk s)) → (¬ p → Ev f (nameOk s)) → Ev (fun n => if p then g n else f n) (nameOk s) := fun p _ g f hg hf => by
      by_cases h : p
      · exact evPos h (hg h)
      · exact evNeg h (hf h)
    repeat' (first | exact yes (by omega) | exact no (by omega) | (refine dec _ _ _ (fun _ => ?_) (fun _ => ?_)))
theorem spec_l1Name_ev (s : ByteArray) (hs : s.size ≤ 140737488355328) : Ev (fun k => spec_l1Name.f k s) (nameOk s) := by
  simp only [spec_l1Name.f]
  exact spec_l1Name_l0 s hs s.size 0 (by omega) (fun j hj => absurd hj (Nat.not_lt_zero _))

/-! ### nb -/
/-- The bytes of a number, seven bits each. -/
def nb (x : Nat) : List Int := if h : x < 128 then [(x : Int)] else ((x % 128 + 128 : Nat) : Int) :: nb (x / 128)
termination_by x
decreasing_by omega
theorem nb_small {x : Nat} (h : x < 128) : nb x = [(x : Int)] := by
  rw [nb, dif_pos h]
theorem nb_big {x : Nat} (h : ¬ x < 128) : nb x = ((x % 128 + 128 : Nat) : Int) :: nb (x / 128) := by
  rw [nb, dif_neg h]
theorem nb_or (x : Nat) (h : x < 4611686018427387904) : Go.bits .or .i64 (Go.bits .and .i64 (x : Int) 127) 128 = ((x % 128 + 128 : Nat) : Int) := by
  have h1 : Go.bits .and .i64 (x : Int) 127 = (x : Int) % 128 := bits_mask .i64 63 (by decide) wraps_i64 7 (by decide) x (by omega) (by omega)
  have h2 : Go.bits .or .i64 ((x : Int) % 128) 128 = Go.bits .or .i64 128 ((x : Int) % 128) := by
    unfold Go.bits
    simp only [BitVec.or_comm]
  rw [h1, h2, bits_join .i64 63 (by decide) wraps_i64 7 128 ((x : Int) % 128) (by decide) (by decide) (by decide) (by omega) (by omega) (by omega)]
  omega
/-- What a number is without its sign. -/
def foldN (n : Int) : Nat := if n < 0 then (-2 * n - 1).toNat else (2 * n).toNat

/-! ### numBytes -/
theorem spec_l1Fold_eq {n : Int} (h0 : -1000000000 ≤ n) (h1 : n ≤ 1000000000) : spec_l1Fold.f n = some ((foldN n : Nat) : Int) := by
  unfold spec_l1Fold.f foldN
  by_cases h : n < 0
  · rw [if_pos h, if_pos h, wrap64_id (x := -2 * n) (by omega) (by omega), wrap64_id (by omega) (by omega)]
    congr 1
    omega
  · rw [if_neg h, if_neg h, wrap64_id (by omega) (by omega)]
    congr 1
    omega
theorem impl_fold_eq {n : Int} (h0 : -1000000000 ≤ n) (h1 : n ≤ 1000000000) : impl_fold.f n = some ((foldN n : Nat) : Int) := by
  rw [← spec_l1Fold_eq h0 h1]
  unfold spec_l1Fold.f impl_fold.f
  by_cases h : n < 0
  · rw [if_pos h, if_neg (by omega)]
  · rw [if_neg h, if_pos (by omega)]
theorem foldN_lt {n : Int} (h0 : -1000000000 ≤ n) (h1 : n ≤ 1000000000) : foldN n ≤ 2000000000 := by
  unfold foldN
  split <;> omega
theorem spec_l1NumBytes_l0 (d : Nat) : ∀ (x : Nat) (l : List Int), x < 128 ^ (d + 1) → x < 4611686018427387904 → l.length + d < 140737488355328 → Ev (fun k => spec_l1NumBytes.l0 k (x : Int) l) (strOfNums (l ++ nb x)) := by
  induction d with
  | zero =>
    intro x l hx hx2 hl
    refine evSucc ?_
    simp only [spec_l1NumBytes.l0]
    refine evNeg (by omega) (evPos (by omega) (evNow ?_))
    rw [nb_small (by omega)]
    congr 3
    omega
  | succ d ih =>
    intro x l hx hx2 hl
    refine evSucc ?_
    simp only [spec_l1NumBytes.l0]
    by_cases h : x < 128
    · refine evNeg (by omega) (evPos (by omega) (evNow ?_))
      rw [nb_small h]
      congr 3
      omega
    · refine evPos (by omega) (evPos (by omega) ?_)
      rw [nb_big h]
      have hd : x / 128 < 128 ^ (d + 1) := by
        rw [Nat.pow_succ] at hx
        omega
      refine evTwo (r := strOfNums ((l ++ [((x % 128 + 128 : Nat) : Int)]) ++ nb (x / 128))) ?_ (by rw [List.append_assoc]; rfl)
      have e1 : wrap64 (Int.tdiv (x : Int) 128) = ((x / 128 : Nat) : Int) := by
        rw [tdiv_nn (by omega), wrap64_id (by omega) (by omega)]
        omega
      have e2 : wrap64 ((Int.tmod (x : Int) 128) + 128) % 256 = ((x % 128 + 128 : Nat) : Int) := by
        rw [tmod_nn (by omega), wrap64_id (by omega) (by omega)]
        omega
      simp only [e1, e2]
      exact ih (x / 128) _ hd (by omega) (by simp; omega)
theorem impl_numBytes_l0 (d : Nat) : ∀ (x : Nat) (l : List Int), x < 128 ^ (d + 1) → x < 4611686018427387904 → l.length + d < 140737488355328 → Ev (fun k => impl_numBytes.l0 k l (x : Int)) (strOfNums (l ++ nb x)) := by
  induction d with
  | zero =>
    intro x l hx hx2 hl
    refine evSucc ?_
    simp only [impl_numBytes.l0]
    refine evNeg (by omega) (evPos (by omega) (evNow ?_))
    rw [nb_small (by omega)]
    congr 3
    omega
  | succ d ih =>
    intro x l hx hx2 hl
    refine evSucc ?_
    simp only [impl_numBytes.l0]
    by_cases h : x < 128
    · refine evNeg (by omega) (evPos (by omega) (evNow ?_))
      rw [nb_small h]
      congr 3
      omega
    · refine evPos (by omega) (evPos (by omega) ?_)
      rw [nb_big h]
      have hd : x / 128 < 128 ^ (d + 1) := by
        rw [Nat.pow_succ] at hx
        omega
      refine evTwo (r := strOfNums ((l ++ [((x % 128 + 128 : Nat) : Int)]) ++ nb (x / 128))) ?_ (by rw [List.append_assoc]; rfl)
      have e1 : (x : Int) / 128 = ((x / 128 : Nat) : Int) := by omega
      have e2 : Go.bits .or .i64 (Go.bits .and .i64 (x : Int) 127) 128 % 256 = ((x % 128 + 128 : Nat) : Int) := by
        rw [nb_or x hx2]
        omega
      simp only [e1, e2]
      exact ih (x / 128) _ hd (by omega) (by simp; omega)
theorem spec_l1NumBytes_ev {n : Int} (h0 : -1000000000 ≤ n) (h1 : n ≤ 1000000000) : Ev (fun k => spec_l1NumBytes.f k n) (strOfNums (nb (foldN n))) := by
  have := foldN_lt h0 h1
  simp only [spec_l1NumBytes.f]
  exact evC (spec_l1Fold_eq h0 h1) (spec_l1NumBytes_l0 8 _ [] (by simp; omega) (by omega) (by simp))
theorem impl_numBytes_ev {n : Int} (h0 : -1000000000 ≤ n) (h1 : n ≤ 1000000000) : Ev (fun k => impl_numBytes.f k n) (strOfNums (nb (foldN n))) := by
  have := foldN_lt h0 h1
  simp only [impl_numBytes.f]
  exact evC (impl_fold_eq h0 h1) (impl_numBytes_l0 8 _ [] (by simp; omega) (by omega) (by simp))

/-! ### nameBytes -/
/-- The bytes of a name: its length, and it. -/
def nameB (s : ByteArray) : ByteArray := strOfNums [(s.size : Int) % 256] ++ s
theorem nameB_fits (s : ByteArray) (hs : s.size ≤ 140737488355328) : (strOfNums [(s.size : Int) % 256]).size + s.size ≤ 9223372036854775807 := by
  rw [strOfNums_size]
  simp
  omega
theorem spec_l1NameBytes_eq (s : ByteArray) (hs : s.size ≤ 140737488355328) : spec_l1NameBytes.f s = some (nameB s) := by
  simp only [spec_l1NameBytes.f, Option.bind_some]
  exact if_pos (nameB_fits s hs)
theorem impl_nameBytes_eq (s : ByteArray) (hs : s.size ≤ 140737488355328) : impl_nameBytes.f s = some (nameB s) := by
  simp only [impl_nameBytes.f, Option.bind_some]
  exact if_pos (nameB_fits s hs)
def nameBytesV (s : ByteArray) : ByteArray × Bool := if nameOk s = true then (nameB s, true) else (⟨#[]⟩, false)

/-! ### ty_Param -/
def cParam (x : S161) : S126 := ⟨x.f0, x.f1, x.f2⟩
/-- No larger than memory lets it be. -/
def smParam (x : S161) : Prop := x.f0.size ≤ 140737488351232
def smsParam (l : List S161) : Prop := l.length ≤ 4398046510976 ∧ ∀ x ∈ l, smParam x
theorem rdLParam {l : List S161} {i : Nat} (h : i < l.length) : rd_T161 l (i : Int) = l[i] := by
  simp [rd_T161, List.getD_eq_getElem?_getD, h]
theorem rdIParam {l : List S126} {i : Nat} (h : i < l.length) : rd_T126 l (i : Int) = l[i] := by
  simp [rd_T126, List.getD_eq_getElem?_getD, h]
theorem szParam_flat (f0 : ByteArray) (f1 : Bool) (f2 : Int) (hx : f0.size ≤ 140737488351232) (left : Int) (h0 : 0 ≤ left) (h1 : left ≤ 1048576) : ∃ r, Ev (fun k => laws_szParam.f f0 f1 f2 left) r ∧ r ≤ left := by
  simp only [laws_szParam.f]
  have z0 := hx
  have w0 : wrap64 (left - (f0.size : Int)) = left - f0.size := wrap64_id (by omega) (by omega)
  simp only [w0]
  by_cases d0 : left - (f0.size : Int) < 0
  · exact ⟨-1, evPos d0 (evNow rfl), by omega⟩
  · skip
    exact ⟨(left - (f0.size : Int)), evNeg d0 (evNow rfl), by omega⟩
theorem szParam_ex (x : S161) (hx : smParam x) (left : Int) (h0 : 0 ≤ left) (h1 : left ≤ 1048576) : ∃ r, Ev (fun k => laws_szParam.f x.f0 x.f1 x.f2 left) r ∧ r ≤ left := szParam_flat x.f0 x.f1 x.f2 hx left h0 h1
theorem szParamS_l0 (l : List S161) (hl : l.length ≤ 140737488351232) (hs : ∀ x ∈ l, smParam x) (d : Nat) : ∀ (i : Nat) (left : Int), i + d = l.length → 0 ≤ left → left ≤ 1048576 → ∃ r, Ev (fun k => laws_szParamS.l0 k l left (i : Int)) r ∧ r ≤ left := by
  induction d with
  | zero =>
    intro i left hi h0 h1
    refine ⟨left, evSucc ?_, Int.le_refl _⟩
    simp only [laws_szParamS.l0]
    exact evNeg (by omega) (evNow rfl)
  | succ d ih =>
    intro i left hi h0 h1
    have hlt : i < l.length := by omega
    obtain ⟨r, e, h4⟩ := szParam_ex l[i] (hs _ (List.getElem_mem hlt)) left h0 h1
    by_cases hr : r < 0
    · refine ⟨-1, evSucc ?_, by omega⟩
      simp only [laws_szParamS.l0, rdLParam hlt]
      exact evPos (by omega) (evPos (by omega) (evB e (evPos hr (evNow rfl))))
    · obtain ⟨q, hq, hq2⟩ := ih (i + 1) r (by omega) (by omega) (by omega)
      refine ⟨q, evSucc ?_, by omega⟩
      simp only [laws_szParamS.l0, rdLParam hlt, wrap64_nat i (by omega)]
      exact evPos (by omega) (evPos (by omega) (evB e (evNeg hr hq)))
theorem szParamS_ex (l : List S161) (hs : smsParam l) (left : Int) (h0 : 0 ≤ left) (h1 : left ≤ 1048576) : ∃ r, Ev (fun k => laws_szParamS.f k l left) r ∧ r ≤ left ∧ (0 ≤ r → (l.length : Int) ≤ left) := by
  have hl := hs.1
  simp only [laws_szParamS.f]
  have e1 : wrap64 (left - (l.length : Int)) = left - l.length := wrap64_id (by omega) (by omega)
  simp only [e1]
  by_cases h : left - (l.length : Int) < 0
  · exact ⟨-1, evPos h (evNow rfl), by omega, by omega⟩
  · obtain ⟨r, hr, hr2⟩ := szParamS_l0 l (by omega) hs.2 l.length 0 (left - l.length) (by omega) (by omega) (by omega)
    exact ⟨r, evNeg h hr, by omega, by omega⟩
theorem toParam_flat (f0 : ByteArray) (f1 : Bool) (f2 : Int) (hx : f0.size ≤ 140737488351232) : Ev (fun k => laws_toParam.f f0 f1 f2) (f0, f1, f2) := by
  simp only [laws_toParam.f]
  exact evNow rfl
theorem toParam_ev (x : S161) (hx : smParam x) : Ev (fun k => laws_toParam.f x.f0 x.f1 x.f2) (x.f0, x.f1, x.f2) := toParam_flat x.f0 x.f1 x.f2 hx
theorem toParamS_l0 (l : List S161) (hl : l.length ≤ 140737488351232) (hs : ∀ x ∈ l, smParam x) (d : Nat) : ∀ i : Nat, i + d = l.length → Ev (fun k => laws_toParamS.l0 k l ((l.map cParam).take i ++ List.replicate ((l.map cParam).length - i) z126) (i : Int)) (l.map cParam) := by
  induction d with
  | zero =>
    intro i hi
    refine evSucc ?_
    simp only [laws_toParamS.l0]
    refine evNeg (by omega) (evNow ?_)
    have e : (l.map cParam).length - i = 0 := by simp; omega
    rw [e, List.take_of_length_le (by simp; omega)]
    simp
  | succ d ih =>
    intro i hi
    have hlt : i < l.length := by omega
    refine evSucc ?_
    simp only [laws_toParamS.l0, rdLParam hlt]
    refine evPos (by omega) (evPos (by omega) (evB (toParam_ev l[i] (hs _ (List.getElem_mem hlt))) (evPos (by simp; omega) ?_)))
    have e : (⟨(l[i]).f0, (l[i]).f1, (l[i]).f2⟩ : S126) = (l.map cParam)[i]'(by simp; omega) := by simp [cParam]
    simp only [wrap64_nat i (by omega), Int.toNat_natCast, e, set_fill (l.map cParam) z126 i (by simp; omega)]
    exact ih (i + 1) (by omega)
theorem toParamS_ev (l : List S161) (hs : smsParam l) : Ev (fun k => laws_toParamS.f k l) (l.map cParam) := by
  have hl := hs.1
  simp only [laws_toParamS.f]
  refine evPos (by omega) (evPos (by omega) ?_)
  have := toParamS_l0 l (by omega) hs.2 l.length 0 (by omega)
  simpa using this
def lqParam (x : S126) : Prop := x = x
def lsParam (l : List S126) : Prop := l.length ≤ 140737488351232 ∧ ∀ x ∈ l, lqParam x
theorem eqParam_flat (f0 : ByteArray) (f1 : Bool) (f2 : Int) : Ev (fun k => laws_eqParam.f f0 f1 f2 f0 f1 f2) true := by
  simp only [laws_eqParam.f]
  exact evPos (by first | rfl | trivial) (evNeg (by simp) (evPos (by first | rfl | trivial) (evNow rfl)))
theorem eqParam_ev (x : S126) (hx : lqParam x) : Ev (fun k => laws_eqParam.f x.f0 x.f1 x.f2 x.f0 x.f1 x.f2) true := eqParam_flat x.f0 x.f1 x.f2
theorem eqParamS_l0 (l : List S126) (hs : lsParam l) (d : Nat) : ∀ i : Nat, i + d = l.length → Ev (fun k => laws_eqParamS.l0 k l l (i : Int)) true := by
  have hl := hs.1
  induction d with
  | zero =>
    intro i hi
    refine evSucc ?_
    simp only [laws_eqParamS.l0]
    exact evNeg (by omega) (evNow rfl)
  | succ d ih =>
    intro i hi
    have hlt : i < l.length := by omega
    refine evSucc ?_
    simp only [laws_eqParamS.l0, rdIParam hlt]
    refine evPos (by omega) (evPos (by omega) (evPos (by omega) (evB (eqParam_ev l[i] (hs.2 _ (List.getElem_mem hlt))) (evPos (by first | rfl | trivial) ?_))))
    simp only [wrap64_nat i (by omega)]
    exact ih (i + 1) (by omega)
theorem eqParamS_ev (l : List S126) (hs : lsParam l) : Ev (fun k => laws_eqParamS.f k l l) true := by
  simp only [laws_eqParamS.f]
  exact evPos (by first | rfl | trivial) (eqParamS_l0 l hs l.length 0 (by omega))
theorem lqParam_of {x : S161} (hx : smParam x) : lqParam (cParam x) := rfl
theorem lsParam_of {l : List S161} (hs : smsParam l) : lsParam (l.map cParam) := ⟨by have := hs.1; simp; omega, fun y hy => by
  obtain ⟨x, hx, rfl⟩ := List.mem_map.1 hy
  exact lqParam_of (hs.2 x hx)⟩

/-! ### ty_Object -/

theorem szObject_flat (f0 : ByteArray) (f1 : Int) (f2 : Int) (f3 : Int) (f4 : Int) (f5 : List S161) (hx : f0.size ≤ 140737488351232 ∧ smsParam f5) (left : Int) (h0 : 0 ≤ left) (h1 : left ≤ 1048576) : ∃ r, Ev (fun k => laws_szObject.f k f0 f1 f2 f3 f4 f5 left) r ∧ r ≤ left := by
  simp only [laws_szObject.f]
  have z0 := hx.1
  have w0 : wrap64 (left - (f0.size : Int)) = left - f0.size := wrap64_id (by omega) (by omega)
  simp only [w0]
  by_cases d0 : left - (f0.size : Int) < 0
  · exact ⟨-1, evPos d0 (evNow rfl), by omega⟩
  · skip
    obtain ⟨r1, v1, u1, _⟩ := szParamS_ex f5 (hx.2) (left - (f0.size : Int)) (by omega) (by omega)
    by_cases d1 : r1 < 0
    · exact ⟨-1, evNeg d0 (evB v1 (evPos d1 (evNow rfl))), by omega⟩
    · skip
      exact ⟨r1, evNeg d0 (evB v1 (evNeg d1 (evNow rfl))), by omega⟩
theorem toObject_flat (f0 : ByteArray) (f1 : Int) (f2 : Int) (f3 : Int) (f4 : Int) (f5 : List S161) (hx : f0.size ≤ 140737488351232 ∧ smsParam f5) : Ev (fun k => laws_toObject.f k f0 f1 f2 f3 f4 f5) (f0, f1, f2, f3, f4, f5.map cParam) := by
  simp only [laws_toObject.f]
  exact evB (toParamS_ev f5 (hx.2)) (evNow rfl)
theorem eqObject_flat (f0 : ByteArray) (f1 : Int) (f2 : Int) (f3 : Int) (f4 : Int) (f5 : List S126) (hx : lsParam f5) : Ev (fun k => laws_eqObject.f k f0 f1 f2 f3 f4 f5 f0 f1 f2 f3 f4 f5) true := by
  simp only [laws_eqObject.f]
  exact evPos (by first | rfl | trivial) (evPos (by first | rfl | trivial) (evPos (by first | rfl | trivial) (evPos (by first | rfl | trivial) (evPos (by first | rfl | trivial) (evB (eqParamS_ev f5 (hx)) (evPos (by first | rfl | trivial) (evNow rfl)))))))

/-! ### the pieces -/
def tooB (b : Bool) : ByteArray := if b = true then ⟨#[1]⟩ else ⟨#[0]⟩
theorem tooB_size (b : Bool) : (tooB b).size = 1 := by cases b <;> rfl
def numB (n : Int) : ByteArray := strOfNums (nb (foldN n))
theorem nb_len (d : Nat) : ∀ x : Nat, x < 128 ^ (d + 1) → (nb x).length ≤ d + 1 := by
  induction d with
  | zero =>
    intro x hx
    rw [nb_small (by simpa using hx)]
    simp
  | succ d ih =>
    intro x hx
    by_cases h : x < 128
    · rw [nb_small h]
      simp
    · rw [nb_big h]
      have := ih (x / 128) (by rw [Nat.div_lt_iff_lt_mul (by omega)]; rw [Nat.pow_succ] at hx; exact hx)
      simp only [List.length_cons]
      omega
theorem numB_size {n : Int} (h0 : -1000000000 ≤ n) (h1 : n ≤ 1000000000) : (numB n).size ≤ 9 := by
  have := foldN_lt h0 h1
  unfold numB
  rw [strOfNums_size]
  exact nb_len 8 _ (by omega)
theorem nameB_size (s : ByteArray) : (nameB s).size = 1 + s.size := by
  unfold nameB
  rw [ByteArray.size_append, strOfNums_size]
  rfl
theorem one_eq : strOfNums [(1 : Int) % 256] = ⟨#[1]⟩ := by rfl
theorem zero_eq : strOfNums [(0 : Int) % 256] = ⟨#[0]⟩ := by rfl
theorem two_eq (a b : Int) : strOfNums [a] ++ strOfNums [b] = strOfNums [a, b] := by
  apply ByteArray.ext
  simp [strOfNums]
def parB (p : S126) : ByteArray := (nameB p.f0 ++ tooB p.f1) ++ numB p.f2
def parOk (p : S126) : Bool := nameOk p.f0 && decide (0 ≤ p.f2 ∧ p.f2 ≤ 24)
def parsB : List S126 → ByteArray
  | [] => ⟨#[]⟩
  | p :: r => parB p ++ parsB r
def lenOk (l : List S126) : Prop := l.length ≤ 4398046510976 ∧ ∀ x ∈ l, x.f0.size ≤ 140737488351232
theorem empty_app (x : ByteArray) : x ++ (⟨#[]⟩ : ByteArray) = x := by
  apply ByteArray.ext
  simp
theorem parB_size {p : S126} (hs : p.f0.size ≤ 140737488351232) (hp : parOk p = true) : (parB p).size ≤ 140737488351300 := by
  simp only [parOk, Bool.and_eq_true, decide_eq_true_eq] at hp
  have := numB_size (n := p.f2) (by omega) (by omega)
  unfold parB
  rw [ByteArray.size_append, ByteArray.size_append, nameB_size, tooB_size]
  omega
theorem parOk_at {l : List S126} (h : l.all parOk = true) {i : Nat} (hi : i < l.length) : parOk l[i] = true := (List.all_eq_true.1 h) _ (List.getElem_mem hi)

/-! ### the fit -/
def ownOk (f0 : ByteArray) (f1 f2 f3 f4 : Int) (n : Nat) : Bool := nameOk f0 && (decide (1 ≤ f1 ∧ f1 ≤ 4) && (decide (0 ≤ f2 ∧ f2 ≤ 2) && (decide (-1 ≤ f3 ∧ f3 ≤ 24) && (decide (-1000000000 ≤ f4 ∧ f4 ≤ 1000000000) && decide ((n : Int) ≤ 4)))))
theorem drop_all {l : List S126} {i : Nat} (h : i < l.length) : (l.drop i).all parOk = (parOk l[i] && (l.drop (i + 1)).all parOk) := by
  rw [List.drop_eq_getElem_cons h, List.all_cons]
theorem spec_l7ObjectFits_l0 (l : List S126) (hl : lenOk l) (f0 : ByteArray) (hf0 : f0.size ≤ 140737488351232) (f1 f2 f3 f4 : Int) (d : Nat) : ∀ i : Nat, i + d = l.length → Ev (fun k => spec_l7ObjectFits.l0 k l (l.length : Int) (i : Int) f0 f1 f2 f3 f4 l) ((l.drop i).all parOk && ownOk f0 f1 f2 f3 f4 l.length) := by
  have hlen := hl.1
  induction d with
  | zero =>
    intro i hi
    have e : l.drop i = [] := List.drop_eq_nil_of_le (by omega)
    rw [e]
    refine evSucc ?_
    simp only [spec_l7ObjectFits.l0, spec_l1In_eq, Option.bind_some]
    refine evNeg (by omega) (evB (spec_l1Name_ev f0 (by omega)) ?_)
    unfold ownOk
    cases hn : nameOk f0
    · exact evNeg (by simp) (evNow rfl)
    refine evPos (by first | rfl | trivial) ?_
    cases h1 : decide (1 ≤ f1 ∧ f1 ≤ 4)
    · exact evNeg (by simp) (evNow rfl)
    refine evPos (by first | rfl | trivial) ?_
    cases h2 : decide (0 ≤ f2 ∧ f2 ≤ 2)
    · exact evNeg (by simp) (evNow rfl)
    refine evPos (by first | rfl | trivial) ?_
    cases h3 : decide (-1 ≤ f3 ∧ f3 ≤ 24)
    · exact evNeg (by simp) (evNow rfl)
    refine evPos (by first | rfl | trivial) ?_
    cases h4 : decide (-1000000000 ≤ f4 ∧ f4 ≤ 1000000000)
    · exact evNeg (by simp) (evNow rfl)
    exact evPos (by first | rfl | trivial) (evNow (by simp))
  | succ d ih =>
    intro i hi
    have hlt : i < l.length := by omega
    rw [drop_all hlt]
    refine evSucc ?_
    simp only [spec_l7ObjectFits.l0, spec_l1In_eq, Option.bind_some, rdIParam hlt, wrap64_nat i (show i < 4611686018427387904 by omega)]
    refine evPos (by omega) (evPos (by omega) (evPos (by omega) (evB (spec_l1Name_ev _ (by have := hl.2 _ (List.getElem_mem hlt); omega)) ?_)))
    cases hn : nameOk (l[i]).f0
    · exact evNeg (by simp) (evNow (by simp only [parOk, hn, Bool.false_and]))
    refine evPos (by first | rfl | trivial) ?_
    cases h1 : decide (0 ≤ (l[i]).f2 ∧ (l[i]).f2 ≤ 24)
    · exact evNeg (by simp) (evNow (by simp only [parOk, h1, Bool.false_and, Bool.and_false]))
    have hp : parOk l[i] = true := by simp only [parOk, hn, h1, Bool.and_self]
    rw [hp, Bool.true_and]
    exact evPos (by first | rfl | trivial) (ih (i + 1) (by omega))

/-! ### the bytes -/
theorem spec_l7Object_l0 (l : List S126) (hl : lenOk l) (h4 : l.length ≤ 4) (hok : l.all parOk = true) (d : Nat) : ∀ (i : Nat) (x : ByteArray), i + d = l.length → x.size + d * 140737488351300 ≤ 9000000000000000000 → Ev (fun k => spec_l7Object.l0 k x l (l.length : Int) (i : Int)) (x ++ parsB (l.drop i)) := by
  induction d with
  | zero =>
    intro i x hi hx
    have e : l.drop i = [] := List.drop_eq_nil_of_le (by omega)
    rw [e]
    refine evSucc ?_
    simp only [spec_l7Object.l0]
    refine evNeg (by omega) (evNow ?_)
    simp only [parsB, empty_app]
  | succ d ih =>
    intro i x hi hx
    have hlt : i < l.length := by omega
    have hs := hl.2 _ (List.getElem_mem hlt)
    have hp := parOk_at hok hlt
    have hsz := parB_size hs hp
    have hp2 := hp
    simp only [parOk, Bool.and_eq_true, decide_eq_true_eq] at hp2
    have ht := tooB_size (l[i]).f1
    have hn := nameB_size (l[i]).f0
    have hm := numB_size (n := (l[i]).f2) (by omega) (by omega)
    have hd : x ++ parsB (l.drop i) = (((x ++ nameB (l[i]).f0) ++ tooB (l[i]).f1) ++ numB (l[i]).f2) ++ parsB (l.drop (i + 1)) := by
      rw [List.drop_eq_getElem_cons hlt]
      simp only [parsB, parB, ByteArray.append_assoc]
    have hsz2 : ((((x ++ nameB (l[i]).f0) ++ tooB (l[i]).f1) ++ numB (l[i]).f2)).size + d * 140737488351300 ≤ 9000000000000000000 := by
      simp only [ByteArray.size_append]
      unfold parB at hsz
      simp only [ByteArray.size_append] at hsz
      omega
    have hgo := ih (i + 1) _ (by omega) hsz2
    rw [← hd] at hgo
    simp only [ByteArray.size_append] at hsz2
    refine evSucc ?_
    simp only [spec_l7Object.l0, rdIParam hlt, spec_l1NameBytes_eq _ (show (l[i]).f0.size ≤ 140737488355328 by omega), Option.bind_some, wrap64_nat i (show i < 4611686018427387904 by omega)]
    refine evPos (by omega) (evPos (by omega) (evPos (by omega) (evPos (by omega) ?_)))
    cases hb : (l[i]).f1
    · rw [hb] at hgo
      refine evNeg (by simp) (evPos (by rw [ByteArray.size_append]; omega) (evB (spec_l1NumBytes_ev (by omega) (by omega)) (evPos ?_ hgo)))
      show ((x ++ nameB (l[i]).f0) ++ tooB false).size + (numB (l[i]).f2).size ≤ _
      simp only [ByteArray.size_append, tooB_size]
      omega
    · rw [hb] at hgo
      refine evPos (by first | rfl | trivial) (evPos (by rw [ByteArray.size_append]; omega) (evB (spec_l1NumBytes_ev (by omega) (by omega)) (evPos ?_ hgo)))
      show ((x ++ nameB (l[i]).f0) ++ tooB true).size + (numB (l[i]).f2).size ≤ _
      simp only [ByteArray.size_append, tooB_size]
      omega
theorem impl_objectBytes_l0 (l : List S126) (hl : lenOk l) (h4 : l.length ≤ 4) (hok : l.all parOk = true) (d : Nat) : ∀ (i : Nat) (x : ByteArray), i + d = l.length → x.size + d * 140737488351300 ≤ 9000000000000000000 → Ev (fun k => impl_objectBytes.l0 k x l (l.length : Int) (i : Int)) (x ++ parsB (l.drop i)) := by
  induction d with
  | zero =>
    intro i x hi hx
    have e : l.drop i = [] := List.drop_eq_nil_of_le (by omega)
    rw [e]
    refine evSucc ?_
    simp only [impl_objectBytes.l0]
    refine evNeg (by omega) (evNow ?_)
    simp only [parsB, empty_app]
  | succ d ih =>
    intro i x hi hx
    have hlt : i < l.length := by omega
    have hs := hl.2 _ (List.getElem_mem hlt)
    have hp := parOk_at hok hlt
    have hsz := parB_size hs hp
    have hp2 := hp
    simp only [parOk, Bool.and_eq_true, decide_eq_true_eq] at hp2
    have ht := tooB_size (l[i]).f1
    have hn := nameB_size (l[i]).f0
    have hm := numB_size (n := (l[i]).f2) (by omega) (by omega)
    have hd : x ++ parsB (l.drop i) = (x ++ ((nameB (l[i]).f0 ++ tooB (l[i]).f1) ++ numB (l[i]).f2)) ++ parsB (l.drop (i + 1)) := by
      rw [List.drop_eq_getElem_cons hlt]
      simp only [parsB, parB, ByteArray.append_assoc]
    have hsz2 : (x ++ ((nameB (l[i]).f0 ++ tooB (l[i]).f1) ++ numB (l[i]).f2)).size + d * 140737488351300 ≤ 9000000000000000000 := by
      rw [ByteArray.size_append]
      unfold parB at hsz
      omega
    have hgo := ih (i + 1) _ (by omega) hsz2
    rw [← hd] at hgo
    simp only [ByteArray.size_append] at hsz2
    refine evSucc ?_
    simp only [impl_objectBytes.l0, rdIParam hlt, impl_nameBytes_eq _ (show (l[i]).f0.size ≤ 140737488355328 by omega), impl_one.f, one_eq, zero_eq, Option.bind_some, wrap64_nat i (show i < 4611686018427387904 by omega)]
    refine evPos (by omega) (evPos (by omega) (evPos (by omega) ?_))
    cases hb : (l[i]).f1
    · rw [hb] at hgo
      have hz : ∀ a b : ByteArray, a.size + (tooB false).size + b.size = (a ++ tooB false ++ b).size := fun a b => by simp only [ByteArray.size_append]
      refine evNeg (by simp) (evPos ?_ (evB (impl_numBytes_ev (by omega) (by omega)) (evPos ?_ (evPos ?_ hgo))))
      · show (nameB (l[i]).f0).size + (tooB false).size ≤ _
        simp only [tooB_size]
        omega
      · show (nameB (l[i]).f0 ++ tooB false).size + (numB (l[i]).f2).size ≤ _
        simp only [ByteArray.size_append, tooB_size]
        omega
      · show x.size + ((nameB (l[i]).f0 ++ tooB false) ++ numB (l[i]).f2).size ≤ _
        simp only [ByteArray.size_append, tooB_size]
        omega
    · rw [hb] at hgo
      refine evPos (by first | rfl | trivial) (evPos ?_ (evB (impl_numBytes_ev (by omega) (by omega)) (evPos ?_ (evPos ?_ hgo))))
      · show (nameB (l[i]).f0).size + (tooB true).size ≤ _
        simp only [tooB_size]
        omega
      · show (nameB (l[i]).f0 ++ tooB true).size + (numB (l[i]).f2).size ≤ _
        simp only [ByteArray.size_append, tooB_size]
        omega
      · show x.size + ((nameB (l[i]).f0 ++ tooB true) ++ numB (l[i]).f2).size ≤ _
        simp only [ByteArray.size_append, tooB_size]
        omega
def objB (f0 : ByteArray) (f1 f2 f3 f4 : Int) (l : List S126) : ByteArray := ((((strOfNums [f1 % 256, f2 % 256] ++ nameB f0) ++ numB f3) ++ numB f4) ++ numB (l.length : Int)) ++ parsB l
theorem spec_l7Object_ev (f0 : ByteArray) (hf0 : f0.size ≤ 140737488351232) (f1 f2 f3 f4 : Int) (h3 : -1 ≤ f3 ∧ f3 ≤ 24) (h4 : -1000000000 ≤ f4 ∧ f4 ≤ 1000000000) (l : List S126) (hl : lenOk l) (hn : l.length ≤ 4) (hok : l.all parOk = true) : Ev (fun k => spec_l7Object.f k f0 f1 f2 f3 f4 l) (objB f0 f1 f2 f3 f4 l) := by
  have s0 : (strOfNums [f1 % 256, f2 % 256]).size = 2 := by rw [strOfNums_size]; rfl
  have s1 := nameB_size f0
  have s3 := numB_size (n := f3) (by omega) (by omega)
  have s4 := numB_size (n := f4) h4.1 h4.2
  have s5 := numB_size (n := (l.length : Int)) (by omega) (by omega)
  simp only [spec_l7Object.f, spec_l1NameBytes_eq f0 (by omega), Option.bind_some]
  refine evPos (by omega) (evB (spec_l1NumBytes_ev (by omega) (by omega)) (evPos ?_ (evB (spec_l1NumBytes_ev h4.1 h4.2) (evPos ?_ (evB (spec_l1NumBytes_ev (by omega) (by omega)) (evPos ?_ ?_))))))
  · show (strOfNums [f1 % 256, f2 % 256] ++ nameB f0).size + (numB f3).size ≤ _
    simp only [ByteArray.size_append]
    omega
  · show ((strOfNums [f1 % 256, f2 % 256] ++ nameB f0) ++ numB f3).size + (numB f4).size ≤ _
    simp only [ByteArray.size_append]
    omega
  · show (((strOfNums [f1 % 256, f2 % 256] ++ nameB f0) ++ numB f3) ++ numB f4).size + (numB (l.length : Int)).size ≤ _
    simp only [ByteArray.size_append]
    omega
  · refine spec_l7Object_l0 l hl hn hok l.length 0 ((((strOfNums [f1 % 256, f2 % 256] ++ nameB f0) ++ numB f3) ++ numB f4) ++ numB (l.length : Int)) (by omega) ?_
    simp only [ByteArray.size_append]
    omega
theorem impl_objectBytes_ev (f0 : ByteArray) (hf0 : f0.size ≤ 140737488351232) (f1 f2 f3 f4 : Int) (h3 : -1 ≤ f3 ∧ f3 ≤ 24) (h4 : -1000000000 ≤ f4 ∧ f4 ≤ 1000000000) (l : List S126) (hl : lenOk l) (hn : l.length ≤ 4) (hok : l.all parOk = true) : Ev (fun k => impl_objectBytes.f k f0 f1 f2 f3 f4 l) (objB f0 f1 f2 f3 f4 l) := by
  have s0 : (strOfNums [f1 % 256, f2 % 256]).size = 2 := by rw [strOfNums_size]; rfl
  have s1 := nameB_size f0
  have s3 := numB_size (n := f3) (by omega) (by omega)
  have s4 := numB_size (n := f4) h4.1 h4.2
  have s5 := numB_size (n := (l.length : Int)) (by omega) (by omega)
  have s6 : (strOfNums [f1 % 256]).size + (strOfNums [f2 % 256]).size ≤ 9223372036854775807 := by rw [strOfNums_size, strOfNums_size]; simp
  simp only [impl_objectBytes.f, impl_one.f, impl_nameBytes_eq f0 (by omega), Option.bind_some, two_eq]
  refine evPos s6 (evPos (by omega) (evB (impl_numBytes_ev (by omega) (by omega)) (evPos ?_ (evB (impl_numBytes_ev h4.1 h4.2) (evPos ?_ (evB (impl_numBytes_ev (by omega) (by omega)) (evPos ?_ ?_)))))))
  · show (strOfNums [f1 % 256, f2 % 256] ++ nameB f0).size + (numB f3).size ≤ _
    simp only [ByteArray.size_append]
    omega
  · show ((strOfNums [f1 % 256, f2 % 256] ++ nameB f0) ++ numB f3).size + (numB f4).size ≤ _
    simp only [ByteArray.size_append]
    omega
  · show (((strOfNums [f1 % 256, f2 % 256] ++ nameB f0) ++ numB f3) ++ numB f4).size + (numB (l.length : Int)).size ≤ _
    simp only [ByteArray.size_append]
    omega
  · refine impl_objectBytes_l0 l hl hn hok l.length 0 ((((strOfNums [f1 % 256, f2 % 256] ++ nameB f0) ++ numB f3) ++ numB f4) ++ numB (l.length : Int)) (by omega) ?_
    simp only [ByteArray.size_append]
    omega

/-! ### both sides -/
def fitAll (f0 : ByteArray) (f1 f2 f3 f4 : Int) (l : List S126) : Bool := l.all parOk && ownOk f0 f1 f2 f3 f4 l.length
def objV (f0 : ByteArray) (f1 f2 f3 f4 : Int) (l : List S126) : ByteArray × Bool := if fitAll f0 f1 f2 f3 f4 l = true then (objB f0 f1 f2 f3 f4 l, true) else (⟨#[]⟩, false)
theorem fit_get {f0 : ByteArray} {f1 f2 f3 f4 : Int} {l : List S126} (h : fitAll f0 f1 f2 f3 f4 l = true) : l.all parOk = true ∧ (-1 ≤ f3 ∧ f3 ≤ 24) ∧ (-1000000000 ≤ f4 ∧ f4 ≤ 1000000000) ∧ l.length ≤ 4 := by
  unfold fitAll ownOk at h
  simp only [Bool.and_eq_true, decide_eq_true_eq] at h
  exact ⟨h.1, h.2.2.2.2.1, h.2.2.2.2.2.1, by omega⟩
theorem spec_ObjectBytes_ev (f0 : ByteArray) (hf0 : f0.size ≤ 140737488351232) (f1 f2 f3 f4 : Int) (l : List S126) (hl : lenOk l) : Ev (fun k => spec_ObjectBytes.f k f0 f1 f2 f3 f4 l) (objV f0 f1 f2 f3 f4 l) := by
  have hfit : Ev (fun k => spec_l7ObjectFits.f k f0 f1 f2 f3 f4 l) (fitAll f0 f1 f2 f3 f4 l) := by
    simp only [spec_l7ObjectFits.f]
    exact spec_l7ObjectFits_l0 l hl f0 hf0 f1 f2 f3 f4 l.length 0 (by omega)
  simp only [spec_ObjectBytes.f]
  refine evB hfit ?_
  unfold objV
  cases h : fitAll f0 f1 f2 f3 f4 l
  · exact evNeg (by simp) (evNow rfl)
  · obtain ⟨ha, h3, h4, hn⟩ := fit_get h
    exact evPos (by first | rfl | trivial) (evB (spec_l7Object_ev f0 hf0 f1 f2 f3 f4 h3 h4 l hl hn ha) (evNow rfl))
theorem impl_ObjectBytes_l0 (l : List S126) (hl : lenOk l) (hn : l.length ≤ 4) (f0 : ByteArray) (hf0 : f0.size ≤ 140737488351232) (f1 f2 f3 f4 : Int) (h3 : -1 ≤ f3 ∧ f3 ≤ 24) (h4 : -1000000000 ≤ f4 ∧ f4 ≤ 1000000000) (d : Nat) : ∀ i : Nat, i + d = l.length → (∀ j, (hj : j < l.length) → j < i → parOk l[j] = true) → Ev (fun k => impl_ObjectBytes.l0 k l (l.length : Int) (i : Int) f0 f1 f2 f3 f4 l) (if l.all parOk = true then (objB f0 f1 f2 f3 f4 l, true) else (⟨#[]⟩, false)) := by
  induction d with
  | zero =>
    intro i hi hall
    have ha : l.all parOk = true := by
      rw [List.all_eq_true]
      intro x hx
      obtain ⟨j, hj, rfl⟩ := List.mem_iff_getElem.1 hx
      exact hall j hj (by omega)
    rw [if_pos ha]
    refine evSucc ?_
    simp only [impl_ObjectBytes.l0]
    exact evNeg (by omega) (evB (impl_objectBytes_ev f0 hf0 f1 f2 f3 f4 h3 h4 l hl hn ha) (evNow rfl))
  | succ d ih =>
    intro i hi hall
    have hlt : i < l.length := by omega
    have no : parOk l[i] = false → ¬ l.all parOk = true := fun h ha => by
      have := parOk_at ha hlt
      rw [h] at this
      cases this
    refine evSucc ?_
    simp only [impl_ObjectBytes.l0, impl_in_eq, Option.bind_some, rdIParam hlt, wrap64_nat i (show i < 4611686018427387904 by omega)]
    refine evPos (by omega) (evPos (by omega) (evPos (by omega) (evB (impl_isName_ev _ (by have := hl.2 _ (List.getElem_mem hlt); omega)) ?_)))
    cases hn : nameOk (l[i]).f0
    · rw [if_neg (no (by simp [parOk, hn]))]
      exact evNeg (by simp) (evNow rfl)
    refine evPos (by first | rfl | trivial) ?_
    cases h1 : decide (0 ≤ (l[i]).f2 ∧ (l[i]).f2 ≤ 24)
    · rw [if_neg (no (by simp only [parOk, hn, h1, Bool.and_false]))]
      exact evNeg (by simp) (evNow rfl)
    refine evPos (by first | rfl | trivial) (ih (i + 1) (by omega) fun j hj hji => ?_)
    by_cases hji2 : j < i
    · exact hall j hj hji2
    · obtain rfl : j = i := by omega
      simp only [parOk, hn, h1, Bool.and_true]
theorem impl_ObjectBytes_ev (f0 : ByteArray) (hf0 : f0.size ≤ 140737488351232) (f1 f2 f3 f4 : Int) (l : List S126) (hl : lenOk l) : Ev (fun k => impl_ObjectBytes.f k f0 f1 f2 f3 f4 l) (objV f0 f1 f2 f3 f4 l) := by
  have out : ownOk f0 f1 f2 f3 f4 l.length = false → objV f0 f1 f2 f3 f4 l = (⟨#[]⟩, false) := fun h => by
    unfold objV fitAll
    rw [h, Bool.and_false]
    rfl
  have no : ownOk f0 f1 f2 f3 f4 l.length = false → Ev (fun k => impl_ObjectBytes.j0 k true f0 f1 f2 f3 f4 l) (objV f0 f1 f2 f3 f4 l) := fun h => by
    refine evSucc ?_
    simp only [impl_ObjectBytes.j0]
    exact evPos (by first | rfl | trivial) (evNow (out h).symm)
  simp only [impl_ObjectBytes.f, impl_isWhole.f, impl_in_eq, Option.bind_some]
  refine evB (impl_isName_ev f0 (by omega)) ?_
  cases hn : nameOk f0
  · exact evNeg (by simp) (no (by simp [ownOk, hn]))
  refine evPos (by first | rfl | trivial) ?_
  cases h1 : decide (1 ≤ f1 ∧ f1 ≤ 4)
  · exact evNeg (by simp) (no (by simp only [ownOk, h1, Bool.false_and, Bool.and_false]))
  refine evPos (by first | rfl | trivial) ?_
  cases h2 : decide (0 ≤ f2 ∧ f2 ≤ 2)
  · exact evNeg (by simp) (no (by simp only [ownOk, h2, Bool.false_and, Bool.and_false]))
  refine evPos (by first | rfl | trivial) ?_
  cases h3 : decide (-1 ≤ f3 ∧ f3 ≤ 24)
  · exact evNeg (by simp) (no (by simp only [ownOk, h3, Bool.false_and, Bool.and_false]))
  refine evPos (by first | rfl | trivial) ?_
  cases h4 : decide (-1000000000 ≤ f4 ∧ f4 ≤ 1000000000)
  · exact evNeg (by simp) (no (by simp only [ownOk, h4, Bool.false_and, Bool.and_false]))
  refine evPos (by first | rfl | trivial) ?_
  by_cases h5 : (l.length : Int) > 4
  · rw [decide_eq_true h5]
    exact no (by simp only [ownOk, decide_eq_false (show ¬ (l.length : Int) ≤ 4 by omega), Bool.and_false])
  · rw [decide_eq_false h5]
    refine evSucc ?_
    simp only [impl_ObjectBytes.j0]
    refine evNeg (by simp) (evTwo (impl_ObjectBytes_l0 l hl (by omega) f0 hf0 f1 f2 f3 f4 (of_decide_eq_true h3) (of_decide_eq_true h4) l.length 0 (by omega) (fun j hj hji => absurd hji (Nat.not_lt_zero _))) ?_)
    have own : ownOk f0 f1 f2 f3 f4 l.length = true := by
      simp only [ownOk, hn, h1, h2, h3, h4, decide_eq_true (show (l.length : Int) ≤ 4 by omega), Bool.and_true]
    unfold objV fitAll
    rw [own, Bool.and_true]

theorem FnExactObjectBytes : Pure := by
  intro f0 f1 f2 f3 f4 l w0 _ _ _ _ w5
  refine Ev.rounds (r := true) ?_
  have hx : f0.size ≤ 140737488351232 ∧ smsParam l := ⟨w0, by have := w5.1; omega, fun x hx => (w5.2 x hx).1⟩
  obtain ⟨r, hr, _⟩ := szObject_flat f0 f1 f2 f3 f4 l hx 1048576 (by omega) (by omega)
  have hL : lenOk (l.map cParam) := ⟨by have := hx.2.1; simpa using this, fun y hy => by
    obtain ⟨x, hx', rfl⟩ := List.mem_map.1 hy
    exact hx.2.2 x hx'⟩
  simp only [laws_FnExactObjectBytes.f]
  refine evB hr ?_
  by_cases h0 : r < 0
  · exact evPos h0 (evNow rfl)
  · refine evNeg h0 (evB (toObject_flat f0 f1 f2 f3 f4 l hx) (evB (spec_ObjectBytes_ev f0 w0 f1 f2 f3 f4 _ hL) (evB (toObject_flat f0 f1 f2 f3 f4 l hx) (evB (impl_ObjectBytes_ev f0 w0 f1 f2 f3 f4 _ hL) (evPos (by first | rfl | trivial) ?_)))))
    rw [bne_self_eq_false]
    refine evSucc ?_
    simp only [laws_FnExactObjectBytes.j0]
    exact evNeg (by simp) (evB (toObject_flat f0 f1 f2 f3 f4 l hx) (evB (eqObject_flat f0 f1 f2 f3 f4 _ (lsParam_of hx.2)) (evPos (by first | rfl | trivial) (evNow rfl))))

end Go.Proofs.Ytdphgdlkchajoaa.Pure
