/- The plain statement of the law FnExactGoodExpr: at all arguments within the row's bounds the printed function answers true. No further condition. -/
import Derived.Test.YtdphgdlkchajoaaRichFnExactGoodExpr
import Derived.Test.YtdphgdlkchajoaaPFnExactGoodExprx5
import Derived.Test.YtdphgdlkchajoaaBase
set_option linter.unusedVariables false
set_option linter.unusedSimpArgs false
namespace Go.Proofs.Ytdphgdlkchajoaa.Pure
open Go.RowKit Go.Proofs.Ytdphgdlkchajoaa.PFnExactGoodExpr Go.Proofs.YtdphgdlkchajoaaW.PrintWords Go.Proofs.YtdphgdlkchajoaaW.PrintLast Go.Proofs.Ytdphgdlkchajoaa.Opens Go.Proofs.Ytdphgdlkchajoaa.RichFnExactGoodExpr

/-! ### nameDef -/
def letB (c : Int) : Prop := (65 ≤ c ∧ c ≤ 90) ∨ (97 ≤ c ∧ c ≤ 122)
def digB (c : Int) : Prop := 48 ≤ c ∧ c ≤ 57
instance (c : Int) : Decidable (letB c) := by unfold letB; infer_instance
instance (c : Int) : Decidable (digB c) := by unfold digB; infer_instance
/-- The byte at j may stand in a name. -/
def nmAt (s : ByteArray) (j : Nat) : Prop := letB (bt s (j : Int)) ∨ (j ≠ 0 ∧ digB (bt s (j : Int)))
instance (s : ByteArray) (j : Nat) : Decidable (nmAt s j) := by unfold nmAt; infer_instance
def nameOk (s : ByteArray) : Bool := decide (1 ≤ s.size ∧ s.size ≤ 10 ∧ ∀ j, j < s.size → nmAt s j)
theorem nameOk_not {s : ByteArray} {j : Nat} (h : j < s.size) (hn : ¬ nmAt s j) : nameOk s = false := by
  unfold nameOk
  exact decide_eq_false fun H => hn (H.2.2 j h)
theorem nameOk_all {s : ByteArray} (h : ∀ j, j < s.size → nmAt s j) : nameOk s = decide ((1 : Int) ≤ (s.size : Int) ∧ (s.size : Int) ≤ 10) := by
  unfold nameOk
  by_cases hs : 1 ≤ s.size ∧ s.size ≤ 10
  · rw [decide_eq_true (by exact ⟨hs.1, hs.2, h⟩), decide_eq_true (by omega)]
  · rw [decide_eq_false (fun H => hs ⟨H.1, H.2.1⟩), decide_eq_false (by omega)]

/-! ### inF -/
theorem spec_l1In_eq (a b c : Int) : spec_l1In.f a b c = some (decide (b ≤ a ∧ a ≤ c)) := by
  unfold spec_l1In.f
  by_cases h : a ≥ b
  · rw [if_pos h]; simp [h]
  · rw [if_neg h]; simp [h]
theorem impl_in_eq (a b c : Int) : impl_in.f a b c = some (decide (b ≤ a ∧ a ≤ c)) := by
  unfold impl_in.f
  by_cases h : a ≥ b
  · rw [if_pos h]; simp [h]
  · rw [if_neg h]; simp [h]

/-! ### isName -/
theorem impl_isLetter_eq (c : Int) : impl_isLetter.f c = some (decide (letB c)) := by
  unfold impl_isLetter.f letB
  repeat' split
  all_goals simp only [Option.some.injEq]
  all_goals first | (symm; apply decide_eq_true; omega) | (symm; apply decide_eq_false; omega) | (apply decide_eq_decide.2; omega)
theorem impl_isDigit_eq (c : Int) : impl_isDigit.f c = some (decide (digB c)) := by
  unfold impl_isDigit.f digB
  repeat' split
  all_goals simp only [Option.some.injEq]
  all_goals first | (symm; apply decide_eq_true; omega) | (symm; apply decide_eq_false; omega) | (apply decide_eq_decide.2; omega)
theorem impl_isName_l0 (s : ByteArray) (hs : s.size ≤ 140737488355328) (d : Nat) : ∀ i : Nat, i + d = s.size → (∀ j, j < i → nmAt s j) → Ev (fun k => impl_isName.l0 k s (s.size : Int) (i : Int)) (nameOk s) := by
  induction d with
  | zero =>
    intro i hi hall
    refine evSucc ?_
    simp only [impl_isName.l0]
    refine evNeg (by omega) ?_
    simp only [impl_in_eq, Option.bind_some]
    exact evNow (nameOk_all (fun j hj => hall j (by omega))).symm
  | succ d ih =>
    intro i hi hall
    refine evSucc ?_
    simp only [impl_isName.l0]
    refine evPos (by omega) (evPos (by omega) (evPos (by omega) ?_))
    simp only [impl_isLetter_eq, impl_isDigit_eq, Option.bind_some, wrap64_nat i (by omega)]
    by_cases h1 : letB (bt s (i : Int))
    · refine evPos (decide_eq_true h1) (ih (i + 1) (by omega) fun j hj => ?_)
      by_cases e : j = i
      · subst e; exact .inl h1
      · exact hall j (by omega)
    · refine evNeg (by simpa using h1) ?_
      by_cases h0 : i = 0
      · refine evPos (by omega) (evNow (nameOk_not (j := i) (by omega) ?_).symm)
        rintro (H | H)
        · exact h1 H
        · exact H.1 h0
      · refine evNeg (by omega) ?_
        by_cases h2 : digB (bt s (i : Int))
        · refine evPos (decide_eq_true h2) (ih (i + 1) (by omega) fun j hj => ?_)
          by_cases e : j = i
          · subst e; exact .inr ⟨h0, h2⟩
          · exact hall j (by omega)
        · refine evNeg (by simpa using h2) (evNow (nameOk_not (j := i) (by omega) ?_).symm)
          rintro (H | H)
          · exact h1 H
          · exact h2 H.2
theorem impl_isName_ev (s : ByteArray) (hs : s.size ≤ 140737488355328) : Ev (fun k => impl_isName.f k s) (nameOk s) := by
  simp only [impl_isName.f]
  exact impl_isName_l0 s hs s.size 0 (by omega) (fun j hj => absurd hj (Nat.not_lt_zero _))
theorem spec_l1Name_l0 (s : ByteArray) (hs : s.size ≤ 140737488355328) (d : Nat) : ∀ i : Nat, i + d = s.size → (∀ j, j < i → nmAt s j) → Ev (fun k => spec_l1Name.l0 k s (i : Int)) (nameOk s) := by
  induction d with
  | zero =>
    intro i hi hall
    refine evSucc ?_
    simp only [spec_l1Name.l0]
    refine evNeg (by omega) ?_
    simp only [spec_l1In_eq, Option.bind_some]
    exact evNow (nameOk_all (fun j hj => hall j (by omega))).symm
  | succ d ih =>
    intro i hi hall
    refine evSucc ?_
    simp only [spec_l1Name.l0]
    refine evPos (by omega) (evPos (by omega) ?_)
    simp only [wrap64_nat i (by omega)]
    have yes : nmAt s i → Ev (fun k => spec_l1Name.l0 k s ((i + 1 : Nat) : Int)) (nameOk s) := fun h => ih (i + 1) (by omega) fun j hj => by
      by_cases e : j = i
      · subst e; exact h
      · exact hall j (by omega)
    have no : ¬ nmAt s i → Ev (fun _ : Nat => some false) (nameOk s) := fun h => evNow (nameOk_not (j := i) (by omega) h).symm
    unfold nmAt letB digB at yes no
    generalize bt s (i : Int) = c at yes no ⊢
    have dec : ∀ (p : Prop) [Decidable p] (g f : Nat → Option Bool), (p → Ev g (nameOk s)) → (¬ p → Ev f (nameOk s)) → Ev (fun n => if p then g n else f n) (nameOk s) := fun p _ g f hg hf => by
      by_cases h : p
      · exact evPos h (hg h)
      · exact evNeg h (hf h)
    repeat' (first | exact yes (by omega) | exact no (by omega) | (refine dec _ _ _ (fun _ => ?_) (fun _ => ?_)))
theorem spec_l1Name_ev (s : ByteArray) (hs : s.size ≤ 140737488355328) : Ev (fun k => spec_l1Name.f k s) (nameOk s) := by
  simp only [spec_l1Name.f]
  exact spec_l1Name_l0 s hs s.size 0 (by omega) (fun j hj => absurd hj (Nat.not_lt_zero _))

/-! ### stepTo -/
def cStep (x : S110) : S111 := ⟨x.f0, x.f1, x.f2, x.f3⟩
theorem rdLStep {l : List S110} {i : Nat} (h : i < l.length) : rd_T110 l (i : Int) = l[i] := by
  simp [rd_T110, List.getD_eq_getElem?_getD, h]
theorem rdIStep {l : List S111} {i : Nat} (h : i < l.length) : rd_T111 l (i : Int) = l[i] := by
  simp [rd_T111, List.getD_eq_getElem?_getD, h]
theorem szStep_ex (a b : Int) (c d : ByteArray) (hc : c.size ≤ 140737488351232) (hd : d.size ≤ 140737488351232) (left : Int) (h0 : 0 ≤ left) (h1 : left ≤ 1048576) : ∃ r, laws_szStep.f a b c d left = some r ∧ r ≤ left ∧ (r < 0 ∨ 0 ≤ r) := by
  unfold laws_szStep.f
  have e1 : wrap64 (left - (c.size : Int)) = left - c.size := wrap64_id (by omega) (by omega)
  have e2 : wrap64 (left - (c.size : Int) - (d.size : Int)) = left - c.size - d.size := wrap64_id (by omega) (by omega)
  rw [e1, e2]
  repeat' split
  all_goals exact ⟨_, rfl, by omega, by omega⟩
theorem szStepS_l0 (l : List S110) (hl : l.length ≤ 140737488351232) (hs : ∀ x ∈ l, x.f2.size ≤ 140737488351232 ∧ x.f3.size ≤ 140737488351232) (d : Nat) : ∀ (i : Nat) (left : Int), i + d = l.length → 0 ≤ left → left ≤ 1048576 →
    ∃ r, Ev (fun k => laws_szStepS.l0 k l left (i : Int)) r := by
  induction d with
  | zero =>
    intro i left hi h0 h1
    refine ⟨left, evSucc ?_⟩
    simp only [laws_szStepS.l0]
    exact evNeg (by omega) (evNow rfl)
  | succ d ih =>
    intro i left hi h0 h1
    have hlt : i < l.length := by omega
    obtain ⟨h2, h3⟩ := hs l[i] (List.getElem_mem hlt)
    obtain ⟨r, e, h4, h5⟩ := szStep_ex (l[i]).f0 (l[i]).f1 (l[i]).f2 (l[i]).f3 h2 h3 left h0 h1
    by_cases hr : r < 0
    · refine ⟨-1, evSucc ?_⟩
      simp only [laws_szStepS.l0, rdLStep hlt]
      exact evPos (by omega) (evPos (by omega) (evC e (evPos hr (evNow rfl))))
    · obtain ⟨q, hq⟩ := ih (i + 1) r (by omega) (by omega) (by omega)
      refine ⟨q, evSucc ?_⟩
      simp only [laws_szStepS.l0, rdLStep hlt, wrap64_nat i (by omega)]
      exact evPos (by omega) (evPos (by omega) (evC e (evNeg hr hq)))
theorem szStepS_ex (l : List S110) (hl : l.length ≤ 140737488351232) (hs : ∀ x ∈ l, x.f2.size ≤ 140737488351232 ∧ x.f3.size ≤ 140737488351232) : ∃ r, Ev (fun k => laws_szStepS.f k l 1048576) r := by
  simp only [laws_szStepS.f]
  have e1 : wrap64 (1048576 - (l.length : Int)) = 1048576 - l.length := wrap64_id (by omega) (by omega)
  simp only [e1]
  by_cases h : (1048576 : Int) - l.length < 0
  · exact ⟨-1, evPos h (evNow rfl)⟩
  · obtain ⟨r, hr⟩ := szStepS_l0 l hl hs l.length 0 (1048576 - l.length) (by omega) (by omega) (by omega)
    exact ⟨r, evNeg h hr⟩
theorem toStepS_l0 (l : List S110) (hl : l.length ≤ 140737488351232) (d : Nat) : ∀ i : Nat, i + d = l.length → Ev (fun k => laws_toStepS.l0 k l ((l.map cStep).take i ++ List.replicate ((l.map cStep).length - i) z111) (i : Int)) (l.map cStep) := by
  induction d with
  | zero =>
    intro i hi
    refine evSucc ?_
    simp only [laws_toStepS.l0]
    refine evNeg (by omega) (evNow ?_)
    have e : (l.map cStep).length - i = 0 := by simp; omega
    rw [e, List.take_of_length_le (by simp; omega)]
    simp
  | succ d ih =>
    intro i hi
    have hlt : i < l.length := by omega
    refine evSucc ?_
    simp only [laws_toStepS.l0, laws_toStep.f, rdLStep hlt, Option.bind_some]
    refine evPos (by omega) (evPos (by omega) (evPos (by simp; omega) ?_))
    have e : (⟨(l[i]).f0, (l[i]).f1, (l[i]).f2, (l[i]).f3⟩ : S111) = (l.map cStep)[i]'(by simp; omega) := by simp [cStep]
    simp only [wrap64_nat i (by omega), Int.toNat_natCast, e, set_fill (l.map cStep) z111 i (by simp; omega)]
    exact ih (i + 1) (by omega)
theorem toStepS_ev (l : List S110) (hl : l.length ≤ 5864062014805) : Ev (fun k => laws_toStepS.f k l) (l.map cStep) := by
  simp only [laws_toStepS.f]
  refine evPos (by omega) (evPos (by omega) ?_)
  have := toStepS_l0 l (by omega) l.length 0 (by omega)
  simpa using this
theorem eqStepS_l0 (l : List S111) (hl : l.length ≤ 140737488351232) (d : Nat) : ∀ i : Nat, i + d = l.length → Ev (fun k => laws_eqStepS.l0 k l l (i : Int)) true := by
  induction d with
  | zero =>
    intro i hi
    refine evSucc ?_
    simp only [laws_eqStepS.l0]
    exact evNeg (by omega) (evNow rfl)
  | succ d ih =>
    intro i hi
    refine evSucc ?_
    simp only [laws_eqStepS.l0, laws_eqStep.f]
    refine evPos (by omega) (evPos (by omega) (evPos (by omega) ?_))
    simp only [if_true, Option.bind_some, wrap64_nat i (by omega)]
    exact ih (i + 1) (by omega)
theorem eqStepS_ev (l : List S111) (hl : l.length ≤ 140737488351232) : Ev (fun k => laws_eqStepS.f k l l) true := by
  simp only [laws_eqStepS.f]
  exact evPos (by first | rfl | trivial) (eqStepS_l0 l hl l.length 0 (by omega))

/-! ### goodExpr -/
def stepV (x : S111) : Bool :=
  if x.f0 = 1 then (if decide (0 ≤ x.f1 ∧ x.f1 ≤ 1000000000) = true then (if x.f2.toList = ([] : List UInt8) then (x.f3.toList == ([] : List UInt8)) else false) else false)
  else if x.f0 = 2 then (if x.f1 = 0 then (if nameOk x.f3 = true then (if x.f2.toList = ([] : List UInt8) then true else nameOk x.f2) else false) else false)
  else (if decide (3 ≤ x.f0 ∧ x.f0 ≤ 8) = true then (x.f1 == 0 && (x.f2.toList == ([] : List UInt8) && (x.f3.toList == ([] : List UInt8)))) else false)
theorem spec_l5Step_ev (x : S111) (h2 : x.f2.size ≤ 140737488355328) (h3 : x.f3.size ≤ 140737488355328) : Ev (fun k => spec_l5Step.f k x.f0 x.f1 x.f2 x.f3) (stepV x) := by
  simp only [spec_l5Step.f, spec_l1In_eq, Option.bind_some]
  exact evIf (fun _ => evIf (fun _ => evIf (fun _ => evNow rfl) (fun _ => evNow rfl)) (fun _ => evNow rfl)) (fun _ => evIf (fun _ => evIf (fun _ => evB (spec_l1Name_ev _ h3) (evIf (fun _ => evIf (fun _ => evNow rfl) (fun _ => evB (spec_l1Name_ev _ h2) (evNow rfl))) (fun _ => evNow rfl))) (fun _ => evNow rfl)) (fun _ => evIf (fun _ => evNow rfl) (fun _ => evNow rfl)))
theorem impl_isStep_ev (x : S111) (h2 : x.f2.size ≤ 140737488355328) (h3 : x.f3.size ≤ 140737488355328) : Ev (fun k => impl_Step_isStep.f k x.f0 x.f1 x.f2 x.f3) (stepV x) := by
  simp only [impl_Step_isStep.f, impl_in_eq, Option.bind_some]
  exact evIf (fun _ => evIf (fun _ => evIf (fun _ => evNow rfl) (fun _ => evNow rfl)) (fun _ => evNow rfl)) (fun _ => evIf (fun _ => evIf (fun _ => evB (impl_isName_ev _ h3) (evIf (fun _ => evIf (fun _ => evNow rfl) (fun _ => evB (impl_isName_ev _ h2) (evNow rfl))) (fun _ => evNow rfl))) (fun _ => evNow rfl)) (fun _ => evIf (fun _ => evNow rfl) (fun _ => evNow rfl)))
theorem stepV_kind {x : S111} (h : stepV x = true) : 1 ≤ x.f0 ∧ x.f0 ≤ 8 := by
  unfold stepV at h
  split at h
  · omega
  · split at h
    · omega
    · split at h
      · rename_i h3
        have := of_decide_eq_true h3
        omega
      · cases h
/-- Whether steps lead from m values to one, of n steps in all. -/
def goV (n : Int) : List S111 → Int → Bool
  | [], m => if m = 1 then decide (n ≤ 40) else false
  | x :: t, m => if stepV x = true then (if x.f0 ≤ 2 then goV n t (m + 1) else if x.f0 = 8 then (if m < 1 then false else goV n t m) else (if m < 2 then false else goV n t (m - 1))) else false
def exprOk (l : List S111) : Bool := goV (l.length : Int) l 0
def Small (l : List S111) : Prop := l.length ≤ 140737488351232 ∧ ∀ x ∈ l, x.f2.size ≤ 140737488351232 ∧ x.f3.size ≤ 140737488351232
theorem impl_isExpr_l0 (l : List S111) (hl : Small l) (d : Nat) : ∀ (i : Nat) (m : Int), i + d = l.length → 0 ≤ m → m ≤ i → Ev (fun k => impl_isExpr.l0 k l m l (l.length : Int) (i : Int)) (goV (l.length : Int) (l.drop i) m) := by
  have hlen := hl.1
  induction d with
  | zero =>
    intro i m hi h0 h1
    refine evSucc ?_
    simp only [impl_isExpr.l0]
    rw [List.drop_of_length_le (by omega)]
    exact evNeg (by omega) (evIf (fun _ => evNow rfl) (fun _ => evNow rfl))
  | succ d ih =>
    intro i m hi h0 h1
    have hlt : i < l.length := by omega
    obtain ⟨h2, h3⟩ := hl.2 l[i] (List.getElem_mem hlt)
    have e1 : wrap64 (m + 1) = m + 1 := wrap64_id (by omega) (by omega)
    have e2 : wrap64 (m - 1) = m - 1 := wrap64_id (by omega) (by omega)
    refine evSucc ?_
    simp only [impl_isExpr.l0, rdIStep hlt, e1, e2, wrap64_nat i (by omega)]
    rw [List.drop_eq_getElem_cons hlt]
    refine evPos (by omega) (evPos (by omega) (evPos (by omega) (evB (impl_isStep_ev l[i] (by omega) (by omega)) (evIf (fun hs => ?_) (fun _ => evNow rfl)))))
    have hk := stepV_kind hs
    exact evIf (fun _ => ih (i + 1) (m + 1) (by omega) (by omega) (by omega)) (fun _ => evIf (fun _ => evIf (fun _ => evNow rfl) (fun _ => ih (i + 1) m (by omega) (by omega) (by omega))) (fun _ => evIf (fun _ => evNow rfl) (fun _ => ih (i + 1) (m - 1) (by omega) (by omega) (by omega))))
theorem impl_isExpr_ev (l : List S111) (hl : Small l) : Ev (fun k => impl_isExpr.f k l) (exprOk l) := by
  simp only [impl_isExpr.f]
  exact impl_isExpr_l0 l hl l.length 0 0 (by omega) (by omega) (by omega)
theorem spec_l5Good_l0 (l : List S111) (hl : Small l) (d : Nat) : ∀ (i : Nat) (m : Int), i + d = l.length → 0 ≤ m → m ≤ i → Ev (fun k => spec_l5Good.l0 k l m l (l.length : Int) (i : Int)) (goV (l.length : Int) (l.drop i) m) := by
  have hlen := hl.1
  induction d with
  | zero =>
    intro i m hi h0 h1
    refine evSucc ?_
    simp only [spec_l5Good.l0]
    rw [List.drop_of_length_le (by omega)]
    exact evNeg (by omega) (evIf (fun _ => evNow rfl) (fun _ => evNow rfl))
  | succ d ih =>
    intro i m hi h0 h1
    have hlt : i < l.length := by omega
    obtain ⟨h2, h3⟩ := hl.2 l[i] (List.getElem_mem hlt)
    have e1 : wrap64 (m + 1) = m + 1 := wrap64_id (by omega) (by omega)
    have e2 : wrap64 (m - 1) = m - 1 := wrap64_id (by omega) (by omega)
    refine evSucc ?_
    simp only [spec_l5Good.l0, rdIStep hlt, spec_l5Two.f, spec_l1In_eq, Option.bind_some]
    rw [List.drop_eq_getElem_cons hlt]
    have no : ∀ b, b = true → Ev (fun k => spec_l5Good.j1 k l m l (l.length : Int) (i : Int) b (l[i]).f0 (l[i]).f1 (l[i]).f2 (l[i]).f3) false := fun b hb => by
      refine evSucc ?_
      simp only [spec_l5Good.j1]
      exact evPos hb (evNow rfl)
    refine evPos (by omega) (evPos (by omega) (evPos (by omega) (evB (spec_l5Step_ev l[i] (by omega) (by omega)) ?_)))
    by_cases hs : stepV l[i] = true
    · have hk := stepV_kind hs
      have eg : goV (l.length : Int) (l[i] :: l.drop (i + 1)) m = (if (l[i]).f0 ≤ 2 then goV (l.length : Int) (l.drop (i + 1)) (m + 1) else if (l[i]).f0 = 8 then (if m < 1 then false else goV (l.length : Int) (l.drop (i + 1)) m) else (if m < 2 then false else goV (l.length : Int) (l.drop (i + 1)) (m - 1))) := by
        simp only [goV, hs, if_true]
      rw [eg]
      refine evPos hs ?_
      by_cases ht : 3 ≤ (l[i]).f0 ∧ (l[i]).f0 ≤ 7
      · rw [if_neg (by omega), if_neg (by omega)]
        refine evPos (decide_eq_true ht) ?_
        by_cases hm : m < 2
        · rw [if_pos hm]
          exact evPos hm (no true rfl)
        · rw [if_neg hm]
          refine evNeg hm (evNeg (by omega) (evSucc ?_))
          simp only [spec_l5Good.j1, spec_l5Two.f, spec_l1In_eq, Option.bind_some, e2, wrap64_nat i (show i < 4611686018427387904 by omega)]
          exact evNeg (by simp) (evPos (decide_eq_true ht) (ih (i + 1) (m - 1) (by omega) (by omega) (by omega)))
      · refine evNeg (by simpa using ht) ?_
        by_cases h8 : (l[i]).f0 = 8
        · rw [if_neg (by omega), if_pos h8]
          refine evPos h8 ?_
          by_cases hm : m < 1
          · rw [if_pos hm]
            exact no _ (decide_eq_true hm)
          · rw [if_neg hm]
            refine evSucc ?_
            simp only [spec_l5Good.j1, spec_l5Two.f, spec_l1In_eq, Option.bind_some, wrap64_nat i (show i < 4611686018427387904 by omega)]
            exact evNeg (by simpa using hm) (evNeg (by simpa using ht) (evPos h8 (ih (i + 1) m (by omega) (by omega) (by omega))))
        · rw [if_pos (by omega)]
          refine evNeg h8 (evSucc ?_)
          simp only [spec_l5Good.j1, spec_l5Two.f, spec_l1In_eq, Option.bind_some, e1, wrap64_nat i (show i < 4611686018427387904 by omega)]
          exact evNeg (by simp) (evNeg (by simpa using ht) (evNeg h8 (ih (i + 1) (m + 1) (by omega) (by omega) (by omega))))
    · have eg : goV (l.length : Int) (l[i] :: l.drop (i + 1)) m = false := by
        simp [goV, hs]
      rw [eg]
      exact evNeg hs (no true rfl)
theorem spec_l5Good_ev (l : List S111) (hl : Small l) : Ev (fun k => spec_l5Good.f k l) (exprOk l) := by
  simp only [spec_l5Good.f]
  exact spec_l5Good_l0 l hl l.length 0 0 (by omega) (by omega) (by omega)

theorem FnExactGoodExpr : Pure := by
  intro l h
  refine Ev.rounds (r := true) ?_
  have hlen : l.length ≤ 5864062014805 := by
    have := h.1
    omega
  have hs : ∀ x ∈ l, x.f2.size ≤ 140737488351232 ∧ x.f3.size ≤ 140737488351232 := fun x hx => ⟨(h.2 x hx).2.2.1, (h.2 x hx).2.2.2⟩
  have hsm : Small (l.map cStep) := ⟨by simp; omega, fun y hy => by
    obtain ⟨x, hx, rfl⟩ := List.mem_map.1 hy
    exact hs x hx⟩
  obtain ⟨r, hr⟩ := szStepS_ex l (by omega) hs
  simp only [laws_FnExactGoodExpr.f, spec_GoodExpr.f, impl_GoodExpr.f]
  refine evB hr ?_
  by_cases h0 : r < 0
  · exact evPos h0 (evNow rfl)
  · exact evNeg h0 (evB (toStepS_ev l hlen) (evB (evB (spec_l5Good_ev _ hsm) (evNow rfl)) (evB (toStepS_ev l hlen) (evB (evB (impl_isExpr_ev _ hsm) (evNow rfl)) (evNeg (by simp) (evB (toStepS_ev l hlen) (evB (eqStepS_ev _ hsm.1) (evPos (by first | rfl | trivial) (evNow rfl)))))))))

end Go.Proofs.Ytdphgdlkchajoaa.Pure
