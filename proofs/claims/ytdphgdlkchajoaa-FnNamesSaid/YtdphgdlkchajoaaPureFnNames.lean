/- The plain statement of the law FnNames: at all arguments within the row's bounds the printed function answers true. No further condition. -/
import Derived.Test.YtdphgdlkchajoaaPFnNamesx5
import Derived.Test.YtdphgdlkchajoaaBase
set_option linter.unusedVariables false
set_option linter.unusedSimpArgs false
namespace Go.Proofs.Ytdphgdlkchajoaa.Pure
open Go.RowKit Go.Proofs.Ytdphgdlkchajoaa.PFnNames Go.Proofs.YtdphgdlkchajoaaW.PrintWords Go.Proofs.YtdphgdlkchajoaaW.PrintLast

/-! ### cur -/
theorem wrap_u64 (n : Int) : IntKind.u64.wrap n = n % 18446744073709551616 := by simp [IntKind.wrap, IntKind.bits, IntKind.signed]
theorem bits_and_le (x : Int) (m : Nat) (hm : m < 18446744073709551616) : 0 ≤ Go.bits .and .u64 x (m : Int) ∧ Go.bits .and .u64 x (m : Int) ≤ m := by
  unfold Go.bits
  simp only [wrap_u64]
  have h1 : (BitVec.ofInt IntKind.u64.bits x &&& BitVec.ofInt IntKind.u64.bits (m : Int)).toNat ≤ m := by
    rw [BitVec.toNat_and]
    refine Nat.le_trans Nat.and_le_right ?_
    rw [BitVec.ofInt_natCast, BitVec.toNat_ofNat]
    exact Nat.mod_le _ _
  generalize (BitVec.ofInt IntKind.u64.bits x &&& BitVec.ofInt IntKind.u64.bits (m : Int)).toNat = q at h1 ⊢
  omega
/-- The bytes that choices are read from. -/
def Bytes8 (l : List Int) : Prop := ∀ x ∈ l, 0 ≤ x ∧ x ≤ 255
theorem bytes8_of {l : List Int} (h : ∀ x ∈ l, (Lit.int .u8 x).wf = true) : Bytes8 l := fun x hx => by
  have := h x hx
  simp [Lit.wf, IntKind.min, IntKind.max, IntKind.bits, IntKind.signed] at this
  omega
theorem rd_bytes8 {l : List Int} (h : Bytes8 l) (i : Int) : 0 ≤ rd l i ∧ rd l i ≤ 255 := by
  unfold rd
  rw [List.getD_eq_getElem?_getD]
  cases e : l[i.toNat]? with
  | none => simp
  | some v => exact h v (List.mem_of_getElem? e)
theorem next_ex {l : List Int} (hl : Bytes8 l) (at_ seed : Int) (h0 : 0 ≤ at_) (h1 : at_ ≤ 1000000000000) : ∃ n sd, spec_l1Cur_next.f l at_ seed = some (n, at_ + 1, sd) ∧ 0 ≤ n ∧ n ≤ 255 := by
  have e1 : wrap64 (at_ + 1) = at_ + 1 := wrap64_id (by omega) (by omega)
  unfold spec_l1Cur_next.f
  rw [e1]
  have hb : ∀ x : Int, 0 ≤ wrap64 (Go.bits .and .u64 x 255) ∧ wrap64 (Go.bits .and .u64 x 255) ≤ 255 := fun x => by
    have : 0 ≤ Go.bits .and .u64 x 255 ∧ Go.bits .and .u64 x 255 ≤ 255 := bits_and_le x 255 (by decide)
    rw [wrap64_id (by have := this.1; omega) (by have := this.2; omega)]
    exact this
  have hr := rd_bytes8 hl at_
  have hw : wrap64 (rd l at_) = rd l at_ := wrap64_id (by omega) (by omega)
  by_cases c1 : at_ < (l.length : Int)
  · rw [if_pos c1, if_pos h0]
    by_cases c2 : at_ + 1 ≤ (l.length : Int)
    · rw [if_pos c2, hw]
      exact ⟨_, _, rfl, hr.1, hr.2⟩
    · rw [if_neg c2]
      exact ⟨_, _, rfl, (hb _).1, (hb _).2⟩
  · rw [if_neg c1]
    by_cases c2 : at_ + 1 ≤ (l.length : Int)
    · rw [if_pos c2]
      exact ⟨_, _, rfl, by omega, by omega⟩
    · rw [if_neg c2]
      exact ⟨_, _, rfl, (hb _).1, (hb _).2⟩
theorem pick_ex {l : List Int} (hl : Bytes8 l) (at_ seed n : Int) (h0 : 0 ≤ at_) (h1 : at_ ≤ 999999999999) (hn : n ≤ 9000000000000000000) : ∃ x a2 sd, spec_l1Cur_pick.f l at_ seed n = some (x, a2, sd) ∧ 0 ≤ x ∧ (x < n ∨ (n ≤ 1 ∧ x = 0)) ∧ at_ ≤ a2 ∧ a2 ≤ at_ + 2 := by
  unfold spec_l1Cur_pick.f
  by_cases c1 : n ≤ 1
  · rw [if_pos c1]
    exact ⟨_, _, _, rfl, by omega, .inr ⟨c1, rfl⟩, by omega, by omega⟩
  · rw [if_neg c1]
    obtain ⟨n1, sd1, e1, p1, p2⟩ := next_ex hl at_ seed h0 (by omega)
    rw [e1]
    simp only [Option.bind_some]
    by_cases c2 : n > 200
    · rw [if_pos c2]
      obtain ⟨n2, sd2, e2, p3, p4⟩ := next_ex hl (at_ + 1) sd1 (by omega) (by omega)
      rw [e2]
      simp only [Option.bind_some]
      rw [if_neg (by omega), wrap64_id (x := n1 * 256) (by omega) (by omega), wrap64_id (by omega) (by omega), tmod_nn (by omega)]
      exact ⟨_, _, _, rfl, Int.emod_nonneg _ (by omega), .inl (Int.emod_lt_of_pos _ (by omega)), by omega, by omega⟩
    · rw [if_neg c2, if_neg (by omega), tmod_nn p1]
      exact ⟨_, _, _, rfl, Int.emod_nonneg _ (by omega), .inl (Int.emod_lt_of_pos _ (by omega)), by omega, by omega⟩
theorem pick1_ex {l : List Int} (hl : Bytes8 l) (at_ seed n : Int) (h0 : 0 ≤ at_) (h1 : at_ ≤ 999999999999) (hn1 : 1 ≤ n) (hn : n ≤ 9000000000000000000) : ∃ x a2 sd, spec_l1Cur_pick.f l at_ seed n = some (x, a2, sd) ∧ 0 ≤ x ∧ x < n ∧ at_ ≤ a2 ∧ a2 ≤ at_ + 2 := by
  obtain ⟨x, a2, sd, e, p1, p2, p3, p4⟩ := pick_ex hl at_ seed n h0 h1 hn
  exact ⟨x, a2, sd, e, p1, by omega, p3, p4⟩
theorem of_ex {l : List Int} (hl : Bytes8 l) (at_ seed : Int) (h0 : 0 ≤ at_) (h1 : at_ ≤ 999999999999) (ys : List ByteArray) (hy : 0 < ys.length) (hy2 : ys.length ≤ 1000000) : ∃ x a2 sd, spec_l1Cur_of.f l at_ seed ys = some (x, a2, sd) ∧ x ∈ ys ∧ at_ ≤ a2 ∧ a2 ≤ at_ + 2 := by
  unfold spec_l1Cur_of.f
  obtain ⟨x, a2, sd, e, p1, p2, p3, p4⟩ := pick_ex hl at_ seed (ys.length : Int) h0 h1 (by omega)
  rw [e]
  simp only [Option.bind_some]
  rw [if_pos p1, if_pos (by omega)]
  obtain ⟨i, rfl⟩ := Int.eq_ofNat_of_zero_le p1
  refine ⟨_, _, _, rfl, ?_, p3, p4⟩
  have hi : i < ys.length := by omega
  rw [rdOf_nat hi]
  exact List.getElem_mem hi
theorem one_ex {l : List Int} (hl : Bytes8 l) (at_ seed n : Int) (h0 : 0 ≤ at_) (h1 : at_ ≤ 999999999999) (hn : n ≤ 9000000000000000000) : ∃ b a2 sd, spec_l1Cur_one.f l at_ seed n = some (b, a2, sd) ∧ at_ ≤ a2 ∧ a2 ≤ at_ + 2 := by
  unfold spec_l1Cur_one.f
  obtain ⟨x, a2, sd, e, p1, p2, p3, p4⟩ := pick_ex hl at_ seed n h0 h1 hn
  rw [e]
  exact ⟨_, _, _, rfl, p3, p4⟩
def wholes : List Int := [0, 1, -1, 63, -64, 64, 127, 128, -300, 8191, 8192, 1000000, 1000000000, -1000000000]
theorem wholes_range {x : Int} (h : x ∈ wholes) : -1000000000 ≤ x ∧ x ≤ 1000000000 := by
  have : ∀ x ∈ wholes, -1000000000 ≤ x ∧ x ≤ 1000000000 := by decide
  exact this x h
theorem laws_big_ex {l0 l1 : List Int} (h0 : l0.length ≤ 140737488351232) (h1 : l1.length ≤ 140737488351232) : ∃ b, laws_big.f l0 l1 = some b := by
  unfold laws_big.f
  split <;> exact ⟨_, rfl⟩

/-! ### spoilt -/
theorem chain4 {a a1 a2 a3 a4 : Int} {d : Nat} (p3 : a ≤ a1) (p4 : a1 ≤ a + 2) (q3 : a1 ≤ a2) (q4 : a2 ≤ a1 + 2) (r3 : a2 ≤ a3) (r4 : a3 ≤ a2 + 2) (k2 : a3 ≤ a4) (k3 : a4 ≤ a3 + 6 * d) : a ≤ a4 ∧ a4 ≤ a + 6 * ((d + 1 : Nat) : Int) := by omega
theorem spoilt_l0 {l : List Int} (hl : Bytes8 l) (w : ByteArray) (hw : 0 < w.size) (hw2 : w.size ≤ 1000) (d : Nat) : ∀ (t : ByteArray) (n a s : Int), n ≤ d → t.size + d ≤ 2000000000 → 0 ≤ a → a ≤ 999999999 - 6 * d →
    ∃ r a2 s2, Ev (fun k => spec_l1Cur_spoilt.l0 k t w n l a s) (r, a2, s2) ∧ r.size ≤ t.size + d ∧ a ≤ a2 ∧ a2 ≤ a + 6 * d := by
  induction d with
  | zero =>
    intro t n a s h1 h2 h3 h4
    refine ⟨t, a, s, ?_, by omega, by omega, by omega⟩
    refine evSucc ?_
    simp only [spec_l1Cur_spoilt.l0]
    refine evNeg (by omega) (evSucc ?_)
    simp only [spec_l1Cur_spoilt.j1]
    exact evNeg (by simp) (evNow rfl)
  | succ d ih =>
    intro t n a s h1 h2 h3 h4
    by_cases hn : n > 0
    · have hww : wrap64 (n - 1) = n - 1 := wrap64_id (by omega) (by omega)
      have hts : t.size ≤ 2000000000 := by omega
      have ha : a ≤ 99999999999 := by omega
      by_cases ht : 0 < t.size
      · obtain ⟨i0, a1, s1, e1, p1, p2, p3, p4⟩ := pick1_ex hl a s (t.size : Int) h3 (Int.le_trans ha (by decide)) (by clear h1 h2 h4 hn hww; omega) (by clear h1 h2 h4 hn hww; omega)
        obtain ⟨j0, a2, s2, e2, q1, q2, q3, q4⟩ := pick1_ex hl a1 s1 (w.size : Int) (Int.le_trans h3 p3) (by clear h1 h2 h4 hn hww; omega) (by clear h1 h2 h4 hn hww; omega) (by clear h1 h2 h4 hn hww; omega)
        obtain ⟨c0, a3, s3, e3, r1, r2, r3, r4⟩ := pick1_ex hl a2 s2 3 (Int.le_trans h3 (Int.le_trans p3 q3)) (by clear h1 h2 h4 hn hww; omega) (by decide) (by decide)
        obtain ⟨i, rfl⟩ := Int.eq_ofNat_of_zero_le p1
        have hi : i < t.size := by omega
        have hi1 : wrap64 ((i : Int) + 1) = ((i + 1 : Nat) : Int) := wrap64_nat i (by omega)
        have IH : ∀ T : ByteArray, T.size ≤ t.size + 1 → ∃ r a4 s4, Ev (fun k => spec_l1Cur_spoilt.l0 k T w (n - 1) l a3 s3) (r, a4, s4) ∧ r.size ≤ t.size + (d + 1) ∧ a ≤ a4 ∧ a4 ≤ a + 6 * ((d + 1 : Nat) : Int) := fun T hT => by
          obtain ⟨r, a4, s4, h, k1, k2, k3⟩ := ih T (n - 1) a3 s3 (by clear h2 h4 hww p2 q2 r2; omega) (by clear h1 h4 hww hn; omega) (by clear h1 h2 h4 hww hn; omega) (by clear h1 h2 hww hn; omega)
          have k := chain4 p3 p4 q3 q4 r3 r4 k2 k3
          exact ⟨r, a4, s4, h, by clear h1 h2 h4 hww hn ha hts p2 p3 p4 q2 q3 q4 r2 r3 r4 k2 k3 k; omega, k.1, k.2⟩
        have hq : j0 < (w.size : Int) := q2
        clear h1 h2 h4 r1 r2 q2 ha p3 p4 q3 q4 r3 r4
        by_cases c1 : c0 = 0
        · obtain ⟨r, a4, s4, h, k1, k2, k3⟩ := IH (((t.extract 0 i) ++ (strOfNums [bt w j0])) ++ (t.extract i t.size)) (by simp only [ByteArray.size_append, ByteArray.size_extract, strOfNums_size, List.length_cons, List.length_nil]; omega)
          refine ⟨r, a4, s4, ?_, k1, k2, k3⟩
          · refine evSucc ?_
            simp only [spec_l1Cur_spoilt.l0]
            refine evPos hn (evSucc ?_)
            simp only [spec_l1Cur_spoilt.j1]
            refine evPos (decide_eq_true (by omega)) (evC e1 (evC e2 (evPos q1 (evPos hq (evC (a := [bt w j0]) rfl (evC e3 (evPos c1 (evPos p1 (evPos (by omega) (evPos ?_ (evPos ?_ ?_)))))))))))
            · simp only [ByteArray.size_extract, strOfNums_size, List.length_cons, List.length_nil]; omega
            · simp only [ByteArray.size_append, ByteArray.size_extract, strOfNums_size, List.length_cons, List.length_nil]; omega
            · simp only [hww, Int.toNat_natCast]
              exact h
        · by_cases c2 : c0 = 1
          · obtain ⟨r, a4, s4, h, k1, k2, k3⟩ := IH (((t.extract 0 i) ++ (strOfNums [bt w j0])) ++ (t.extract (i + 1) t.size)) (by simp only [ByteArray.size_append, ByteArray.size_extract, strOfNums_size, List.length_cons, List.length_nil]; omega)
            refine ⟨r, a4, s4, ?_, k1, k2, k3⟩
            · refine evSucc ?_
              simp only [spec_l1Cur_spoilt.l0]
              refine evPos hn (evSucc ?_)
              simp only [spec_l1Cur_spoilt.j1, hi1, Int.toNat_natCast]
              refine evPos (decide_eq_true (by omega)) (evC e1 ?_)
              simp only [hi1, Int.toNat_natCast]
              refine evC e2 (evPos q1 (evPos hq (evC (a := [bt w j0]) rfl (evC e3 (evNeg c1 (evPos c2 (evPos p1 (evPos (by omega) (evPos ?_ (evPos (by omega) (evPos (by omega) (evPos ?_ ?_))))))))))))
              · simp only [ByteArray.size_extract, strOfNums_size, List.length_cons, List.length_nil]; omega
              · simp only [ByteArray.size_append, ByteArray.size_extract, strOfNums_size, List.length_cons, List.length_nil]; omega
              · simp only [hww]
                exact h
          · obtain ⟨r, a4, s4, h, k1, k2, k3⟩ := IH ((t.extract 0 i) ++ (t.extract (i + 1) t.size)) (by simp only [ByteArray.size_append, ByteArray.size_extract]; omega)
            refine ⟨r, a4, s4, ?_, k1, k2, k3⟩
            · refine evSucc ?_
              simp only [spec_l1Cur_spoilt.l0]
              refine evPos hn (evSucc ?_)
              simp only [spec_l1Cur_spoilt.j1, hi1, Int.toNat_natCast]
              refine evPos (decide_eq_true (by omega)) (evC e1 ?_)
              simp only [hi1, Int.toNat_natCast]
              refine evC e2 (evPos q1 (evPos hq (evC (a := [bt w j0]) rfl (evC e3 (evNeg c1 (evNeg c2 (evPos p1 (evPos (by omega) (evPos (by omega) (evPos (by omega) (evPos ?_ ?_)))))))))))
              · simp only [ByteArray.size_extract]; omega
              · simp only [hww]
                exact h
      · refine ⟨t, a, s, ?_, by omega, by omega, by omega⟩
        refine evSucc ?_
        simp only [spec_l1Cur_spoilt.l0]
        refine evPos hn (evSucc ?_)
        simp only [spec_l1Cur_spoilt.j1]
        exact evNeg (by rw [decide_eq_true_eq]; omega) (evNow rfl)
    · obtain ⟨r, a2, s2, h, k1, k2, k3⟩ := ih t n a s (by omega) (by omega) h3 (by omega)
      exact ⟨r, a2, s2, h, by omega, by omega, by omega⟩
theorem spoilt_ex {l : List Int} (hl : Bytes8 l) (t w : ByteArray) (hw : 0 < w.size) (hw2 : w.size ≤ 1000) (ht : t.size ≤ 1000000000) (a s : Int) (h0 : 0 ≤ a) (h1 : a ≤ 99999999) :
    ∃ r a2 s2, Ev (fun k => spec_l1Cur_spoilt.f k l a s t w) (r, a2, s2) ∧ r.size ≤ t.size + 2 ∧ a ≤ a2 ∧ a2 ≤ a + 14 := by
  obtain ⟨x, a1, s1, e1, p1, p2, p3, p4⟩ := pick1_ex hl a s 2 h0 (by omega) (by omega) (by omega)
  have hx : wrap64 (1 + x) = 1 + x := wrap64_id (by omega) (by omega)
  obtain ⟨r, a2, s2, h, k1, k2, k3⟩ := spoilt_l0 hl w hw hw2 2 t (1 + x) a1 s1 (by omega) (by omega) (by omega) (by omega)
  refine ⟨r, a2, s2, ?_, k1, by omega, by omega⟩
  simp only [spec_l1Cur_spoilt.f]
  refine evC e1 ?_
  simp only [hx]
  exact h

/-! ### inF -/
theorem spec_l1In_eq (a b c : Int) : spec_l1In.f a b c = some (decide (b ≤ a ∧ a ≤ c)) := by
  unfold spec_l1In.f
  by_cases h : a ≥ b
  · rw [if_pos h]; simp [h]
  · rw [if_neg h]; simp [h]
theorem impl_in_eq (a b c : Int) : impl_in.f a b c = some (decide (b ≤ a ∧ a ≤ c)) := by
  unfold impl_in.f
  by_cases h : a ≥ b
  · rw [if_pos h]; simp [h]
  · rw [if_neg h]; simp [h]

/-! ### nameDef -/
def letB (c : Int) : Prop := (65 ≤ c ∧ c ≤ 90) ∨ (97 ≤ c ∧ c ≤ 122)
def digB (c : Int) : Prop := 48 ≤ c ∧ c ≤ 57
instance (c : Int) : Decidable (letB c) := by unfold letB; infer_instance
instance (c : Int) : Decidable (digB c) := by unfold digB; infer_instance
/-- The byte at j may stand in a name. -/
def nmAt (s : ByteArray) (j : Nat) : Prop := letB (bt s (j : Int)) ∨ (j ≠ 0 ∧ digB (bt s (j : Int)))
instance (s : ByteArray) (j : Nat) : Decidable (nmAt s j) := by unfold nmAt; infer_instance
def nameOk (s : ByteArray) : Bool := decide (1 ≤ s.size ∧ s.size ≤ 10 ∧ ∀ j, j < s.size → nmAt s j)
theorem nameOk_not {s : ByteArray} {j : Nat} (h : j < s.size) (hn : ¬ nmAt s j) : nameOk s = false := by
  unfold nameOk
  exact decide_eq_false fun H => hn (H.2.2 j h)
theorem nameOk_all {s : ByteArray} (h : ∀ j, j < s.size → nmAt s j) : nameOk s = decide ((1 : Int) ≤ (s.size : Int) ∧ (s.size : Int) ≤ 10) := by
  unfold nameOk
  by_cases hs : 1 ≤ s.size ∧ s.size ≤ 10
  · rw [decide_eq_true (by exact ⟨hs.1, hs.2, h⟩), decide_eq_true (by omega)]
  · rw [decide_eq_false (fun H => hs ⟨H.1, H.2.1⟩), decide_eq_false (by omega)]

/-! ### isName -/
theorem impl_isLetter_eq (c : Int) : impl_isLetter.f c = some (decide (letB c)) := by
  unfold impl_isLetter.f letB
  repeat' split
  all_goals simp only [Option.some.injEq]
  all_goals first | (symm; apply decide_eq_true; omega) | (symm; apply decide_eq_false; omega) | (apply decide_eq_decide.2; omega)
theorem impl_isDigit_eq (c : Int) : impl_isDigit.f c = some (decide (digB c)) := by
  unfold impl_isDigit.f digB
  repeat' split
  all_goals simp only [Option.some.injEq]
  all_goals first | (symm; apply decide_eq_true; omega) | (symm; apply decide_eq_false; omega) | (apply decide_eq_decide.2; omega)
theorem impl_isName_l0 (s : ByteArray) (hs : s.size ≤ 140737488355328) (d : Nat) : ∀ i : Nat, i + d = s.size → (∀ j, j < i → nmAt s j) → Ev (fun k => impl_isName.l0 k s (s.size : Int) (i : Int)) (nameOk s) := by
  induction d with
  | zero =>
    intro i hi hall
    refine evSucc ?_
    simp only [impl_isName.l0]
    refine evNeg (by omega) ?_
    simp only [impl_in_eq, Option.bind_some]
    exact evNow (nameOk_all (fun j hj => hall j (by omega))).symm
  | succ d ih =>
    intro i hi hall
    refine evSucc ?_
    simp only [impl_isName.l0]
    refine evPos (by omega) (evPos (by omega) (evPos (by omega) ?_))
    simp only [impl_isLetter_eq, impl_isDigit_eq, Option.bind_some, wrap64_nat i (by omega)]
    by_cases h1 : letB (bt s (i : Int))
    · refine evPos (decide_eq_true h1) (ih (i + 1) (by omega) fun j hj => ?_)
      by_cases e : j = i
      · subst e; exact .inl h1
      · exact hall j (by omega)
    · refine evNeg (by simpa using h1) ?_
      by_cases h0 : i = 0
      · refine evPos (by omega) (evNow (nameOk_not (j := i) (by omega) ?_).symm)
        rintro (H | H)
        · exact h1 H
        · exact H.1 h0
      · refine evNeg (by omega) ?_
        by_cases h2 : digB (bt s (i : Int))
        · refine evPos (decide_eq_true h2) (ih (i + 1) (by omega) fun j hj => ?_)
          by_cases e : j = i
          · subst e; exact .inr ⟨h0, h2⟩
          · exact hall j (by omega)
        · refine evNeg (by simpa using h2) (evNow (nameOk_not (j := i) (by omega) ?_).symm)
          rintro (H | H)
          · exact h1 H
          · exact h2 H.2
theorem impl_isName_ev (s : ByteArray) (hs : s.size ≤ 140737488355328) : Ev (fun k => impl_isName.f k s) (nameOk s) := by
  simp only [impl_isName.f]
  exact impl_isName_l0 s hs s.size 0 (by omega) (fun j hj => absurd hj (Nat.not_lt_zero _))
theorem spec_l1Name_l0 (s : ByteArray) (hs : s.size ≤ 140737488355328) (d : Nat) : ∀ i : Nat, i + d = s.size → (∀ j, j < i → nmAt s j) → Ev (fun k => spec_l1Name.l0 k s (i : Int)) (nameOk s) := by
  induction d with
  | zero =>
    intro i hi hall
    refine evSucc ?_
    simp only [spec_l1Name.l0]
    refine evNeg (by omega) ?_
    simp only [spec_l1In_eq, Option.bind_some]
    exact evNow (nameOk_all (fun j hj => hall j (by omega))).symm
  | succ d ih =>
    intro i hi hall
    refine evSucc ?_
    simp only [spec_l1Name.l0]
    refine evPos (by omega) (evPos (by omega) ?_)
    simp only [wrap64_nat i (by omega)]
    have yes : nmAt s i → Ev (fun k => spec_l1Name.l0 k s ((i + 1 : Nat) : Int)) (nameOk s) := fun h => ih (i + 1) (by omega) fun j hj => by
      by_cases e : j = i
      · subst e; exact h
      · exact hall j (by omega)
    have no : ¬ nmAt s i → Ev (fun _ : Nat => some false) (nameOk s) := fun h => evNow (nameOk_not (j := i) (by omega) h).symm
    unfold nmAt letB digB at yes no
    generalize bt s (i : Int) = c at yes no ⊢
    have dec : ∀ (p : Prop) [Decidable p] (g f : Nat → Option Bool), (p → Ev g (nameOk s)) → (¬ p → Ev f (nameOk s)) → Ev (fun n => if p then g n else f n) (nameOk s) := fun p _ g f hg hf => by
      by_cases h : p
      · exact evPos h (hg h)
      · exact evNeg h (hf h)
    repeat' (first | exact yes (by omega) | exact no (by omega) | (refine dec _ _ _ (fun _ => ?_) (fun _ => ?_)))
theorem spec_l1Name_ev (s : ByteArray) (hs : s.size ≤ 140737488355328) : Ev (fun k => spec_l1Name.f k s) (nameOk s) := by
  simp only [spec_l1Name.f]
  exact spec_l1Name_l0 s hs s.size 0 (by omega) (fun j hj => absurd hj (Nat.not_lt_zero _))

/-! ### nameBytes -/
/-- The bytes of a name: its length, and it. -/
def nameB (s : ByteArray) : ByteArray := strOfNums [(s.size : Int) % 256] ++ s
theorem nameB_fits (s : ByteArray) (hs : s.size ≤ 140737488355328) : (strOfNums [(s.size : Int) % 256]).size + s.size ≤ 9223372036854775807 := by
  rw [strOfNums_size]
  simp
  omega
theorem spec_l1NameBytes_eq (s : ByteArray) (hs : s.size ≤ 140737488355328) : spec_l1NameBytes.f s = some (nameB s) := by
  simp only [spec_l1NameBytes.f, Option.bind_some]
  exact if_pos (nameB_fits s hs)
theorem impl_nameBytes_eq (s : ByteArray) (hs : s.size ≤ 140737488355328) : impl_nameBytes.f s = some (nameB s) := by
  simp only [impl_nameBytes.f, Option.bind_some]
  exact if_pos (nameB_fits s hs)
def nameBytesV (s : ByteArray) : ByteArray × Bool := if nameOk s = true then (nameB s, true) else (⟨#[]⟩, false)
theorem spec_NameBytes_ev (s : ByteArray) (hs : s.size ≤ 140737488355328) : Ev (fun k => spec_NameBytes.f k s) (nameBytesV s) := by
  simp only [spec_NameBytes.f]
  refine evB (spec_l1Name_ev s hs) ?_
  by_cases h : nameOk s = true
  · exact evTwo (evPos h (evC (spec_l1NameBytes_eq s hs) (evNow rfl))) (if_pos h).symm
  · exact evTwo (evNeg h (evNow rfl)) (if_neg h).symm
theorem impl_NameBytes_ev (s : ByteArray) (hs : s.size ≤ 140737488355328) : Ev (fun k => impl_NameBytes.f k s) (nameBytesV s) := by
  simp only [impl_NameBytes.f]
  refine evB (impl_isName_ev s hs) ?_
  by_cases h : nameOk s = true
  · exact evTwo (evPos h (evC (impl_nameBytes_eq s hs) (evNow rfl))) (if_pos h).symm
  · exact evTwo (evNeg h (evNow rfl)) (if_neg h).symm

/-! ### readName -/
/-- The byte at a, as a number from 0 on. -/
def byN (s : ByteArray) (a : Nat) : Nat := (bt s (a : Int)).toNat
theorem byN_eq (s : ByteArray) (a : Nat) : bt s (a : Int) = (byN s a : Int) := by
  have := bt_range s (a : Int)
  unfold byN
  omega
theorem byN_le (s : ByteArray) (a : Nat) : byN s a ≤ 255 := by
  have := bt_range s (a : Int)
  unfold byN
  omega
/-- A name's bytes stand at a. -/
def rdOk (s : ByteArray) (a : Nat) : Prop := a < s.size ∧ a + 1 + byN s a ≤ s.size ∧ nameOk (s.extract (a + 1) (a + 1 + byN s a)) = true
instance (s : ByteArray) (a : Nat) : Decidable (rdOk s a) := by unfold rdOk; infer_instance
def rdName (s : ByteArray) (a : Nat) : ByteArray := s.extract (a + 1) (a + 1 + byN s a)
def readNmV (s : ByteArray) (a : Nat) : ByteArray × Int × Bool := if rdOk s a then (rdName s a, ((a + 1 + byN s a : Nat) : Int), true) else (⟨#[]⟩, 0, false)
theorem extract_le (s : ByteArray) (i j : Nat) : (s.extract i j).size ≤ s.size := by
  rw [ByteArray.size_extract]
  omega
theorem impl_readName_ev (s : ByteArray) (hs : s.size ≤ 1000000) (a : Nat) (ha : a ≤ 1000000) : Ev (fun k => impl_readName.f k s (a : Int)) (readNmV s a) := by
  simp only [impl_readName.f]
  by_cases h1 : a < s.size
  · have hn := byN_eq s a
    have hn2 := byN_le s a
    have e1 : wrap64 ((a : Int) + 1) = ((a + 1 : Nat) : Int) := wrap64_nat a (by omega)
    have e0 : wrap64 (byN s a : Int) = byN s a := wrap64_id (by omega) (by omega)
    have e2 : wrap64 (((a + 1 : Nat) : Int) + (byN s a : Int)) = ((a + 1 + byN s a : Nat) : Int) := by rw [wrap64_id] <;> omega
    refine evNeg (by omega) (evPos (by omega) (evPos (by omega) ?_))
    simp only [hn, e1, e0, e2]
    by_cases h2 : a + 1 + byN s a ≤ s.size
    · refine evNeg (by omega) (evPos (by omega) (evPos (by omega) (evPos (by omega) ?_)))
      simp only [Int.toNat_natCast]
      refine evB (impl_isName_ev _ (Nat.le_trans (extract_le _ _ _) (by omega))) ?_
      by_cases h3 : nameOk (s.extract (a + 1) (a + 1 + byN s a)) = true
      · exact evPos h3 (evNow (if_pos (show rdOk s a from ⟨h1, h2, h3⟩)).symm)
      · exact evNeg h3 (evNow (if_neg (show ¬ rdOk s a from fun H => h3 H.2.2)).symm)
    · exact evPos (by omega) (evNow (if_neg (show ¬ rdOk s a from fun H => h2 H.2.1)).symm)
  · exact evPos (by omega) (evNow (if_neg (show ¬ rdOk s a from fun H => h1 H.1)).symm)
theorem spec_l1B_byte1_eq (s : ByteArray) (hs : s.size ≤ 1000000) (a : Nat) : spec_l1B_byte1.f s (a : Int) false = some (if a < s.size then ((byN s a : Int), s, ((a + 1 : Nat) : Int), false) else (0, s, (a : Int), true)) := by
  simp only [spec_l1B_byte1.f]
  by_cases h : a < s.size
  · have e1 : wrap64 ((a : Int) + 1) = ((a + 1 : Nat) : Int) := wrap64_nat a (by omega)
    have e2 : wrap64 (((a + 1 : Nat) : Int) - 1) = (a : Int) := by rw [wrap64_id] <;> omega
    have e0 : wrap64 (byN s a : Int) = byN s a := by
      have := byN_le s a
      exact wrap64_id (by omega) (by omega)
    rw [if_neg (by simp), if_neg (by omega), if_pos h]
    simp only [e1, e2, byN_eq, e0]
    rw [if_pos (by omega), if_pos (by omega)]
  · rw [if_neg (by simp), if_pos (by omega), if_neg h]
def nmV (s : ByteArray) (a : Nat) : ByteArray × ByteArray × Int × Bool := if rdOk s a then (rdName s a, s, ((a + 1 + byN s a : Nat) : Int), false) else (⟨#[]⟩, s, (if a < s.size then ((a + 1 : Nat) : Int) else (a : Int)), true)
theorem spec_l1B_name_ev (s : ByteArray) (hs : s.size ≤ 1000000) (a : Nat) (ha : a ≤ 1000000) : Ev (fun k => spec_l1B_name.f k s (a : Int) false) (nmV s a) := by
  simp only [spec_l1B_name.f]
  refine evC (spec_l1B_byte1_eq s hs a) ?_
  by_cases h1 : a < s.size
  · have hn2 := byN_le s a
    have e2 : wrap64 (((a + 1 : Nat) : Int) + (byN s a : Int)) = ((a + 1 + byN s a : Nat) : Int) := by rw [wrap64_id] <;> omega
    have e3 : wrap64 (((a + 1 + byN s a : Nat) : Int) - (byN s a : Int)) = ((a + 1 : Nat) : Int) := by rw [wrap64_id] <;> omega
    simp only [h1, if_true, e2, e3, Int.toNat_natCast]
    refine evNeg (by simp) ?_
    by_cases h2 : a + 1 + byN s a ≤ s.size
    · refine evNeg (by omega) (evPos (by omega) (evPos (by omega) (evPos (by omega) ?_)))
      refine evB (spec_l1Name_ev _ (Nat.le_trans (extract_le _ _ _) (by omega))) ?_
      by_cases h3 : nameOk (s.extract (a + 1) (a + 1 + byN s a)) = true
      · exact evPos h3 (evPos (by omega) (evPos (by omega) (evNow (if_pos (show rdOk s a from ⟨h1, h2, h3⟩)).symm)))
      · refine evNeg h3 (evNow ?_)
        rw [nmV, if_neg (show ¬ rdOk s a from fun H => h3 H.2.2), if_pos h1]
    · refine evPos (by omega) (evNow ?_)
      rw [nmV, if_neg (show ¬ rdOk s a from fun H => h2 H.2.1), if_pos h1]
  · simp only [h1, if_false]
    refine evPos (by simp) (evNow ?_)
    rw [nmV, if_neg (show ¬ rdOk s a from fun H => h1 H.1), if_neg h1]

/-! ### place -/
def placeOk (s : ByteArray) (a : Int) : Bool := decide (s.size ≤ 3000 ∧ 0 ≤ a ∧ a ≤ (s.size : Int))
theorem spec_l1Place_eq (s : ByteArray) (a : Int) : spec_l1Place.f s a = some (placeOk s a) := by
  unfold spec_l1Place.f placeOk
  simp only [spec_l1In_eq, Option.bind_some]
  by_cases h : s.size ≤ 3000
  · rw [if_pos (by omega)]; simp [h]
  · rw [if_neg (by omega)]; simp [h]
theorem impl_isAt_eq (s : ByteArray) (a : Int) : impl_isAt.f s a = some (placeOk s a) := by
  unfold impl_isAt.f placeOk
  simp only [impl_in_eq, Option.bind_some]
  by_cases h : s.size ≤ 3000
  · rw [if_pos (by omega)]; simp [h]
  · rw [if_neg (by omega)]; simp [h]

/-! ### ReadNameB -/
def readNameV (s : ByteArray) (a : Int) : ByteArray × Int × Bool := if placeOk s a = true then readNmV s a.toNat else (⟨#[]⟩, 0, false)
theorem spec_ReadName_ev (s : ByteArray) (a : Int) : Ev (fun k => spec_ReadName.f k s a) (readNameV s a) := by
  simp only [spec_ReadName.f, spec_l1Place_eq, Option.bind_some]
  by_cases h : placeOk s a = true
  · have h2 := of_decide_eq_true h
    obtain ⟨n, rfl⟩ := Int.eq_ofNat_of_zero_le h2.2.1
    refine evTwo (evPos h (evB (spec_l1B_name_ev s (by omega) n (by omega)) (r := readNmV s n) ?_)) (if_pos h).symm
    unfold nmV readNmV
    by_cases hr : rdOk s n
    · simp only [hr, if_true]
      exact evNeg (by simp) (evNow rfl)
    · simp only [hr, if_false]
      exact evPos (by first | rfl | trivial) (evNow rfl)
  · exact evTwo (evNeg h (evNow rfl)) (if_neg h).symm
theorem impl_ReadName_ev (s : ByteArray) (a : Int) : Ev (fun k => impl_ReadName.f k s a) (readNameV s a) := by
  simp only [impl_ReadName.f, impl_isAt_eq, Option.bind_some]
  by_cases h : placeOk s a = true
  · have h2 := of_decide_eq_true h
    obtain ⟨n, rfl⟩ := Int.eq_ofNat_of_zero_le h2.2.1
    exact evTwo (evPos h (evB (impl_readName_ev s (by omega) n (by omega)) (evNow rfl))) (if_pos h).symm
  · exact evTwo (evNeg h (evNow rfl)) (if_neg h).symm

def drawn : List ByteArray := [(⟨#[65]⟩ : ByteArray), (⟨#[97, 98, 99, 100, 101, 102, 103, 104, 105, 106]⟩ : ByteArray), (⟨#[97, 98, 99, 100, 101, 102, 103, 104, 105, 106, 107]⟩ : ByteArray), (⟨#[]⟩ : ByteArray), (⟨#[49, 97]⟩ : ByteArray), (⟨#[97, 49]⟩ : ByteArray), (⟨#[97, 32, 98]⟩ : ByteArray), (⟨#[90]⟩ : ByteArray)]
theorem drawn_size {x : ByteArray} (h : x ∈ drawn) : x.size ≤ 11 := by
  have : ∀ x ∈ drawn, x.size ≤ 11 := by decide
  exact this x h
theorem DrawNameBytes_ex {l : List Int} (hl : Bytes8 l) : ∃ s, spec_DrawNameBytes.f l = some s ∧ s.size ≤ 11 := by
  obtain ⟨x, a2, sd, e, p1, p2, p3⟩ := of_ex hl 0 0 (by omega) (by omega) drawn (by decide) (by decide)
  refine ⟨x, ?_, drawn_size p1⟩
  unfold spec_DrawNameBytes.f
  show (spec_l1Cur_of.f l 0 0 drawn).bind _ = _
  rw [e]
  rfl
def heads : List ByteArray := [(⟨#[65]⟩ : ByteArray), (⟨#[98]⟩ : ByteArray), (⟨#[84]⟩ : ByteArray), (⟨#[120, 49]⟩ : ByteArray), (⟨#[82, 101, 99]⟩ : ByteArray), (⟨#[78, 101, 120, 116]⟩ : ByteArray), (⟨#[81]⟩ : ByteArray), (⟨#[97, 98, 99, 100, 101, 102, 103, 104, 105, 106]⟩ : ByteArray)]
theorem heads_size {x : ByteArray} (h : x ∈ heads) : x.size ≤ 11 := by
  have : ∀ x ∈ heads, x.size ≤ 11 := by decide
  exact this x h
theorem one_size {x y : ByteArray} (h : x ∈ [(⟨#[]⟩ : ByteArray), y]) (hy : y.size = 1) : x.size ≤ 1 := by
  rcases List.mem_cons.1 h with rfl | h
  · decide
  · rcases List.mem_cons.1 h with rfl | h
    · omega
    · cases h
theorem DrawReadName_ex {l : List Int} (hl : Bytes8 l) : ∃ s a, Ev (fun k => spec_DrawReadName.f k l) (s, a) := by
  obtain ⟨x, a1, s1, e1, p1, p2, p3⟩ := of_ex hl 0 0 (by omega) (by omega) heads (by decide) (by decide)
  have hx := heads_size p1
  have en : spec_l1Cur_name.f l 0 0 = some (x, a1, s1) := by
    unfold spec_l1Cur_name.f
    show (spec_l1Cur_of.f l 0 0 heads).bind _ = _
    rw [e1]
    rfl
  have hnb : (nameB x).size ≤ 12 := by
    unfold nameB
    rw [ByteArray.size_append, strOfNums_size]
    simp only [List.length_cons, List.length_nil]
    omega
  obtain ⟨b, a2, s2, e2, q1, q2⟩ := one_ex hl a1 s1 3 (by omega) (by omega) (by omega)
  cases b with
  | true =>
    obtain ⟨t, a3, s3, e3, r1, r2, r3⟩ := spoilt_ex hl (nameB x) (⟨#[0, 1, 3, 97, 49]⟩ : ByteArray) (by decide) (by decide) (by omega) a2 s2 (by omega) (by omega)
    obtain ⟨u, a4, s4, e4, u1, u2, u3⟩ := of_ex hl a3 s3 (by omega) (by omega) [(⟨#[]⟩ : ByteArray), (⟨#[97]⟩ : ByteArray)] (by decide) (by decide)
    obtain ⟨v, a5, s5, e5, v1, v2, v3⟩ := of_ex hl a4 s4 (by omega) (by omega) [(⟨#[]⟩ : ByteArray), (⟨#[98]⟩ : ByteArray)] (by decide) (by decide)
    obtain ⟨z, a6, s6, e6, z1, z2, z3, z4⟩ := pick1_ex hl a5 s5 2 (by omega) (by omega) (by omega) (by omega)
    have hu := one_size u1 rfl
    have hv := one_size v1 rfl
    refine ⟨(u ++ t) ++ v, z, ?_⟩
    simp only [spec_DrawReadName.f]
    refine evC en (evC (spec_l1NameBytes_eq x (by omega)) (evC e2 (evPos (by first | rfl | trivial) (evB e3 (evC e4 (evPos ?_ (evC e5 (evPos ?_ (evC e6 (evNow rfl))))))))))
    · show u.size + t.size ≤ _
      omega
    · show (u ++ t).size + v.size ≤ _
      rw [ByteArray.size_append]
      omega
  | false =>
    obtain ⟨u, a4, s4, e4, u1, u2, u3⟩ := of_ex hl a2 s2 (by omega) (by omega) [(⟨#[]⟩ : ByteArray), (⟨#[97]⟩ : ByteArray)] (by decide) (by decide)
    obtain ⟨v, a5, s5, e5, v1, v2, v3⟩ := of_ex hl a4 s4 (by omega) (by omega) [(⟨#[]⟩ : ByteArray), (⟨#[98]⟩ : ByteArray)] (by decide) (by decide)
    obtain ⟨z, a6, s6, e6, z1, z2, z3, z4⟩ := pick1_ex hl a5 s5 2 (by omega) (by omega) (by omega) (by omega)
    have hu := one_size u1 rfl
    have hv := one_size v1 rfl
    refine ⟨(u ++ nameB x) ++ v, z, ?_⟩
    simp only [spec_DrawReadName.f]
    refine evC en (evC (spec_l1NameBytes_eq x (by omega)) (evC e2 (evNeg (by simp) (evC e4 (evPos ?_ (evC e5 (evPos ?_ (evC e6 (evNow rfl)))))))))
    · show u.size + (nameB x).size ≤ _
      omega
    · show (u ++ nameB x).size + v.size ≤ _
      rw [ByteArray.size_append]
      omega
theorem readBack (s : ByteArray) (hs : nameOk s = true) : readNameV ((⟨#[122]⟩ : ByteArray) ++ nameB s) 1 = (s, wrap64 (((nameB s).size : Int) + 1), true) := by
  have h10 : 1 ≤ s.size ∧ s.size ≤ 10 := by
    have := of_decide_eq_true hs
    exact ⟨this.1, this.2.1⟩
  have h1 : (strOfNums [(s.size : Int) % 256]).size = 1 := by rw [strOfNums_size]; rfl
  have hz : ((⟨#[122]⟩ : ByteArray)).size = 1 := rfl
  have hnb : (nameB s).size = 1 + s.size := by unfold nameB; rw [ByteArray.size_append, h1]
  have hsz : ((⟨#[122]⟩ : ByteArray) ++ nameB s).size = 2 + s.size := by rw [ByteArray.size_append, hz, hnb]; omega
  have hb : byN ((⟨#[122]⟩ : ByteArray) ++ nameB s) 1 = s.size := by
    have hlt : (1 : Nat) < ((⟨#[122]⟩ : ByteArray) ++ nameB s).size := by omega
    have e0 := bt_at ((⟨#[122]⟩ : ByteArray) ++ nameB s) 1 hlt
    have e1 : ((⟨#[122]⟩ : ByteArray) ++ nameB s)[1]'hlt = UInt8.ofNat s.size := by
      rw [ByteArray.getElem_append_right (by rw [hz]; omega)]
      unfold nameB
      rw [ByteArray.getElem_append_left (by rw [h1, hz]; omega)]
      show UInt8.ofNat ((s.size : Int) % 256).toNat = _
      congr 1
      omega
    have e2 : ((((⟨#[122]⟩ : ByteArray) ++ nameB s)[(1 : Int).toNat]'hlt).toNat : Int) = s.size := by
      show ((((⟨#[122]⟩ : ByteArray) ++ nameB s)[1]'hlt).toNat : Int) = s.size
      rw [e1, UInt8.toNat_ofNat']
      omega
    have e3 : bt ((⟨#[122]⟩ : ByteArray) ++ nameB s) ((1 : Nat) : Int) = s.size := e0.symm.trans e2
    unfold byN
    rw [e3]
    omega
  have hx : ((⟨#[122]⟩ : ByteArray) ++ nameB s).extract 2 (2 + s.size) = s := by
    unfold nameB
    rw [← ByteArray.append_assoc]
    exact ByteArray.extract_append_eq_right (by rw [ByteArray.size_append, hz, h1]) (by rw [ByteArray.size_append, hz, h1])
  have hok : rdOk ((⟨#[122]⟩ : ByteArray) ++ nameB s) 1 := by
    refine ⟨by omega, by rw [hb]; omega, ?_⟩
    rw [hb]
    show nameOk (((⟨#[122]⟩ : ByteArray) ++ nameB s).extract 2 (2 + s.size)) = true
    rw [hx]
    exact hs
  have hp : placeOk ((⟨#[122]⟩ : ByteArray) ++ nameB s) 1 = true := decide_eq_true ⟨by omega, by omega, by omega⟩
  unfold readNameV
  rw [if_pos hp]
  show readNmV _ 1 = _
  unfold readNmV rdName
  rw [if_pos hok, hb, hnb]
  rw [show (1 + 1 + s.size) = 2 + s.size from by omega, show (1 + 1 : Nat) = 2 from rfl, hx, wrap64_id (by omega) (by omega)]
  congr 2
  omega
theorem FnNames_j1 {l : List Int} (hl : Bytes8 l) : Ev (fun k => laws_FnNames.j1 k l) true := by
  obtain ⟨s, a, h⟩ := DrawReadName_ex hl
  obtain ⟨g, hg, hg2⟩ := DrawNameBytes_ex hl
  have hgg : spec_DrawGoodName.f l = some g := by
    unfold spec_DrawGoodName.f
    rw [hg]
    rfl
  refine evSucc ?_
  simp only [laws_FnNames.j1]
  refine evB h (evB (impl_ReadName_ev s a) (evB (spec_ReadName_ev s a) (evC hgg (evPos (by simp) (evPos (by first | rfl | trivial) (evPos (by first | rfl | trivial) ?_))))))
  simp only [impl_GoodName.f, spec_GoodName.f]
  exact evB (evB (impl_isName_ev g (by omega)) (evNow rfl)) (evB (evB (spec_l1Name_ev g (by omega)) (evNow rfl)) (evNow (by simp)))
theorem FnNames : laws_FnNames.Pure := by
  intro l0 l1 _ h0 w0 _ h1 w1
  refine Ev.rounds (r := true) ?_
  simp only [laws_FnNames.f]
  obtain ⟨b, hb⟩ := laws_big_ex (l0 := l0) (l1 := l1) (by omega) (by omega)
  refine evC hb ?_
  cases b with
  | true => exact evPos (by first | rfl | trivial) (evNow rfl)
  | false =>
    refine evNeg (by simp) ?_
    have b0 := bytes8_of w0
    have b1 := bytes8_of w1
    obtain ⟨s, hs, hs2⟩ := DrawNameBytes_ex b0
    refine evC hs (evB (impl_NameBytes_ev s (by omega)) (evB (spec_NameBytes_ev s (by omega)) (evNeg (by simp) (evPos (by first | rfl | trivial) ?_))))
    simp only [impl_GoodName.f]
    refine evB (evB (impl_isName_ev s (by omega)) (evNow rfl)) ?_
    have hne : ((nameBytesV s).2 != nameOk s) = false := by
      unfold nameBytesV
      by_cases h : nameOk s = true
      · rw [if_pos h, h]; rfl
      · rw [if_neg h]
        simp only [Bool.not_eq_true] at h
        rw [h]; rfl
    simp only [hne]
    refine evSucc ?_
    simp only [laws_FnNames.j0]
    refine evNeg (by simp) ?_
    unfold nameBytesV
    by_cases h : nameOk s = true
    · simp only [h, if_true]
      have hnb : (nameB s).size ≤ 12 := by
        unfold nameB
        rw [ByteArray.size_append, strOfNums_size]
        simp only [List.length_cons, List.length_nil]
        omega
      have hr := impl_ReadName_ev ((⟨#[122]⟩ : ByteArray) ++ nameB s) 1
      rw [readBack s h] at hr
      exact evPos (by omega) (evB hr (evPos (by first | rfl | trivial) (evPos (by first | rfl | trivial) (evPos (by first | rfl | trivial) (FnNames_j1 b1)))))
    · simp only [h, if_false]
      exact evNeg (by simp) (FnNames_j1 b1)

end Go.Proofs.Ytdphgdlkchajoaa.Pure
