/- The plain statement of the law FnNumbers: at all arguments within the row's bounds the printed function answers true. No further condition. -/
import Derived.Test.YtdphgdlkchajoaaPFnNumbersx5
import Derived.Test.YtdphgdlkchajoaaBase
set_option linter.unusedVariables false
set_option linter.unusedSimpArgs false
namespace Go.Proofs.Ytdphgdlkchajoaa.Pure
open Go.RowKit Go.Proofs.Ytdphgdlkchajoaa.PFnNumbers Go.Proofs.YtdphgdlkchajoaaW.PrintWords Go.Proofs.YtdphgdlkchajoaaW.PrintLast

/-! ### cur -/
theorem wrap_u64 (n : Int) : IntKind.u64.wrap n = n % 18446744073709551616 := by simp [IntKind.wrap, IntKind.bits, IntKind.signed]
theorem bits_and_le (x : Int) (m : Nat) (hm : m < 18446744073709551616) : 0 ≤ Go.bits .and .u64 x (m : Int) ∧ Go.bits .and .u64 x (m : Int) ≤ m := by
  unfold Go.bits
  simp only [wrap_u64]
  have h1 : (BitVec.ofInt IntKind.u64.bits x &&& BitVec.ofInt IntKind.u64.bits (m : Int)).toNat ≤ m := by
    rw [BitVec.toNat_and]
    refine Nat.le_trans Nat.and_le_right ?_
    rw [BitVec.ofInt_natCast, BitVec.toNat_ofNat]
    exact Nat.mod_le _ _
  generalize (BitVec.ofInt IntKind.u64.bits x &&& BitVec.ofInt IntKind.u64.bits (m : Int)).toNat = q at h1 ⊢
  omega
/-- The bytes that choices are read from. -/
def Bytes8 (l : List Int) : Prop := ∀ x ∈ l, 0 ≤ x ∧ x ≤ 255
theorem bytes8_of {l : List Int} (h : ∀ x ∈ l, (Lit.int .u8 x).wf = true) : Bytes8 l := fun x hx => by
  have := h x hx
  simp [Lit.wf, IntKind.min, IntKind.max, IntKind.bits, IntKind.signed] at this
  omega
theorem rd_bytes8 {l : List Int} (h : Bytes8 l) (i : Int) : 0 ≤ rd l i ∧ rd l i ≤ 255 := by
  unfold rd
  rw [List.getD_eq_getElem?_getD]
  cases e : l[i.toNat]? with
  | none => simp
  | some v => exact h v (List.mem_of_getElem? e)
theorem next_ex {l : List Int} (hl : Bytes8 l) (at_ seed : Int) (h0 : 0 ≤ at_) (h1 : at_ ≤ 1000000000000) : ∃ n sd, spec_l1Cur_next.f l at_ seed = some (n, at_ + 1, sd) ∧ 0 ≤ n ∧ n ≤ 255 := by
  have e1 : wrap64 (at_ + 1) = at_ + 1 := wrap64_id (by omega) (by omega)
  unfold spec_l1Cur_next.f
  rw [e1]
  have hb : ∀ x : Int, 0 ≤ wrap64 (Go.bits .and .u64 x 255) ∧ wrap64 (Go.bits .and .u64 x 255) ≤ 255 := fun x => by
    have : 0 ≤ Go.bits .and .u64 x 255 ∧ Go.bits .and .u64 x 255 ≤ 255 := bits_and_le x 255 (by decide)
    rw [wrap64_id (by have := this.1; omega) (by have := this.2; omega)]
    exact this
  have hr := rd_bytes8 hl at_
  have hw : wrap64 (rd l at_) = rd l at_ := wrap64_id (by omega) (by omega)
  by_cases c1 : at_ < (l.length : Int)
  · rw [if_pos c1, if_pos h0]
    by_cases c2 : at_ + 1 ≤ (l.length : Int)
    · rw [if_pos c2, hw]
      exact ⟨_, _, rfl, hr.1, hr.2⟩
    · rw [if_neg c2]
      exact ⟨_, _, rfl, (hb _).1, (hb _).2⟩
  · rw [if_neg c1]
    by_cases c2 : at_ + 1 ≤ (l.length : Int)
    · rw [if_pos c2]
      exact ⟨_, _, rfl, by omega, by omega⟩
    · rw [if_neg c2]
      exact ⟨_, _, rfl, (hb _).1, (hb _).2⟩
theorem pick_ex {l : List Int} (hl : Bytes8 l) (at_ seed n : Int) (h0 : 0 ≤ at_) (h1 : at_ ≤ 999999999999) (hn : n ≤ 9000000000000000000) : ∃ x a2 sd, spec_l1Cur_pick.f l at_ seed n = some (x, a2, sd) ∧ 0 ≤ x ∧ (x < n ∨ (n ≤ 1 ∧ x = 0)) ∧ at_ ≤ a2 ∧ a2 ≤ at_ + 2 := by
  unfold spec_l1Cur_pick.f
  by_cases c1 : n ≤ 1
  · rw [if_pos c1]
    exact ⟨_, _, _, rfl, by omega, .inr ⟨c1, rfl⟩, by omega, by omega⟩
  · rw [if_neg c1]
    obtain ⟨n1, sd1, e1, p1, p2⟩ := next_ex hl at_ seed h0 (by omega)
    rw [e1]
    simp only [Option.bind_some]
    by_cases c2 : n > 200
    · rw [if_pos c2]
      obtain ⟨n2, sd2, e2, p3, p4⟩ := next_ex hl (at_ + 1) sd1 (by omega) (by omega)
      rw [e2]
      simp only [Option.bind_some]
      rw [if_neg (by omega), wrap64_id (x := n1 * 256) (by omega) (by omega), wrap64_id (by omega) (by omega), tmod_nn (by omega)]
      exact ⟨_, _, _, rfl, Int.emod_nonneg _ (by omega), .inl (Int.emod_lt_of_pos _ (by omega)), by omega, by omega⟩
    · rw [if_neg c2, if_neg (by omega), tmod_nn p1]
      exact ⟨_, _, _, rfl, Int.emod_nonneg _ (by omega), .inl (Int.emod_lt_of_pos _ (by omega)), by omega, by omega⟩
theorem pick1_ex {l : List Int} (hl : Bytes8 l) (at_ seed n : Int) (h0 : 0 ≤ at_) (h1 : at_ ≤ 999999999999) (hn1 : 1 ≤ n) (hn : n ≤ 9000000000000000000) : ∃ x a2 sd, spec_l1Cur_pick.f l at_ seed n = some (x, a2, sd) ∧ 0 ≤ x ∧ x < n ∧ at_ ≤ a2 ∧ a2 ≤ at_ + 2 := by
  obtain ⟨x, a2, sd, e, p1, p2, p3, p4⟩ := pick_ex hl at_ seed n h0 h1 hn
  exact ⟨x, a2, sd, e, p1, by omega, p3, p4⟩
theorem among_ex {l : List Int} (hl : Bytes8 l) (at_ seed : Int) (h0 : 0 ≤ at_) (h1 : at_ ≤ 999999999999) (ys : List Int) (hy : 0 < ys.length) (hy2 : ys.length ≤ 1000000) : ∃ x a2 sd, spec_l1Cur_among.f l at_ seed ys = some (x, a2, sd) ∧ x ∈ ys ∧ at_ ≤ a2 ∧ a2 ≤ at_ + 2 := by
  unfold spec_l1Cur_among.f
  obtain ⟨x, a2, sd, e, p1, p2, p3, p4⟩ := pick_ex hl at_ seed (ys.length : Int) h0 h1 (by omega)
  rw [e]
  simp only [Option.bind_some]
  rw [if_pos p1, if_pos (by omega)]
  obtain ⟨i, rfl⟩ := Int.eq_ofNat_of_zero_le p1
  refine ⟨_, _, _, rfl, ?_, p3, p4⟩
  have hi : i < ys.length := by omega
  rw [rd_nat hi]
  exact List.getElem_mem hi
theorem of_ex {l : List Int} (hl : Bytes8 l) (at_ seed : Int) (h0 : 0 ≤ at_) (h1 : at_ ≤ 999999999999) (ys : List ByteArray) (hy : 0 < ys.length) (hy2 : ys.length ≤ 1000000) : ∃ x a2 sd, spec_l1Cur_of.f l at_ seed ys = some (x, a2, sd) ∧ x ∈ ys ∧ at_ ≤ a2 ∧ a2 ≤ at_ + 2 := by
  unfold spec_l1Cur_of.f
  obtain ⟨x, a2, sd, e, p1, p2, p3, p4⟩ := pick_ex hl at_ seed (ys.length : Int) h0 h1 (by omega)
  rw [e]
  simp only [Option.bind_some]
  rw [if_pos p1, if_pos (by omega)]
  obtain ⟨i, rfl⟩ := Int.eq_ofNat_of_zero_le p1
  refine ⟨_, _, _, rfl, ?_, p3, p4⟩
  have hi : i < ys.length := by omega
  rw [rdOf_nat hi]
  exact List.getElem_mem hi
theorem one_ex {l : List Int} (hl : Bytes8 l) (at_ seed n : Int) (h0 : 0 ≤ at_) (h1 : at_ ≤ 999999999999) (hn : n ≤ 9000000000000000000) : ∃ b a2 sd, spec_l1Cur_one.f l at_ seed n = some (b, a2, sd) ∧ at_ ≤ a2 ∧ a2 ≤ at_ + 2 := by
  unfold spec_l1Cur_one.f
  obtain ⟨x, a2, sd, e, p1, p2, p3, p4⟩ := pick_ex hl at_ seed n h0 h1 hn
  rw [e]
  exact ⟨_, _, _, rfl, p3, p4⟩
def wholes : List Int := [0, 1, -1, 63, -64, 64, 127, 128, -300, 8191, 8192, 1000000, 1000000000, -1000000000]
theorem wholes_range {x : Int} (h : x ∈ wholes) : -1000000000 ≤ x ∧ x ≤ 1000000000 := by
  have : ∀ x ∈ wholes, -1000000000 ≤ x ∧ x ≤ 1000000000 := by decide
  exact this x h
theorem whole_ex {l : List Int} (hl : Bytes8 l) (at_ seed : Int) (h0 : 0 ≤ at_) (h1 : at_ ≤ 999999999999) : ∃ x a2 sd, spec_l1Cur_whole.f l at_ seed = some (x, a2, sd) ∧ -1000000000 ≤ x ∧ x ≤ 1000000000 ∧ at_ ≤ a2 ∧ a2 ≤ at_ + 2 := by
  obtain ⟨x, a2, sd, e, p1, p2, p3⟩ := among_ex hl at_ seed h0 h1 wholes (by decide) (by decide)
  refine ⟨x, a2, sd, ?_, (wholes_range p1).1, (wholes_range p1).2, p2, p3⟩
  unfold spec_l1Cur_whole.f
  show (spec_l1Cur_among.f l at_ seed wholes).bind _ = _
  rw [e]
  rfl
theorem laws_big_ex {l0 l1 : List Int} (h0 : l0.length ≤ 140737488351232) (h1 : l1.length ≤ 140737488351232) : ∃ b, laws_big.f l0 l1 = some b := by
  unfold laws_big.f
  split <;> exact ⟨_, rfl⟩

/-! ### spoilt -/
theorem chain4 {a a1 a2 a3 a4 : Int} {d : Nat} (p3 : a ≤ a1) (p4 : a1 ≤ a + 2) (q3 : a1 ≤ a2) (q4 : a2 ≤ a1 + 2) (r3 : a2 ≤ a3) (r4 : a3 ≤ a2 + 2) (k2 : a3 ≤ a4) (k3 : a4 ≤ a3 + 6 * d) : a ≤ a4 ∧ a4 ≤ a + 6 * ((d + 1 : Nat) : Int) := by omega
theorem spoilt_l0 {l : List Int} (hl : Bytes8 l) (w : ByteArray) (hw : 0 < w.size) (hw2 : w.size ≤ 1000) (d : Nat) : ∀ (t : ByteArray) (n a s : Int), n ≤ d → t.size + d ≤ 2000000000 → 0 ≤ a → a ≤ 999999999 - 6 * d →
    ∃ r a2 s2, Ev (fun k => spec_l1Cur_spoilt.l0 k t w n l a s) (r, a2, s2) ∧ r.size ≤ t.size + d ∧ a ≤ a2 ∧ a2 ≤ a + 6 * d := by
  induction d with
  | zero =>
    intro t n a s h1 h2 h3 h4
    refine ⟨t, a, s, ?_, by omega, by omega, by omega⟩
    refine evSucc ?_
    simp only [spec_l1Cur_spoilt.l0]
    refine evNeg (by omega) (evSucc ?_)
    simp only [spec_l1Cur_spoilt.j1]
    exact evNeg (by simp) (evNow rfl)
  | succ d ih =>
    intro t n a s h1 h2 h3 h4
    by_cases hn : n > 0
    · have hww : wrap64 (n - 1) = n - 1 := wrap64_id (by omega) (by omega)
      have hts : t.size ≤ 2000000000 := by omega
      have ha : a ≤ 99999999999 := by omega
      by_cases ht : 0 < t.size
      · obtain ⟨i0, a1, s1, e1, p1, p2, p3, p4⟩ := pick1_ex hl a s (t.size : Int) h3 (Int.le_trans ha (by decide)) (by clear h1 h2 h4 hn hww; omega) (by clear h1 h2 h4 hn hww; omega)
        obtain ⟨j0, a2, s2, e2, q1, q2, q3, q4⟩ := pick1_ex hl a1 s1 (w.size : Int) (Int.le_trans h3 p3) (by clear h1 h2 h4 hn hww; omega) (by clear h1 h2 h4 hn hww; omega) (by clear h1 h2 h4 hn hww; omega)
        obtain ⟨c0, a3, s3, e3, r1, r2, r3, r4⟩ := pick1_ex hl a2 s2 3 (Int.le_trans h3 (Int.le_trans p3 q3)) (by clear h1 h2 h4 hn hww; omega) (by decide) (by decide)
        obtain ⟨i, rfl⟩ := Int.eq_ofNat_of_zero_le p1
        have hi : i < t.size := by omega
        have hi1 : wrap64 ((i : Int) + 1) = ((i + 1 : Nat) : Int) := wrap64_nat i (by omega)
        have IH : ∀ T : ByteArray, T.size ≤ t.size + 1 → ∃ r a4 s4, Ev (fun k => spec_l1Cur_spoilt.l0 k T w (n - 1) l a3 s3) (r, a4, s4) ∧ r.size ≤ t.size + (d + 1) ∧ a ≤ a4 ∧ a4 ≤ a + 6 * ((d + 1 : Nat) : Int) := fun T hT => by
          obtain ⟨r, a4, s4, h, k1, k2, k3⟩ := ih T (n - 1) a3 s3 (by clear h2 h4 hww p2 q2 r2; omega) (by clear h1 h4 hww hn; omega) (by clear h1 h2 h4 hww hn; omega) (by clear h1 h2 hww hn; omega)
          have k := chain4 p3 p4 q3 q4 r3 r4 k2 k3
          exact ⟨r, a4, s4, h, by clear h1 h2 h4 hww hn ha hts p2 p3 p4 q2 q3 q4 r2 r3 r4 k2 k3 k; omega, k.1, k.2⟩
        have hq : j0 < (w.size : Int) := q2
        clear h1 h2 h4 r1 r2 q2 ha p3 p4 q3 q4 r3 r4
        by_cases c1 : c0 = 0
        · obtain ⟨r, a4, s4, h, k1, k2, k3⟩ := IH (((t.extract 0 i) ++ (strOfNums [bt w j0])) ++ (t.extract i t.size)) (by simp only [ByteArray.size_append, ByteArray.size_extract, strOfNums_size, List.length_cons, List.length_nil]; omega)
          refine ⟨r, a4, s4, ?_, k1, k2, k3⟩
          · refine evSucc ?_
            simp only [spec_l1Cur_spoilt.l0]
            refine evPos hn (evSucc ?_)
            simp only [spec_l1Cur_spoilt.j1]
            refine evPos (decide_eq_true (by omega)) (evC e1 (evC e2 (evPos q1 (evPos hq (evC (a := [bt w j0]) rfl (evC e3 (evPos c1 (evPos p1 (evPos (by omega) (evPos ?_ (evPos ?_ ?_)))))))))))
            · simp only [ByteArray.size_extract, strOfNums_size, List.length_cons, List.length_nil]; omega
            · simp only [ByteArray.size_append, ByteArray.size_extract, strOfNums_size, List.length_cons, List.length_nil]; omega
            · simp only [hww, Int.toNat_natCast]
              exact h
        · by_cases c2 : c0 = 1
          · obtain ⟨r, a4, s4, h, k1, k2, k3⟩ := IH (((t.extract 0 i) ++ (strOfNums [bt w j0])) ++ (t.extract (i + 1) t.size)) (by simp only [ByteArray.size_append, ByteArray.size_extract, strOfNums_size, List.length_cons, List.length_nil]; omega)
            refine ⟨r, a4, s4, ?_, k1, k2, k3⟩
            · refine evSucc ?_
              simp only [spec_l1Cur_spoilt.l0]
              refine evPos hn (evSucc ?_)
              simp only [spec_l1Cur_spoilt.j1, hi1, Int.toNat_natCast]
              refine evPos (decide_eq_true (by omega)) (evC e1 ?_)
              simp only [hi1, Int.toNat_natCast]
              refine evC e2 (evPos q1 (evPos hq (evC (a := [bt w j0]) rfl (evC e3 (evNeg c1 (evPos c2 (evPos p1 (evPos (by omega) (evPos ?_ (evPos (by omega) (evPos (by omega) (evPos ?_ ?_))))))))))))
              · simp only [ByteArray.size_extract, strOfNums_size, List.length_cons, List.length_nil]; omega
              · simp only [ByteArray.size_append, ByteArray.size_extract, strOfNums_size, List.length_cons, List.length_nil]; omega
              · simp only [hww]
                exact h
          · obtain ⟨r, a4, s4, h, k1, k2, k3⟩ := IH ((t.extract 0 i) ++ (t.extract (i + 1) t.size)) (by simp only [ByteArray.size_append, ByteArray.size_extract]; omega)
            refine ⟨r, a4, s4, ?_, k1, k2, k3⟩
            · refine evSucc ?_
              simp only [spec_l1Cur_spoilt.l0]
              refine evPos hn (evSucc ?_)
              simp only [spec_l1Cur_spoilt.j1, hi1, Int.toNat_natCast]
              refine evPos (decide_eq_true (by omega)) (evC e1 ?_)
              simp only [hi1, Int.toNat_natCast]
              refine evC e2 (evPos q1 (evPos hq (evC (a := [bt w j0]) rfl (evC e3 (evNeg c1 (evNeg c2 (evPos p1 (evPos (by omega) (evPos (by omega) (evPos (by omega) (evPos ?_ ?_)))))))))))
              · simp only [ByteArray.size_extract]; omega
              · simp only [hww]
                exact h
      · refine ⟨t, a, s, ?_, by omega, by omega, by omega⟩
        refine evSucc ?_
        simp only [spec_l1Cur_spoilt.l0]
        refine evPos hn (evSucc ?_)
        simp only [spec_l1Cur_spoilt.j1]
        exact evNeg (by rw [decide_eq_true_eq]; omega) (evNow rfl)
    · obtain ⟨r, a2, s2, h, k1, k2, k3⟩ := ih t n a s (by omega) (by omega) h3 (by omega)
      exact ⟨r, a2, s2, h, by omega, by omega, by omega⟩
theorem spoilt_ex {l : List Int} (hl : Bytes8 l) (t w : ByteArray) (hw : 0 < w.size) (hw2 : w.size ≤ 1000) (ht : t.size ≤ 1000000000) (a s : Int) (h0 : 0 ≤ a) (h1 : a ≤ 99999999) :
    ∃ r a2 s2, Ev (fun k => spec_l1Cur_spoilt.f k l a s t w) (r, a2, s2) ∧ r.size ≤ t.size + 2 ∧ a ≤ a2 ∧ a2 ≤ a + 14 := by
  obtain ⟨x, a1, s1, e1, p1, p2, p3, p4⟩ := pick1_ex hl a s 2 h0 (by omega) (by omega) (by omega)
  have hx : wrap64 (1 + x) = 1 + x := wrap64_id (by omega) (by omega)
  obtain ⟨r, a2, s2, h, k1, k2, k3⟩ := spoilt_l0 hl w hw hw2 2 t (1 + x) a1 s1 (by omega) (by omega) (by omega) (by omega)
  refine ⟨r, a2, s2, ?_, k1, by omega, by omega⟩
  simp only [spec_l1Cur_spoilt.f]
  refine evC e1 ?_
  simp only [hx]
  exact h

/-! ### inF -/
theorem spec_l1In_eq (a b c : Int) : spec_l1In.f a b c = some (decide (b ≤ a ∧ a ≤ c)) := by
  unfold spec_l1In.f
  by_cases h : a ≥ b
  · rw [if_pos h]; simp [h]
  · rw [if_neg h]; simp [h]
theorem impl_in_eq (a b c : Int) : impl_in.f a b c = some (decide (b ≤ a ∧ a ≤ c)) := by
  unfold impl_in.f
  by_cases h : a ≥ b
  · rw [if_pos h]; simp [h]
  · rw [if_neg h]; simp [h]

/-! ### nb -/
/-- The bytes of a number, seven bits each. -/
def nb (x : Nat) : List Int := if h : x < 128 then [(x : Int)] else ((x % 128 + 128 : Nat) : Int) :: nb (x / 128)
termination_by x
decreasing_by omega
theorem nb_small {x : Nat} (h : x < 128) : nb x = [(x : Int)] := by
  rw [nb, dif_pos h]
theorem nb_big {x : Nat} (h : ¬ x < 128) : nb x = ((x % 128 + 128 : Nat) : Int) :: nb (x / 128) := by
  rw [nb, dif_neg h]
theorem nb_or (x : Nat) (h : x < 4611686018427387904) : Go.bits .or .i64 (Go.bits .and .i64 (x : Int) 127) 128 = ((x % 128 + 128 : Nat) : Int) := by
  have h1 : Go.bits .and .i64 (x : Int) 127 = (x : Int) % 128 := bits_mask .i64 63 (by decide) wraps_i64 7 (by decide) x (by omega) (by omega)
  have h2 : Go.bits .or .i64 ((x : Int) % 128) 128 = Go.bits .or .i64 128 ((x : Int) % 128) := by
    unfold Go.bits
    simp only [BitVec.or_comm]
  rw [h1, h2, bits_join .i64 63 (by decide) wraps_i64 7 128 ((x : Int) % 128) (by decide) (by decide) (by decide) (by omega) (by omega) (by omega)]
  omega
/-- What a number is without its sign. -/
def foldN (n : Int) : Nat := if n < 0 then (-2 * n - 1).toNat else (2 * n).toNat

/-! ### numBytes -/
theorem spec_l1Fold_eq {n : Int} (h0 : -1000000000 ≤ n) (h1 : n ≤ 1000000000) : spec_l1Fold.f n = some ((foldN n : Nat) : Int) := by
  unfold spec_l1Fold.f foldN
  by_cases h : n < 0
  · rw [if_pos h, if_pos h, wrap64_id (x := -2 * n) (by omega) (by omega), wrap64_id (by omega) (by omega)]
    congr 1
    omega
  · rw [if_neg h, if_neg h, wrap64_id (by omega) (by omega)]
    congr 1
    omega
theorem impl_fold_eq {n : Int} (h0 : -1000000000 ≤ n) (h1 : n ≤ 1000000000) : impl_fold.f n = some ((foldN n : Nat) : Int) := by
  rw [← spec_l1Fold_eq h0 h1]
  unfold spec_l1Fold.f impl_fold.f
  by_cases h : n < 0
  · rw [if_pos h, if_neg (by omega)]
  · rw [if_neg h, if_pos (by omega)]
theorem foldN_lt {n : Int} (h0 : -1000000000 ≤ n) (h1 : n ≤ 1000000000) : foldN n ≤ 2000000000 := by
  unfold foldN
  split <;> omega
theorem spec_l1NumBytes_l0 (d : Nat) : ∀ (x : Nat) (l : List Int), x < 128 ^ (d + 1) → x < 4611686018427387904 → l.length + d < 140737488355328 → Ev (fun k => spec_l1NumBytes.l0 k (x : Int) l) (strOfNums (l ++ nb x)) := by
  induction d with
  | zero =>
    intro x l hx hx2 hl
    refine evSucc ?_
    simp only [spec_l1NumBytes.l0]
    refine evNeg (by omega) (evPos (by omega) (evNow ?_))
    rw [nb_small (by omega)]
    congr 3
    omega
  | succ d ih =>
    intro x l hx hx2 hl
    refine evSucc ?_
    simp only [spec_l1NumBytes.l0]
    by_cases h : x < 128
    · refine evNeg (by omega) (evPos (by omega) (evNow ?_))
      rw [nb_small h]
      congr 3
      omega
    · refine evPos (by omega) (evPos (by omega) ?_)
      rw [nb_big h]
      have hd : x / 128 < 128 ^ (d + 1) := by
        rw [Nat.pow_succ] at hx
        omega
      refine evTwo (r := strOfNums ((l ++ [((x % 128 + 128 : Nat) : Int)]) ++ nb (x / 128))) ?_ (by rw [List.append_assoc]; rfl)
      have e1 : wrap64 (Int.tdiv (x : Int) 128) = ((x / 128 : Nat) : Int) := by
        rw [tdiv_nn (by omega), wrap64_id (by omega) (by omega)]
        omega
      have e2 : wrap64 ((Int.tmod (x : Int) 128) + 128) % 256 = ((x % 128 + 128 : Nat) : Int) := by
        rw [tmod_nn (by omega), wrap64_id (by omega) (by omega)]
        omega
      simp only [e1, e2]
      exact ih (x / 128) _ hd (by omega) (by simp; omega)
theorem impl_numBytes_l0 (d : Nat) : ∀ (x : Nat) (l : List Int), x < 128 ^ (d + 1) → x < 4611686018427387904 → l.length + d < 140737488355328 → Ev (fun k => impl_numBytes.l0 k l (x : Int)) (strOfNums (l ++ nb x)) := by
  induction d with
  | zero =>
    intro x l hx hx2 hl
    refine evSucc ?_
    simp only [impl_numBytes.l0]
    refine evNeg (by omega) (evPos (by omega) (evNow ?_))
    rw [nb_small (by omega)]
    congr 3
    omega
  | succ d ih =>
    intro x l hx hx2 hl
    refine evSucc ?_
    simp only [impl_numBytes.l0]
    by_cases h : x < 128
    · refine evNeg (by omega) (evPos (by omega) (evNow ?_))
      rw [nb_small h]
      congr 3
      omega
    · refine evPos (by omega) (evPos (by omega) ?_)
      rw [nb_big h]
      have hd : x / 128 < 128 ^ (d + 1) := by
        rw [Nat.pow_succ] at hx
        omega
      refine evTwo (r := strOfNums ((l ++ [((x % 128 + 128 : Nat) : Int)]) ++ nb (x / 128))) ?_ (by rw [List.append_assoc]; rfl)
      have e1 : (x : Int) / 128 = ((x / 128 : Nat) : Int) := by omega
      have e2 : Go.bits .or .i64 (Go.bits .and .i64 (x : Int) 127) 128 % 256 = ((x % 128 + 128 : Nat) : Int) := by
        rw [nb_or x hx2]
        omega
      simp only [e1, e2]
      exact ih (x / 128) _ hd (by omega) (by simp; omega)
theorem spec_l1NumBytes_ev {n : Int} (h0 : -1000000000 ≤ n) (h1 : n ≤ 1000000000) : Ev (fun k => spec_l1NumBytes.f k n) (strOfNums (nb (foldN n))) := by
  have := foldN_lt h0 h1
  simp only [spec_l1NumBytes.f]
  exact evC (spec_l1Fold_eq h0 h1) (spec_l1NumBytes_l0 8 _ [] (by simp; omega) (by omega) (by simp))
theorem impl_numBytes_ev {n : Int} (h0 : -1000000000 ≤ n) (h1 : n ≤ 1000000000) : Ev (fun k => impl_numBytes.f k n) (strOfNums (nb (foldN n))) := by
  have := foldN_lt h0 h1
  simp only [impl_numBytes.f]
  exact evC (impl_fold_eq h0 h1) (impl_numBytes_l0 8 _ [] (by simp; omega) (by omega) (by simp))

/-! ### NumBytesB -/
def numBytesV (n : Int) : ByteArray × Bool := if -1000000000 ≤ n ∧ n ≤ 1000000000 then (strOfNums (nb (foldN n)), true) else (⟨#[]⟩, false)
theorem spec_NumBytes_ev (n : Int) : Ev (fun k => spec_NumBytes.f k n) (numBytesV n) := by
  simp only [spec_NumBytes.f, spec_l1In_eq, Option.bind_some]
  by_cases h : -1000000000 ≤ n ∧ n ≤ 1000000000
  · exact evTwo (evPos (decide_eq_true h) (evB (spec_l1NumBytes_ev h.1 h.2) (evNow rfl))) (if_pos h).symm
  · exact evTwo (evNeg (by simpa using h) (evNow rfl)) (if_neg h).symm
theorem impl_NumBytes_ev (n : Int) : Ev (fun k => impl_NumBytes.f k n) (numBytesV n) := by
  simp only [impl_NumBytes.f, impl_isWhole.f, impl_in_eq, Option.bind_some]
  by_cases h : -1000000000 ≤ n ∧ n ≤ 1000000000
  · exact evTwo (evPos (decide_eq_true h) (evB (impl_numBytes_ev h.1 h.2) (evNow rfl))) (if_pos h).symm
  · exact evTwo (evNeg (by simpa using h) (evNow rfl)) (if_neg h).symm

/-! ### nameDef -/
def letB (c : Int) : Prop := (65 ≤ c ∧ c ≤ 90) ∨ (97 ≤ c ∧ c ≤ 122)
def digB (c : Int) : Prop := 48 ≤ c ∧ c ≤ 57
instance (c : Int) : Decidable (letB c) := by unfold letB; infer_instance
instance (c : Int) : Decidable (digB c) := by unfold digB; infer_instance
/-- The byte at j may stand in a name. -/
def nmAt (s : ByteArray) (j : Nat) : Prop := letB (bt s (j : Int)) ∨ (j ≠ 0 ∧ digB (bt s (j : Int)))
instance (s : ByteArray) (j : Nat) : Decidable (nmAt s j) := by unfold nmAt; infer_instance
def nameOk (s : ByteArray) : Bool := decide (1 ≤ s.size ∧ s.size ≤ 10 ∧ ∀ j, j < s.size → nmAt s j)
theorem nameOk_not {s : ByteArray} {j : Nat} (h : j < s.size) (hn : ¬ nmAt s j) : nameOk s = false := by
  unfold nameOk
  exact decide_eq_false fun H => hn (H.2.2 j h)
theorem nameOk_all {s : ByteArray} (h : ∀ j, j < s.size → nmAt s j) : nameOk s = decide ((1 : Int) ≤ (s.size : Int) ∧ (s.size : Int) ≤ 10) := by
  unfold nameOk
  by_cases hs : 1 ≤ s.size ∧ s.size ≤ 10
  · rw [decide_eq_true (by exact ⟨hs.1, hs.2, h⟩), decide_eq_true (by omega)]
  · rw [decide_eq_false (fun H => hs ⟨H.1, H.2.1⟩), decide_eq_false (by omega)]

/-! ### isName -/

/-! ### readName -/
/-- The byte at a, as a number from 0 on. -/
def byN (s : ByteArray) (a : Nat) : Nat := (bt s (a : Int)).toNat
theorem byN_eq (s : ByteArray) (a : Nat) : bt s (a : Int) = (byN s a : Int) := by
  have := bt_range s (a : Int)
  unfold byN
  omega
theorem byN_le (s : ByteArray) (a : Nat) : byN s a ≤ 255 := by
  have := bt_range s (a : Int)
  unfold byN
  omega
/-- A name's bytes stand at a. -/
def rdOk (s : ByteArray) (a : Nat) : Prop := a < s.size ∧ a + 1 + byN s a ≤ s.size ∧ nameOk (s.extract (a + 1) (a + 1 + byN s a)) = true
instance (s : ByteArray) (a : Nat) : Decidable (rdOk s a) := by unfold rdOk; infer_instance
def rdName (s : ByteArray) (a : Nat) : ByteArray := s.extract (a + 1) (a + 1 + byN s a)
def readNmV (s : ByteArray) (a : Nat) : ByteArray × Int × Bool := if rdOk s a then (rdName s a, ((a + 1 + byN s a : Nat) : Int), true) else (⟨#[]⟩, 0, false)
theorem extract_le (s : ByteArray) (i j : Nat) : (s.extract i j).size ≤ s.size := by
  rw [ByteArray.size_extract]
  omega
theorem spec_l1B_byte1_eq (s : ByteArray) (hs : s.size ≤ 1000000) (a : Nat) : spec_l1B_byte1.f s (a : Int) false = some (if a < s.size then ((byN s a : Int), s, ((a + 1 : Nat) : Int), false) else (0, s, (a : Int), true)) := by
  simp only [spec_l1B_byte1.f]
  by_cases h : a < s.size
  · have e1 : wrap64 ((a : Int) + 1) = ((a + 1 : Nat) : Int) := wrap64_nat a (by omega)
    have e2 : wrap64 (((a + 1 : Nat) : Int) - 1) = (a : Int) := by rw [wrap64_id] <;> omega
    have e0 : wrap64 (byN s a : Int) = byN s a := by
      have := byN_le s a
      exact wrap64_id (by omega) (by omega)
    rw [if_neg (by simp), if_neg (by omega), if_pos h]
    simp only [e1, e2, byN_eq, e0]
    rw [if_pos (by omega), if_pos (by omega)]
  · rw [if_neg (by simp), if_pos (by omega), if_neg h]
def nmV (s : ByteArray) (a : Nat) : ByteArray × ByteArray × Int × Bool := if rdOk s a then (rdName s a, s, ((a + 1 + byN s a : Nat) : Int), false) else (⟨#[]⟩, s, (if a < s.size then ((a + 1 : Nat) : Int) else (a : Int)), true)

/-! ### place -/
def placeOk (s : ByteArray) (a : Int) : Bool := decide (s.size ≤ 3000 ∧ 0 ≤ a ∧ a ≤ (s.size : Int))
theorem spec_l1Place_eq (s : ByteArray) (a : Int) : spec_l1Place.f s a = some (placeOk s a) := by
  unfold spec_l1Place.f placeOk
  simp only [spec_l1In_eq, Option.bind_some]
  by_cases h : s.size ≤ 3000
  · rw [if_pos (by omega)]; simp [h]
  · rw [if_neg (by omega)]; simp [h]
theorem impl_isAt_eq (s : ByteArray) (a : Int) : impl_isAt.f s a = some (placeOk s a) := by
  unfold impl_isAt.f placeOk
  simp only [impl_in_eq, Option.bind_some]
  by_cases h : s.size ≤ 3000
  · rw [if_pos (by omega)]; simp [h]
  · rw [if_neg (by omega)]; simp [h]

/-! ### readNum -/
theorem openN_eq1 {n : Nat} (h : n ≤ 100000000000) : spec_l1Open.f (n : Int) = some (if n % 2 = 0 then ((n / 2 : Nat) : Int) else -(((n + 1) / 2 : Nat) : Int)) := by
  unfold spec_l1Open.f
  rw [tmod_nn (by omega)]
  by_cases h2 : n % 2 = 0
  · rw [if_neg (by omega), if_pos h2, tdiv_nn (by omega), wrap64_id (by omega) (by omega)]
    congr 1
  · rw [if_pos (by omega), if_neg h2, wrap64_id (x := (n : Int) + 1) (by omega) (by omega), wrap64_id (x := -((n : Int) + 1)) (by omega) (by omega), Int.neg_tdiv, tdiv_nn (by omega), wrap64_id (by omega) (by omega)]
    congr 1
/-- The number of which n is what it is without its sign. -/
def openN (n : Nat) : Int := if n % 2 = 0 then ((n / 2 : Nat) : Int) else -(((n + 1) / 2 : Nat) : Int)
theorem spec_l1Open_eq {n : Nat} (h : n ≤ 100000000000) : spec_l1Open.f (n : Int) = some (openN n) := openN_eq1 h
theorem impl_open_eq {n : Nat} (h : n ≤ 100000000000) : impl_open.f (n : Int) = some (openN n) := by
  rw [← spec_l1Open_eq h]
  unfold spec_l1Open.f impl_open.f
  rw [tmod_nn (by omega)]
  by_cases h2 : n % 2 = 0
  · rw [if_pos (by omega), if_neg (by omega)]
  · rw [if_neg (by omega), if_pos (by omega)]
theorem foldN_open (n : Nat) : foldN (openN n) = n := by
  unfold foldN openN
  by_cases h2 : n % 2 = 0
  · rw [if_pos h2, if_neg (by omega)]
    omega
  · rw [if_neg h2, if_pos (by omega)]
    omega
theorem openN_foldN (x : Int) : openN (foldN x) = x := by
  unfold foldN openN
  by_cases h2 : x < 0
  · rw [if_pos h2, if_neg (by omega)]
    omega
  · rw [if_neg h2, if_pos (by omega)]
    omega
theorem openN_range {n : Nat} (h : n ≤ 2000000000) : -1000000000 ≤ openN n ∧ openN n ≤ 1000000000 := by
  unfold openN
  split <;> omega

/-! #### Bytes as digits -/
/-- What bytes of seven bits each come to, the lowest first. -/
def val : List Nat → Nat
  | [] => 0
  | c :: t => c % 128 + 128 * val t
/-- All but the last one are from 128 on, the last one is below. -/
def endsOk : List Nat → Prop
  | [] => False
  | [c] => c < 128
  | c :: t => 128 ≤ c ∧ endsOk t
def lastN : List Nat → Nat
  | [] => 0
  | [c] => c
  | _ :: t => lastN t
def ints (l : List Nat) : List Int := l.map fun (n : Nat) => (n : Int)
theorem val_zero_last : ∀ (l : List Nat), endsOk l → val l = 0 → lastN l = 0
  | [], h, _ => h.elim
  | [c], h, hv => by
    simp only [val, endsOk, lastN] at *
    omega
  | c :: d :: t, h, hv => by
    simp only [lastN]
    have h2 : endsOk (d :: t) := h.2
    refine val_zero_last (d :: t) h2 ?_
    have : val (c :: d :: t) = c % 128 + 128 * val (d :: t) := rfl
    omega
theorem nb_canon : ∀ (l : List Nat), endsOk l → (∀ c ∈ l, c ≤ 255) → (nb (val l) = ints l ↔ l.length = 1 ∨ 0 < lastN l)
  | [], h, _ => h.elim
  | [c], h, _ => by
    have h1 : c < 128 := h
    have e : val [c] = c := by simp only [val]; omega
    rw [e, nb_small h1]
    simp [ints]
  | c :: d :: t, h, hb => by
    have h1 : 128 ≤ c := h.1
    have h2 : endsOk (d :: t) := h.2
    have hc := hb c (by simp)
    have e : val (c :: d :: t) = c % 128 + 128 * val (d :: t) := rfl
    have el : lastN (c :: d :: t) = lastN (d :: t) := rfl
    have ih := nb_canon (d :: t) h2 (fun x hx => hb x (List.mem_cons_of_mem _ hx))
    rw [el]
    by_cases hv : val (d :: t) = 0
    · have hl := val_zero_last _ h2 hv
      rw [hl, e, hv, nb_small (by omega)]
      simp [ints]
    · rw [e, nb_big (by omega)]
      have e1 : (c % 128 + 128 * val (d :: t)) % 128 + 128 = c := by omega
      have e2 : (c % 128 + 128 * val (d :: t)) / 128 = val (d :: t) := by omega
      rw [e1, e2]
      have e3 : ints (c :: d :: t) = (c : Int) :: ints (d :: t) := rfl
      rw [e3, List.cons_inj_right, ih]
      constructor
      · rintro (hl | hl)
        · have : t = [] := by
            cases t with
            | nil => rfl
            | cons a b => simp at hl
          subst this
          refine .inr ?_
          simp only [lastN]
          simp only [val] at hv
          omega
        · exact .inr hl
      · rintro (hl | hl)
        · simp at hl
        · exact .inr hl
theorem nb_ends (x : Nat) : ∃ (l : List Int) (c : Int), nb x = l ++ [c] ∧ c < 128 := by
  induction x using Nat.strongRecOn with
  | ind x ih =>
    by_cases h : x < 128
    · exact ⟨[], x, by rw [nb_small h]; rfl, by omega⟩
    · obtain ⟨l, c, e, hc⟩ := ih (x / 128) (by omega)
      exact ⟨_ :: l, c, by rw [nb_big h, e]; rfl, hc⟩
theorem nb_range (x : Nat) : ∀ y ∈ nb x, 0 ≤ y ∧ y < 256 := by
  induction x using Nat.strongRecOn with
  | ind x ih =>
    intro y hy
    by_cases h : x < 128
    · rw [nb_small h] at hy
      simp at hy
      omega
    · rw [nb_big h] at hy
      rcases List.mem_cons.1 hy with rfl | hy
      · omega
      · exact ih (x / 128) (by omega) y hy
/-- The bytes from a on, as many as told. -/
def bl (s : ByteArray) (a : Nat) : Nat → List Nat
  | 0 => []
  | m + 1 => byN s a :: bl s (a + 1) m
theorem bl_length (s : ByteArray) (m : Nat) : ∀ a, (bl s a m).length = m := by
  induction m with
  | zero => intro a; rfl
  | succ m ih => intro a; simp [bl, ih]
theorem bl_le (s : ByteArray) (m : Nat) : ∀ a, ∀ c ∈ bl s a m, c ≤ 255 := by
  induction m with
  | zero => intro a c h; cases h
  | succ m ih =>
    intro a c h
    rcases List.mem_cons.1 h with rfl | h
    · exact byN_le s a
    · exact ih _ c h
theorem bl_get (s : ByteArray) (m : Nat) : ∀ a i, i < m → (bl s a m)[i]? = some (byN s (a + i)) := by
  induction m with
  | zero => intro a i h; omega
  | succ m ih =>
    intro a i h
    cases i with
    | zero => rfl
    | succ i =>
      have := ih (a + 1) i (by omega)
      simp only [bl, List.getElem?_cons_succ, this]
      congr 2
      omega
theorem strOf_extract {xs : List Int} (hx : ∀ y ∈ xs, 0 ≤ y ∧ y < 256) (s : ByteArray) (a m : Nat) (h : a + m ≤ s.size) : strOfNums xs = s.extract a (a + m) ↔ xs = ints (bl s a m) := by
  have hsz : (s.extract a (a + m)).size = m := by
    rw [ByteArray.size_extract]
    omega
  have hat : ∀ i (hi : i < m), (s.extract a (a + m)).data.toList[i]? = some (s.data.toList[a + i]'(by rw [Array.length_toList]; show a + i < s.size; omega)) := fun i hi => by
    rw [List.getElem?_eq_getElem (by rw [Array.length_toList]; show i < (s.extract a (a + m)).size; omega)]
    simp [ByteArray.data_extract]
  have hby : ∀ i (hi : i < m), ((s.data.toList[a + i]'(by rw [Array.length_toList]; show a + i < s.size; omega)).toNat : Int) = (byN s (a + i) : Int) := fun i hi => by
    rw [← byN_eq]
    have hlt : (((a + i : Nat) : Int)).toNat < s.size := by omega
    rw [← bt_at s ((a + i : Nat) : Int) hlt]
    rfl
  constructor
  · intro e
    have el : xs.length = m := by rw [← strOfNums_size, e, hsz]
    apply List.ext_getElem?
    intro i
    by_cases hi : i < m
    · have e1 : (strOfNums xs).data.toList[i]? = (s.extract a (a + m)).data.toList[i]? := by rw [e]
      rw [hat i hi] at e1
      simp only [strOfNums, List.getElem?_map] at e1
      rw [List.getElem?_eq_getElem (by omega)] at e1 ⊢
      simp only [Option.map_some, Option.some.injEq] at e1
      have h0 := hx xs[i] (List.getElem_mem (by omega))
      have e2 := congrArg (fun u : UInt8 => (u.toNat : Int)) e1
      simp only [hby i hi, UInt8.toNat_ofNat'] at e2
      rw [ints, List.getElem?_map, bl_get s m a i hi]
      simp only [Option.map_some, Option.some.injEq]
      omega
    · rw [List.getElem?_eq_none (by omega), ints, List.getElem?_map, List.getElem?_eq_none (by rw [bl_length]; omega)]
      rfl
  · intro e
    apply ByteArray.ext
    apply Array.toList_inj.1
    apply List.ext_getElem?
    intro i
    by_cases hi : i < m
    · rw [hat i hi]
      simp only [strOfNums, List.getElem?_map]
      rw [e, ints, List.getElem?_map, bl_get s m a i hi]
      simp only [Option.map_some, Option.some.injEq]
      apply UInt8.toNat_inj.1
      have h2 := hby i hi
      have h3 := byN_le s (a + i)
      rw [UInt8.toNat_ofNat']
      omega
    · rw [List.getElem?_eq_none (by rw [Array.length_toList]; show (strOfNums xs).size ≤ i; rw [strOfNums_size, e, ints, List.length_map, bl_length]; omega), List.getElem?_eq_none (by rw [Array.length_toList]; show (s.extract a (a + m)).size ≤ i; omega)]

/-! #### What stands at a place -/
/-- From the k-th byte on, n read so far: what comes to be read, how many bytes, and the last byte. -/
def rnF (s : ByteArray) (a : Nat) : Nat → Nat → Nat → Option (Nat × Nat × Nat)
  | 0, _, _ => none
  | d + 1, k, n => if a + k < s.size then (if byN s (a + k) < 128 then some (n + byN s (a + k) * 128 ^ k, k + 1, byN s (a + k)) else rnF s a d (k + 1) (n + byN s (a + k) % 128 * 128 ^ k)) else none
theorem rnF_list (s : ByteArray) (a : Nat) : ∀ (d k n n' k' c : Nat), rnF s a d k n = some (n', k', c) → ∃ m, k' = k + m ∧ a + k' ≤ s.size ∧ m ≤ d ∧ n' = n + val (bl s (a + k) m) * 128 ^ k ∧ endsOk (bl s (a + k) m) ∧ lastN (bl s (a + k) m) = c
  | 0, k, n, n', k', c, h => by simp [rnF] at h
  | d + 1, k, n, n', k', c, h => by
    simp only [rnF] at h
    split at h
    · rename_i h1
      split at h
      · rename_i h2
        simp only [Option.some.injEq, Prod.mk.injEq] at h
        obtain ⟨rfl, rfl, rfl⟩ := h
        refine ⟨1, rfl, by omega, by omega, ?_, h2, rfl⟩
        simp only [bl, val]
        rw [Nat.mod_eq_of_lt h2]
        simp
      · rename_i h2
        obtain ⟨m, rfl, h3, h4, h5, h6, h7⟩ := rnF_list s a d (k + 1) _ n' k' c h
        have e : a + k + 1 = a + (k + 1) := by omega
        refine ⟨m + 1, by omega, by omega, by omega, ?_, ?_, ?_⟩
        · rw [h5]
          simp only [bl, val, e]
          rw [Nat.pow_succ, Nat.add_mul, Nat.add_assoc]
          congr 2
          rw [Nat.mul_comm (128 ^ k) 128, ← Nat.mul_assoc, Nat.mul_comm (val _) 128]
        · simp only [bl, e]
          cases m with
          | zero => exact h6.elim
          | succ m => exact ⟨by omega, h6⟩
        · simp only [bl, e]
          cases m with
          | zero => exact h6.elim
          | succ m => exact h7
    · simp at h
theorem val_snoc (s : ByteArray) (m : Nat) : ∀ a, val (bl s a (m + 1)) = val (bl s a m) + byN s (a + m) % 128 * 128 ^ m := by
  induction m with
  | zero => intro a; simp [bl, val]
  | succ m ih =>
    intro a
    have h := ih (a + 1)
    have e : a + 1 + m = a + (m + 1) := by omega
    rw [show bl s a (m + 1 + 1) = byN s a :: bl s (a + 1) (m + 1) from rfl, show bl s a (m + 1) = byN s a :: bl s (a + 1) m from rfl]
    simp only [val]
    rw [h, e, Nat.pow_succ, Nat.mul_add, ← Nat.add_assoc]
    congr 1
    rw [Nat.mul_comm (128 ^ m) 128, ← Nat.mul_assoc, ← Nat.mul_assoc, Nat.mul_comm 128]
theorem ends_of (s : ByteArray) (m : Nat) : ∀ a, (∀ i, i < m → 128 ≤ byN s (a + i)) → byN s (a + m) < 128 → endsOk (bl s a (m + 1)) ∧ lastN (bl s a (m + 1)) = byN s (a + m) := by
  induction m with
  | zero => intro a _ h; exact ⟨h, rfl⟩
  | succ m ih =>
    intro a hall h
    have e : a + 1 + m = a + (m + 1) := by omega
    obtain ⟨h1, h2⟩ := ih (a + 1) (fun i hi => by have := hall (i + 1) (by omega); rwa [show a + (i + 1) = a + 1 + i from by omega] at this) (by rw [e]; exact h)
    rw [e] at h2
    exact ⟨⟨by simpa using hall 0 (by omega), h1⟩, h2⟩
theorem nb_five (s : ByteArray) (a n : Nat) (hall : ∀ i, i < 5 → 128 ≤ byN s (a + i)) : nb n ≠ ints (bl s a 5) := by
  intro e
  obtain ⟨l, c, h1, h2⟩ := nb_ends n
  rw [h1] at e
  have hl := congrArg List.length e
  simp only [List.length_append, List.length_cons, List.length_nil, ints, List.length_map, bl_length] at hl
  have h3 := congrArg (fun z : List Int => z[4]?) e
  simp only [ints, List.getElem?_map, bl_get s 5 a 4 (by omega), Option.map_some] at h3
  rw [List.getElem?_append_right (by omega)] at h3
  have e4 : 4 - l.length = 0 := by omega
  rw [e4] at h3
  simp at h3
  have := hall 4 (by omega)
  omega
theorem or_shift (m : Nat) (hm : m ≤ 28) (n x : Nat) (hn : n < 2 ^ m) (hx : x < 128) : Go.bits .or .i64 (n : Int) (shl .i64 (x : Int) (m : Int)) = ((n + x * 2 ^ m : Nat) : Int) := by
  have hp : 2 ^ m ≤ 2 ^ 28 := Nat.pow_le_pow_right (by decide) hm
  have hxm : x * 2 ^ m ≤ 127 * 2 ^ 28 := Nat.mul_le_mul (by omega) hp
  have hb : (IntKind.i64.bits : Nat) = 64 := rfl
  have e : shl .i64 (x : Int) (m : Int) = ((x * 2 ^ m : Nat) : Int) := by
    unfold shl
    rw [hb, Int.toNat_natCast, Nat.min_eq_left (by omega)]
    have e2 : (x : Int) * 2 ^ m = ((x * 2 ^ m : Nat) : Int) := by push_cast; rfl
    rw [e2]
    exact wraps_i64 _ (by omega) (by omega)
  have hc : Go.bits .or .i64 (n : Int) ((x * 2 ^ m : Nat) : Int) = Go.bits .or .i64 ((x * 2 ^ m : Nat) : Int) (n : Int) := by
    unfold Go.bits
    simp only [BitVec.or_comm]
  rw [e, hc, bits_join .i64 63 (by decide) wraps_i64 m _ _ (by omega) (by exact_mod_cast Nat.mul_mod_left x (2 ^ m)) (by omega) (by omega) (by exact_mod_cast hn) (by omega)]
  omega
theorem pow_128 (k : Nat) : 2 ^ (7 * k) = 128 ^ k := by
  rw [Nat.pow_mul]
theorem or_shift128 (k : Nat) (hk : k ≤ 4) (n x : Nat) (hn : n < 128 ^ k) (hx : x < 128) : Go.bits .or .i64 (n : Int) (shl .i64 (x : Int) ((7 * k : Nat) : Int)) = ((n + x * 128 ^ k : Nat) : Int) := by
  have h := or_shift (7 * k) (by omega) n x (by rw [pow_128]; exact hn) hx
  have e : n + x * 2 ^ (7 * k) = n + x * 128 ^ k := by rw [pow_128]
  exact h.trans (congrArg (fun z : Nat => (z : Int)) e)
def irV (a : Nat) : Option (Nat × Nat × Nat) → Int × Int × Bool
  | none => (0, 0, false)
  | some (n, k, c) => (openN n, ((a + k : Nat) : Int), decide (n ≤ 2000000000 ∧ (k = 1 ∨ 0 < c)))
theorem impl_readNum_l0 (s : ByteArray) (hs : s.size ≤ 1000000) (a : Nat) (ha : a ≤ 1000000) : ∀ d k n : Nat, k + d = 5 → n < 128 ^ k → Ev (fun q => impl_readNum.l0 q s (a : Int) (n : Int) (k : Int)) (irV a (rnF s a d k n))
  | 0, k, n, hk, hn => by
    refine evSucc ?_
    simp only [impl_readNum.l0]
    refine evNeg (by omega) (evSucc ?_)
    simp only [impl_readNum.j1]
    exact evNeg (by simp) (evNow rfl)
  | d + 1, k, n, hk, hn => by
    refine evSucc ?_
    simp only [impl_readNum.l0]
    have e1 : wrap64 ((a : Int) + (k : Int)) = ((a + k : Nat) : Int) := by rw [wrap64_id] <;> omega
    have e7 : wrap64 (7 * (k : Int)) = ((7 * k : Nat) : Int) := by rw [wrap64_id] <;> omega
    refine evPos (by omega) (evSucc ?_)
    simp only [impl_readNum.j1, e1]
    by_cases h : a + k < s.size
    · refine evPos (decide_eq_true (by omega)) (evPos (by omega) (evPos (by omega) ?_))
      simp only [e7, byN_eq]
      have hc := byN_le s (a + k)
      have hk4 : k ≤ 4 := by omega
      have ew : wrap64 ((byN s (a + k) % 128 : Nat) : Int) = ((byN s (a + k) % 128 : Nat) : Int) := wrap64_id (by omega) (by omega)
      have em : Go.bits .and .u8 (byN s (a + k) : Int) 127 = ((byN s (a + k) % 128 : Nat) : Int) := by
        have em0 : Go.bits .and .u8 (byN s (a + k) : Int) 127 = (byN s (a + k) : Int) % 128 := bits_mask .u8 8 (by decide) wraps_u8 7 (by decide) (byN s (a + k) : Int) (by omega) (by omega)
        rw [em0]
        omega
      have hc7 : byN s (a + k) % 128 ≤ 127 := Nat.le_of_lt_succ (Nat.mod_lt _ (by decide))
      have eo : Go.bits .or .i64 (n : Int) (shl .i64 ((byN s (a + k) % 128 : Nat) : Int) ((7 * k : Nat) : Int)) = ((n + byN s (a + k) % 128 * 128 ^ k : Nat) : Int) := by
        exact or_shift128 k hk4 n _ hn (Nat.mod_lt _ (by decide))
      simp only [em, ew, eo]
      clear em ew eo
      refine evPos (by omega) ?_
      have hp : 128 ^ k ≤ 128 ^ 4 := Nat.pow_le_pow_right (by decide) hk4
      have hq : byN s (a + k) % 128 * 128 ^ k ≤ 127 * 128 ^ k := Nat.mul_le_mul_right _ hc7
      have hp2 : 128 ^ (k + 1) = 128 * 128 ^ k := by rw [Nat.pow_succ, Nat.mul_comm]
      have hb1 : n + byN s (a + k) % 128 * 128 ^ k ≤ 100000000000 := by
        clear e1 e7 hc hc7
        omega
      have hb2 : n + byN s (a + k) % 128 * 128 ^ k < 128 ^ (k + 1) := by
        clear e1 e7 hc hc7
        omega
      clear hp hq hp2 hn
      by_cases h2 : byN s (a + k) < 128
      · have e3 : byN s (a + k) % 128 = byN s (a + k) := by omega
        have e4 : wrap64 (((a + k : Nat) : Int) + 1) = ((a + (k + 1) : Nat) : Int) := by rw [wrap64_id] <;> omega
        have er : irV a (rnF s a (d + 1) k n) = (openN (n + byN s (a + k) % 128 * 128 ^ k), ((a + (k + 1) : Nat) : Int), decide (n + byN s (a + k) % 128 * 128 ^ k ≤ 2000000000 ∧ (k + 1 = 1 ∨ 0 < byN s (a + k)))) := by
          simp only [rnF, h, h2, if_true, irV, e3]
        rw [er]
        refine evPos (by omega) (evC (impl_open_eq hb1) ?_)
        simp only [e4]
        by_cases h3 : n + byN s (a + k) % 128 * 128 ^ k ≤ 2000000000
        · refine evPos (by omega) ?_
          by_cases h4 : k = 0
          · refine evPos (by omega) (evNow ?_)
            rw [decide_eq_true (by omega)]
          · refine evNeg (by omega) (evNow ?_)
            congr 2
            apply decide_eq_decide.2
            omega
        · refine evNeg (by omega) (evNow ?_)
          rw [decide_eq_false (by omega)]
      · have er : irV a (rnF s a (d + 1) k n) = irV a (rnF s a d (k + 1) (n + byN s (a + k) % 128 * 128 ^ k)) := by
          simp only [rnF, h, h2, if_true, if_false]
        rw [er]
        have e5 : wrap64 ((k : Int) + 1) = ((k + 1 : Nat) : Int) := wrap64_nat k (by omega)
        refine evNeg (by omega) ?_
        simp only [e5]
        exact impl_readNum_l0 s hs a ha d (k + 1) _ (by omega) hb2
    · refine evNeg (by simp; omega) (evNow ?_)
      simp only [rnF, h, if_false, irV]
theorem impl_readNum_ev (s : ByteArray) (hs : s.size ≤ 1000000) (a : Nat) (ha : a ≤ 1000000) : Ev (fun q => impl_readNum.f q s (a : Int)) (irV a (rnF s a 5 0 0)) := by
  simp only [impl_readNum.f]
  exact impl_readNum_l0 s hs a ha 5 0 0 (by omega) (by simp)
/-- What the reference tells of what was read. -/
def SpecReads (s : ByteArray) (a : Nat) (o : Option (Nat × Nat × Nat)) (r : Int × ByteArray × Int × Bool) : Prop :=
  match o with
  | some (n, k, c) => if n ≤ 2000000000 ∧ (k = 1 ∨ 0 < c) then r = (openN n, s, ((a + k : Nat) : Int), false) else r.2.2.2 = true
  | none => r.2.2.2 = true
theorem spec_num_j1 (s : ByteArray) (hs : s.size ≤ 1000000) (a n m : Nat) (hm : a + m ≤ s.size) (hn : n ≤ 100000000000) (p : Prop) [Decidable p] (hp : n ≤ 2000000000 → (strOfNums (nb n) = s.extract a (a + m) ↔ p)) :
    ∃ r, Ev (fun q => spec_l1B_num.j1 q (a : Int) (n : Int) s ((a + m : Nat) : Int) false) r ∧ (if n ≤ 2000000000 ∧ p then r = (openN n, s, ((a + m : Nat) : Int), false) else r.2.2.2 = true) := by
  by_cases h1 : n ≤ 2000000000
  · have hr := openN_range h1
    have eb := spec_l1NumBytes_ev hr.1 hr.2
    rw [foldN_open] at eb
    by_cases h2 : p
    · refine ⟨(openN n, s, ((a + m : Nat) : Int), false), ?_, by rw [if_pos ⟨h1, h2⟩]⟩
      refine evSucc ?_
      simp only [spec_l1B_num.j1]
      refine evNeg (by simp) (evNeg (by omega) (evC (spec_l1Open_eq hn) (evB eb (evPos (by omega) (evPos (by omega) (evPos (by omega) (evPos ?_ (evC (spec_l1Open_eq hn) (evNow rfl)))))))))
      simp only [Int.toNat_natCast, (hp h1).2 h2]
    · refine ⟨(0, s, ((a + m : Nat) : Int), true), ?_, by rw [if_neg (fun H => h2 H.2)]⟩
      refine evSucc ?_
      simp only [spec_l1B_num.j1]
      refine evNeg (by simp) (evNeg (by omega) (evC (spec_l1Open_eq hn) (evB eb (evPos (by omega) (evPos (by omega) (evPos (by omega) (evNeg ?_ (evNow rfl))))))))
      intro e
      simp only [Int.toNat_natCast] at e
      exact h2 ((hp h1).1 (toList_inj e))
  · refine ⟨(0, s, ((a + m : Nat) : Int), true), ?_, by rw [if_neg (fun H => h1 H.1)]⟩
    refine evSucc ?_
    simp only [spec_l1B_num.j1]
    exact evNeg (by simp) (evPos (by omega) (evNow rfl))
theorem num_step (c n k : Nat) (hp : 128 ^ k ≤ 128 ^ 4) (hn : n < 128 ^ k) (hc : c % 128 ≤ 127) :
    wrap64 ((n : Int) + wrap64 (Int.tmod (c : Int) 128 * ((128 ^ k : Nat) : Int))) = ((n + c % 128 * 128 ^ k : Nat) : Int) ∧ wrap64 (((128 ^ k : Nat) : Int) * 128) = ((128 ^ (k + 1) : Nat) : Int) ∧ n + c % 128 * 128 ^ k ≤ 100000000000 ∧ n + c % 128 * 128 ^ k < 128 ^ (k + 1) := by
  have hq : c % 128 * 128 ^ k ≤ 127 * 128 ^ k := Nat.mul_le_mul_right _ hc
  have et : Int.tmod (c : Int) 128 * ((128 ^ k : Nat) : Int) = ((c % 128 * 128 ^ k : Nat) : Int) := by
    rw [tmod_nn (by omega)]
    push_cast
    rfl
  have hp2 : 128 ^ (k + 1) = 128 ^ k * 128 := Nat.pow_succ ..
  rw [et, hp2]
  generalize c % 128 * 128 ^ k = q at *
  generalize 128 ^ k = p at *
  clear et hc hp2
  refine ⟨?_, ?_, by omega, by omega⟩
  · rw [wrap64_id (x := (q : Int)) (by omega) (by omega), wrap64_id (by omega) (by omega)]
    omega
  · rw [wrap64_id (by omega) (by omega)]
    omega
theorem spec_num_l0 (s : ByteArray) (hs : s.size ≤ 1000000) (a : Nat) (ha : a ≤ 1000000) : ∀ d k n : Nat, k + d = 5 → n < 128 ^ k → (∀ i, i < k → 128 ≤ byN s (a + i)) → n = val (bl s a k) → a + k ≤ s.size →
    ∃ r, Ev (fun q => spec_l1B_num.l0 q (a : Int) (n : Int) ((128 ^ k : Nat) : Int) (k : Int) s ((a + k : Nat) : Int) false) r ∧ SpecReads s a (rnF s a d k n) r
  | 0, k, n, hk, hn, hall, hv, hsz => by
    have hk5 : k = 5 := by omega
    subst hk5
    obtain ⟨r, h1, h2⟩ := spec_num_j1 s hs a n 5 hsz (by omega) False (fun _ => ⟨fun e => nb_five s a n hall ((strOf_extract (nb_range n) s a 5 hsz).1 e), fun h => h.elim⟩)
    rw [if_neg (fun H => H.2)] at h2
    refine ⟨r, ?_, h2⟩
    refine evSucc ?_
    simp only [spec_l1B_num.l0]
    exact evNeg (by omega) h1
  | d + 1, k, n, hk, hn, hall, hv, hsz => by
    by_cases h : a + k < s.size
    · have hc := byN_le s (a + k)
      have hp : 128 ^ k ≤ 128 ^ 4 := Nat.pow_le_pow_right (by decide) (by omega)
      have hc7 : byN s (a + k) % 128 ≤ 127 := Nat.le_of_lt_succ (Nat.mod_lt _ (by decide))
      have E := Aside0.mk (num_step (byN s (a + k)) n k hp hn hc7)
      clear hp hc7 hn
      have e3 : wrap64 ((k : Int) + 1) = ((k + 1 : Nat) : Int) := wrap64_nat k (by omega)
      have e4 : a + k + 1 = a + (k + 1) := by omega
      have hb : spec_l1B_byte1.f s ((a + k : Nat) : Int) false = some ((byN s (a + k) : Int), s, ((a + (k + 1) : Nat) : Int), false) := by
        rw [spec_l1B_byte1_eq s hs (a + k), if_pos h, e4]
      have hv2 : n + byN s (a + k) % 128 * 128 ^ k = val (bl s a (k + 1)) := by rw [val_snoc, hv]
      by_cases h2 : byN s (a + k) < 128
      · obtain ⟨h3, h4⟩ := ends_of s k a hall h2
        have e5 : byN s (a + k) % 128 = byN s (a + k) := Nat.mod_eq_of_lt h2
        have hcan := nb_canon _ h3 (bl_le s (k + 1) a)
        rw [h4, ← hv2, bl_length] at hcan
        obtain ⟨r, h5, h6⟩ := spec_num_j1 s hs a (n + byN s (a + k) % 128 * 128 ^ k) (k + 1) (by omega) E.out.2.2.1 (k + 1 = 1 ∨ 0 < byN s (a + k)) (fun _ => (strOf_extract (nb_range _) s a (k + 1) (by omega)).trans hcan)
        refine ⟨r, ?_, ?_⟩
        · refine evSucc ?_
          simp only [spec_l1B_num.l0]
          refine evPos (by omega) (evC hb ?_)
          simp only [E.out.1]
          exact evPos (by omega) h5
        · simp only [SpecReads, rnF, h, h2, if_true]
          rw [e5] at h6
          exact h6
      · obtain ⟨r, h5, h6⟩ := spec_num_l0 s hs a ha d (k + 1) (n + byN s (a + k) % 128 * 128 ^ k) (by omega) E.out.2.2.2 (fun i hi => by
          by_cases e : i = k
          · subst e; omega
          · exact hall i (by omega)) hv2 (by omega)
        refine ⟨r, ?_, ?_⟩
        · refine evSucc ?_
          simp only [spec_l1B_num.l0]
          refine evPos (by omega) (evC hb ?_)
          simp only [E.out.1, E.out.2.1, e3]
          exact evNeg (by omega) h5
        · simp only [rnF, h, h2, if_true, if_false]
          exact h6
    · refine ⟨(0, s, ((a + k : Nat) : Int), true), ?_, by simp only [SpecReads, rnF, h, if_false]⟩
      refine evSucc ?_
      simp only [spec_l1B_num.l0]
      have hb : spec_l1B_byte1.f s ((a + k : Nat) : Int) false = some (0, s, ((a + k : Nat) : Int), true) := by
        rw [spec_l1B_byte1_eq s hs (a + k), if_neg h]
      refine evPos (by omega) (evC hb (evPos (by omega) (evSucc ?_)))
      simp only [spec_l1B_num.j1]
      exact evPos (by first | rfl | trivial) (evNow rfl)
theorem spec_l1B_num_ev (s : ByteArray) (hs : s.size ≤ 1000000) (a : Nat) (ha : a ≤ s.size) : ∃ r, Ev (fun q => spec_l1B_num.f q s (a : Int) false) r ∧ SpecReads s a (rnF s a 5 0 0) r := by
  simp only [spec_l1B_num.f]
  exact spec_num_l0 s hs a (by omega) 5 0 0 (by omega) (by simp) (fun i hi => by omega) rfl (by omega)
def readNumV (s : ByteArray) (a : Int) : Int × Int × Bool := if placeOk s a = true ∧ (irV a.toNat (rnF s a.toNat 5 0 0)).2.2 = true then ((irV a.toNat (rnF s a.toNat 5 0 0)).1, (irV a.toNat (rnF s a.toNat 5 0 0)).2.1, true) else (0, 0, false)
theorem impl_ReadNum_ev (s : ByteArray) (a : Int) : Ev (fun k => impl_ReadNum.f k s a) (readNumV s a) := by
  simp only [impl_ReadNum.f, impl_isAt_eq, Option.bind_some]
  by_cases h : placeOk s a = true
  · have h2 := of_decide_eq_true h
    obtain ⟨n, rfl⟩ := Int.eq_ofNat_of_zero_le h2.2.1
    refine evPos h (evB (impl_readNum_ev s (by omega) n (by omega)) ?_)
    by_cases h3 : (irV n (rnF s n 5 0 0)).2.2 = true
    · exact evPos h3 (evNow (if_pos ⟨h, h3⟩).symm)
    · exact evNeg h3 (evNow (if_neg fun H => h3 H.2).symm)
  · exact evNeg h (evNow (if_neg fun H => h H.1).symm)
theorem spec_ReadNum_ev (s : ByteArray) (a : Int) : Ev (fun k => spec_ReadNum.f k s a) (readNumV s a) := by
  simp only [spec_ReadNum.f, spec_l1Place_eq, Option.bind_some]
  by_cases h : placeOk s a = true
  · have h2 := of_decide_eq_true h
    obtain ⟨n, rfl⟩ := Int.eq_ofNat_of_zero_le h2.2.1
    obtain ⟨r, h3, h4⟩ := spec_l1B_num_ev s (by omega) n (by omega)
    refine evPos h (evB h3 ?_)
    have key : (r.2.2.2 = true ∧ (irV n (rnF s n 5 0 0)).2.2 = false) ∨ (r.2.2.2 = false ∧ (irV n (rnF s n 5 0 0)).2.2 = true ∧ r.1 = (irV n (rnF s n 5 0 0)).1 ∧ r.2.2.1 = (irV n (rnF s n 5 0 0)).2.1) := by
      generalize rnF s n 5 0 0 = o at h4 ⊢
      match o, h4 with
      | none, h4 => exact .inl ⟨h4, rfl⟩
      | some (m, k, c), h4 =>
        simp only [SpecReads] at h4
        by_cases hc : m ≤ 2000000000 ∧ (k = 1 ∨ 0 < c)
        · rw [if_pos hc] at h4
          subst h4
          exact .inr ⟨rfl, decide_eq_true hc, rfl, rfl⟩
        · rw [if_neg hc] at h4
          exact .inl ⟨h4, decide_eq_false hc⟩
    rcases key with ⟨k1, k2⟩ | ⟨k1, k2, k3, k4⟩
    · refine evPos k1 (evNow (if_neg fun H => ?_).symm)
      have := H.2
      simp only [Int.ofNat_eq_natCast, Int.toNat_natCast] at this
      rw [k2] at this
      cases this
    · refine evNeg (by rw [k1]; simp) (evNow ?_)
      rw [k3, k4]
      exact (if_pos ⟨h, k2⟩).symm
  · exact evNeg h (evNow (if_neg fun H => h H.1).symm)

/-! ### signs -/
def foldSignV (n : Int) : Int × Bool := if -1000000000 ≤ n ∧ n ≤ 1000000000 then ((foldN n : Int), true) else (0, false)
theorem spec_FoldSign_eq (n : Int) : spec_FoldSign.f n = some (foldSignV n) := by
  simp only [spec_FoldSign.f, spec_l1In_eq, Option.bind_some]
  by_cases h : -1000000000 ≤ n ∧ n ≤ 1000000000
  · rw [if_pos (decide_eq_true h), spec_l1Fold_eq h.1 h.2, foldSignV, if_pos h]
    rfl
  · rw [if_neg (by simpa using h), foldSignV, if_neg h]
theorem impl_FoldSign_eq (n : Int) : impl_FoldSign.f n = some (foldSignV n) := by
  simp only [impl_FoldSign.f, impl_isWhole.f, impl_in_eq, Option.bind_some]
  by_cases h : -1000000000 ≤ n ∧ n ≤ 1000000000
  · rw [if_pos (decide_eq_true h), impl_fold_eq h.1 h.2, foldSignV, if_pos h]
    rfl
  · rw [if_neg (by simpa using h), foldSignV, if_neg h]
def openSignV (n : Int) : Int × Bool := if 0 ≤ n ∧ n ≤ 2000000000 then (openN n.toNat, true) else (0, false)
theorem spec_OpenSign_eq (n : Int) : spec_OpenSign.f n = some (openSignV n) := by
  simp only [spec_OpenSign.f, spec_l1In_eq, Option.bind_some]
  by_cases h : 0 ≤ n ∧ n ≤ 2000000000
  · obtain ⟨m, rfl⟩ := Int.eq_ofNat_of_zero_le h.1
    rw [if_pos (decide_eq_true h), spec_l1Open_eq (by omega), openSignV, if_pos h]
    rfl
  · rw [if_neg (by simpa using h), openSignV, if_neg h]
theorem impl_OpenSign_eq (n : Int) : impl_OpenSign.f n = some (openSignV n) := by
  simp only [impl_OpenSign.f, impl_in_eq, Option.bind_some]
  by_cases h : 0 ≤ n ∧ n ≤ 2000000000
  · obtain ⟨m, rfl⟩ := Int.eq_ofNat_of_zero_le h.1
    rw [if_pos (decide_eq_true h), impl_open_eq (by omega), openSignV, if_pos h]
    rfl
  · rw [if_neg (by simpa using h), openSignV, if_neg h]

theorem nb_len (d : Nat) : ∀ x, x < 128 ^ (d + 1) → (nb x).length ≤ d + 1 := by
  induction d with
  | zero => intro x h; rw [nb_small (by omega)]; simp
  | succ d ih =>
    intro x h
    by_cases hx : x < 128
    · rw [nb_small hx]; simp
    · rw [nb_big hx]
      have := ih (x / 128) (by rw [Nat.pow_succ] at h; omega)
      simp only [List.length_cons]
      omega
theorem nb_pos (x : Nat) : 1 ≤ (nb x).length := by
  by_cases hx : x < 128
  · rw [nb_small hx]; simp
  · rw [nb_big hx]; simp
theorem digit_sum (x P : Nat) : x % 128 * P + x / 128 * (P * 128) = x * P := by
  have h := Nat.mod_add_div x 128
  calc x % 128 * P + x / 128 * (P * 128) = (x % 128 + 128 * (x / 128)) * P := by rw [Nat.add_mul, Nat.mul_comm P 128, ← Nat.mul_assoc, Nat.mul_comm (x / 128) 128]
    _ = x * P := by rw [h]
theorem rnF_nb (s : ByteArray) (a : Nat) (x : Nat) : ∀ (d k n : Nat), (nb x).length ≤ d → a + k + (nb x).length ≤ s.size → (∀ i, i < (nb x).length → (nb x)[i]? = some ((byN s (a + k + i) : Nat) : Int)) →
    ∃ c, rnF s a d k n = some (n + x * 128 ^ k, k + (nb x).length, c) ∧ (0 < x → 0 < c) := by
  induction x using Nat.strongRecOn with
  | ind x ih =>
    intro d k n hd hs hall
    have hp := nb_pos x
    cases d with
    | zero => omega
    | succ d =>
      have h0 := hall 0 (by omega)
      simp only [Nat.add_zero] at h0
      have hlt : a + k < s.size := by omega
      by_cases hx : x < 128
      · rw [nb_small hx] at h0 ⊢
        simp only [List.getElem?_cons_zero, Option.some.injEq] at h0
        have hb : byN s (a + k) = x := by omega
        refine ⟨x, ?_, fun h => h⟩
        simp only [rnF, hlt, hb, hx, if_true, List.length_cons, List.length_nil]
      · rw [nb_big hx] at h0 hall hd hs ⊢
        simp only [List.getElem?_cons_zero, Option.some.injEq] at h0
        have hb : byN s (a + k) = x % 128 + 128 := by omega
        simp only [List.length_cons] at hall hd hs ⊢
        obtain ⟨c, h1, h2⟩ := ih (x / 128) (by omega) d (k + 1) (n + byN s (a + k) % 128 * 128 ^ k) (by omega) (by omega) (fun i hi => by
          have := hall (i + 1) (by omega)
          simp only [List.getElem?_cons_succ] at this
          rw [this]
          congr 3
          omega)
        refine ⟨c, ?_, fun h => h2 (by omega)⟩
        simp only [rnF, hlt, if_true]
        rw [if_neg (by omega), h1]
        have e1 : byN s (a + k) % 128 = x % 128 := by omega
        rw [e1, Nat.pow_succ, Nat.add_assoc n, digit_sum]
        congr 3
        omega
theorem readBackN {n : Int} (h0 : -1000000000 ≤ n) (h1 : n ≤ 1000000000) :
    readNumV (((⟨#[122]⟩ : ByteArray) ++ strOfNums (nb (foldN n))) ++ (⟨#[121]⟩ : ByteArray)) 1 = (n, wrap64 (((strOfNums (nb (foldN n))).size : Int) + 1), true) := by
  have hf := foldN_lt h0 h1
  have hlen : (nb (foldN n)).length ≤ 5 := nb_len 4 _ (by omega)
  have hpos := nb_pos (foldN n)
  have hz : ((⟨#[122]⟩ : ByteArray)).size = 1 := rfl
  have hy : ((⟨#[121]⟩ : ByteArray)).size = 1 := rfl
  have hS : (strOfNums (nb (foldN n))).size = (nb (foldN n)).length := strOfNums_size _
  have hx : (((⟨#[122]⟩ : ByteArray) ++ strOfNums (nb (foldN n))) ++ (⟨#[121]⟩ : ByteArray)).extract 1 (1 + (nb (foldN n)).length) = strOfNums (nb (foldN n)) := by
    rw [ByteArray.extract_append, ByteArray.size_append, hz, hS, ByteArray.extract_append_eq_right (by rw [hz]) (by rw [hz, hS])]
    have e1 : 1 - (1 + (nb (foldN n)).length) = 0 := by omega
    have e2 : 1 + (nb (foldN n)).length - (1 + (nb (foldN n)).length) = 0 := by omega
    rw [e1, e2]
    have e3 : (⟨#[121]⟩ : ByteArray).extract 0 0 = ⟨#[]⟩ := by decide
    rw [e3]
    apply ByteArray.ext
    rw [ByteArray.data_append]
    simp
  have hsz : (((⟨#[122]⟩ : ByteArray) ++ strOfNums (nb (foldN n))) ++ (⟨#[121]⟩ : ByteArray)).size = 2 + (nb (foldN n)).length := by
    rw [ByteArray.size_append, ByteArray.size_append, hz, hy, hS]
    omega
  have hp : placeOk (((⟨#[122]⟩ : ByteArray) ++ strOfNums (nb (foldN n))) ++ (⟨#[121]⟩ : ByteArray)) 1 = true := decide_eq_true ⟨by omega, by omega, by omega⟩
  have hb := (strOf_extract (nb_range (foldN n)) _ 1 (nb (foldN n)).length (by omega)).1 hx.symm
  rw [hS]
  generalize (((⟨#[122]⟩ : ByteArray) ++ strOfNums (nb (foldN n))) ++ (⟨#[121]⟩ : ByteArray)) = s at *
  obtain ⟨c, h2, h3⟩ := rnF_nb s 1 (foldN n) 5 0 0 hlen (by omega) (fun i hi => by
    have e := congrArg (fun z : List Int => z[i]?) hb
    simp only [ints, List.getElem?_map, bl_get s _ 1 i hi, Option.map_some] at e
    exact e)
  simp only [Nat.pow_zero, Nat.mul_one, Nat.zero_add] at h2
  have hok : foldN n ≤ 2000000000 ∧ ((nb (foldN n)).length = 1 ∨ 0 < c) := by
    refine ⟨hf, ?_⟩
    by_cases hz0 : foldN n = 0
    · left
      rw [hz0, nb_small (by omega)]
      rfl
    · exact .inr (h3 (by omega))
  have hir : irV 1 (rnF s 1 5 0 0) = (n, ((1 + (nb (foldN n)).length : Nat) : Int), true) := by
    rw [h2]
    simp only [irV, openN_foldN, decide_eq_true hok]
  unfold readNumV
  show (if placeOk s 1 = true ∧ (irV 1 (rnF s 1 5 0 0)).2.2 = true then _ else _) = _
  rw [if_pos ⟨hp, by rw [hir]⟩]
  show ((irV 1 (rnF s 1 5 0 0)).1, (irV 1 (rnF s 1 5 0 0)).2.1, true) = _
  rw [hir, wrap64_id (by omega) (by omega)]
  show (n, ((1 + (nb (foldN n)).length : Nat) : Int), true) = _
  congr 2
  omega
theorem one_size {x y : ByteArray} (h : x ∈ [(⟨#[]⟩ : ByteArray), y]) (hy : y.size = 1) : x.size ≤ 1 := by
  rcases List.mem_cons.1 h with rfl | h
  · decide
  · rcases List.mem_cons.1 h with rfl | h
    · omega
    · cases h
theorem DrawReadNum_ex {l : List Int} (hl : Bytes8 l) : ∃ s a, Ev (fun k => spec_DrawReadNum.f k l) (s, a) := by
  obtain ⟨x, a1, s1, en, x1, x2, p2, p3⟩ := whole_ex hl 0 0 (by omega) (by omega)
  have hnb : (strOfNums (nb (foldN x))).size ≤ 5 := by
    rw [strOfNums_size]
    have := foldN_lt x1 x2
    exact nb_len 4 _ (by omega)
  have ev := spec_l1NumBytes_ev x1 x2
  clear x1 x2
  obtain ⟨b, a2, s2, e2, q1, q2⟩ := one_ex hl a1 s1 3 (by omega) (by omega) (by omega)
  have w0 : 0 ≤ a2 := by omega
  have w1 : a2 ≤ 100 := by omega
  clear p2 p3 q1 q2
  cases b with
  | true =>
    obtain ⟨t, a3, s3, e3, r1, r2, r3⟩ := spoilt_ex hl (strOfNums (nb (foldN x))) (⟨#[0, 128, 255, 1]⟩ : ByteArray) (by decide) (by decide) (by omega) a2 s2 (by omega) (by omega)
    obtain ⟨u, a4, s4, e4, u1, u2, u3⟩ := of_ex hl a3 s3 (by omega) (by omega) [(⟨#[]⟩ : ByteArray), (⟨#[97]⟩ : ByteArray)] (by decide) (by decide)
    obtain ⟨v, a5, s5, e5, v1, v2, v3⟩ := of_ex hl a4 s4 (by omega) (by omega) [(⟨#[]⟩ : ByteArray), (⟨#[98]⟩ : ByteArray)] (by decide) (by decide)
    obtain ⟨z, a6, s6, e6, z1, z2, z3, z4⟩ := pick1_ex hl a5 s5 2 (by omega) (by omega) (by omega) (by omega)
    have hu := one_size u1 rfl
    have hv := one_size v1 rfl
    clear r2 r3 u2 u3 v2 v3 z1 z2 z3 z4
    refine ⟨(u ++ t) ++ v, z, ?_⟩
    simp only [spec_DrawReadNum.f]
    refine evC en (evB ev (evC e2 (evPos (by first | rfl | trivial) (evB e3 (evC e4 (evPos ?_ (evC e5 (evPos ?_ (evC e6 (evNow rfl))))))))))
    · show u.size + t.size ≤ _
      omega
    · show (u ++ t).size + v.size ≤ _
      rw [ByteArray.size_append]
      omega
  | false =>
    obtain ⟨u, a4, s4, e4, u1, u2, u3⟩ := of_ex hl a2 s2 (by omega) (by omega) [(⟨#[]⟩ : ByteArray), (⟨#[97]⟩ : ByteArray)] (by decide) (by decide)
    obtain ⟨v, a5, s5, e5, v1, v2, v3⟩ := of_ex hl a4 s4 (by omega) (by omega) [(⟨#[]⟩ : ByteArray), (⟨#[98]⟩ : ByteArray)] (by decide) (by decide)
    obtain ⟨z, a6, s6, e6, z1, z2, z3, z4⟩ := pick1_ex hl a5 s5 2 (by omega) (by omega) (by omega) (by omega)
    have hu := one_size u1 rfl
    have hv := one_size v1 rfl
    clear u2 u3 v2 v3 z1 z2 z3 z4
    refine ⟨(u ++ strOfNums (nb (foldN x))) ++ v, z, ?_⟩
    simp only [spec_DrawReadNum.f]
    refine evC en (evB ev (evC e2 (evNeg (by simp) (evC e4 (evPos ?_ (evC e5 (evPos ?_ (evC e6 (evNow rfl)))))))))
    · show u.size + (strOfNums (nb (foldN x))).size ≤ _
      omega
    · show (u ++ strOfNums (nb (foldN x))).size + v.size ≤ _
      rw [ByteArray.size_append]
      omega
theorem FnNumbers_j2 (f : Int) : Ev (fun k => laws_FnNumbers.j2 k f (foldSignV f).1 (foldSignV f).2 false) true := by
  refine evSucc ?_
  simp only [laws_FnNumbers.j2, impl_OpenSign_eq, Option.bind_some]
  refine evNeg (by simp) ?_
  by_cases h : -1000000000 ≤ f ∧ f ≤ 1000000000
  · have hf := foldN_lt h.1 h.2
    have ho : openSignV (foldN f : Int) = (f, true) := by
      unfold openSignV
      rw [if_pos (by omega), Int.toNat_natCast, openN_foldN]
    have e : foldSignV f = ((foldN f : Int), true) := if_pos h
    rw [e]
    simp only [ho]
    refine evPos (by first | rfl | trivial) (evPos (by first | rfl | trivial) (evPos (by first | rfl | trivial) (evNow ?_)))
    exact decide_eq_true (by omega)
  · have e : foldSignV f = (0, false) := if_neg h
    rw [e]
    exact evNeg (by simp) (evNow rfl)
theorem FnNumbers_j1 {l : List Int} (hl : Bytes8 l) : Ev (fun k => laws_FnNumbers.j1 k l) true := by
  obtain ⟨s, a, h⟩ := DrawReadNum_ex hl
  obtain ⟨f, hf⟩ : ∃ f, spec_DrawFoldSign.f l = some f := by
    obtain ⟨x, a1, s1, en, x1, x2, p2, p3⟩ := whole_ex hl 0 0 (by omega) (by omega)
    obtain ⟨z, a6, s6, e6, z1, z2, z3, z4⟩ := pick1_ex hl a1 s1 20 (by omega) (by omega) (by omega) (by omega)
    refine ⟨wrap64 (x - wrap64 (Int.tdiv z 19)), ?_⟩
    unfold spec_DrawFoldSign.f
    rw [en]
    simp only [Option.bind_some]
    rw [e6]
    rfl
  obtain ⟨o, ho⟩ : ∃ o, spec_DrawOpenSign.f l = some o := by
    obtain ⟨x, a2, sd, e, p1, p2, p3⟩ := among_ex hl 0 0 (by omega) (by omega) ([0, 1, 2, 3, 200, 2000000000, 2000000001, (-1), 1999999999] : List Int) (by decide) (by decide)
    refine ⟨x, ?_⟩
    unfold spec_DrawOpenSign.f
    rw [e]
    rfl
  refine evSucc ?_
  simp only [laws_FnNumbers.j1]
  refine evB h (evB (impl_ReadNum_ev s a) (evB (spec_ReadNum_ev s a) (evC hf ?_)))
  simp only [impl_FoldSign_eq, spec_FoldSign_eq, Option.bind_some]
  refine evC ho ?_
  simp only [impl_OpenSign_eq, spec_OpenSign_eq, Option.bind_some]
  have hne : ((openSignV o).1 != (openSignV o).1) = false := by simp
  simp only [hne]
  exact evNeg (by simp) (evPos (by first | rfl | trivial) (evPos (by first | rfl | trivial) (evNeg (by simp) (evPos (by first | rfl | trivial) (evNeg (by simp) (FnNumbers_j2 f))))))
theorem FnNumbers : laws_FnNumbers.Pure := by
  intro l0 l1 _ h0 w0 _ h1 w1
  refine Ev.rounds (r := true) ?_
  simp only [laws_FnNumbers.f]
  obtain ⟨b, hb⟩ := laws_big_ex (l0 := l0) (l1 := l1) (by omega) (by omega)
  refine evC hb ?_
  cases b with
  | true => exact evPos (by first | rfl | trivial) (evNow rfl)
  | false =>
    refine evNeg (by simp) ?_
    have b0 := bytes8_of w0
    have b1 := bytes8_of w1
    obtain ⟨n, hn⟩ : ∃ n, spec_DrawNumBytes.f l0 = some n := by
      obtain ⟨x, a1, s1, en, x1, x2, p2, p3⟩ := whole_ex b0 0 0 (by omega) (by omega)
      obtain ⟨z, a6, s6, e6, z1, z2, z3, z4⟩ := pick1_ex b0 a1 s1 20 (by omega) (by omega) (by omega) (by omega)
      refine ⟨wrap64 (x + wrap64 (Int.tdiv z 19)), ?_⟩
      unfold spec_DrawNumBytes.f
      rw [en]
      simp only [Option.bind_some]
      rw [e6]
      rfl
    refine evC hn (evB (impl_NumBytes_ev n) (evB (spec_NumBytes_ev n) (evNeg (by simp) ?_)))
    have hne : ((numBytesV n).1.toList != (numBytesV n).1.toList) = false := by simp
    simp only [hne]
    refine evSucc ?_
    simp only [laws_FnNumbers.j0]
    refine evNeg (by simp) ?_
    by_cases h : -1000000000 ≤ n ∧ n ≤ 1000000000
    · have hr := impl_ReadNum_ev (((⟨#[122]⟩ : ByteArray) ++ strOfNums (nb (foldN n))) ++ (⟨#[121]⟩ : ByteArray)) 1
      rw [readBackN h.1 h.2] at hr
      have hnb : (strOfNums (nb (foldN n))).size ≤ 5 := by
        rw [strOfNums_size]
        have := foldN_lt h.1 h.2
        exact nb_len 4 _ (by omega)
      have e : numBytesV n = (strOfNums (nb (foldN n)), true) := if_pos h
      rw [e]
      refine evPos (by first | rfl | trivial) (evPos (by show 1 + (strOfNums (nb (foldN n))).size ≤ _; omega) (evPos ?_ (evB hr (evPos (by first | rfl | trivial) (evPos (by first | rfl | trivial) (evPos (by first | rfl | trivial) (FnNumbers_j1 b1)))))))
      show ((⟨#[122]⟩ : ByteArray) ++ strOfNums (nb (foldN n))).size + 1 ≤ _
      rw [ByteArray.size_append]
      have hz : ((⟨#[122]⟩ : ByteArray)).size = 1 := rfl
      omega
    · have e : numBytesV n = (⟨#[]⟩, false) := if_neg h
      rw [e]
      exact evNeg (by simp) (FnNumbers_j1 b1)

end Go.Proofs.Ytdphgdlkchajoaa.Pure
