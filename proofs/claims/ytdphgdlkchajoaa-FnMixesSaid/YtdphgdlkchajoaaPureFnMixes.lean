/- The plain statement of the law FnMixes: at all arguments within the row's bounds the printed function answers true. No further condition. -/
import Derived.Test.YtdphgdlkchajoaaPFnMixesx2
import Derived.Test.YtdphgdlkchajoaaBase
set_option linter.unusedVariables false
set_option linter.unusedSimpArgs false
namespace Go.Proofs.Ytdphgdlkchajoaa.Pure
open Go.RowKit Go.Proofs.Ytdphgdlkchajoaa.PFnMixes Go.Proofs.YtdphgdlkchajoaaW.PrintWords Go.Proofs.YtdphgdlkchajoaaW.PrintLast

/-! ### cur -/
theorem wrap_u64 (n : Int) : IntKind.u64.wrap n = n % 18446744073709551616 := by simp [IntKind.wrap, IntKind.bits, IntKind.signed]
theorem bits_and_le (x : Int) (m : Nat) (hm : m < 18446744073709551616) : 0 ≤ Go.bits .and .u64 x (m : Int) ∧ Go.bits .and .u64 x (m : Int) ≤ m := by
  unfold Go.bits
  simp only [wrap_u64]
  have h1 : (BitVec.ofInt IntKind.u64.bits x &&& BitVec.ofInt IntKind.u64.bits (m : Int)).toNat ≤ m := by
    rw [BitVec.toNat_and]
    refine Nat.le_trans Nat.and_le_right ?_
    rw [BitVec.ofInt_natCast, BitVec.toNat_ofNat]
    exact Nat.mod_le _ _
  generalize (BitVec.ofInt IntKind.u64.bits x &&& BitVec.ofInt IntKind.u64.bits (m : Int)).toNat = q at h1 ⊢
  omega
/-- The bytes that choices are read from. -/
def Bytes8 (l : List Int) : Prop := ∀ x ∈ l, 0 ≤ x ∧ x ≤ 255
theorem bytes8_of {l : List Int} (h : ∀ x ∈ l, (Lit.int .u8 x).wf = true) : Bytes8 l := fun x hx => by
  have := h x hx
  simp [Lit.wf, IntKind.min, IntKind.max, IntKind.bits, IntKind.signed] at this
  omega
theorem rd_bytes8 {l : List Int} (h : Bytes8 l) (i : Int) : 0 ≤ rd l i ∧ rd l i ≤ 255 := by
  unfold rd
  rw [List.getD_eq_getElem?_getD]
  cases e : l[i.toNat]? with
  | none => simp
  | some v => exact h v (List.mem_of_getElem? e)
theorem next_ex {l : List Int} (hl : Bytes8 l) (at_ seed : Int) (h0 : 0 ≤ at_) (h1 : at_ ≤ 1000000000000) : ∃ n sd, spec_l1Cur_next.f l at_ seed = some (n, at_ + 1, sd) ∧ 0 ≤ n ∧ n ≤ 255 := by
  have e1 : wrap64 (at_ + 1) = at_ + 1 := wrap64_id (by omega) (by omega)
  unfold spec_l1Cur_next.f
  rw [e1]
  have hb : ∀ x : Int, 0 ≤ wrap64 (Go.bits .and .u64 x 255) ∧ wrap64 (Go.bits .and .u64 x 255) ≤ 255 := fun x => by
    have : 0 ≤ Go.bits .and .u64 x 255 ∧ Go.bits .and .u64 x 255 ≤ 255 := bits_and_le x 255 (by decide)
    rw [wrap64_id (by have := this.1; omega) (by have := this.2; omega)]
    exact this
  have hr := rd_bytes8 hl at_
  have hw : wrap64 (rd l at_) = rd l at_ := wrap64_id (by omega) (by omega)
  by_cases c1 : at_ < (l.length : Int)
  · rw [if_pos c1, if_pos h0]
    by_cases c2 : at_ + 1 ≤ (l.length : Int)
    · rw [if_pos c2, hw]
      exact ⟨_, _, rfl, hr.1, hr.2⟩
    · rw [if_neg c2]
      exact ⟨_, _, rfl, (hb _).1, (hb _).2⟩
  · rw [if_neg c1]
    by_cases c2 : at_ + 1 ≤ (l.length : Int)
    · rw [if_pos c2]
      exact ⟨_, _, rfl, by omega, by omega⟩
    · rw [if_neg c2]
      exact ⟨_, _, rfl, (hb _).1, (hb _).2⟩
theorem pick_ex {l : List Int} (hl : Bytes8 l) (at_ seed n : Int) (h0 : 0 ≤ at_) (h1 : at_ ≤ 999999999999) (hn : n ≤ 9000000000000000000) : ∃ x a2 sd, spec_l1Cur_pick.f l at_ seed n = some (x, a2, sd) ∧ 0 ≤ x ∧ (x < n ∨ (n ≤ 1 ∧ x = 0)) ∧ at_ ≤ a2 ∧ a2 ≤ at_ + 2 := by
  unfold spec_l1Cur_pick.f
  by_cases c1 : n ≤ 1
  · rw [if_pos c1]
    exact ⟨_, _, _, rfl, by omega, .inr ⟨c1, rfl⟩, by omega, by omega⟩
  · rw [if_neg c1]
    obtain ⟨n1, sd1, e1, p1, p2⟩ := next_ex hl at_ seed h0 (by omega)
    rw [e1]
    simp only [Option.bind_some]
    by_cases c2 : n > 200
    · rw [if_pos c2]
      obtain ⟨n2, sd2, e2, p3, p4⟩ := next_ex hl (at_ + 1) sd1 (by omega) (by omega)
      rw [e2]
      simp only [Option.bind_some]
      rw [if_neg (by omega), wrap64_id (x := n1 * 256) (by omega) (by omega), wrap64_id (by omega) (by omega), tmod_nn (by omega)]
      exact ⟨_, _, _, rfl, Int.emod_nonneg _ (by omega), .inl (Int.emod_lt_of_pos _ (by omega)), by omega, by omega⟩
    · rw [if_neg c2, if_neg (by omega), tmod_nn p1]
      exact ⟨_, _, _, rfl, Int.emod_nonneg _ (by omega), .inl (Int.emod_lt_of_pos _ (by omega)), by omega, by omega⟩
theorem among_ex {l : List Int} (hl : Bytes8 l) (at_ seed : Int) (h0 : 0 ≤ at_) (h1 : at_ ≤ 999999999999) (ys : List Int) (hy : 0 < ys.length) (hy2 : ys.length ≤ 1000000) : ∃ x a2 sd, spec_l1Cur_among.f l at_ seed ys = some (x, a2, sd) ∧ x ∈ ys ∧ at_ ≤ a2 ∧ a2 ≤ at_ + 2 := by
  unfold spec_l1Cur_among.f
  obtain ⟨x, a2, sd, e, p1, p2, p3, p4⟩ := pick_ex hl at_ seed (ys.length : Int) h0 h1 (by omega)
  rw [e]
  simp only [Option.bind_some]
  rw [if_pos p1, if_pos (by omega)]
  obtain ⟨i, rfl⟩ := Int.eq_ofNat_of_zero_le p1
  refine ⟨_, _, _, rfl, ?_, p3, p4⟩
  have hi : i < ys.length := by omega
  rw [rd_nat hi]
  exact List.getElem_mem hi
theorem one_ex {l : List Int} (hl : Bytes8 l) (at_ seed n : Int) (h0 : 0 ≤ at_) (h1 : at_ ≤ 999999999999) (hn : n ≤ 9000000000000000000) : ∃ b a2 sd, spec_l1Cur_one.f l at_ seed n = some (b, a2, sd) ∧ at_ ≤ a2 ∧ a2 ≤ at_ + 2 := by
  unfold spec_l1Cur_one.f
  obtain ⟨x, a2, sd, e, p1, p2, p3, p4⟩ := pick_ex hl at_ seed n h0 h1 hn
  rw [e]
  exact ⟨_, _, _, rfl, p3, p4⟩
def wholes : List Int := [0, 1, -1, 63, -64, 64, 127, 128, -300, 8191, 8192, 1000000, 1000000000, -1000000000]
theorem wholes_range {x : Int} (h : x ∈ wholes) : -1000000000 ≤ x ∧ x ≤ 1000000000 := by
  have : ∀ x ∈ wholes, -1000000000 ≤ x ∧ x ≤ 1000000000 := by decide
  exact this x h
theorem whole_ex {l : List Int} (hl : Bytes8 l) (at_ seed : Int) (h0 : 0 ≤ at_) (h1 : at_ ≤ 999999999999) : ∃ x a2 sd, spec_l1Cur_whole.f l at_ seed = some (x, a2, sd) ∧ -1000000000 ≤ x ∧ x ≤ 1000000000 ∧ at_ ≤ a2 ∧ a2 ≤ at_ + 2 := by
  obtain ⟨x, a2, sd, e, p1, p2, p3⟩ := among_ex hl at_ seed h0 h1 wholes (by decide) (by decide)
  refine ⟨x, a2, sd, ?_, (wholes_range p1).1, (wholes_range p1).2, p2, p3⟩
  unfold spec_l1Cur_whole.f
  show (spec_l1Cur_among.f l at_ seed wholes).bind _ = _
  rw [e]
  rfl
theorem laws_big_ex {l0 l1 : List Int} (h0 : l0.length ≤ 140737488351232) (h1 : l1.length ≤ 140737488351232) : ∃ b, laws_big.f l0 l1 = some b := by
  unfold laws_big.f
  split <;> exact ⟨_, rfl⟩

/-! ### mix -/
theorem mix_ex (a b : Int) : ∃ r, spec_Mix.f a b = some r ∧ impl_mix.f a b = some r := by
  unfold spec_Mix.f impl_mix.f
  exact ⟨_, rfl, rfl⟩
/-- Two numbers, mixed. -/
noncomputable def mixV (a b : Int) : Int := Classical.choose (mix_ex a b)
theorem spec_Mix_eq (a b : Int) : spec_Mix.f a b = some (mixV a b) := (Classical.choose_spec (mix_ex a b)).1
theorem impl_mix_eq (a b : Int) : impl_mix.f a b = some (mixV a b) := (Classical.choose_spec (mix_ex a b)).2

/-! ### mixAll -/
noncomputable def mixL (l : List Int) : Int := l.foldl mixV (l.length : Int)
theorem spec_l1MixAll_l0 (l : List Int) (hl : l.length ≤ 140737488355328) (d : Nat) : ∀ (i : Nat) (a : Int), i + d = l.length → Ev (fun k => spec_l1MixAll.l0 k a l (l.length : Int) (i : Int)) ((l.drop i).foldl mixV a) := by
  induction d with
  | zero =>
    intro i a hi
    refine evSucc ?_
    simp only [spec_l1MixAll.l0]
    refine evNeg (by omega) (evNow ?_)
    rw [List.drop_of_length_le (by omega)]
    rfl
  | succ d ih =>
    intro i a hi
    refine evSucc ?_
    simp only [spec_l1MixAll.l0]
    refine evPos (by omega) (evPos (by omega) (evPos (by omega) (evC (spec_Mix_eq _ _) ?_)))
    simp only [wrap64_nat i (by omega), rd_nat (l := l) (i := i) (by omega)]
    refine evTwo (ih (i + 1) _ (by omega)) ?_
    rw [List.drop_eq_getElem_cons (i := i) (by omega)]
    rfl
theorem spec_l1MixAll_ev (l : List Int) (hl : l.length ≤ 140737488355328) : Ev (fun k => spec_l1MixAll.f k l) (mixL l) := by
  simp only [spec_l1MixAll.f]
  exact spec_l1MixAll_l0 l hl l.length 0 _ (by omega)
theorem impl_mixAll_l0 (l : List Int) (hl : l.length ≤ 140737488355328) (d : Nat) : ∀ (i : Nat) (a : Int), i + d = l.length → Ev (fun k => impl_mixAll.l0 k a l (l.length : Int) (i : Int)) ((l.drop i).foldl mixV a) := by
  induction d with
  | zero =>
    intro i a hi
    refine evSucc ?_
    simp only [impl_mixAll.l0]
    refine evNeg (by omega) (evNow ?_)
    rw [List.drop_of_length_le (by omega)]
    rfl
  | succ d ih =>
    intro i a hi
    refine evSucc ?_
    simp only [impl_mixAll.l0]
    refine evPos (by omega) (evPos (by omega) (evPos (by omega) (evC (impl_mix_eq _ _) ?_)))
    simp only [wrap64_nat i (by omega), rd_nat (l := l) (i := i) (by omega)]
    refine evTwo (ih (i + 1) _ (by omega)) ?_
    rw [List.drop_eq_getElem_cons (i := i) (by omega)]
    rfl
theorem impl_mixAll_ev (l : List Int) (hl : l.length ≤ 140737488355328) : Ev (fun k => impl_mixAll.f k l) (mixL l) := by
  simp only [impl_mixAll.f]
  exact impl_mixAll_l0 l hl l.length 0 _ (by omega)

/-! ### MixAllB -/
noncomputable def mixAllV (l : List Int) : Int × Bool := if (l.length : Int) > 200 then (0, false) else (mixL l, true)
theorem spec_MixAll_ev (l : List Int) (hl : l.length ≤ 140737488355328) : Ev (fun k => spec_MixAll.f k l) (mixAllV l) := by
  simp only [spec_MixAll.f]
  by_cases h : (l.length : Int) > 200
  · exact evTwo (evPos h (evNow rfl)) (if_pos h).symm
  · exact evTwo (evNeg h (evB (spec_l1MixAll_ev l hl) (evNow rfl))) (if_neg h).symm
theorem impl_MixAll_ev (l : List Int) (hl : l.length ≤ 140737488355328) : Ev (fun k => impl_MixAll.f k l) (mixAllV l) := by
  simp only [impl_MixAll.f]
  by_cases h : (l.length : Int) > 200
  · exact evTwo (evPos h (evNow rfl)) (if_pos h).symm
  · exact evTwo (evNeg h (evB (impl_mixAll_ev l hl) (evNow rfl))) (if_neg h).symm

theorem mixV_range (a b : Int) : 0 ≤ mixV a b ∧ mixV a b < 4611686018427387904 := by
  have h := spec_Mix_eq a b
  unfold spec_Mix.f at h
  have h2 := Option.some.inj h
  have key : ∀ x : Int, 0 ≤ wrap64 (Go.bits .and .u64 x 4611686018427387903) ∧ wrap64 (Go.bits .and .u64 x 4611686018427387903) < 4611686018427387904 := fun x => by
    have := bits_and_le x 4611686018427387903 (by decide)
    have e : ((4611686018427387903 : Nat) : Int) = 4611686018427387903 := rfl
    rw [e] at this
    rw [wrap64_id (by have := this.1; omega) (by have := this.2; omega)]
    exact ⟨this.1, by have := this.2; omega⟩
  rw [← h2]
  exact key _
theorem DrawMixAll_l0 {l : List Int} (hl : Bytes8 l) (d : Nat) : ∀ (x : List Int) (n : Int) (a s : Int), n ≤ d → 0 ≤ n → x.length ≤ 1000 - d → d ≤ 100 → 0 ≤ a → a ≤ 999999999 - 2 * d → ∃ r, Ev (fun k => spec_DrawMixAll.l0 k x n l a s) r ∧ r.length ≤ 1000 := by
  induction d with
  | zero =>
    intro x n a s h1 h2 h3 h4 h5 h6
    obtain ⟨b, a2, sd, e, q1, q2⟩ := one_ex hl a s 20 (by omega) (by omega) (by omega)
    cases b with
    | true =>
      obtain ⟨z, a3, sd3, e3, z1, z2, z3, z4⟩ := pick_ex hl a2 sd 2 (by omega) (by omega) (by omega)
      have hw : wrap64 (200 + z) = 200 + z := wrap64_id (by omega) (by omega)
      refine ⟨List.replicate (200 + z).toNat 0, ?_, by simp; omega⟩
      refine evSucc ?_
      simp only [spec_DrawMixAll.l0]
      refine evNeg (by omega) (evC e (evPos (by first | rfl | trivial) (evC e3 ?_)))
      simp only [hw]
      exact evPos (by omega) (evPos (by omega) (evNow rfl))
    | false =>
      refine ⟨x, ?_, by omega⟩
      refine evSucc ?_
      simp only [spec_DrawMixAll.l0]
      exact evNeg (by omega) (evC e (evNeg (by simp) (evNow rfl)))
  | succ d ih =>
    intro x n a s h1 h2 h3 h4 h5 h6
    by_cases hn : n > 0
    · obtain ⟨z, a3, sd3, e3, z1, z2, z3, z4⟩ := whole_ex hl a s (by omega) (by omega)
      have hw : wrap64 (n - 1) = n - 1 := wrap64_id (by omega) (by omega)
      obtain ⟨r, h7, h8⟩ := ih (x ++ [z]) (n - 1) a3 sd3 (by omega) (by omega) (by simp; omega) (by omega) (by omega) (by omega)
      refine ⟨r, ?_, h8⟩
      refine evSucc ?_
      simp only [spec_DrawMixAll.l0]
      refine evPos hn (evC e3 (evPos (by omega) ?_))
      simp only [hw]
      exact h7
    · exact ih x n a s (by omega) h2 (by omega) (by omega) h5 (by omega)
theorem FnMixes_l0 (l : List Int) (hl : l.length ≤ 1000) (m : Int) (d : Nat) : ∀ (i : Nat) (a : Int), i + d = l.length → (l.drop i).foldl mixV a = m → Ev (fun k => laws_FnMixes.l0 k m a l (l.length : Int) (i : Int)) true := by
  induction d with
  | zero =>
    intro i a hi hm
    refine evSucc ?_
    simp only [laws_FnMixes.l0]
    refine evNeg (by omega) (evNow ?_)
    rw [List.drop_of_length_le (by omega)] at hm
    simp only [List.foldl_nil] at hm
    rw [hm]
    simp
  | succ d ih =>
    intro i a hi hm
    refine evSucc ?_
    simp only [laws_FnMixes.l0]
    refine evPos (by omega) (evPos (by omega) (evPos (by omega) ?_))
    simp only [impl_Mix.f, impl_mix_eq, Option.bind_some, wrap64_nat i (by omega), rd_nat (l := l) (i := i) (by omega)]
    refine ih (i + 1) _ (by omega) ?_
    rw [← hm, List.drop_eq_getElem_cons (i := i) (by omega)]
    rfl
theorem FnMixes : laws_FnMixes.Pure := by
  intro l0 l1 _ h0 w0 _ h1 w1
  refine Ev.rounds (r := true) ?_
  simp only [laws_FnMixes.f]
  obtain ⟨b, hb⟩ := laws_big_ex (l0 := l0) (l1 := l1) (by omega) (by omega)
  refine evC hb ?_
  cases b with
  | true => exact evPos (by first | rfl | trivial) (evNow rfl)
  | false =>
    refine evNeg (by simp) ?_
    have b0 := bytes8_of w0
    have b1 := bytes8_of w1
    obtain ⟨x, a2, sd, e, p1, p2, p3, p4⟩ := whole_ex b0 0 0 (by omega) (by omega)
    obtain ⟨y, a3, sd3, e3, q1, q2, q3, q4⟩ := whole_ex b0 a2 sd (by omega) (by omega)
    have hd : spec_DrawMix.f l0 = some (x, y) := by
      unfold spec_DrawMix.f
      rw [e]
      simp only [Option.bind_some]
      rw [e3]
      rfl
    have hm := mixV_range x y
    refine evC hd ?_
    simp only [impl_Mix.f, impl_mix_eq, spec_Mix_eq, Option.bind_some]
    refine evPos (by first | rfl | trivial) (evNeg (by omega) ?_)
    have hdec : decide (mixV x y ≥ 4611686018427387904) = false := decide_eq_false (by omega)
    simp only [hdec]
    refine evSucc ?_
    simp only [laws_FnMixes.j0]
    refine evNeg (by simp) ?_
    obtain ⟨n, a4, sd4, e4, r1, r2, r3, r4⟩ := pick_ex b1 0 0 6 (by omega) (by omega) (by omega)
    obtain ⟨L, hL, hlen⟩ := DrawMixAll_l0 b1 6 [] n a4 sd4 (by omega) (by omega) (by simp) (by omega) (by omega) (by omega)
    have hD : Ev (fun k => spec_DrawMixAll.f k l1) L := by
      simp only [spec_DrawMixAll.f]
      exact evC e4 hL
    refine evB hD (evB (impl_MixAll_ev L (by omega)) (evB (spec_MixAll_ev L (by omega)) (evNeg (by simp) ?_)))
    have hne : ((mixAllV L).1 != (mixAllV L).1) = false := by simp
    simp only [hne]
    refine evSucc ?_
    simp only [laws_FnMixes.j1]
    refine evNeg (by simp) ?_
    unfold mixAllV
    by_cases hc : (L.length : Int) > 200
    · simp only [hc, if_true]
      exact evNeg (by simp) (evNow rfl)
    · simp only [hc, if_false]
      exact evPos (by first | rfl | trivial) (FnMixes_l0 L hlen (mixL L) L.length 0 _ (by omega) rfl)

end Go.Proofs.Ytdphgdlkchajoaa.Pure
