/- The plain law FnExactNumberOf: its Lean function answers true at all data. -/
import Derived.Test.YtdphgdlkchajoaaDoorDFnExactNumberOf
set_option autoImplicit false
set_option linter.unusedVariables false
set_option linter.unusedSimpArgs false
namespace Go.Proofs.YtdphgdlkchajoaaDoor.LawFnExactNumberOf
open Go.Proofs.YtdphgdlkchajoaaDoor.Den Go.Proofs

theorem in_ev (a b c : Int) : EvP (fun k => impl_in.f k (a, b, c, ())) (fun y => y.1 = decide (b ≤ a ∧ a ≤ c)) := by
  simp only [impl_in.f, decide_eq_true_eq]
  refine EvP.ite (fun h => EvP.ret ?_) (fun h => EvP.ret ?_)
  · simp only [ge_iff_le] at h; simp [h]
  · simp only [ge_iff_le] at h; simp [h]


/-! ### Numbers of digits -/

def Dig (b c : Int) : Prop := (48 ≤ c ∧ c ≤ 57) ∨ (b = 16 ∧ 65 ≤ c ∧ c ≤ 70)
def digV (c : Int) : Int := if c ≤ 57 then c - 48 else c - 55
def valN (s : ByteArray) (b : Int) : Nat → Int
  | 0 => 0
  | i + 1 => valN s b i * b + digV (bt s i)

theorem digV_bound {b c : Int} (hb : b = 10 ∨ b = 16) (h : Dig b c) : 0 ≤ digV c ∧ digV c < b := by
  unfold Dig at h
  unfold digV
  split <;> omega

theorem valN_bound {s : ByteArray} {b : Int} (hb : b = 10 ∨ b = 16) : ∀ i : Nat, (∀ j, j < i → Dig b (bt s j)) → 0 ≤ valN s b i ∧ valN s b i < ((16 ^ i : Nat) : Int) := by
  intro i
  induction i with
  | zero => intro _; exact ⟨Int.le_refl _, by show (0 : Int) < ((16 ^ 0 : Nat) : Int); decide⟩
  | succ i ih =>
    intro h
    obtain ⟨h1, h2⟩ := ih fun j hj => h j (by omega)
    have h3 := digV_bound hb (h i (by omega))
    simp only [valN, Nat.pow_succ]
    generalize valN s b i = v at *
    generalize digV (bt s i) = d at *
    generalize (16 ^ i : Nat) = P at *
    rcases hb with rfl | rfl <;> omega

theorem pow_le {i : Nat} (h : i ≤ 9) : (16 ^ i : Nat) ≤ 68719476736 := Nat.pow_le_pow_right (by decide) h

theorem valN_small {s : ByteArray} {b : Int} (hb : b = 10 ∨ b = 16) {i : Nat} (hi : i ≤ 9) (h : ∀ j, j < i → Dig b (bt s j)) : 0 ≤ valN s b i ∧ valN s b i < 68719476736 := by
  have h1 := valN_bound hb i h
  have h2 := pow_le hi
  omega

theorem bt_range (s : ByteArray) (i : Nat) : 0 ≤ bt s i ∧ bt s i ≤ 255 := by
  unfold bt
  have := (s.data.getD i 0).toNat_lt
  omega

theorem l2Digit_ev (c : Int) : EvP (fun k => spec_l2Digit.f k (c, ())) (fun y => y.1 = true ↔ (48 ≤ c ∧ c ≤ 57)) := by
  simp only [spec_l2Digit.f, decide_eq_true_eq]
  refine EvP.ite (fun h => EvP.ret ?_) (fun h => EvP.ret ?_)
  · simp; omega
  · simp; omega

theorem isDigit_ev (c : Int) : EvP (fun k => impl_isDigit.f k (c, ())) (fun y => y.1 = true ↔ (48 ≤ c ∧ c ≤ 57)) := by
  simp only [impl_isDigit.f, decide_eq_true_eq]
  refine EvP.ite (fun h => EvP.ret ?_) (fun h => EvP.ret ?_)
  · simp; omega
  · simp; omega

def hexR (c : Int) : Int := if 48 ≤ c ∧ c ≤ 57 then c - 48 else if 65 ≤ c ∧ c ≤ 70 then c - 55 else -1

theorem l2Hex_ev (c : Int) (hc : 0 ≤ c ∧ c ≤ 255) : EvP (fun k => spec_l2Hex.f k (c, ())) (· = (hexR c, ())) := by
  simp only [spec_l2Hex.f, decide_eq_true_eq]
  unfold hexR
  refine EvP.bind (l2Digit_ev c) ?_
  rintro ⟨y, _⟩ hy
  simp only at hy
  refine EvP.ite (fun h => EvP.ret ?_) (fun h => ?_)
  · have h1 := hy.1 h
    rw [if_pos h1, IntKind.wrap_u8', w64_id (by omega) (by omega)]
    congr 1
    omega
  · have h1 : ¬ (48 ≤ c ∧ c ≤ 57) := fun e => h (hy.2 e)
    rw [if_neg h1]
    refine EvP.ite (fun h2 => EvP.ite (fun h3 => EvP.ret ?_) (fun h3 => EvP.ret ?_)) (fun h2 => EvP.ret ?_)
    · rw [if_pos ⟨h2, h3⟩, IntKind.wrap_u8', w64_id (x := (c - 65) % 256) (by omega) (by omega), w64_id (by omega) (by omega)]
      congr 1
      omega
    · rw [if_neg (by omega)]
    · rw [if_neg (by omega)]

theorem hexR_dig {b c : Int} (hb : b = 10 ∨ b = 16) : (0 ≤ hexR c ∧ hexR c < b) ↔ Dig b c := by
  unfold hexR Dig
  split
  · omega
  · split <;> omega

theorem hexR_val {b c : Int} (h : Dig b c) : hexR c = digV c := by
  unfold hexR digV
  unfold Dig at h
  split
  · rw [if_pos (by omega)]
  · rw [if_pos (by omega), if_neg (by omega)]

def AllDig (b : Int) (s : ByteArray) : Prop := ∀ i, i < s.size → Dig b (bt s i)

theorem spec_l4_ev (b : Int) (most : Nat) (hb : b = 10 ∨ b = 16) (hm : most ≤ 9) (s : ByteArray) (hs : s.size ≤ 1048576) :
    EvP (fun k => spec_l2Number.l4 k (b, (most : Int), s, 0, 0, ())) (· = pickP (AllDig b s ∧ s.size ≤ most) (valN s b s.size, true, ()) (0, false, ())) := by
  have loop := EvP.loop (L := spec_l2Number.l4) (Q := (· = pickP (AllDig b s ∧ s.size ≤ most) (valN s b s.size, true, ()) (0, false, ()))) (fun j st => ∃ i : Nat, st = (b, (most : Int), s, valN s b i, (i : Int), ()) ∧ j = s.size - i ∧ i ≤ s.size ∧ i ≤ most ∧ ∀ p, p < i → Dig b (bt s p)) ?_
  · exact loop _ _ ⟨0, rfl, rfl, Nat.zero_le _, Nat.zero_le _, fun p hp => absurd hp (Nat.not_lt_zero _)⟩
  · rintro j _ ⟨i, rfl, rfl, hi, him, hall⟩ ih
    simp only [spec_l2Number.l4, decide_eq_true_eq, Int.toNat_natCast]
    refine EvP.ite (fun hlt => EvP.pos (by omega) (EvP.pos hlt ?_)) (fun hge => EvP.ret ?_)
    · have hil : i < s.size := by omega
      refine EvP.bind (l2Hex_ev _ (bt_range s i)) ?_
      rintro _ rfl
      have no : ¬ (Dig b (bt s i) ∧ i < most) → ((0, false, ()) : Int × Bool × Unit) = pickP (AllDig b s ∧ s.size ≤ most) (valN s b s.size, true, ()) (0, false, ()) := fun h => by rw [pickP_neg fun e => h ⟨e.1 i hil, by omega⟩]
      refine EvP.ite (fun h => EvP.ret (no fun e => by have := (hexR_dig hb).2 e.1; simp only at h; omega)) (fun h1 => ?_)
      refine EvP.ite (fun h => EvP.ret (no fun e => by have := (hexR_dig hb).2 e.1; simp only at h; omega)) (fun h2 => ?_)
      refine EvP.ite (fun h => EvP.ret (no fun e => by omega)) (fun h3 => ?_)
      simp only at h1 h2
      have hd : Dig b (bt s i) := (hexR_dig hb).1 ⟨by omega, by omega⟩
      have hv := valN_small hb (show i ≤ 9 by omega) hall
      have hv2 := valN_small hb (show i + 1 ≤ 9 by omega) (fun p hp => by
        rcases Nat.lt_or_ge p i with hp' | hp'
        · exact hall p hp'
        · obtain rfl : p = i := by omega
          exact hd)
      have e1 : w64 (w64 (valN s b i * b) + hexR (bt s i)) = valN s b (i + 1) := by
        rw [hexR_val hd]
        have h4 := digV_bound hb hd
        simp only [valN] at hv2 ⊢
        rw [w64_id (x := valN s b i * b) (by rcases hb with rfl | rfl <;> omega) (by rcases hb with rfl | rfl <;> omega), w64_id (by omega) (by omega)]
      simp only [e1, next64 (show i ≤ 1099511627776 by omega)]
      exact ih (s.size - (i + 1)) _ (by omega) ⟨i + 1, rfl, rfl, by omega, by omega, fun p hp => by
        rcases Nat.lt_or_ge p i with hp' | hp'
        · exact hall p hp'
        · obtain rfl : p = i := by omega
          exact hd⟩
    · obtain rfl : i = s.size := by omega
      rw [pickP_pos ⟨hall, him⟩]

/-! ### Trim: whether all bytes lie in a set -/

theorem all_dropWhile {α : Type} (p : α → Bool) : ∀ L : List α, (∀ x ∈ L.dropWhile p, p x = true) → ∀ x ∈ L, p x = true
  | [], _, x, hx => by cases hx
  | a :: r, h, x, hx => by
    by_cases ha : p a = true
    · rw [List.dropWhile_cons_of_pos ha] at h
      rcases List.mem_cons.1 hx with rfl | hx
      · exact ha
      · exact all_dropWhile p r h x hx
    · rw [List.dropWhile_cons_of_neg ha] at h
      exact h x hx

theorem dropWhile_all {α : Type} (p : α → Bool) : ∀ L : List α, (∀ x ∈ L, p x = true) → L.dropWhile p = []
  | [], _ => rfl
  | a :: r, h => by
    rw [List.dropWhile_cons_of_pos (h a (by simp))]
    exact dropWhile_all p r fun x hx => h x (by simp [hx])

theorem trimS_nil (l cs : List UInt8) : Lib.trimS l cs = [] ↔ ∀ x ∈ l, cs.contains x = true := by
  unfold Lib.trimS Lib.trimLeftS Lib.trimRightS
  constructor
  · intro h
    have h1 : ∀ x ∈ (l.reverse.dropWhile (cs.contains ·)).reverse, cs.contains x = true :=
      all_dropWhile (cs.contains ·) _ (fun x hx => by rw [h] at hx; cases hx)
    have h2 := all_dropWhile (cs.contains ·) l.reverse (fun x hx => h1 x (by simpa using hx))
    exact fun x hx => h2 x (by simpa using hx)
  · intro h
    rw [dropWhile_all (cs.contains ·) l.reverse (fun x hx => h x (by simpa using hx))]
    rfl

theorem bt_mem (s : ByteArray) {i : Nat} (hi : i < s.size) : s.data.getD i 0 ∈ s.data.toList := by
  have h : i < s.data.size := hi
  rw [Array.getD_eq_getD_getElem?, Array.getElem?_eq_getElem h]
  simp

theorem mem_bt (s : ByteArray) {x : UInt8} (hx : x ∈ s.data.toList) : ∃ i, i < s.size ∧ s.data.getD i 0 = x := by
  obtain ⟨i, hi, he⟩ := List.getElem_of_mem hx
  have h : i < s.data.size := by simpa using hi
  refine ⟨i, h, ?_⟩
  rw [Array.getD_eq_getD_getElem?, Array.getElem?_eq_getElem h, ← he]
  simp

def decS : List UInt8 := [48, 49, 50, 51, 52, 53, 54, 55, 56, 57]
def hexS : List UInt8 := [48, 49, 50, 51, 52, 53, 54, 55, 56, 57, 65, 66, 67, 68, 69, 70]

set_option maxRecDepth 100000 in
theorem dec_nat : ∀ n, n < 256 → decS.contains (UInt8.ofNat n) = decide (48 ≤ n ∧ n ≤ 57) := by decide
set_option maxRecDepth 100000 in
theorem hex_nat : ∀ n, n < 256 → hexS.contains (UInt8.ofNat n) = decide ((48 ≤ n ∧ n ≤ 57) ∨ (65 ≤ n ∧ n ≤ 70)) := by decide

theorem dec_mem (x : UInt8) : decS.contains x = true ↔ Dig 10 (x.toNat : Int) := by
  have h := dec_nat x.toNat x.toNat_lt
  rw [UInt8.ofNat_toNat] at h
  rw [h, decide_eq_true_eq]
  unfold Dig
  omega

theorem hex_mem (x : UInt8) : hexS.contains x = true ↔ Dig 16 (x.toNat : Int) := by
  have h := hex_nat x.toNat x.toNat_lt
  rw [UInt8.ofNat_toNat] at h
  rw [h, decide_eq_true_eq]
  unfold Dig
  omega

theorem numeral_ev (s cs : ByteArray) (b : Int) (hs : s.size ≤ 1048576) (hc : trimOk s cs) (hm : ∀ x : UInt8, cs.data.toList.contains x = true ↔ Dig b (x.toNat : Int)) :
    EvP (fun k => impl_isNumeral.f k (s, cs, ())) (fun y => y.1 = true ↔ AllDig b s) := by
  simp only [impl_isNumeral.f, strings_Trim.f]
  refine EvP.bind (EvP.pos hc (EvP.ret (Q := (· = (Den.trimmed s cs, ()))) rfl)) ?_
  rintro _ rfl
  refine EvP.ret ?_
  simp only [beq_iff_eq, toList_eq]
  have h1 : Den.trimmed s cs = ByteArray.empty ↔ Lib.trimS s.data.toList cs.data.toList = [] := by
    unfold Den.trimmed
    constructor
    · intro h
      have := congrArg (fun z => z.data.toList) h
      simpa using this
    · intro h
      rw [h]; rfl
  rw [h1, trimS_nil]
  constructor
  · intro h i hi
    exact (hm _).1 (h _ (bt_mem s hi))
  · intro h x hx
    obtain ⟨i, hi, rfl⟩ := mem_bt s hx
    exact (hm _).2 (h i hi)

theorem byteList_len (s : ByteArray) : (byteList s).length = s.size := by simp [byteList]
theorem byteList_rd (s : ByteArray) {i : Nat} (hi : i < s.size) : rdT (.int .u8) (byteList s) i = bt s i := by
  have h : i < s.data.size := hi
  unfold rdT bt byteList
  rw [Array.getD_eq_getD_getElem?, Array.getElem?_eq_getElem h]
  simp [List.getD, Array.getElem?_eq_getElem h]

theorem atoi_l5_ev (s : ByteArray) (h1 : 1 ≤ s.size) (h9 : s.size ≤ 9) (hall : AllDig 10 s) : EvP (fun k => internal_strconv_Atoi.l5 k (s, 0, byteList s, ((byteList s).length : Int), 0, ())) (· = (valN s 10 s.size, (), ())) := by
  have loop := EvP.loop (L := internal_strconv_Atoi.l5) (Q := (· = (valN s 10 s.size, (), ()))) (fun j st => ∃ i : Nat, st = (s, valN s 10 i, byteList s, ((byteList s).length : Int), (i : Int), ()) ∧ j = s.size - i ∧ i ≤ s.size) ?_
  · exact loop _ _ ⟨0, rfl, rfl, Nat.zero_le _⟩
  · rintro j _ ⟨i, rfl, rfl, hi⟩ ih
    simp only [internal_strconv_Atoi.l5, decide_eq_true_eq, Int.toNat_natCast, byteList_len, beq_iff_eq]
    refine EvP.ite (fun hlt => EvP.pos (by omega) (EvP.pos hlt ?_)) (fun hge => ?_)
    · have hil : i < s.size := by omega
      have hd : 48 ≤ bt s i ∧ bt s i ≤ 57 := by
        have := hall i hil
        unfold Dig at this
        omega
      rw [byteList_rd s hil, IntKind.wrap_u8']
      have e0 : (bt s i - 48) % 256 = bt s i - 48 := by omega
      rw [e0]
      have hv := valN_small (b := 10) (.inl rfl) (show i ≤ 9 by omega) (fun p hp => hall p (by omega))
      have hv2 := valN_small (b := 10) (.inl rfl) (show i + 1 ≤ 9 by omega) (fun p hp => hall p (by omega))
      have e1 : w64 (w64 (valN s 10 i * 10) + w64 (bt s i - 48)) = valN s 10 (i + 1) := by
        have e2 : digV (bt s i) = bt s i - 48 := by unfold digV; rw [if_pos hd.2]
        simp only [valN, e2] at hv2 ⊢
        rw [w64_id (x := valN s 10 i * 10) (by omega) (by omega), w64_id (x := bt s i - 48) (by omega) (by omega), w64_id (by omega) (by omega)]
      rw [e1]
      simp only [next64 (show i ≤ 1099511627776 by omega)]
      refine EvP.neg (by omega) ?_
      have := ih (s.size - (i + 1)) _ (by omega) ⟨i + 1, rfl, rfl, by omega⟩
      rwa [byteList_len] at this
    · obtain rfl : i = s.size := by omega
      have hd := hall 0 (by omega)
      unfold Dig at hd
      exact EvP.pos (by omega) (EvP.neg (by omega) (EvP.ret rfl))

theorem atoi_ev (s : ByteArray) (h1 : 1 ≤ s.size) (h9 : s.size ≤ 9) (hall : AllDig 10 s) : EvP (fun k => strconv_Atoi.f k (s, ())) (· = (valN s 10 s.size, (), ())) := by
  simp only [strconv_Atoi.f, internal_strconv_Atoi.f, decide_eq_true_eq, beq_iff_eq]
  have hd := hall 0 (by omega)
  unfold Dig at hd
  refine EvP.bind (EvP.pos (by omega) (EvP.pos (by omega) (EvP.pos (by omega) (EvP.neg (by omega) (EvP.pos (by omega) (EvP.neg (by omega) (atoi_l5_ev s h1 h9 hall))))))) ?_
  rintro _ rfl
  exact EvP.ret rfl

theorem low_or : ∀ c : Int, 65 ≤ c ∧ c ≤ 70 → bitsI .u8 (· ||| ·) c (32 : Int) = c + 32 := by
  intro c h
  have : c = 65 ∨ c = 66 ∨ c = 67 ∨ c = 68 ∨ c = 69 ∨ c = 70 := by omega
  rcases this with rfl | rfl | rfl | rfl | rfl | rfl <;> decide

theorem wrap64_id {x : Int} (h0 : 0 ≤ x) (h1 : x < 18446744073709551616) : IntKind.wrap .u64 x = x := by
  rw [IntKind.wrap_u64]
  omega

theorem puint_l10_ev (s t : ByteArray) (h7 : s.size ≤ 7) (hall : AllDig 16 s) : EvP (fun k => internal_strconv_ParseUint.l10 k (16, false, t, 1152921504606846976, 18446744073709551615, false, 0, byteList s, ((byteList s).length : Int), 0, ())) (· = (valN s 16 s.size, (), ())) := by
  have loop := EvP.loop (L := internal_strconv_ParseUint.l10) (Q := (· = (valN s 16 s.size, (), ()))) (fun j st => ∃ i : Nat, st = (16, false, t, 1152921504606846976, 18446744073709551615, false, valN s 16 i, byteList s, ((byteList s).length : Int), (i : Int), ()) ∧ j = s.size - i ∧ i ≤ s.size) ?_
  · exact loop _ _ ⟨0, rfl, rfl, Nat.zero_le _⟩
  · rintro j _ ⟨i, rfl, rfl, hi⟩ ih
    simp only [internal_strconv_ParseUint.l10, decide_eq_true_eq, Int.toNat_natCast, byteList_len, beq_iff_eq, internal_strconv_lower.f]
    refine EvP.ite (fun hlt => EvP.pos (by omega) (EvP.pos hlt ?_)) (fun hge => ?_)
    · have hil : i < s.size := by omega
      have hd := hall i hil
      rw [byteList_rd s hil]
      have hv := valN_small (b := 16) (.inr rfl) (show i ≤ 9 by omega) (fun p hp => hall p (by omega))
      have hv2 := valN_small (b := 16) (.inr rfl) (show i + 1 ≤ 9 by omega) (fun p hp => hall p (by omega))
      have hdb := digV_bound (b := 16) (.inr rfl) hd
      have hgo := ih (s.size - (i + 1)) _ (by omega) ⟨i + 1, rfl, rfl, by omega⟩
      rw [byteList_len] at hgo
      have w16 : IntKind.wrap .u64 (16 : Int) = 16 := by decide
      have w168 : IntKind.wrap .u8 (16 : Int) = 16 := by decide
      have e0 : IntKind.wrap .u64 (valN s 16 i * 16) = valN s 16 i * 16 := wrap64_id (by omega) (by omega)
      have step : ∀ d : Int, d = digV (bt s i) → IntKind.wrap .u64 (valN s 16 i * 16 + IntKind.wrap .u64 d) = valN s 16 (i + 1) := by
        intro d he
        subst he
        rw [wrap64_id (x := digV (bt s i)) (by omega) (by omega)]
        simp only [valN] at hv2 ⊢
        exact wrap64_id (by omega) (by omega)
      have h95 : ¬ bt s i = 95 := by unfold Dig at hd; omega
      refine EvP.neg h95 ?_
      simp only [next64 (show i ≤ 1099511627776 by omega), w16, w168, e0]
      simp only [valN] at hv2
      by_cases h57 : bt s i ≤ 57
      · have e8 : IntKind.wrap .u8 (bt s i - 48) = bt s i - 48 := by
          rw [IntKind.wrap_u8']; unfold Dig at hd; omega
        have ed : bt s i - 48 = digV (bt s i) := by unfold digV; rw [if_pos h57]
        simp only [e8, step _ ed]
        refine EvP.pos (by unfold Dig at hd; omega) (EvP.pos h57 (EvP.neg (by omega) (EvP.neg (by omega) (EvP.neg (by simp only [valN]; omega) (EvP.neg (by simp only [valN]; omega) hgo)))))
      · have hr : 65 ≤ bt s i ∧ bt s i ≤ 70 := by unfold Dig at hd; omega
        have ed : bt s i - 55 = digV (bt s i) := by unfold digV; rw [if_neg h57]
        simp only [low_or _ hr]
        have e8 : IntKind.wrap .u8 (IntKind.wrap .u8 (bt s i + 32 - 97) + 10) = bt s i - 55 := by
          rw [IntKind.wrap_u8', IntKind.wrap_u8']; omega
        refine EvP.pos (by omega) (EvP.neg h57 ?_)
        refine EvP.bind (EvP.ret (Q := (· = (bt s i + 32, ()))) rfl) ?_
        rintro _ rfl
        refine EvP.pos (by simp only; omega) ?_
        refine EvP.bind (EvP.ret (Q := (· = (bt s i + 32, ()))) rfl) ?_
        rintro _ rfl
        refine EvP.pos (by simp only; omega) ?_
        refine EvP.bind (EvP.ret (Q := (· = (bt s i + 32, ()))) rfl) ?_
        rintro _ rfl
        simp only [e8, step _ ed]
        exact EvP.neg (by omega) (EvP.neg (by omega) (EvP.neg (by simp only [valN]; omega) (EvP.neg (by simp only [valN]; omega) hgo)))
    · obtain rfl : i = s.size := by omega
      exact EvP.neg (by decide) (EvP.ret rfl)

theorem parseInt_ev (s : ByteArray) (h1 : 1 ≤ s.size) (h7 : s.size ≤ 7) (hall : AllDig 16 s) : EvP (fun k => strconv_ParseInt.f k (s, 16, 64, ())) (· = (valN s 16 s.size, (), ())) := by
  have hd := hall 0 (by omega)
  unfold Dig at hd
  have hne : ¬ s = ByteArray.empty := by rintro rfl; exact absurd h1 (by decide)
  have hv := valN_small (b := 16) (.inr rfl) (show s.size ≤ 9 by omega) (fun p hp => hall p hp)
  have hu : EvP (fun k => internal_strconv_ParseUint.f k (s, 16, 64, ())) (· = (valN s 16 s.size, (), ())) := by
    simp only [internal_strconv_ParseUint.f, decide_eq_true_eq, beq_iff_eq, toList_eq]
    refine EvP.neg hne (EvP.pos (by decide) (EvP.pos (by decide) ?_))
    simp only [internal_strconv_ParseUint.l1, internal_strconv_ParseUint.l6, internal_strconv_ParseUint.l8, decide_eq_true_eq, beq_iff_eq]
    refine EvP.neg (by decide) (EvP.neg (by decide) (EvP.neg (by decide) (EvP.neg (by decide) (EvP.pos trivial (EvP.pos (by decide) ?_)))))
    exact puint_l10_ev s s h7 hall
  simp only [strconv_ParseInt.f, internal_strconv_ParseInt.f, decide_eq_true_eq, beq_iff_eq, toList_eq]
  refine EvP.bind (R := (· = (valN s 16 s.size, (), ()))) ?_ ?_
  · refine EvP.neg hne (EvP.pos (by omega) (EvP.neg (by omega) (EvP.neg (by omega) ?_)))
    refine EvP.bind hu ?_
    rintro _ rfl
    refine EvP.neg (by decide) (EvP.pos (by decide) (EvP.neg ?_ (EvP.ret ?_)))
    · have e : IntKind.wrap .u64 ((1 : Int) * 2 ^ (min (IntKind.wrap .u64 (w64 ((64 : Int) - 1))).toNat (IntKind.bits .u64))) = 9223372036854775808 := by decide
      simp only
      rw [e]
      omega
    · simp only
      rw [w64_id (by omega) (by omega)]
  · rintro _ rfl
    exact EvP.ret rfl

theorem ext_size (s : ByteArray) (i j : Nat) (h : j ≤ s.size) : (s.extract i j).size = j - i := by
  rw [ByteArray.size_extract]; omega

theorem bt_extract (s : ByteArray) {n i : Nat} (hn : n ≤ s.size) (hi : i < n) : bt (s.extract 0 n) i = bt s i := by
  have h1 : i < s.data.size := Nat.lt_of_lt_of_le hi hn
  have h2 : i < (s.extract 0 n).data.size := by
    have := ext_size s 0 n hn
    show i < (s.extract 0 n).size
    omega
  unfold bt
  rw [Array.getD_eq_getD_getElem?, Array.getD_eq_getD_getElem?, Array.getElem?_eq_getElem h1, Array.getElem?_eq_getElem h2]
  simp [ByteArray.data_extract]

theorem last_iff (s : ByteArray) (h : 1 ≤ s.size) : s.extract (s.size - 1) s.size = ⟨#[72]⟩ ↔ bt s (s.size - 1) = 72 := by
  have h1 : s.size - 1 < s.data.size := by show s.size - 1 < s.size; omega
  have hx : s.extract (s.size - 1) s.size = ⟨#[s.data[s.size - 1]]⟩ := by
    apply ByteArray.ext
    rw [ByteArray.data_extract]
    apply Array.ext
    · simp
      omega
    · intro i hi1 hi2
      have : i = 0 := by simpa using hi2
      subst this
      simp
  have hb : bt s (s.size - 1) = ((s.data[s.size - 1]).toNat : Int) := by
    unfold bt
    rw [Array.getD_eq_getD_getElem?, Array.getElem?_eq_getElem h1]
    rfl
  rw [hx, hb]
  constructor
  · intro e
    have := congrArg (fun z => z.data.toList) e
    simp at this
    rw [this]
    rfl
  · intro e
    have : s.data[s.size - 1] = 72 := by
      apply UInt8.toNat_inj.1
      show _ = 72
      omega
    rw [this]

def body (s : ByteArray) : ByteArray := s.extract 0 (s.size - 1)
def IsDec (s : ByteArray) : Prop := 1 ≤ s.size ∧ s.size ≤ 9 ∧ AllDig 10 s
def IsHex (s : ByteArray) : Prop := bt s (s.size - 1) = 72 ∧ 2 ≤ s.size ∧ s.size ≤ 8 ∧ AllDig 16 (body s) ∧ (48 ≤ bt s 0 ∧ bt s 0 ≤ 57)
noncomputable def ans (s : ByteArray) : Int × Bool × Unit := pickP (IsDec s) (valN s 10 s.size, true, ()) (pickP (IsHex s) (valN (body s) 16 (body s).size, true, ()) (0, false, ()))

theorem body_size {s : ByteArray} : (body s).size = s.size - 1 := by
  unfold body
  rw [ext_size _ _ _ (by omega)]
  omega

theorem ans_no {s : ByteArray} (h1 : ¬ IsDec s) (h2 : ¬ IsHex s) : ((0, false, ()) : Int × Bool × Unit) = ans s := by
  unfold ans
  rw [pickP_neg h1, pickP_neg h2]

theorem spec_ans (s : ByteArray) (hs : Fit .str s) : EvP (fun k => spec_NumberOf.f k (s, ())) (· = ans s) := by
  have hs' : s.size ≤ 1048576 := hs
  simp only [spec_NumberOf.f]
  refine EvP.bind (R := (· = ans s)) ?_ ?_
  · simp only [spec_l2Number.f, beq_iff_eq, toList_eq, Bool.not_eq_true']
    refine EvP.ite (fun h => EvP.ret (ans_no ?_ ?_)) (fun h => ?_)
    · subst h; exact fun e => absurd e.1 (by decide)
    · subst h; exact fun e => absurd e.2.1 (by decide)
    have hpos : 1 ≤ s.size := by
      rcases Nat.eq_zero_or_pos s.size with h0 | h0
      · exfalso
        apply h
        apply ByteArray.ext
        exact Array.eq_empty_of_size_eq_zero h0
      · exact h0
    refine EvP.pos (by omega) ?_
    refine EvP.bind (l2Digit_ev _) ?_
    rintro ⟨y, _⟩ hy
    simp only at hy
    refine EvP.ite (fun h0 => EvP.ret (ans_no ?_ ?_)) (fun h0 => ?_)
    · intro e
      have := e.2.2 0 (by omega)
      unfold Dig at this
      rw [hy.2 (by omega)] at h0; cases h0
    · intro e
      rw [hy.2 e.2.2.2.2] at h0; cases h0
    have hd : 48 ≤ bt s 0 ∧ bt s 0 ≤ 57 := hy.1 (by simpa using h0)
    have hw : w64 ((s.size : Int) - (1 : Int)) = ((s.size - 1 : Nat) : Int) := by rw [w64_id (by omega) (by omega)]; omega
    simp only [hw, Int.toNat_natCast]
    refine EvP.pos (by omega) (EvP.pos (by omega) (EvP.ite (fun hl => EvP.pos (by omega) (EvP.pos (by omega) ?_)) (fun hl => ?_)))
    · have h2 : 2 ≤ s.size := by
        rcases Nat.lt_or_ge 1 s.size with h2 | h2
        · exact h2
        · have : s.size - 1 = 0 := by omega
          rw [this] at hl
          omega
      have hb := spec_l4_ev 16 7 (.inr rfl) (by decide) (body s) (by rw [body_size]; omega)
      refine hb.mono ?_
      rintro _ rfl
      unfold ans
      rw [pickP_neg (p := IsDec s) (fun e => by
        have := e.2.2 (s.size - 1) (by omega)
        unfold Dig at this
        omega)]
      by_cases hh : IsHex s
      · rw [pickP_pos hh, pickP_pos ⟨hh.2.2.2.1, by rw [body_size]; have := hh.2.2.1; omega⟩]
      · rw [pickP_neg hh, pickP_neg fun e => hh ⟨hl, h2, by have := e.2; rw [body_size] at this; omega, e.1, hd⟩]
    · refine (spec_l4_ev 10 9 (.inl rfl) (by decide) s hs').mono ?_
      rintro _ rfl
      unfold ans
      rw [pickP_neg (p := IsHex s) fun e => hl e.1]
      by_cases hh : IsDec s
      · rw [pickP_pos hh, pickP_pos ⟨hh.2.2, hh.2.1⟩]
      · rw [pickP_neg hh, pickP_neg fun e => hh ⟨hpos, e.2, e.1⟩]
  · rintro _ rfl
    exact EvP.ret rfl

theorem cut_ev (s : ByteArray) (hs : s.size ≤ 1048576) : EvP (fun k => strings_CutSuffix.f k (s, (⟨#[72]⟩ : ByteArray), ())) (fun y => (y.2.1 = true ∧ y.1 = body s ∧ 1 ≤ s.size ∧ bt s (s.size - 1) = 72) ∨ (y.2.1 = false ∧ ¬ (1 ≤ s.size ∧ bt s (s.size - 1) = 72))) := by
  have e1 : (⟨#[72]⟩ : ByteArray).size = 1 := rfl
  simp only [strings_CutSuffix.f, internal_stringslite_CutSuffix.f]
  refine EvP.bind (R := fun y => (y.2.1 = true ∧ y.1 = body s ∧ 1 ≤ s.size ∧ bt s (s.size - 1) = 72) ∨ (y.2.1 = false ∧ ¬ (1 ≤ s.size ∧ bt s (s.size - 1) = 72))) ?_ ?_
  · refine EvP.bind (R := fun y => y.1 = true ↔ (1 ≤ s.size ∧ bt s (s.size - 1) = 72)) ?_ ?_
    · simp only [internal_stringslite_HasSuffix.f, decide_eq_true_eq, e1]
      refine EvP.ite (fun h => ?_) (fun h => EvP.ret ⟨fun e => (by cases e), fun e => by omega⟩)
      have hw : w64 ((s.size : Int) - ((1 : Nat) : Int)) = ((s.size - 1 : Nat) : Int) := by rw [w64_id (by omega) (by omega)]; omega
      simp only [hw, Int.toNat_natCast]
      refine EvP.pos (by omega) (EvP.pos (by omega) (EvP.ret ?_))
      simp only [beq_iff_eq, toList_eq]
      rw [last_iff s (by omega)]
      exact ⟨fun e => ⟨by omega, e⟩, fun e => e.2⟩
    · rintro ⟨y, _⟩ hy
      simp only [Bool.not_eq_true'] at hy ⊢
      refine EvP.ite (fun h => EvP.ret (.inr ⟨rfl, fun e => by rw [hy.2 e] at h; cases h⟩)) (fun h => ?_)
      have h1 := hy.1 (by simpa using h)
      have hw : w64 ((s.size : Int) - ((1 : Nat) : Int)) = ((s.size - 1 : Nat) : Int) := by rw [w64_id (by omega) (by omega)]; omega
      simp only [e1, hw, Int.toNat_natCast]
      exact EvP.pos (by omega) (EvP.pos (by omega) (EvP.ret (.inl ⟨rfl, rfl, h1⟩)))
  · rintro ⟨a, b, _⟩ h
    exact EvP.ret h

theorem impl_ans (s : ByteArray) (hs : Fit .str s) : EvP (fun k => impl_NumberOf.f k (s, ())) (· = ans s) := by
  have hs' : s.size ≤ 1048576 := hs
  have tail : ∀ y1 : ByteArray × Bool × Unit, ((y1.2.1 = true ∧ y1.1 = body s ∧ 1 ≤ s.size ∧ bt s (s.size - 1) = 72) ∨ (y1.2.1 = false ∧ ¬ (1 ≤ s.size ∧ bt s (s.size - 1) = 72))) → ¬ IsDec s →
      EvP (fun k => (if y1.2.1 = true then ((impl_in.f k ((y1.1.size : Int), 1, 7, ())).bind fun y9 => (if y9.1 = true then ((impl_isNumeral.f k (y1.1, (⟨#[48, 49, 50, 51, 52, 53, 54, 55, 56, 57, 65, 66, 67, 68, 69, 70]⟩ : ByteArray), ())).bind fun y10 => (if y10.1 = true then (if (0 : Int) < (y1.1.size : Int) then ((impl_isDigit.f k ((bt y1.1 0), ())).bind fun y11 => (if y11.1 = true then ((strconv_ParseInt.f k (y1.1, 16, 64, ())).bind fun y12 => (some (y12.1, true, ()))) else (some (0, false, ())))) else none) else (some (0, false, ())))) else (some (0, false, ())))) else (some (0, false, ())))) (· = ans s) := by
    rintro ⟨t, c, _⟩ hc hno
    rcases hc with ⟨hc, ht, h1, hl⟩ | ⟨hc, hl⟩
    · simp only at hc ht
      subst hc ht
      refine EvP.pos rfl ?_
      have hbs := body_size (s := s)
      refine EvP.bind (in_ev _ _ _) ?_
      rintro ⟨y, _⟩ hy
      simp only at hy
      subst hy
      refine EvP.ite (fun h => ?_) (fun h => EvP.ret (ans_no hno fun e => h (decide_eq_true ⟨by have := e.2.1; omega, by have := e.2.2.1; omega⟩)))
      have hr : 1 ≤ ((body s).size : Int) ∧ ((body s).size : Int) ≤ 7 := of_decide_eq_true h
      refine EvP.bind (numeral_ev (body s) ⟨#[48, 49, 50, 51, 52, 53, 54, 55, 56, 57, 65, 66, 67, 68, 69, 70]⟩ 16 (by omega) ⟨by omega, by decide, by decide⟩ hex_mem) ?_
      rintro ⟨z, _⟩ hz
      simp only at hz
      refine EvP.ite (fun h2 => EvP.pos (by show (0 : Int) < ((body s).size : Int); omega) ?_) (fun h2 => EvP.ret (ans_no hno fun e => h2 (hz.2 e.2.2.2.1)))
      have hall := hz.1 h2
      have hb0 : bt (body s) 0 = bt s 0 := bt_extract s (by omega) (by omega)
      refine EvP.bind (isDigit_ev _) ?_
      rintro ⟨u, _⟩ hu
      simp only at hu
      rw [hb0] at hu
      refine EvP.ite (fun h3 => ?_) (fun h3 => EvP.ret (ans_no hno fun e => h3 (hu.2 e.2.2.2.2)))
      refine EvP.bind (parseInt_ev (body s) (by omega) (by omega) hall) ?_
      rintro _ rfl
      refine EvP.ret ?_
      unfold ans
      rw [pickP_neg hno, pickP_pos ⟨hl, by omega, by omega, hall, hu.1 h3⟩]
    · simp only at hc
      subst hc
      exact EvP.neg (fun e => by cases e) (EvP.ret (ans_no hno fun e => hl ⟨by have := e.2.1; omega, e.1⟩))
  simp only [impl_NumberOf.f]
  refine EvP.bind (cut_ev s hs') ?_
  intro y1 h1
  refine EvP.bind (in_ev _ _ _) ?_
  rintro ⟨y, _⟩ hy
  simp only at hy
  subst hy
  refine EvP.ite (fun h => ?_) (fun h => tail y1 h1 fun e => h (decide_eq_true ⟨by have := e.1; omega, by have := e.2.1; omega⟩))
  have hr : 1 ≤ (s.size : Int) ∧ (s.size : Int) ≤ 9 := of_decide_eq_true h
  refine EvP.bind (numeral_ev s ⟨#[48, 49, 50, 51, 52, 53, 54, 55, 56, 57]⟩ 10 hs' ⟨by omega, by decide, by decide⟩ dec_mem) ?_
  rintro ⟨z, _⟩ hz
  simp only at hz
  refine EvP.ite (fun h2 => ?_) (fun h2 => tail y1 h1 fun e => h2 (hz.2 e.2.2))
  have hall := hz.1 h2
  refine EvP.bind (atoi_ev s (by omega) (by omega) hall) ?_
  rintro _ rfl
  refine EvP.ret ?_
  unfold ans
  rw [pickP_pos ⟨by omega, by omega, hall⟩]

theorem law (a0 : (.str : Ty).D) (o0 : okD .str a0) : EvP (fun k => laws_FnExactNumberOf.f k (a0, ())) (· = (true, ())) := by
  simp only [laws_FnExactNumberOf.f, decide_eq_true_eq]
  refine EvP.ite (fun _ => EvP.ret rfl) (fun h => ?_)
  have f0 : Fit .str a0 := by show ByteArray.size _ ≤ 1048576; omega
  clear h
  refine EvP.bind (spec_ans _ f0) ?_
  rintro _ rfl
  refine EvP.bind (impl_ans _ f0) ?_
  rintro _ rfl
  refine EvP.neg (by simp) ?_
  refine EvP.neg (by simp) ?_
  exact EvP.ret rfl


end Go.Proofs.YtdphgdlkchajoaaDoor.LawFnExactNumberOf
