/- The plain law FnTokens: its Lean function answers true at all data. -/
import Derived.Test.YtmcdddghlcllbaaGreatDoorDFnTokens
set_option autoImplicit false
set_option linter.unusedVariables false
set_option linter.unusedSimpArgs false
namespace Go.Proofs.YtmcdddghlcllbaaGreatDoor.LawFnTokens
open Go.Proofs.YtmcdddghlcllbaaGreatDoor.Den Go.Proofs

theorem in_ev (a b c : Int) : EvP (fun k => impl_in.f k (a, b, c, ())) (fun y => y.1 = decide (b ≤ a ∧ a ≤ c)) := by
  simp only [impl_in.f, decide_eq_true_eq]
  refine EvP.ite (fun h => EvP.ret ?_) (fun h => EvP.ret ?_)
  · simp only [ge_iff_le] at h; simp [h]
  · simp only [ge_iff_le] at h; simp [h]

/-! ### Numbers of digits -/

def Dig (b c : Int) : Prop := (48 ≤ c ∧ c ≤ 57) ∨ (b = 16 ∧ 65 ≤ c ∧ c ≤ 70)
def digV (c : Int) : Int := if c ≤ 57 then c - 48 else c - 55
def valN (s : ByteArray) (b : Int) : Nat → Int
  | 0 => 0
  | i + 1 => valN s b i * b + digV (bt s i)

theorem digV_bound {b c : Int} (hb : b = 10 ∨ b = 16) (h : Dig b c) : 0 ≤ digV c ∧ digV c < b := by
  unfold Dig at h
  unfold digV
  split <;> omega

theorem valN_bound {s : ByteArray} {b : Int} (hb : b = 10 ∨ b = 16) : ∀ i : Nat, (∀ j, j < i → Dig b (bt s j)) → 0 ≤ valN s b i ∧ valN s b i < ((16 ^ i : Nat) : Int) := by
  intro i
  induction i with
  | zero => intro _; exact ⟨Int.le_refl _, by show (0 : Int) < ((16 ^ 0 : Nat) : Int); decide⟩
  | succ i ih =>
    intro h
    obtain ⟨h1, h2⟩ := ih fun j hj => h j (by omega)
    have h3 := digV_bound hb (h i (by omega))
    simp only [valN, Nat.pow_succ]
    generalize valN s b i = v at *
    generalize digV (bt s i) = d at *
    generalize (16 ^ i : Nat) = P at *
    rcases hb with rfl | rfl <;> omega

theorem pow_le {i : Nat} (h : i ≤ 9) : (16 ^ i : Nat) ≤ 68719476736 := Nat.pow_le_pow_right (by decide) h

theorem valN_small {s : ByteArray} {b : Int} (hb : b = 10 ∨ b = 16) {i : Nat} (hi : i ≤ 9) (h : ∀ j, j < i → Dig b (bt s j)) : 0 ≤ valN s b i ∧ valN s b i < 68719476736 := by
  have h1 := valN_bound hb i h
  have h2 := pow_le hi
  omega

theorem bt_range (s : ByteArray) (i : Nat) : 0 ≤ bt s i ∧ bt s i ≤ 255 := by
  unfold bt
  have := (s.data.getD i 0).toNat_lt
  omega

theorem l2Digit_ev (c : Int) : EvP (fun k => spec_l2Digit.f k (c, ())) (fun y => y.1 = true ↔ (48 ≤ c ∧ c ≤ 57)) := by
  simp only [spec_l2Digit.f, decide_eq_true_eq]
  refine EvP.ite (fun h => EvP.ret ?_) (fun h => EvP.ret ?_)
  · simp; omega
  · simp; omega

theorem isDigit_ev (c : Int) : EvP (fun k => impl_isDigit.f k (c, ())) (fun y => y.1 = true ↔ (48 ≤ c ∧ c ≤ 57)) := by
  simp only [impl_isDigit.f, decide_eq_true_eq]
  refine EvP.ite (fun h => EvP.ret ?_) (fun h => EvP.ret ?_)
  · simp; omega
  · simp; omega

def hexR (c : Int) : Int := if 48 ≤ c ∧ c ≤ 57 then c - 48 else if 65 ≤ c ∧ c ≤ 70 then c - 55 else -1

theorem l2Hex_ev (c : Int) (hc : 0 ≤ c ∧ c ≤ 255) : EvP (fun k => spec_l2Hex.f k (c, ())) (· = (hexR c, ())) := by
  simp only [spec_l2Hex.f, decide_eq_true_eq]
  unfold hexR
  refine EvP.bind (l2Digit_ev c) ?_
  rintro ⟨y, _⟩ hy
  simp only at hy
  refine EvP.ite (fun h => EvP.ret ?_) (fun h => ?_)
  · have h1 := hy.1 h
    rw [if_pos h1, IntKind.wrap_u8', w64_id (by omega) (by omega)]
    congr 1
    omega
  · have h1 : ¬ (48 ≤ c ∧ c ≤ 57) := fun e => h (hy.2 e)
    rw [if_neg h1]
    refine EvP.ite (fun h2 => EvP.ite (fun h3 => EvP.ret ?_) (fun h3 => EvP.ret ?_)) (fun h2 => EvP.ret ?_)
    · rw [if_pos ⟨h2, h3⟩, IntKind.wrap_u8', w64_id (x := (c - 65) % 256) (by omega) (by omega), w64_id (by omega) (by omega)]
      congr 1
      omega
    · rw [if_neg (by omega)]
    · rw [if_neg (by omega)]

theorem hexR_dig {b c : Int} (hb : b = 10 ∨ b = 16) : (0 ≤ hexR c ∧ hexR c < b) ↔ Dig b c := by
  unfold hexR Dig
  split
  · omega
  · split <;> omega

theorem hexR_val {b c : Int} (h : Dig b c) : hexR c = digV c := by
  unfold hexR digV
  unfold Dig at h
  split
  · rw [if_pos (by omega)]
  · rw [if_pos (by omega), if_neg (by omega)]

def AllDig (b : Int) (s : ByteArray) : Prop := ∀ i, i < s.size → Dig b (bt s i)

theorem spec_l4_ev (b : Int) (most : Nat) (hb : b = 10 ∨ b = 16) (hm : most ≤ 9) (s : ByteArray) (hs : s.size ≤ 1048576) :
    EvP (fun k => spec_l2Number.l4 k (b, (most : Int), s, 0, 0, ())) (· = pickP (AllDig b s ∧ s.size ≤ most) (valN s b s.size, true, ()) (0, false, ())) := by
  have loop := EvP.loop (L := spec_l2Number.l4) (Q := (· = pickP (AllDig b s ∧ s.size ≤ most) (valN s b s.size, true, ()) (0, false, ()))) (fun j st => ∃ i : Nat, st = (b, (most : Int), s, valN s b i, (i : Int), ()) ∧ j = s.size - i ∧ i ≤ s.size ∧ i ≤ most ∧ ∀ p, p < i → Dig b (bt s p)) ?_
  · exact loop _ _ ⟨0, rfl, rfl, Nat.zero_le _, Nat.zero_le _, fun p hp => absurd hp (Nat.not_lt_zero _)⟩
  · rintro j _ ⟨i, rfl, rfl, hi, him, hall⟩ ih
    simp only [spec_l2Number.l4, decide_eq_true_eq, Int.toNat_natCast]
    refine EvP.ite (fun hlt => EvP.pos (by omega) (EvP.pos hlt ?_)) (fun hge => EvP.ret ?_)
    · have hil : i < s.size := by omega
      refine EvP.bind (l2Hex_ev _ (bt_range s i)) ?_
      rintro _ rfl
      have no : ¬ (Dig b (bt s i) ∧ i < most) → ((0, false, ()) : Int × Bool × Unit) = pickP (AllDig b s ∧ s.size ≤ most) (valN s b s.size, true, ()) (0, false, ()) := fun h => by rw [pickP_neg fun e => h ⟨e.1 i hil, by omega⟩]
      refine EvP.ite (fun h => EvP.ret (no fun e => by have := (hexR_dig hb).2 e.1; simp only at h; omega)) (fun h1 => ?_)
      refine EvP.ite (fun h => EvP.ret (no fun e => by have := (hexR_dig hb).2 e.1; simp only at h; omega)) (fun h2 => ?_)
      refine EvP.ite (fun h => EvP.ret (no fun e => by omega)) (fun h3 => ?_)
      simp only at h1 h2
      have hd : Dig b (bt s i) := (hexR_dig hb).1 ⟨by omega, by omega⟩
      have hv := valN_small hb (show i ≤ 9 by omega) hall
      have hv2 := valN_small hb (show i + 1 ≤ 9 by omega) (fun p hp => by
        rcases Nat.lt_or_ge p i with hp' | hp'
        · exact hall p hp'
        · obtain rfl : p = i := by omega
          exact hd)
      have e1 : w64 (w64 (valN s b i * b) + hexR (bt s i)) = valN s b (i + 1) := by
        rw [hexR_val hd]
        have h4 := digV_bound hb hd
        simp only [valN] at hv2 ⊢
        rw [w64_id (x := valN s b i * b) (by rcases hb with rfl | rfl <;> omega) (by rcases hb with rfl | rfl <;> omega), w64_id (by omega) (by omega)]
      simp only [e1, next64 (show i ≤ 1099511627776 by omega)]
      exact ih (s.size - (i + 1)) _ (by omega) ⟨i + 1, rfl, rfl, by omega, by omega, fun p hp => by
        rcases Nat.lt_or_ge p i with hp' | hp'
        · exact hall p hp'
        · obtain rfl : p = i := by omega
          exact hd⟩
    · obtain rfl : i = s.size := by omega
      rw [pickP_pos ⟨hall, him⟩]

/-! ### Trim: whether all bytes lie in a set -/

theorem all_dropWhile {α : Type} (p : α → Bool) : ∀ L : List α, (∀ x ∈ L.dropWhile p, p x = true) → ∀ x ∈ L, p x = true
  | [], _, x, hx => by cases hx
  | a :: r, h, x, hx => by
    by_cases ha : p a = true
    · rw [List.dropWhile_cons_of_pos ha] at h
      rcases List.mem_cons.1 hx with rfl | hx
      · exact ha
      · exact all_dropWhile p r h x hx
    · rw [List.dropWhile_cons_of_neg ha] at h
      exact h x hx

theorem dropWhile_all {α : Type} (p : α → Bool) : ∀ L : List α, (∀ x ∈ L, p x = true) → L.dropWhile p = []
  | [], _ => rfl
  | a :: r, h => by
    rw [List.dropWhile_cons_of_pos (h a (by simp))]
    exact dropWhile_all p r fun x hx => h x (by simp [hx])

theorem trimS_nil (l cs : List UInt8) : Lib.trimS l cs = [] ↔ ∀ x ∈ l, cs.contains x = true := by
  unfold Lib.trimS Lib.trimLeftS Lib.trimRightS
  constructor
  · intro h
    have h1 : ∀ x ∈ (l.reverse.dropWhile (cs.contains ·)).reverse, cs.contains x = true :=
      all_dropWhile (cs.contains ·) _ (fun x hx => by rw [h] at hx; cases hx)
    have h2 := all_dropWhile (cs.contains ·) l.reverse (fun x hx => h1 x (by simpa using hx))
    exact fun x hx => h2 x (by simpa using hx)
  · intro h
    rw [dropWhile_all (cs.contains ·) l.reverse (fun x hx => h x (by simpa using hx))]
    rfl

theorem bt_mem (s : ByteArray) {i : Nat} (hi : i < s.size) : s.data.getD i 0 ∈ s.data.toList := by
  have h : i < s.data.size := hi
  rw [Array.getD_eq_getD_getElem?, Array.getElem?_eq_getElem h]
  simp

theorem mem_bt (s : ByteArray) {x : UInt8} (hx : x ∈ s.data.toList) : ∃ i, i < s.size ∧ s.data.getD i 0 = x := by
  obtain ⟨i, hi, he⟩ := List.getElem_of_mem hx
  have h : i < s.data.size := by simpa using hi
  refine ⟨i, h, ?_⟩
  rw [Array.getD_eq_getD_getElem?, Array.getElem?_eq_getElem h, ← he]
  simp

def decS : List UInt8 := [48, 49, 50, 51, 52, 53, 54, 55, 56, 57]
def hexS : List UInt8 := [48, 49, 50, 51, 52, 53, 54, 55, 56, 57, 65, 66, 67, 68, 69, 70]

set_option maxRecDepth 100000 in
theorem dec_nat : ∀ n, n < 256 → decS.contains (UInt8.ofNat n) = decide (48 ≤ n ∧ n ≤ 57) := by decide
set_option maxRecDepth 100000 in
theorem hex_nat : ∀ n, n < 256 → hexS.contains (UInt8.ofNat n) = decide ((48 ≤ n ∧ n ≤ 57) ∨ (65 ≤ n ∧ n ≤ 70)) := by decide

theorem dec_mem (x : UInt8) : decS.contains x = true ↔ Dig 10 (x.toNat : Int) := by
  have h := dec_nat x.toNat x.toNat_lt
  rw [UInt8.ofNat_toNat] at h
  rw [h, decide_eq_true_eq]
  unfold Dig
  omega

theorem hex_mem (x : UInt8) : hexS.contains x = true ↔ Dig 16 (x.toNat : Int) := by
  have h := hex_nat x.toNat x.toNat_lt
  rw [UInt8.ofNat_toNat] at h
  rw [h, decide_eq_true_eq]
  unfold Dig
  omega

theorem numeral_ev (s cs : ByteArray) (b : Int) (hs : s.size ≤ 1048576) (hc : trimOk s cs) (hm : ∀ x : UInt8, cs.data.toList.contains x = true ↔ Dig b (x.toNat : Int)) :
    EvP (fun k => impl_isNumeral.f k (s, cs, ())) (fun y => y.1 = true ↔ AllDig b s) := by
  simp only [impl_isNumeral.f, strings_Trim.f]
  refine EvP.bind (EvP.pos hc (EvP.ret (Q := (· = (Den.trimmed s cs, ()))) rfl)) ?_
  rintro _ rfl
  refine EvP.ret ?_
  simp only [beq_iff_eq, toList_eq]
  have h1 : Den.trimmed s cs = ByteArray.empty ↔ Lib.trimS s.data.toList cs.data.toList = [] := by
    unfold Den.trimmed
    constructor
    · intro h
      have := congrArg (fun z => z.data.toList) h
      simpa using this
    · intro h
      rw [h]; rfl
  rw [h1, trimS_nil]
  constructor
  · intro h i hi
    exact (hm _).1 (h _ (bt_mem s hi))
  · intro h x hx
    obtain ⟨i, hi, rfl⟩ := mem_bt s hx
    exact (hm _).2 (h i hi)

theorem byteList_len (s : ByteArray) : (byteList s).length = s.size := by simp [byteList]
theorem byteList_rd (s : ByteArray) {i : Nat} (hi : i < s.size) : rdT (.int .u8) (byteList s) i = bt s i := by
  have h : i < s.data.size := hi
  unfold rdT bt byteList
  rw [Array.getD_eq_getD_getElem?, Array.getElem?_eq_getElem h]
  simp [List.getD, Array.getElem?_eq_getElem h]

theorem atoi_l5_ev (s : ByteArray) (h1 : 1 ≤ s.size) (h9 : s.size ≤ 9) (hall : AllDig 10 s) : EvP (fun k => internal_strconv_Atoi.l5 k (s, 0, byteList s, ((byteList s).length : Int), 0, ())) (· = (valN s 10 s.size, (), ())) := by
  have loop := EvP.loop (L := internal_strconv_Atoi.l5) (Q := (· = (valN s 10 s.size, (), ()))) (fun j st => ∃ i : Nat, st = (s, valN s 10 i, byteList s, ((byteList s).length : Int), (i : Int), ()) ∧ j = s.size - i ∧ i ≤ s.size) ?_
  · exact loop _ _ ⟨0, rfl, rfl, Nat.zero_le _⟩
  · rintro j _ ⟨i, rfl, rfl, hi⟩ ih
    simp only [internal_strconv_Atoi.l5, decide_eq_true_eq, Int.toNat_natCast, byteList_len, beq_iff_eq]
    refine EvP.ite (fun hlt => EvP.pos (by omega) (EvP.pos hlt ?_)) (fun hge => ?_)
    · have hil : i < s.size := by omega
      have hd : 48 ≤ bt s i ∧ bt s i ≤ 57 := by
        have := hall i hil
        unfold Dig at this
        omega
      rw [byteList_rd s hil, IntKind.wrap_u8']
      have e0 : (bt s i - 48) % 256 = bt s i - 48 := by omega
      rw [e0]
      have hv := valN_small (b := 10) (.inl rfl) (show i ≤ 9 by omega) (fun p hp => hall p (by omega))
      have hv2 := valN_small (b := 10) (.inl rfl) (show i + 1 ≤ 9 by omega) (fun p hp => hall p (by omega))
      have e1 : w64 (w64 (valN s 10 i * 10) + w64 (bt s i - 48)) = valN s 10 (i + 1) := by
        have e2 : digV (bt s i) = bt s i - 48 := by unfold digV; rw [if_pos hd.2]
        simp only [valN, e2] at hv2 ⊢
        rw [w64_id (x := valN s 10 i * 10) (by omega) (by omega), w64_id (x := bt s i - 48) (by omega) (by omega), w64_id (by omega) (by omega)]
      rw [e1]
      simp only [next64 (show i ≤ 1099511627776 by omega)]
      refine EvP.neg (by omega) ?_
      have := ih (s.size - (i + 1)) _ (by omega) ⟨i + 1, rfl, rfl, by omega⟩
      rwa [byteList_len] at this
    · obtain rfl : i = s.size := by omega
      have hd := hall 0 (by omega)
      unfold Dig at hd
      exact EvP.pos (by omega) (EvP.neg (by omega) (EvP.ret rfl))

theorem atoi_ev (s : ByteArray) (h1 : 1 ≤ s.size) (h9 : s.size ≤ 9) (hall : AllDig 10 s) : EvP (fun k => strconv_Atoi.f k (s, ())) (· = (valN s 10 s.size, (), ())) := by
  simp only [strconv_Atoi.f, internal_strconv_Atoi.f, decide_eq_true_eq, beq_iff_eq]
  have hd := hall 0 (by omega)
  unfold Dig at hd
  refine EvP.bind (EvP.pos (by omega) (EvP.pos (by omega) (EvP.pos (by omega) (EvP.neg (by omega) (EvP.pos (by omega) (EvP.neg (by omega) (atoi_l5_ev s h1 h9 hall))))))) ?_
  rintro _ rfl
  exact EvP.ret rfl

theorem low_or : ∀ c : Int, 65 ≤ c ∧ c ≤ 70 → bitsI .u8 (· ||| ·) c (32 : Int) = c + 32 := by
  intro c h
  have : c = 65 ∨ c = 66 ∨ c = 67 ∨ c = 68 ∨ c = 69 ∨ c = 70 := by omega
  rcases this with rfl | rfl | rfl | rfl | rfl | rfl <;> decide

theorem wrap64_id {x : Int} (h0 : 0 ≤ x) (h1 : x < 18446744073709551616) : IntKind.wrap .u64 x = x := by
  rw [IntKind.wrap_u64]
  omega

theorem puint_l10_ev (s t : ByteArray) (h7 : s.size ≤ 7) (hall : AllDig 16 s) : EvP (fun k => internal_strconv_ParseUint.l10 k (16, false, t, 1152921504606846976, 18446744073709551615, false, 0, byteList s, ((byteList s).length : Int), 0, ())) (· = (valN s 16 s.size, (), ())) := by
  have loop := EvP.loop (L := internal_strconv_ParseUint.l10) (Q := (· = (valN s 16 s.size, (), ()))) (fun j st => ∃ i : Nat, st = (16, false, t, 1152921504606846976, 18446744073709551615, false, valN s 16 i, byteList s, ((byteList s).length : Int), (i : Int), ()) ∧ j = s.size - i ∧ i ≤ s.size) ?_
  · exact loop _ _ ⟨0, rfl, rfl, Nat.zero_le _⟩
  · rintro j _ ⟨i, rfl, rfl, hi⟩ ih
    simp only [internal_strconv_ParseUint.l10, decide_eq_true_eq, Int.toNat_natCast, byteList_len, beq_iff_eq, internal_strconv_lower.f]
    refine EvP.ite (fun hlt => EvP.pos (by omega) (EvP.pos hlt ?_)) (fun hge => ?_)
    · have hil : i < s.size := by omega
      have hd := hall i hil
      rw [byteList_rd s hil]
      have hv := valN_small (b := 16) (.inr rfl) (show i ≤ 9 by omega) (fun p hp => hall p (by omega))
      have hv2 := valN_small (b := 16) (.inr rfl) (show i + 1 ≤ 9 by omega) (fun p hp => hall p (by omega))
      have hdb := digV_bound (b := 16) (.inr rfl) hd
      have hgo := ih (s.size - (i + 1)) _ (by omega) ⟨i + 1, rfl, rfl, by omega⟩
      rw [byteList_len] at hgo
      have w16 : IntKind.wrap .u64 (16 : Int) = 16 := by decide
      have w168 : IntKind.wrap .u8 (16 : Int) = 16 := by decide
      have e0 : IntKind.wrap .u64 (valN s 16 i * 16) = valN s 16 i * 16 := wrap64_id (by omega) (by omega)
      have step : ∀ d : Int, d = digV (bt s i) → IntKind.wrap .u64 (valN s 16 i * 16 + IntKind.wrap .u64 d) = valN s 16 (i + 1) := by
        intro d he
        subst he
        rw [wrap64_id (x := digV (bt s i)) (by omega) (by omega)]
        simp only [valN] at hv2 ⊢
        exact wrap64_id (by omega) (by omega)
      have h95 : ¬ bt s i = 95 := by unfold Dig at hd; omega
      refine EvP.neg h95 ?_
      simp only [next64 (show i ≤ 1099511627776 by omega), w16, w168, e0]
      simp only [valN] at hv2
      by_cases h57 : bt s i ≤ 57
      · have e8 : IntKind.wrap .u8 (bt s i - 48) = bt s i - 48 := by
          rw [IntKind.wrap_u8']; unfold Dig at hd; omega
        have ed : bt s i - 48 = digV (bt s i) := by unfold digV; rw [if_pos h57]
        simp only [e8, step _ ed]
        refine EvP.pos (by unfold Dig at hd; omega) (EvP.pos h57 (EvP.neg (by omega) (EvP.neg (by omega) (EvP.neg (by simp only [valN]; omega) (EvP.neg (by simp only [valN]; omega) hgo)))))
      · have hr : 65 ≤ bt s i ∧ bt s i ≤ 70 := by unfold Dig at hd; omega
        have ed : bt s i - 55 = digV (bt s i) := by unfold digV; rw [if_neg h57]
        simp only [low_or _ hr]
        have e8 : IntKind.wrap .u8 (IntKind.wrap .u8 (bt s i + 32 - 97) + 10) = bt s i - 55 := by
          rw [IntKind.wrap_u8', IntKind.wrap_u8']; omega
        refine EvP.pos (by omega) (EvP.neg h57 ?_)
        refine EvP.bind (EvP.ret (Q := (· = (bt s i + 32, ()))) rfl) ?_
        rintro _ rfl
        refine EvP.pos (by simp only; omega) ?_
        refine EvP.bind (EvP.ret (Q := (· = (bt s i + 32, ()))) rfl) ?_
        rintro _ rfl
        refine EvP.pos (by simp only; omega) ?_
        refine EvP.bind (EvP.ret (Q := (· = (bt s i + 32, ()))) rfl) ?_
        rintro _ rfl
        simp only [e8, step _ ed]
        exact EvP.neg (by omega) (EvP.neg (by omega) (EvP.neg (by simp only [valN]; omega) (EvP.neg (by simp only [valN]; omega) hgo)))
    · obtain rfl : i = s.size := by omega
      exact EvP.neg (by decide) (EvP.ret rfl)

theorem parseInt_ev (s : ByteArray) (h1 : 1 ≤ s.size) (h7 : s.size ≤ 7) (hall : AllDig 16 s) : EvP (fun k => strconv_ParseInt.f k (s, 16, 64, ())) (· = (valN s 16 s.size, (), ())) := by
  have hd := hall 0 (by omega)
  unfold Dig at hd
  have hne : ¬ s = ByteArray.empty := by rintro rfl; exact absurd h1 (by decide)
  have hv := valN_small (b := 16) (.inr rfl) (show s.size ≤ 9 by omega) (fun p hp => hall p hp)
  have hu : EvP (fun k => internal_strconv_ParseUint.f k (s, 16, 64, ())) (· = (valN s 16 s.size, (), ())) := by
    simp only [internal_strconv_ParseUint.f, decide_eq_true_eq, beq_iff_eq, toList_eq]
    refine EvP.neg hne (EvP.pos (by decide) (EvP.pos (by decide) ?_))
    simp only [internal_strconv_ParseUint.l1, internal_strconv_ParseUint.l6, internal_strconv_ParseUint.l8, decide_eq_true_eq, beq_iff_eq]
    refine EvP.neg (by decide) (EvP.neg (by decide) (EvP.neg (by decide) (EvP.neg (by decide) (EvP.pos trivial (EvP.pos (by decide) ?_)))))
    exact puint_l10_ev s s h7 hall
  simp only [strconv_ParseInt.f, internal_strconv_ParseInt.f, decide_eq_true_eq, beq_iff_eq, toList_eq]
  refine EvP.bind (R := (· = (valN s 16 s.size, (), ()))) ?_ ?_
  · refine EvP.neg hne (EvP.pos (by omega) (EvP.neg (by omega) (EvP.neg (by omega) ?_)))
    refine EvP.bind hu ?_
    rintro _ rfl
    refine EvP.neg (by decide) (EvP.pos (by decide) (EvP.neg ?_ (EvP.ret ?_)))
    · have e : IntKind.wrap .u64 ((1 : Int) * 2 ^ (min (IntKind.wrap .u64 (w64 ((64 : Int) - 1))).toNat (IntKind.bits .u64))) = 9223372036854775808 := by decide
      simp only
      rw [e]
      omega
    · simp only
      rw [w64_id (by omega) (by omega)]
  · rintro _ rfl
    exact EvP.ret rfl

theorem ext_size (s : ByteArray) (i j : Nat) (h : j ≤ s.size) : (s.extract i j).size = j - i := by
  rw [ByteArray.size_extract]; omega

theorem bt_extract (s : ByteArray) {n i : Nat} (hn : n ≤ s.size) (hi : i < n) : bt (s.extract 0 n) i = bt s i := by
  have h1 : i < s.data.size := Nat.lt_of_lt_of_le hi hn
  have h2 : i < (s.extract 0 n).data.size := by
    have := ext_size s 0 n hn
    show i < (s.extract 0 n).size
    omega
  unfold bt
  rw [Array.getD_eq_getD_getElem?, Array.getD_eq_getD_getElem?, Array.getElem?_eq_getElem h1, Array.getElem?_eq_getElem h2]
  simp [ByteArray.data_extract]

theorem last_iff (s : ByteArray) (h : 1 ≤ s.size) : s.extract (s.size - 1) s.size = ⟨#[72]⟩ ↔ bt s (s.size - 1) = 72 := by
  have h1 : s.size - 1 < s.data.size := by show s.size - 1 < s.size; omega
  have hx : s.extract (s.size - 1) s.size = ⟨#[s.data[s.size - 1]]⟩ := by
    apply ByteArray.ext
    rw [ByteArray.data_extract]
    apply Array.ext
    · simp
      omega
    · intro i hi1 hi2
      have : i = 0 := by simpa using hi2
      subst this
      simp
  have hb : bt s (s.size - 1) = ((s.data[s.size - 1]).toNat : Int) := by
    unfold bt
    rw [Array.getD_eq_getD_getElem?, Array.getElem?_eq_getElem h1]
    rfl
  rw [hx, hb]
  constructor
  · intro e
    have := congrArg (fun z => z.data.toList) e
    simp at this
    rw [this]
    rfl
  · intro e
    have : s.data[s.size - 1] = 72 := by
      apply UInt8.toNat_inj.1
      show _ = 72
      omega
    rw [this]

def body (s : ByteArray) : ByteArray := s.extract 0 (s.size - 1)
def IsDec (s : ByteArray) : Prop := 1 ≤ s.size ∧ s.size ≤ 9 ∧ AllDig 10 s
def IsHex (s : ByteArray) : Prop := bt s (s.size - 1) = 72 ∧ 2 ≤ s.size ∧ s.size ≤ 8 ∧ AllDig 16 (body s) ∧ (48 ≤ bt s 0 ∧ bt s 0 ≤ 57)
noncomputable def ans (s : ByteArray) : Int × Bool × Unit := pickP (IsDec s) (valN s 10 s.size, true, ()) (pickP (IsHex s) (valN (body s) 16 (body s).size, true, ()) (0, false, ()))

theorem body_size {s : ByteArray} : (body s).size = s.size - 1 := by
  unfold body
  rw [ext_size _ _ _ (by omega)]
  omega

theorem ans_no {s : ByteArray} (h1 : ¬ IsDec s) (h2 : ¬ IsHex s) : ((0, false, ()) : Int × Bool × Unit) = ans s := by
  unfold ans
  rw [pickP_neg h1, pickP_neg h2]

theorem l2Number_ev (s : ByteArray) (hs : Fit .str s) : EvP (fun k => spec_l2Number.f k (s, ())) (· = ans s) := by
  have hs' : s.size ≤ 1048576 := hs
  simp only [spec_l2Number.f, beq_iff_eq, toList_eq, Bool.not_eq_true']
  refine EvP.ite (fun h => EvP.ret (ans_no ?_ ?_)) (fun h => ?_)
  · subst h; exact fun e => absurd e.1 (by decide)
  · subst h; exact fun e => absurd e.2.1 (by decide)
  have hpos : 1 ≤ s.size := by
    rcases Nat.eq_zero_or_pos s.size with h0 | h0
    · exfalso
      apply h
      apply ByteArray.ext
      exact Array.eq_empty_of_size_eq_zero h0
    · exact h0
  refine EvP.pos (by omega) ?_
  refine EvP.bind (l2Digit_ev _) ?_
  rintro ⟨y, _⟩ hy
  simp only at hy
  refine EvP.ite (fun h0 => EvP.ret (ans_no ?_ ?_)) (fun h0 => ?_)
  · intro e
    have := e.2.2 0 (by omega)
    unfold Dig at this
    rw [hy.2 (by omega)] at h0; cases h0
  · intro e
    rw [hy.2 e.2.2.2.2] at h0; cases h0
  have hd : 48 ≤ bt s 0 ∧ bt s 0 ≤ 57 := hy.1 (by simpa using h0)
  have hw : w64 ((s.size : Int) - (1 : Int)) = ((s.size - 1 : Nat) : Int) := by rw [w64_id (by omega) (by omega)]; omega
  simp only [hw, Int.toNat_natCast]
  refine EvP.pos (by omega) (EvP.pos (by omega) (EvP.ite (fun hl => EvP.pos (by omega) (EvP.pos (by omega) ?_)) (fun hl => ?_)))
  · have h2 : 2 ≤ s.size := by
      rcases Nat.lt_or_ge 1 s.size with h2 | h2
      · exact h2
      · have : s.size - 1 = 0 := by omega
        rw [this] at hl
        omega
    have hb := spec_l4_ev 16 7 (.inr rfl) (by decide) (body s) (by rw [body_size]; omega)
    refine hb.mono ?_
    rintro _ rfl
    unfold ans
    rw [pickP_neg (p := IsDec s) (fun e => by
      have := e.2.2 (s.size - 1) (by omega)
      unfold Dig at this
      omega)]
    by_cases hh : IsHex s
    · rw [pickP_pos hh, pickP_pos ⟨hh.2.2.2.1, by rw [body_size]; have := hh.2.2.1; omega⟩]
    · rw [pickP_neg hh, pickP_neg fun e => hh ⟨hl, h2, by have := e.2; rw [body_size] at this; omega, e.1, hd⟩]
  · refine (spec_l4_ev 10 9 (.inl rfl) (by decide) s hs').mono ?_
    rintro _ rfl
    unfold ans
    rw [pickP_neg (p := IsHex s) fun e => hl e.1]
    by_cases hh : IsDec s
    · rw [pickP_pos hh, pickP_pos ⟨hh.2.2, hh.2.1⟩]
    · rw [pickP_neg hh, pickP_neg fun e => hh ⟨hpos, e.2, e.1⟩]

theorem cut_ev (s : ByteArray) (hs : s.size ≤ 1048576) : EvP (fun k => strings_CutSuffix.f k (s, (⟨#[72]⟩ : ByteArray), ())) (fun y => (y.2.1 = true ∧ y.1 = body s ∧ 1 ≤ s.size ∧ bt s (s.size - 1) = 72) ∨ (y.2.1 = false ∧ ¬ (1 ≤ s.size ∧ bt s (s.size - 1) = 72))) := by
  have e1 : (⟨#[72]⟩ : ByteArray).size = 1 := rfl
  simp only [strings_CutSuffix.f, internal_stringslite_CutSuffix.f]
  refine EvP.bind (R := fun y => (y.2.1 = true ∧ y.1 = body s ∧ 1 ≤ s.size ∧ bt s (s.size - 1) = 72) ∨ (y.2.1 = false ∧ ¬ (1 ≤ s.size ∧ bt s (s.size - 1) = 72))) ?_ ?_
  · refine EvP.bind (R := fun y => y.1 = true ↔ (1 ≤ s.size ∧ bt s (s.size - 1) = 72)) ?_ ?_
    · simp only [internal_stringslite_HasSuffix.f, decide_eq_true_eq, e1]
      refine EvP.ite (fun h => ?_) (fun h => EvP.ret ⟨fun e => (by cases e), fun e => by omega⟩)
      have hw : w64 ((s.size : Int) - ((1 : Nat) : Int)) = ((s.size - 1 : Nat) : Int) := by rw [w64_id (by omega) (by omega)]; omega
      simp only [hw, Int.toNat_natCast]
      refine EvP.pos (by omega) (EvP.pos (by omega) (EvP.ret ?_))
      simp only [beq_iff_eq, toList_eq]
      rw [last_iff s (by omega)]
      exact ⟨fun e => ⟨by omega, e⟩, fun e => e.2⟩
    · rintro ⟨y, _⟩ hy
      simp only [Bool.not_eq_true'] at hy ⊢
      refine EvP.ite (fun h => EvP.ret (.inr ⟨rfl, fun e => by rw [hy.2 e] at h; cases h⟩)) (fun h => ?_)
      have h1 := hy.1 (by simpa using h)
      have hw : w64 ((s.size : Int) - ((1 : Nat) : Int)) = ((s.size - 1 : Nat) : Int) := by rw [w64_id (by omega) (by omega)]; omega
      simp only [e1, hw, Int.toNat_natCast]
      exact EvP.pos (by omega) (EvP.pos (by omega) (EvP.ret (.inl ⟨rfl, rfl, h1⟩)))
  · rintro ⟨a, b, _⟩ h
    exact EvP.ret h

theorem number_ans (s : ByteArray) (hs : Fit .str s) : EvP (fun k => impl_NumberOf.f k (s, ())) (· = ans s) := by
  have hs' : s.size ≤ 1048576 := hs
  have tail : ∀ y1 : ByteArray × Bool × Unit, ((y1.2.1 = true ∧ y1.1 = body s ∧ 1 ≤ s.size ∧ bt s (s.size - 1) = 72) ∨ (y1.2.1 = false ∧ ¬ (1 ≤ s.size ∧ bt s (s.size - 1) = 72))) → ¬ IsDec s →
      EvP (fun k => (if y1.2.1 = true then ((impl_in.f k ((y1.1.size : Int), 1, 7, ())).bind fun y9 => (if y9.1 = true then ((impl_isNumeral.f k (y1.1, (⟨#[48, 49, 50, 51, 52, 53, 54, 55, 56, 57, 65, 66, 67, 68, 69, 70]⟩ : ByteArray), ())).bind fun y10 => (if y10.1 = true then (if (0 : Int) < (y1.1.size : Int) then ((impl_isDigit.f k ((bt y1.1 0), ())).bind fun y11 => (if y11.1 = true then ((strconv_ParseInt.f k (y1.1, 16, 64, ())).bind fun y12 => (some (y12.1, true, ()))) else (some (0, false, ())))) else none) else (some (0, false, ())))) else (some (0, false, ())))) else (some (0, false, ())))) (· = ans s) := by
    rintro ⟨t, c, _⟩ hc hno
    rcases hc with ⟨hc, ht, h1, hl⟩ | ⟨hc, hl⟩
    · simp only at hc ht
      subst hc ht
      refine EvP.pos rfl ?_
      have hbs := body_size (s := s)
      refine EvP.bind (in_ev _ _ _) ?_
      rintro ⟨y, _⟩ hy
      simp only at hy
      subst hy
      refine EvP.ite (fun h => ?_) (fun h => EvP.ret (ans_no hno fun e => h (decide_eq_true ⟨by have := e.2.1; omega, by have := e.2.2.1; omega⟩)))
      have hr : 1 ≤ ((body s).size : Int) ∧ ((body s).size : Int) ≤ 7 := of_decide_eq_true h
      refine EvP.bind (numeral_ev (body s) ⟨#[48, 49, 50, 51, 52, 53, 54, 55, 56, 57, 65, 66, 67, 68, 69, 70]⟩ 16 (by omega) ⟨by omega, by decide, by decide⟩ hex_mem) ?_
      rintro ⟨z, _⟩ hz
      simp only at hz
      refine EvP.ite (fun h2 => EvP.pos (by show (0 : Int) < ((body s).size : Int); omega) ?_) (fun h2 => EvP.ret (ans_no hno fun e => h2 (hz.2 e.2.2.2.1)))
      have hall := hz.1 h2
      have hb0 : bt (body s) 0 = bt s 0 := bt_extract s (by omega) (by omega)
      refine EvP.bind (isDigit_ev _) ?_
      rintro ⟨u, _⟩ hu
      simp only at hu
      rw [hb0] at hu
      refine EvP.ite (fun h3 => ?_) (fun h3 => EvP.ret (ans_no hno fun e => h3 (hu.2 e.2.2.2.2)))
      refine EvP.bind (parseInt_ev (body s) (by omega) (by omega) hall) ?_
      rintro _ rfl
      refine EvP.ret ?_
      unfold ans
      rw [pickP_neg hno, pickP_pos ⟨hl, by omega, by omega, hall, hu.1 h3⟩]
    · simp only at hc
      subst hc
      exact EvP.neg (fun e => by cases e) (EvP.ret (ans_no hno fun e => hl ⟨by have := e.2.1; omega, e.1⟩))
  simp only [impl_NumberOf.f]
  refine EvP.bind (cut_ev s hs') ?_
  intro y1 h1
  refine EvP.bind (in_ev _ _ _) ?_
  rintro ⟨y, _⟩ hy
  simp only at hy
  subst hy
  refine EvP.ite (fun h => ?_) (fun h => tail y1 h1 fun e => h (decide_eq_true ⟨by have := e.1; omega, by have := e.2.1; omega⟩))
  have hr : 1 ≤ (s.size : Int) ∧ (s.size : Int) ≤ 9 := of_decide_eq_true h
  refine EvP.bind (numeral_ev s ⟨#[48, 49, 50, 51, 52, 53, 54, 55, 56, 57]⟩ 10 hs' ⟨by omega, by decide, by decide⟩ dec_mem) ?_
  rintro ⟨z, _⟩ hz
  simp only at hz
  refine EvP.ite (fun h2 => ?_) (fun h2 => tail y1 h1 fun e => h2 (hz.2 e.2.2))
  have hall := hz.1 h2
  refine EvP.bind (atoi_ev s (by omega) (by omega) hall) ?_
  rintro _ rfl
  refine EvP.ret ?_
  unfold ans
  rw [pickP_pos ⟨by omega, by omega, hall⟩]

theorem l1In_ev (a b c : Int) : EvP (fun k => spec_l1In.f k (a, b, c, ())) (fun y => y.1 = decide (b ≤ a ∧ a ≤ c)) := by
  simp only [spec_l1In.f, decide_eq_true_eq]
  refine EvP.ite (fun h => EvP.ret ?_) (fun h => EvP.ret ?_)
  · simp only [ge_iff_le] at h; simp [h]
  · simp only [ge_iff_le] at h; simp [h]

def letter (b : Int) : Prop := (65 ≤ b ∧ b ≤ 90) ∨ (97 ≤ b ∧ b ≤ 122)
def digit (b : Int) : Prop := 48 ≤ b ∧ b ≤ 57

theorem isLetter_ev (b : Int) : EvP (fun k => impl_isLetter.f k (b, ())) (fun y => y.1 = true ↔ letter b) := by
  simp only [impl_isLetter.f, decide_eq_true_eq, letter]
  repeat' (first
    | (refine EvP.ret ?_; simp only [decide_eq_true_eq]; first | omega | (simp; omega))
    | (refine EvP.ite (fun _ => ?_) (fun _ => ?_)))

def good (x : ByteArray) (i : Nat) : Prop := letter (bt x i) ∨ (i ≠ 0 ∧ digit (bt x i))
def Named (x : ByteArray) : Prop := (∀ i < x.size, good x i) ∧ 1 ≤ x.size ∧ x.size ≤ 10

theorem spec_l1Name_ev (x : ByteArray) (hs : x.size ≤ 1048576) : EvP (fun k => spec_l1Name.f k (x, ())) (fun y => y.1 = true ↔ Named x) := by
  have loop := EvP.loop (L := spec_l1Name.l1) (Q := fun y => y.1 = true ↔ Named x) (fun j s => ∃ i : Nat, s = (x, (i : Int), ()) ∧ i ≤ x.size ∧ j = x.size - i ∧ ∀ p < i, good x p) ?_
  · simp only [spec_l1Name.f]
    exact loop _ _ ⟨0, rfl, Nat.zero_le _, rfl, fun p hp => absurd hp (Nat.not_lt_zero _)⟩
  · rintro j _ ⟨i, rfl, hi, rfl, hg⟩ ih
    simp only [spec_l1Name.l1, decide_eq_true_eq, Int.toNat_natCast, w64, IntKind.wrap_i64, Bool.not_eq_true', decide_eq_false_iff_not, beq_iff_eq]
    refine EvP.ite (fun hlt => EvP.pos (by omega) (EvP.pos (by omega) ?_)) (fun hge => ?_)
    · have hno : ¬ good x i → (((false, ()) : Bool × Unit).1 = true ↔ Named x) := fun h => ⟨fun e => (by cases e), fun hn => absurd (hn.1 i (by omega)) h⟩
      have hgo : good x i → EvP (fun k => spec_l1Name.l1 k (x, (((i : Int) + 1 + 9223372036854775808) % 18446744073709551616 - 9223372036854775808), ())) (fun y => y.1 = true ↔ Named x) := fun h => by
        refine ih (x.size - (i + 1)) _ (by omega) ⟨i + 1, ?_, by omega, rfl, fun p hp => ?_⟩
        · rw [show ((i + 1 : Nat) : Int) = ((i : Int) + 1 + 9223372036854775808) % 18446744073709551616 - 9223372036854775808 by omega]
        · rcases Nat.lt_or_ge p i with h2 | h2
          · exact hg p h2
          · obtain rfl : p = i := by omega
            exact h
      repeat' (first
        | (refine EvP.ite (fun _ => ?_) (fun _ => ?_))
        | (refine EvP.ret ?_; exact hno (by simp only [good, letter, digit]; omega))
        | (exact hgo (by simp only [good, letter, digit]; omega)))
    · refine EvP.bind (l1In_ev _ 1 10) ?_
      rintro ⟨y, _⟩ hy
      refine EvP.ret ?_
      simp only at hy
      subst hy
      simp only [decide_eq_true_eq]
      exact ⟨fun h => ⟨fun p hp => hg p (by omega), by omega, by omega⟩, fun h => by have := h.2; omega⟩

theorem rdS_mem {l : List ByteArray} {v : ByteArray} : v ∈ l ↔ ∃ p, p < l.length ∧ rdT .str l p = v := by
  constructor
  · intro h
    obtain ⟨p, hp, he⟩ := List.getElem_of_mem h
    exact ⟨p, hp, by rw [← he]; simp [rdT, List.getD, List.getElem?_eq_getElem hp]⟩
  · rintro ⟨p, hp, rfl⟩
    exact rdT_mem (t := .str) hp

theorem containsS_ev (l : List ByteArray) (v : ByteArray) (hl : l.length ≤ 1048576) : EvP (fun k => slices_Contains_string_string.f k (l, v, ())) (fun y => y.1 = true ↔ v ∈ l) := by
  simp only [slices_Contains_string_string.f]
  have hi : EvP (fun k => slices_Index_string_string.f k (l, v, ())) (fun y => 0 ≤ y.1 ↔ v ∈ l) := by
    simp only [slices_Index_string_string.f]
    refine EvP.scan (L := fun k i => slices_Index_string_string.l1 k (l, v, (l.length : Int), i, ())) l.length (fun p => ¬ v = rdT .str l p) (fun hall => ?_) (fun i hi hall hgo => ?_)
    · simp only [slices_Index_string_string.l1, decide_eq_true_eq]
      refine EvP.neg (by omega) (EvP.ret ⟨fun h => absurd h (by show ¬ (0 : Int) ≤ -1; decide), fun h => ?_⟩)
      obtain ⟨p, hp, h⟩ := rdS_mem.1 h
      exact absurd h.symm (hall p hp)
    · simp only [slices_Index_string_string.l1, decide_eq_true_eq, Int.toNat_natCast, next64 (show i ≤ 1099511627776 by omega), beq_iff_eq, toList_eq]
      refine EvP.pos (by omega) (EvP.pos (by omega) (EvP.pos (by omega) (EvP.ite (fun h => EvP.ret ⟨fun _ => rdS_mem.2 ⟨i, hi, h.symm⟩, fun _ => ?_⟩) (fun h => hgo h))))
      show (0 : Int) ≤ (i : Int)
      omega
  refine EvP.bind hi ?_
  rintro ⟨y, _⟩ hy
  refine EvP.ret ?_
  simpa using hy

def wordsL : List ByteArray := [(⟨#[77, 79, 68, 85, 76, 69]⟩ : ByteArray), (⟨#[73, 77, 80, 79, 82, 84]⟩ : ByteArray), (⟨#[67, 79, 78, 83, 84]⟩ : ByteArray), (⟨#[84, 89, 80, 69]⟩ : ByteArray), (⟨#[86, 65, 82]⟩ : ByteArray), (⟨#[80, 82, 79, 67]⟩ : ByteArray), (⟨#[85, 83, 69]⟩ : ByteArray), (⟨#[69, 78, 68]⟩ : ByteArray), (⟨#[65, 82, 82, 65, 89]⟩ : ByteArray), (⟨#[79, 70]⟩ : ByteArray), (⟨#[82, 69, 67, 79, 82, 68]⟩ : ByteArray), (⟨#[80, 79, 73, 78, 84, 69, 82]⟩ : ByteArray), (⟨#[84, 79]⟩ : ByteArray), (⟨#[68, 73, 86]⟩ : ByteArray), (⟨#[77, 79, 68]⟩ : ByteArray)]

theorem implWord_ev (s : ByteArray) : EvP (fun k => impl_IsWord.f k (s, ())) (fun y => y.1 = true ↔ s ∈ wordsL) := by
  simp only [impl_IsWord.f]
  refine EvP.bind (containsS_ev wordsL s (by decide)) ?_
  rintro ⟨y, _⟩ hy
  exact EvP.ret hy

theorem specWord_ev (s : ByteArray) : EvP (fun k => spec_IsWord.f k (s, ())) (fun y => y.1 = true ↔ s ∈ wordsL) := by
  simp only [spec_IsWord.f]
  refine EvP.bind (R := fun y => y.1 = wordsL) (EvP.ret rfl) ?_
  rintro ⟨L, _⟩ hL
  simp only at hL
  subst hL
  have hl : wordsL.length = 15 := rfl
  generalize wordsL = l at *
  refine EvP.scan (L := fun k i => spec_IsWord.l1 k (s, l, (l.length : Int), i, ())) l.length (fun p => ¬ rdT .str l p = s) (fun hall => ?_) (fun i hi hall hgo => ?_)
  · simp only [spec_IsWord.l1, decide_eq_true_eq]
    refine EvP.neg (by omega) (EvP.ret ⟨fun h => (by cases h), fun h => ?_⟩)
    obtain ⟨p, hp, h⟩ := rdS_mem.1 h
    exact absurd h (hall p hp)
  · simp only [spec_IsWord.l1, decide_eq_true_eq, Int.toNat_natCast, next64 (show i ≤ 1099511627776 by omega), beq_iff_eq, toList_eq]
    exact EvP.pos (by omega) (EvP.pos (by omega) (EvP.pos (by omega) (EvP.ite (fun h => EvP.ret ⟨fun _ => rdS_mem.2 ⟨i, hi, h⟩, fun _ => rfl⟩) (fun h => hgo h))))

def alnum (c : Int) : Prop := letter c ∨ digit c
def Sgn (c : Int) : Prop := c = 59 ∨ c = 44 ∨ c = 46 ∨ c = 58 ∨ c = 61 ∨ c = 42 ∨ c = 45 ∨ c = 43 ∨ c = 40 ∨ c = 41
def AllW (s : ByteArray) : Prop := 1 ≤ s.size ∧ ∀ j, j < s.size → alnum (bt s j)

/-- What a text is as a token: its kind and its value. -/
noncomputable def tok (s : ByteArray) : Option (Int × Int) :=
  pickP (s.size = 1 ∧ Sgn (bt s 0)) (some (4, 0)) (pickP (AllW s) (pickP (s ∈ wordsL) (some (2, 0)) (pickP (digit (bt s 0)) (pickP ((ans s).2.1 = true) (some (3, (ans s).1)) none) (pickP (s.size ≤ 10) (some (1, 0)) none))) none)

theorem tok_no {s : ByteArray} (h1 : ¬ (s.size = 1 ∧ Sgn (bt s 0))) (h2 : ¬ AllW s) : tok s = none := by
  unfold tok
  rw [pickP_neg h1, pickP_neg h2]

theorem sgn_not {c : Int} (h : Sgn c) : ¬ alnum c := by
  unfold Sgn at h
  unfold alnum letter digit
  omega

theorem words_first : ∀ w ∈ wordsL, ¬ (48 ≤ bt w 0 ∧ bt w 0 ≤ 57) := by
  intro w hw
  simp only [wordsL, List.mem_cons, List.not_mem_nil, or_false] at hw
  rcases hw with rfl | rfl | rfl | rfl | rfl | rfl | rfl | rfl | rfl | rfl | rfl | rfl | rfl | rfl | rfl <;> decide

theorem words_size : ∀ w ∈ wordsL, w.size ≤ 7 := by
  intro w hw
  simp only [wordsL, List.mem_cons, List.not_mem_nil, or_false] at hw
  rcases hw with rfl | rfl | rfl | rfl | rfl | rfl | rfl | rfl | rfl | rfl | rfl | rfl | rfl | rfl | rfl <;> decide

theorem ans_size {s : ByteArray} (h : (ans s).2.1 = true) : s.size ≤ 9 := by
  unfold ans at h
  by_cases h1 : IsDec s
  · exact h1.2.1
  · rw [pickP_neg h1] at h
    by_cases h2 : IsHex s
    · have := h2.2.2.1; omega
    · rw [pickP_neg h2] at h; cases h

theorem tok_big {s : ByteArray} (h : 10 < s.size) : tok s = none := by
  unfold tok
  rw [pickP_neg (fun e => by omega)]
  by_cases h1 : AllW s
  · rw [pickP_pos h1, pickP_neg (fun e => by have := words_size s e; omega), pickP_neg (p := s.size ≤ 10) (by omega), pickP_neg (p := (ans s).2.1 = true) (fun e => by have := ans_size e; omega)]
    by_cases h2 : digit (bt s 0)
    · rw [pickP_pos h2]
    · rw [pickP_neg h2]
  · rw [pickP_neg h1]

theorem tok_empty {s : ByteArray} (h : s.size = 0) : tok s = none := tok_no (fun e => by omega) (fun e => by have := e.1; omega)

def WL (s : ByteArray) (n : Nat) : Prop := n ≤ s.size ∧ (∀ j, j < n → alnum (bt s j)) ∧ (n < s.size → ¬ alnum (bt s n))

theorem WL.part {s : ByteArray} {n : Nat} (h : WL s n) (h1 : 1 ≤ n) (h2 : n < s.size) : tok s = none :=
  tok_no (fun e => sgn_not e.2 (h.2.1 0 (by omega))) (fun e => h.2.2 h2 (e.2 n h2))

theorem WL.all {s : ByteArray} {n : Nat} (h : WL s n) (h1 : 1 ≤ n) (h2 : n = s.size) : AllW s ∧ ¬ (s.size = 1 ∧ Sgn (bt s 0)) :=
  ⟨⟨by omega, fun j hj => h.2.1 j (by omega)⟩, fun e => sgn_not e.2 (h.2.1 0 (by omega))⟩

theorem extract_all (s : ByteArray) : s.extract 0 s.size = s := by
  apply ByteArray.ext
  rw [ByteArray.data_extract]
  exact Array.extract_eq_self_of_le (Nat.le_refl _)

theorem l2Letter_ev (c : Int) : EvP (fun k => spec_l2Letter.f k (c, ())) (fun y => y.1 = true ↔ letter c) := by
  simp only [spec_l2Letter.f, decide_eq_true_eq, letter]
  refine EvP.ite (fun h => EvP.ite (fun h2 => EvP.ret ?_) (fun h2 => EvP.ite (fun h3 => EvP.ret ?_) (fun h3 => EvP.ret ?_))) (fun h => EvP.ite (fun h3 => EvP.ret ?_) (fun h3 => EvP.ret ?_)) <;> simp <;> omega

def signsB : ByteArray := ⟨#[59, 44, 46, 58, 61, 42, 45, 43, 40, 41]⟩
instance (c : Int) : Decidable (Sgn c) := inferInstanceAs (Decidable (_ ∨ _))

theorem sgn_iff (c : Int) : Sgn c ↔ ∃ p, p < 10 ∧ bt signsB p = c := by
  constructor
  · rintro (h | h | h | h | h | h | h | h | h | h) <;> subst h
    · exact ⟨0, by decide, by decide⟩
    · exact ⟨1, by decide, by decide⟩
    · exact ⟨2, by decide, by decide⟩
    · exact ⟨3, by decide, by decide⟩
    · exact ⟨4, by decide, by decide⟩
    · exact ⟨5, by decide, by decide⟩
    · exact ⟨6, by decide, by decide⟩
    · exact ⟨7, by decide, by decide⟩
    · exact ⟨8, by decide, by decide⟩
    · exact ⟨9, by decide, by decide⟩
  · rintro ⟨p, hp, rfl⟩
    have : ∀ p, p < 10 → Sgn (bt signsB p) := by decide
    exact this p hp

theorem l2Sign_ev (c : Int) : EvP (fun k => spec_l2Sign.f k (c, ())) (fun y => y.1 = true ↔ Sgn c) := by
  simp only [spec_l2Sign.f]
  refine EvP.scan (L := fun k i => spec_l2Sign.l1 k (c, i, ())) 10 (fun p => ¬ bt signsB p = c) (fun hall => ?_) (fun i hi hall hgo => ?_)
  · simp only [spec_l2Sign.l1, decide_eq_true_eq]
    refine EvP.neg (by omega) (EvP.ret ⟨fun h => (by cases h), fun h => ?_⟩)
    obtain ⟨p, hp, h⟩ := (sgn_iff c).1 h
    exact absurd h (hall p hp)
  · simp only [spec_l2Sign.l1, decide_eq_true_eq, Int.toNat_natCast, next64 (show i ≤ 1099511627776 by omega), beq_iff_eq]
    exact EvP.pos (by omega) (EvP.pos (by omega) (EvP.pos (by omega) (EvP.ite (fun h => EvP.ret ⟨fun _ => (sgn_iff c).2 ⟨i, hi, h⟩, fun _ => rfl⟩) (fun h => hgo h))))

set_option maxRecDepth 100000 in
theorem idx_nat : ∀ n, n < 256 → decide (0 ≤ Lib.indexByte signsB.data.toList (UInt8.ofNat n)) = decide (Sgn (n : Int)) := by decide

theorem idx_sgn (s : ByteArray) (i : Nat) : 0 ≤ idxOf signsB (bt s i) ↔ Sgn (bt s i) := by
  have hb : (s.data.getD i 0).toNat < 256 := (s.data.getD i 0).toNat_lt
  have h := idx_nat _ hb
  simp only [decide_eq_decide, UInt8.ofNat_toNat] at h
  unfold idxOf
  have e : (bt s i).toNat.toUInt8 = s.data.getD i 0 := by
    unfold bt
    simp
  rw [e]
  exact h

theorem wordLong_ev (s : ByteArray) (hs : s.size ≤ 1048576) : EvP (fun k => impl_wordLong.f k (s, ())) (fun y => ∃ n : Nat, y.1 = (n : Int) ∧ WL s n) := by
  simp only [impl_wordLong.f]
  have loop := EvP.loop (L := impl_wordLong.l1) (Q := fun y => ∃ n : Nat, y.1 = (n : Int) ∧ WL s n) (fun j st => ∃ i : Nat, st = (s, (i : Int), ()) ∧ i ≤ s.size ∧ j = s.size - i ∧ ∀ p < i, alnum (bt s p)) ?_
  · exact loop _ _ ⟨0, rfl, Nat.zero_le _, rfl, fun p hp => absurd hp (Nat.not_lt_zero _)⟩
  · rintro j _ ⟨i, rfl, hi, rfl, hg⟩ ih
    simp only [impl_wordLong.l1, decide_eq_true_eq, Int.toNat_natCast, next64 (show i ≤ 1099511627776 by omega)]
    have more : i < s.size → alnum (bt s i) → EvP (fun k => impl_wordLong.l1 k (s, ((i + 1 : Nat) : Int), ())) (fun y => ∃ n : Nat, y.1 = (n : Int) ∧ WL s n) := fun hlt ha => ih (s.size - (i + 1)) _ (by omega) ⟨i + 1, rfl, by omega, rfl, fun p hp => by
      rcases Nat.lt_or_ge p i with h2 | h2
      · exact hg p h2
      · obtain rfl : p = i := by omega
        exact ha⟩
    refine EvP.ite (fun hlt => EvP.pos (by omega) (EvP.pos hlt ?_)) (fun hge => EvP.ret ⟨i, rfl, hi, hg, fun h => by omega⟩)
    refine EvP.bind (isLetter_ev _) ?_
    rintro ⟨y, _⟩ hy
    refine EvP.ite (fun h => more (by omega) (.inl (hy.1 h))) (fun h => EvP.pos (by omega) (EvP.pos hlt ?_))
    refine EvP.bind (isDigit_ev _) ?_
    rintro ⟨z, _⟩ hz
    refine EvP.ite (fun h2 => more (by omega) (.inr (hz.1 h2))) (fun h2 => EvP.ret ⟨i, rfl, hi, hg, fun _ e => ?_⟩)
    rcases e with e | e
    · exact h (hy.2 e)
    · exact h2 (hz.2 e)

/-- What the reference's one token says of a text. -/
def OneQ (s : ByteArray) (y : TToken.D × Int × Unit) : Prop :=
  ((0 : Int) < y.2.1 ∧ tok s = none) ∨ (¬ (0 : Int) < y.2.1 ∧ ((y.1.2.1 ≠ s ∧ tok s = none) ∨ (y.1.2.1 = s ∧ tok s = some (y.1.1, y.1.2.2.1))))

theorem OneQ.no {s : ByteArray} {y : TToken.D × Int × Unit} (h : tok s = none) (h2 : y.1.2.1 ≠ s) : OneQ s y := by
  by_cases hc : (0 : Int) < y.2.1
  · exact .inl ⟨hc, h⟩
  · exact .inr ⟨hc, .inl ⟨h2, h⟩⟩

theorem part_ne {s : ByteArray} {n : Nat} (h : n < s.size) : s.extract 0 n ≠ s := fun e => by
  have := ext_size s 0 n (by omega)
  rw [e] at this
  omega

theorem named_word {s : ByteArray} (h : AllW s) (hl : letter (bt s 0)) : Named s ↔ s.size ≤ 10 := by
  refine ⟨fun e => e.2.2, fun e => ⟨fun i hi => ?_, h.1, e⟩⟩
  rcases h.2 i hi with h1 | h1
  · exact .inl h1
  · by_cases h0 : i = 0
    · subst h0; exact .inl hl
    · exact .inr ⟨h0, h1⟩

theorem zz3 : (0 : Int) < 3 := by decide
theorem zz4 : (0 : Int) < 4 := by decide
theorem EvP.of_eq {α : Type} {f g : Nat → Option α} {Q : α → Prop} (h : EvP f Q) (e : ∀ k, g k = f k) : EvP g Q := by
  obtain ⟨n, a, h1, h2⟩ := h
  exact ⟨n, a, fun k hk => by rw [e, h1 k hk], h2⟩
theorem zz0 : ¬ (0 : Int) < 0 := by decide

theorem one_tail (s : ByteArray) (hs : s.size ≤ 1048576) (n : Nat) (h1 : 1 ≤ n) (hw : WL s n) :
    EvP (fun k => ((spec_l2Letter.f k ((bt s 0), ())).bind fun y11 => (if y11.1 = true then ((spec_IsWord.f k ((s.extract 0 n), ())).bind fun y12 => (if y12.1 = true then (some ((2, ((s.extract 0 n), (0, 0))), 0, ())) else ((spec_l1Name.f k ((s.extract 0 n), ())).bind fun y13 => (if (!y13.1) = true then (some ((1, ((s.extract 0 n), (0, 0))), 3, ())) else (some ((1, ((s.extract 0 n), (0, 0))), 0, ())))))) else (if (0 : Int) < (s.size : Int) then ((spec_l2Digit.f k ((bt s 0), ())).bind fun y14 => (if y14.1 = true then ((spec_l2Number.f k ((s.extract 0 n), ())).bind fun y15 => (if (!y15.2.1) = true then (some ((4, ((s.extract 0 n), (0, 0))), 3, ())) else (some ((3, ((s.extract 0 n), (y15.1, 0))), 0, ())))) else (if (0 : Int) < (s.size : Int) then ((spec_l2Sign.f k ((bt s 0), ())).bind fun y16 => (if (!y16.1) = true then (some ((4, ((s.extract 0 n), (0, 0))), 4, ())) else (some ((4, ((s.extract 0 n), (0, 0))), 0, ())))) else none))) else none))) : Nat → Option (TToken.D × Int × Unit)) (OneQ s) := by
  have hn := hw.1
  refine EvP.bind (l2Letter_ev _) ?_
  rintro ⟨y, _⟩ hy
  rcases Nat.lt_or_ge n s.size with hlt | hge
  · have no := hw.part h1 hlt
    have ne := part_ne hlt
    have hsz : (s.extract 0 n).size ≤ 1048576 := by rw [ext_size s 0 n hn]; omega
    refine EvP.ite (fun h => ?_) (fun h => EvP.pos (by omega) ?_)
    · refine EvP.bind (specWord_ev _) ?_
      rintro ⟨y2, _⟩ _
      refine EvP.ite (fun _ => EvP.ret (.no no ne)) (fun _ => ?_)
      refine EvP.bind (spec_l1Name_ev _ hsz) ?_
      rintro ⟨y3, _⟩ _
      exact EvP.ite (fun _ => EvP.ret (.no no ne)) (fun _ => EvP.ret (.no no ne))
    · refine EvP.bind (l2Digit_ev _) ?_
      rintro ⟨y2, _⟩ hy2
      refine EvP.ite (fun h => ?_) (fun h => EvP.pos (by omega) ?_)
      · refine EvP.bind (l2Number_ev _ hsz) ?_
        rintro _ rfl
        exact EvP.ite (fun _ => EvP.ret (.no no ne)) (fun _ => EvP.ret (.no no ne))
      · refine EvP.bind (l2Sign_ev _) ?_
        rintro ⟨y3, _⟩ _
        exact EvP.ite (fun _ => EvP.ret (.no no ne)) (fun _ => EvP.ret (.no no ne))
  · obtain rfl : n = s.size := by omega
    obtain ⟨ha, hns⟩ := hw.all h1 rfl
    rw [extract_all]
    refine EvP.ite (fun h => ?_) (fun h => EvP.pos (by omega) ?_)
    · have hl := hy.1 h
      have hnd : ¬ digit (bt s 0) := by
        unfold letter at hl
        unfold digit
        omega
      refine EvP.bind (specWord_ev _) ?_
      rintro ⟨y2, _⟩ hy2
      refine EvP.ite (fun h2 => EvP.ret (.inr ⟨zz0, .inr ⟨rfl, ?_⟩⟩)) (fun h2 => ?_)
      · unfold tok
        rw [pickP_neg hns, pickP_pos ha, pickP_pos (hy2.1 h2)]
      · have hnw : s ∉ wordsL := fun e => h2 (hy2.2 e)
        refine EvP.bind (spec_l1Name_ev _ hs) ?_
        rintro ⟨y3, _⟩ hy3
        simp only at hy3
        rw [named_word ha hl] at hy3
        refine EvP.ite (fun h3 => EvP.ret (.inl ⟨zz3, ?_⟩)) (fun h3 => EvP.ret (.inr ⟨zz0, .inr ⟨rfl, ?_⟩⟩))
        · unfold tok
          rw [pickP_neg hns, pickP_pos ha, pickP_neg hnw, pickP_neg hnd, pickP_neg]
          intro e
          have := hy3.2 e
          subst this; cases h3
        · unfold tok
          rw [pickP_neg hns, pickP_pos ha, pickP_neg hnw, pickP_neg hnd, pickP_pos]
          exact hy3.1 (by cases y3 <;> simp_all)
    · refine EvP.bind (l2Digit_ev _) ?_
      rintro ⟨y2, _⟩ hy2
      have hd : digit (bt s 0) := by
        rcases ha.2 0 (by omega) with e | e
        · exact absurd (hy.2 e) h
        · exact e
      refine EvP.pos (hy2.2 hd) ?_
      have hnw : s ∉ wordsL := fun e => words_first s e hd
      refine EvP.bind (l2Number_ev _ hs) ?_
      rintro _ rfl
      refine EvP.ite (fun h3 => EvP.ret (.inl ⟨zz3, ?_⟩)) (fun h3 => EvP.ret (.inr ⟨zz0, .inr ⟨rfl, ?_⟩⟩))
      · unfold tok
        rw [pickP_neg hns, pickP_pos ha, pickP_neg hnw, pickP_pos hd, pickP_neg]
        intro e
        rw [e] at h3; cases h3
      · unfold tok
        rw [pickP_neg hns, pickP_pos ha, pickP_neg hnw, pickP_pos hd, pickP_pos]
        cases hc : (ans s).2.1 with
        | true => rfl
        | false => rw [hc] at h3; exact absurd rfl h3

theorem l2One_ev (s : ByteArray) (hs : s.size ≤ 1048576) (hp : 1 ≤ s.size) : EvP (fun k => spec_l2One.f k (s, 0, ())) (OneQ s) := by
  have loop := EvP.loop (L := spec_l2One.l2) (Q := OneQ s) (fun j st => ∃ (i : Nat) (q : Int × ByteArray × Int × Int × Unit) (r : ByteArray), st = (s, 0, q, (i : Int), (4, (r, (0, (0, ())))), ()) ∧ 1 ≤ i ∧ i ≤ s.size ∧ j = s.size - i ∧ ∀ p < i, alnum (bt s p)) ?_
  · simp only [spec_l2One.f, Int.toNat_zero]
    have go : alnum (bt s 0) → EvP (fun k => spec_l2One.l2 k (s, 0, (0, (ByteArray.empty, (0, (0, ())))), (w64 (0 + (1 : Int))), (4, (ByteArray.empty, (0, (0, ())))), ())) (OneQ s) := fun h => loop (s.size - 1) _ ⟨1, _, _, rfl, Nat.le_refl _, hp, rfl, fun p hp => by
      obtain rfl : p = 0 := by omega
      exact h⟩
    refine EvP.pos (by omega) (EvP.pos (by omega) ?_)
    refine EvP.bind (l2Letter_ev _) ?_
    rintro ⟨y, _⟩ hy
    refine EvP.ite (fun h => go (.inl (hy.1 h))) (fun h => EvP.pos (by omega) (EvP.pos (by omega) ?_))
    refine EvP.bind (l2Digit_ev _) ?_
    rintro ⟨y2, _⟩ hy2
    refine EvP.ite (fun h2 => go (.inr (hy2.1 h2))) (fun h2 => ?_)
    have hna : ¬ alnum (bt s 0) := fun e => by
      rcases e with e | e
      · exact h (hy.2 e)
      · exact h2 (hy2.2 e)
    have e1 : w64 (0 + (1 : Int)) = 1 := rfl
    simp only [e1, show (1 : Int).toNat = 1 from rfl]
    refine EvP.pos (by omega) (EvP.pos (by omega) (EvP.pos (by omega) (EvP.pos (by omega) (EvP.pos (by omega) (EvP.pos (by omega) ?_)))))
    have es : (s.extract 0 1).size = 1 := ext_size s 0 1 (by omega)
    refine EvP.bind (l2Letter_ev _) ?_
    rintro ⟨y3, _⟩ hy3
    refine EvP.neg (fun e => hna (.inl (hy3.1 e))) (EvP.pos (by omega) (EvP.pos (by omega) ?_))
    refine EvP.bind (l2Digit_ev _) ?_
    rintro ⟨y4, _⟩ hy4
    refine EvP.neg (fun e => hna (.inr (hy4.1 e))) (EvP.pos (by omega) (EvP.pos (by omega) ?_))
    refine EvP.bind (l2Sign_ev _) ?_
    rintro ⟨y5, _⟩ hy5
    have hnw : ¬ AllW s := fun e => hna (e.2 0 (by omega))
    refine EvP.ite (fun h3 => EvP.ret (.inl ⟨zz4, ?_⟩)) (fun h3 => EvP.ret (.inr ⟨zz0, ?_⟩))
    · refine tok_no (fun e => ?_) hnw
      have := hy5.2 e.2
      subst this; cases h3
    · have hsg : Sgn (bt s 0) := hy5.1 (by cases y5 <;> simp_all)
      by_cases h1 : s.size = 1
      · refine .inr ⟨?_, ?_⟩
        · show s.extract 0 1 = s
          rw [← h1]
          exact extract_all s
        · unfold tok
          rw [pickP_pos ⟨h1, hsg⟩]
      · exact .inl ⟨part_ne (by omega), tok_no (fun e => h1 e.1) hnw⟩
  · rintro j _ ⟨i, q, r, rfl, h1, hi, rfl, hg⟩ ih
    simp only [spec_l2One.l2, decide_eq_true_eq, Int.toNat_natCast, Int.toNat_zero, next64 (show i ≤ 1099511627776 by omega)]
    have more : i < s.size → alnum (bt s i) → EvP (fun k => spec_l2One.l2 k (s, 0, (q.1, (q.2.1, (q.2.2.1, (q.2.2.2.1, ())))), ((i + 1 : Nat) : Int), (4, (r, (0, (0, ())))), ())) (OneQ s) := fun hlt ha => ih (s.size - (i + 1)) _ (by omega) ⟨i + 1, _, _, rfl, by omega, by omega, rfl, fun p hp => by
      rcases Nat.lt_or_ge p i with h2 | h2
      · exact hg p h2
      · obtain rfl : p = i := by omega
        exact ha⟩
    have fin : WL s i → _ := one_tail s hs i h1
    refine EvP.ite (fun hlt => EvP.pos (by omega) (EvP.pos hlt ?_)) (fun hge => ?_)
    · refine EvP.bind (l2Letter_ev _) ?_
      rintro ⟨y, _⟩ hy
      refine EvP.ite (fun h => more (by omega) (.inl (hy.1 h))) (fun h => EvP.pos (by omega) (EvP.pos hlt ?_))
      refine EvP.bind (l2Digit_ev _) ?_
      rintro ⟨y2, _⟩ hy2
      refine EvP.ite (fun h2 => more (by omega) (.inr (hy2.1 h2))) (fun h2 => ?_)
      refine EvP.pos (by omega) (EvP.pos (by omega) (EvP.pos (by omega) (EvP.pos (by omega) (EvP.pos (by omega) (EvP.pos (by omega) ?_)))))
      refine EvP.mono (EvP.of_eq (fin ⟨by omega, hg, fun _ e => ?_⟩) fun k => ?_) fun _ h => h
      · rcases e with e | e
        · exact h (hy.2 e)
        · exact h2 (hy2.2 e)
      · simp only [Int.le_refl, show (0 : Int) < (s.size : Int) by omega, if_true]
    · refine EvP.pos (by omega) (EvP.pos (by omega) (EvP.pos (by omega) (EvP.pos (by omega) (EvP.pos (by omega) (EvP.pos (by omega) ?_)))))
      refine EvP.mono (EvP.of_eq (fin ⟨by omega, hg, fun h => by omega⟩) fun k => ?_) fun _ h => h
      simp only [Int.le_refl, show (0 : Int) < (s.size : Int) by omega, if_true]

/-- What the program's reader tells of the token at the beginning of a text. -/
def AtQ (u : ByteArray) (y : TToken.D × Int × Int × Unit) : Prop :=
  (y.2.2.1 ≠ 0 ∧ tok u = none) ∨ (y.2.2.1 = 0 ∧ ∃ n : Nat, y.2.1 = (n : Int) ∧ 1 ≤ n ∧ n ≤ u.size ∧ y.1.2.1 = u.extract 0 n ∧ (n < u.size → tok u = none) ∧ (n = u.size → tok u = some (y.1.1, y.1.2.2.1)))

theorem ne3 : (3 : Int) ≠ 0 := by decide
theorem ne4 : (4 : Int) ≠ 0 := by decide

theorem tokenAt_ev (u : ByteArray) (hs : u.size ≤ 1048576) (hp : 1 ≤ u.size) : EvP (fun k => impl_tokenAt.f k (u, ())) (AtQ u) := by
  simp only [impl_tokenAt.f, strings_IndexByte.f, stringslite_IndexByte.f, decide_eq_true_eq, beq_iff_eq]
  refine EvP.pos (by omega) ?_
  refine EvP.bind (R := fun y => 0 ≤ y.1 ↔ Sgn (bt u 0)) (EvP.ret (idx_sgn u 0)) ?_
  rintro ⟨y, _⟩ hy
  simp only at hy
  refine EvP.ite (fun h => EvP.pos (by omega) (EvP.ret (.inr ⟨rfl, 1, rfl, Nat.le_refl _, hp, rfl, fun h1 => ?_, fun h1 => ?_⟩))) (fun h => ?_)
  · exact tok_no (fun e => by omega) (fun e => sgn_not (hy.1 h) (e.2 0 (by omega)))
  · unfold tok
    rw [pickP_pos ⟨h1.symm, hy.1 h⟩]
  have hns : ¬ Sgn (bt u 0) := fun e => h (hy.2 e)
  refine EvP.bind (wordLong_ev u hs) ?_
  rintro ⟨_, _⟩ ⟨n, rfl, hw⟩
  have hn := hw.1
  refine EvP.pos (by omega) (EvP.pos (by show (n : Int) ≤ _; omega) (EvP.ite (fun h0 => EvP.ret (.inl ⟨ne4, ?_⟩)) (fun h0 => ?_)))
  · have h0' : (n : Int) = 0 := h0
    obtain rfl : n = 0 := by omega
    exact tok_no (fun e => hns e.2) (fun e => hw.2.2 (by omega) (e.2 0 (by omega)))
  have h1 : 1 ≤ n := by
    have h0' : ¬ (n : Int) = 0 := h0
    omega
  simp only [Int.toNat_natCast]
  have hsz : (u.extract 0 n).size ≤ 1048576 := by rw [ext_size u 0 n hn]; omega
  refine EvP.bind (implWord_ev _) ?_
  rintro ⟨y2, _⟩ hy2
  simp only at hy2
  refine EvP.ite (fun h2 => EvP.ret (.inr ⟨rfl, n, rfl, h1, hn, rfl, fun e => hw.part h1 e, fun e => ?_⟩)) (fun h2 => EvP.pos (by omega) ?_)
  · subst e
    obtain ⟨ha, hns2⟩ := hw.all h1 rfl
    rw [extract_all] at hy2
    unfold tok
    rw [pickP_neg hns2, pickP_pos ha, pickP_pos (hy2.1 h2)]
  refine EvP.bind (isDigit_ev _) ?_
  rintro ⟨y3, _⟩ hy3
  simp only at hy3
  refine EvP.ite (fun h3 => ?_) (fun h3 => ?_)
  · refine EvP.bind (number_ans _ hsz) ?_
    rintro _ rfl
    refine EvP.ite (fun h4 => EvP.ret (.inl ⟨ne3, ?_⟩)) (fun h4 => EvP.ret (.inr ⟨rfl, n, rfl, h1, hn, rfl, fun e => hw.part h1 e, fun e => ?_⟩))
    · rcases Nat.lt_or_ge n u.size with e | e
      · exact hw.part h1 e
      · obtain rfl : n = u.size := by omega
        obtain ⟨ha, hns2⟩ := hw.all h1 rfl
        rw [extract_all] at hy2 h4
        unfold tok
        rw [pickP_neg hns2, pickP_pos ha, pickP_neg (fun e => h2 (hy2.2 e)), pickP_pos (show digit (bt u 0) from hy3.1 h3), pickP_neg]
        intro e
        rw [e] at h4; cases h4
    · subst e
      obtain ⟨ha, hns2⟩ := hw.all h1 rfl
      rw [extract_all] at hy2 h4 ⊢
      unfold tok
      rw [pickP_neg hns2, pickP_pos ha, pickP_neg (fun e => h2 (hy2.2 e)), pickP_pos (show digit (bt u 0) from hy3.1 h3), pickP_pos]
      cases hc : (ans u).2.1 with
      | true => rfl
      | false => rw [hc] at h4; exact absurd rfl h4
  · have hnd : ¬ digit (bt u 0) := fun e => h3 (hy3.2 e)
    refine EvP.ite (fun h4 => EvP.ret (.inl ⟨ne3, ?_⟩)) (fun h4 => EvP.ret (.inr ⟨rfl, n, rfl, h1, hn, rfl, fun e => hw.part h1 e, fun e => ?_⟩))
    · have h4' : (n : Int) > 10 := h4
      exact tok_big (by omega)
    · subst e
      have h4' : ¬ ((u.size : Nat) : Int) > 10 := h4
      obtain ⟨ha, hns2⟩ := hw.all h1 rfl
      rw [extract_all] at hy2
      unfold tok
      rw [pickP_neg hns2, pickP_pos ha, pickP_neg (fun e => h2 (hy2.2 e)), pickP_neg hnd, pickP_pos (show u.size ≤ 10 by omega)]

theorem remark_ev (u : ByteArray) (hs : u.size ≤ 1048576) : EvP (fun k => impl_remark.f k (u, ())) (fun y => y.1 = 0 ∨ ∃ n : Nat, y.1 = (n : Int) ∧ 1 ≤ n ∧ n ≤ u.size) := by
  simp only [impl_remark.f]
  have loop := EvP.loop (L := impl_remark.l1) (Q := fun y => y.1 = 0 ∨ ∃ n : Nat, y.1 = (n : Int) ∧ 1 ≤ n ∧ n ≤ u.size) (fun j st => ∃ (i : Nat) (d : Int), st = (u, d, (i : Int), ()) ∧ i ≤ u.size ∧ j = u.size - i) ?_
  · exact loop _ _ ⟨0, 0, rfl, Nat.zero_le _, rfl⟩
  · rintro j _ ⟨i, d, rfl, hi, rfl⟩ ih
    have e2 : w64 ((i : Int) + 2) = ((i + 2 : Nat) : Int) := by rw [w64_id (by omega) (by omega)]; omega
    simp only [impl_remark.l1, decide_eq_true_eq, next64 (show i ≤ 1099511627776 by omega), next64 (show i + 1 ≤ 1099511627776 by omega), e2]
    refine EvP.ite (fun hlt => EvP.pos (by omega) (EvP.pos (by omega) (EvP.pos (by omega) (EvP.pos (by omega) ?_)))) (fun _ => EvP.ret (.inl rfl))
    refine EvP.ite (fun _ => EvP.ite (fun _ => EvP.ret (.inr ⟨i + 1 + 1, rfl, by omega, by omega⟩)) (fun _ => ih (u.size - (i + 1 + 1)) _ (by omega) ⟨i + 1 + 1, _, rfl, by omega, rfl⟩)) (fun _ => ?_)
    refine EvP.ite (fun _ => EvP.ite (fun _ => EvP.ret (.inr ⟨i + 1 + 1, rfl, by omega, by omega⟩)) (fun _ => ih (u.size - (i + 1 + 1)) _ (by omega) ⟨i + 1 + 1, _, rfl, by omega, rfl⟩)) (fun _ => ?_)
    exact EvP.ite (fun _ => EvP.ret (.inr ⟨i + 1, rfl, by omega, by omega⟩)) (fun _ => ih (u.size - (i + 1)) _ (by omega) ⟨i + 1, _, rfl, by omega, rfl⟩)

theorem remarkHead_ev (u : ByteArray) (hs : u.size ≤ 1048576) : EvP (fun k => strings_HasPrefix.f k (u, (⟨#[40, 42]⟩ : ByteArray), ())) (fun y => y.1 = true → tok u = none) := by
  simp only [strings_HasPrefix.f]
  refine EvP.bind (R := fun y => y.1 = true → tok u = none) ?_ ?_
  · simp only [internal_stringslite_HasPrefix.f, decide_eq_true_eq]
    have e1 : ((⟨#[40, 42]⟩ : ByteArray).size : Int) = 2 := rfl
    simp only [e1, show (2 : Int).toNat = 2 from rfl]
    refine EvP.ite (fun h => EvP.pos (by omega) (EvP.pos (by omega) (EvP.ret fun e => ?_))) (fun _ => EvP.ret fun e => by cases e)
    simp only [beq_iff_eq, toList_eq] at e
    have h0 : bt u 0 = 40 := by
      rw [← bt_extract u (n := 2) (by omega) (by omega), e]
      decide
    exact tok_no (fun e2 => by omega) (fun e2 => by
      have := e2.2 0 (by omega)
      rw [h0] at this
      unfold alnum letter digit at this
      omega)
  · rintro ⟨y, _⟩ hy
    exact EvP.ret hy

theorem drop_size (s : ByteArray) {i : Nat} (h : i ≤ s.size) : (s.extract i s.size).size = s.size - i := ext_size s i s.size (Nat.le_refl _)

def Late (s : ByteArray) (y : List TToken.D × Int × Int × Unit) : Prop := y.2.1 = 0 → ∀ t ∈ y.1, (t.2.1 : ByteArray).size < s.size

/-- Behind its first byte no token of a text is the text. -/
theorem read_late (s : ByteArray) (hs : s.size ≤ 1200) : ∀ (i : Nat) (out : List TToken.D), 1 ≤ i → i ≤ s.size → out.length ≤ i → (∀ t ∈ out, (t.2.1 : ByteArray).size < s.size) →
    EvP (fun k => impl_readTokens.l2 k (s, out, (i : Int), ())) (Late s) := by
  have loop := EvP.loop (L := impl_readTokens.l2) (Q := Late s) (fun j st => ∃ (i : Nat) (out : List TToken.D), st = (s, out, (i : Int), ()) ∧ 1 ≤ i ∧ i ≤ s.size ∧ j = s.size - i ∧ out.length ≤ i ∧ ∀ t ∈ out, (t.2.1 : ByteArray).size < s.size) ?_
  · exact fun i out h1 h2 h3 h4 => loop _ _ ⟨i, out, rfl, h1, h2, rfl, h3, h4⟩
  · rintro j _ ⟨i, out, rfl, h1, hi, rfl, hl, hall⟩ ih
    simp only [impl_readTokens.l2, decide_eq_true_eq, Int.toNat_natCast, next64 (show i ≤ 1099511627776 by omega), beq_iff_eq, bne_iff_ne]
    refine EvP.ite (fun hlt => EvP.pos (by omega) (EvP.pos hlt ?_)) (fun hge => EvP.ite (fun _ => EvP.ret fun e => by cases e) (fun _ => EvP.ret fun _ => hall))
    have hil : i < s.size := by omega
    have next : EvP (fun k => impl_readTokens.l2 k (s, out, ((i + 1 : Nat) : Int), ())) (Late s) := ih (s.size - (i + 1)) _ (by omega) ⟨i + 1, out, rfl, by omega, by omega, rfl, by omega, hall⟩
    refine EvP.ite (fun _ => next) (fun _ => EvP.pos (by omega) (EvP.pos hlt (EvP.ite (fun _ => next) (fun _ => EvP.pos (by omega) (EvP.pos (by omega) ?_)))))
    have hd := drop_size s hi
    refine EvP.bind (remarkHead_ev _ (by omega)) ?_
    rintro ⟨y, _⟩ _
    refine EvP.ite (fun _ => EvP.pos (by omega) (EvP.pos (by omega) ?_)) (fun _ => EvP.pos (by omega) (EvP.pos (by omega) ?_))
    · refine EvP.bind (remark_ev _ (by omega)) ?_
      rintro ⟨z, _⟩ hz
      simp only at hz
      refine EvP.ite (fun _ => EvP.ret fun e => by cases e) (fun h0 => ?_)
      rcases hz with hz | ⟨n, rfl, h1n, hn⟩
      · exact absurd hz h0
      · have e : w64 ((i : Int) + (n : Int)) = ((i + n : Nat) : Int) := by rw [w64_id (by omega) (by omega)]; omega
        simp only [e]
        exact ih (s.size - (i + n)) _ (by omega) ⟨i + n, out, rfl, by omega, by omega, rfl, by omega, hall⟩
    · refine EvP.bind (tokenAt_ev _ (by omega) (by omega)) ?_
      rintro ⟨t, n', c, _⟩ hz
      simp only [AtQ] at hz
      refine EvP.ite (fun h0 => EvP.ret fun e => absurd e h0) (fun h0 => ?_)
      rcases hz with ⟨hc, _⟩ | ⟨_, n, rfl, h1n, hn, ht, _, _⟩
      · exact absurd hc h0
      · have e : w64 ((i : Int) + (n : Int)) = ((i + n : Nat) : Int) := by rw [w64_id (by omega) (by omega)]; omega
        simp only [e]
        refine EvP.pos (by rw [big_eq]; omega) ?_
        refine ih (s.size - (i + n)) _ (by omega) ⟨i + n, _, rfl, by omega, by omega, rfl, by simp; omega, fun q hq => ?_⟩
        rcases List.mem_append.1 hq with hq | hq
        · exact hall q hq
        · simp only [List.mem_singleton] at hq
          subst hq
          show (t.2.1 : ByteArray).size < s.size
          rw [ht, ext_size _ 0 n hn]
          omega

def ReadQ (s : ByteArray) (y : List TToken.D × Int × Int × Unit) : Prop :=
  (y.2.1 = 0 ∧ y.1.length = 1 ∧ (rdT TToken y.1 0).2.1 = s ∧ tok s = some ((rdT TToken y.1 0).1, (rdT TToken y.1 0).2.2.1)) ∨ (tok s = none ∧ ¬ (y.2.1 = 0 ∧ y.1.length = 1 ∧ (rdT TToken y.1 0).2.1 = s))

theorem Late.read {s : ByteArray} {y : List TToken.D × Int × Int × Unit} (h : Late s y) (n : tok s = none) : ReadQ s y := by
  refine .inr ⟨n, fun e => ?_⟩
  have := h e.1 _ (rdT_mem (t := TToken) (i := 0) (by omega))
  rw [e.2.2] at this
  omega

theorem readTokens_ev (s : ByteArray) (hs : s.size ≤ 1048576) : EvP (fun k => impl_readTokens.f k (s, ())) (ReadQ s) := by
  simp only [impl_readTokens.f, decide_eq_true_eq]
  refine EvP.ite (fun h => EvP.ret (.inr ⟨tok_big (by omega), fun e => by cases e.1⟩)) (fun h => ?_)
  have hs' : s.size ≤ 1200 := by omega
  refine EvP.succ ?_
  simp only [impl_readTokens.l2, decide_eq_true_eq, Int.toNat_zero, beq_iff_eq, bne_iff_ne]
  refine EvP.ite (fun hlt => EvP.pos (by omega) (EvP.pos hlt ?_)) (fun hge => EvP.neg (by decide) (EvP.ret (.inr ⟨tok_empty (by omega), fun e => by cases e.2.1⟩)))
  have hp : 1 ≤ s.size := by omega
  have late : ∀ (i : Nat) (out : List TToken.D), 1 ≤ i → i ≤ s.size → out.length ≤ i → (∀ t ∈ out, (t.2.1 : ByteArray).size < s.size) → tok s = none → EvP (fun k => impl_readTokens.l2 k (s, out, (i : Int), ())) (ReadQ s) :=
    fun i out h1 h2 h3 h4 hn => (read_late s hs' i out h1 h2 h3 h4).mono fun y hy => hy.read hn
  have e1 : w64 (0 + (1 : Int)) = ((1 : Nat) : Int) := rfl
  simp only [e1]
  refine EvP.ite (fun hb => ?_) (fun hb => EvP.pos (by omega) (EvP.pos hlt (EvP.ite (fun hb2 => ?_) (fun hb2 => EvP.pos (by omega) (EvP.pos (by omega) ?_)))))
  · exact late 1 [] (by omega) hp (by simp) (fun t ht => by cases ht) (tok_no (fun e => by have := e.2; rw [hb] at this; revert this; decide) (fun e => by have := e.2 0 (by omega); rw [hb] at this; unfold alnum letter digit at this; omega))
  · exact late 1 [] (by omega) hp (by simp) (fun t ht => by cases ht) (tok_no (fun e => by have := e.2; rw [hb2] at this; revert this; decide) (fun e => by have := e.2 0 (by omega); rw [hb2] at this; unfold alnum letter digit at this; omega))
  · simp only [extract_all]
    refine EvP.bind (remarkHead_ev _ hs) ?_
    rintro ⟨y, _⟩ hy
    refine EvP.ite (fun h3 => EvP.pos (by omega) (EvP.pos (by omega) ?_)) (fun _ => EvP.pos (by omega) (EvP.pos (by omega) ?_))
    · refine EvP.bind (remark_ev _ hs) ?_
      rintro ⟨z, _⟩ hz
      simp only at hz
      refine EvP.ite (fun _ => EvP.ret (.inr ⟨hy h3, fun e => by cases e.1⟩)) (fun h0 => ?_)
      rcases hz with hz | ⟨n, rfl, h1n, hn⟩
      · exact absurd hz h0
      · have e : w64 (0 + (n : Int)) = ((n : Nat) : Int) := by rw [w64_id (by omega) (by omega)]; omega
        simp only [e]
        exact late n [] h1n hn (by simp) (fun t ht => by cases ht) (hy h3)
    · refine EvP.bind (tokenAt_ev _ hs hp) ?_
      rintro ⟨t, n', c, _⟩ hz
      simp only [AtQ] at hz
      refine EvP.ite (fun h0 => EvP.ret ?_) (fun h0 => ?_)
      · rcases hz with ⟨_, hn⟩ | ⟨hc, _⟩
        · exact .inr ⟨hn, fun e => h0 e.1⟩
        · exact absurd hc h0
      rcases hz with ⟨hc, _⟩ | ⟨_, n, rfl, h1n, hn, ht, hno, hyes⟩
      · exact absurd hc h0
      · have e : w64 (0 + (n : Int)) = ((n : Nat) : Int) := by rw [w64_id (by omega) (by omega)]; omega
        simp only [e]
        refine EvP.pos (by decide) ?_
        rcases Nat.lt_or_ge n s.size with h2 | h2
        · refine late n _ h1n hn (by simp; omega) (fun q hq => ?_) (hno h2)
          simp only [List.nil_append, List.mem_singleton] at hq
          subst hq
          show (t.2.1 : ByteArray).size < s.size
          rw [ht, ext_size _ 0 n hn]
          omega
        · obtain rfl : n = s.size := by omega
          refine EvP.succ ?_
          simp only [impl_readTokens.l2, decide_eq_true_eq]
          refine EvP.neg (by omega) (EvP.neg (by show ¬ (1 : Int) > 300; decide) (EvP.ret (.inl ⟨rfl, rfl, ?_, ?_⟩)))
          · show t.2.1 = s
            rw [ht, extract_all]
          · exact hyes rfl

def GoodT (t : TToken.D) : Prop := tok t.2.1 = some (t.1, t.2.2.1)
def GoodL (l : List TToken.D) : Prop := l.length ≤ 300 ∧ ∀ i, i < l.length → GoodT (rdT TToken l i)
noncomputable def goodAns (l : List TToken.D) : Bool × Unit := (pickP (GoodL l) true false, ())

theorem goodAns_no {l : List TToken.D} {i : Nat} (hi : i < l.length) (h : ¬ GoodT (rdT TToken l i)) : ((false, ()) : Bool × Unit) = goodAns l := by
  unfold goodAns
  rw [pickP_neg fun e => h (e.2 i hi)]

theorem good_end {l : List TToken.D} (h : ∀ i, i < l.length → GoodT (rdT TToken l i)) : ((decide ((l.length : Int) ≤ 300), ()) : Bool × Unit) = goodAns l := by
  unfold goodAns
  by_cases hl : l.length ≤ 300
  · rw [pickP_pos ⟨hl, h⟩, decide_eq_true (by omega)]
  · rw [pickP_neg fun e => hl e.1, decide_eq_false (by omega)]

theorem spec_good (l : List TToken.D) (hl : Fit (.slice TToken) l) : EvP (fun k => spec_l2Good.f k (l, ())) (· = goodAns l) := by
  have hlen : l.length ≤ 1048576 := hl.1
  simp only [spec_l2Good.f]
  refine EvP.scan (L := fun k i => spec_l2Good.l1 k (l, l, (l.length : Int), i, ())) l.length (fun i => GoodT (rdT TToken l i)) (fun hall => ?_) (fun i hi hall hgo => ?_)
  · simp only [spec_l2Good.l1, decide_eq_true_eq]
    exact EvP.neg (by omega) (EvP.ret (good_end hall))
  · simp only [spec_l2Good.l1, decide_eq_true_eq, Int.toNat_natCast, next64 (show i ≤ 1099511627776 by omega), beq_iff_eq, bne_iff_ne, toList_eq, Bool.not_eq_true', beq_eq_false_iff_ne]
    have hf := hl.2 _ (rdT_mem (t := TToken) hi)
    generalize hT : rdT TToken l i = t at hgo hf ⊢
    have no : ¬ GoodT t → ((false, ()) : Bool × Unit) = goodAns l := fun h => goodAns_no hi (by rw [hT]; exact h)
    have hsz : (t.2.1 : ByteArray).size ≤ 1048576 := hf.2.1
    refine EvP.pos (by omega) (EvP.pos (by omega) (EvP.pos (by omega) (EvP.ite (fun h => EvP.ret (no fun e => ?_)) (fun h => ?_))))
    · unfold GoodT at e
      rw [tok_empty (by rw [h]; rfl)] at e
      cases e
    · have hp : 1 ≤ (t.2.1 : ByteArray).size := by
        rcases Nat.eq_zero_or_pos (t.2.1 : ByteArray).size with h0 | h0
        · exact absurd (ByteArray.ext (Array.eq_empty_of_size_eq_zero h0)) h
        · exact h0
      refine EvP.bind (l2One_ev _ hsz hp) ?_
      rintro ⟨q, c, _⟩ hq
      simp only [OneQ] at hq
      rcases hq with ⟨hc, hn⟩ | ⟨hc, ⟨hne, hn⟩ | ⟨he, hsome⟩⟩
      · exact EvP.pos hc (EvP.ret (no fun e => by unfold GoodT at e; rw [hn] at e; cases e))
      · exact EvP.neg hc (EvP.pos (fun h => hne (toList_inj h)) (EvP.ret (no fun e => by unfold GoodT at e; rw [hn] at e; cases e)))
      · refine EvP.neg hc (EvP.neg (fun h => h (congrArg ByteArray.toList he)) (EvP.ite (fun h1 => EvP.ret (no fun e => ?_)) (fun h1 => EvP.ite (fun h2 => EvP.ret (no fun e => ?_)) (fun h2 => hgo ?_))))
        · unfold GoodT at e
          rw [hsome] at e
          injection e with e
          injection e with e3 e4
          exact h1 e3
        · unfold GoodT at e
          rw [hsome] at e
          injection e with e
          injection e with e3 e4
          exact h2 e4
        · unfold GoodT
          rw [hsome, Classical.not_not.1 h1, Classical.not_not.1 h2]

theorem impl_good (l : List TToken.D) (hl : Fit (.slice TToken) l) : EvP (fun k => impl_GoodTokens.f k (l, ())) (· = goodAns l) := by
  have hlen : l.length ≤ 1048576 := hl.1
  simp only [impl_GoodTokens.f]
  refine EvP.scan (L := fun k i => impl_GoodTokens.l1 k (l, l, (l.length : Int), i, ())) l.length (fun i => GoodT (rdT TToken l i)) (fun hall => ?_) (fun i hi hall hgo => ?_)
  · simp only [impl_GoodTokens.l1, decide_eq_true_eq]
    exact EvP.neg (by omega) (EvP.ret (good_end hall))
  · simp only [impl_GoodTokens.l1, decide_eq_true_eq, Int.toNat_natCast, next64 (show i ≤ 1099511627776 by omega), beq_iff_eq, bne_iff_ne, toList_eq, Bool.not_eq_true', beq_eq_false_iff_ne]
    have hf := hl.2 _ (rdT_mem (t := TToken) hi)
    generalize hT : rdT TToken l i = t at hgo hf ⊢
    have no : ¬ GoodT t → ((false, ()) : Bool × Unit) = goodAns l := fun h => goodAns_no hi (by rw [hT]; exact h)
    have hsz : (t.2.1 : ByteArray).size ≤ 1048576 := hf.2.1
    refine EvP.pos (by omega) (EvP.pos (by omega) (EvP.pos (by omega) ?_))
    refine EvP.bind (readTokens_ev _ hsz) ?_
    rintro ⟨L, c, p, _⟩ hq
    simp only [ReadQ] at hq
    have bad : tok t.2.1 = none → ¬ GoodT t := fun hn e => by unfold GoodT at e; rw [hn] at e; cases e
    refine EvP.ite (fun h => EvP.ret (no ?_)) (fun h => EvP.ite (fun h1 => EvP.ret (no ?_)) (fun h1 => EvP.pos (by omega) (EvP.ite (fun h2 => EvP.ret (no ?_)) (fun h2 => EvP.pos (by omega) (EvP.ite (fun h3 => EvP.ret (no ?_)) (fun h3 => EvP.pos (by omega) (EvP.ite (fun h4 => EvP.ret (no ?_)) (fun h4 => hgo ?_))))))))
    · rcases hq with ⟨hc, _⟩ | ⟨hn, _⟩
      · exact absurd hc h
      · exact bad hn
    · rcases hq with ⟨_, hc, _⟩ | ⟨hn, _⟩
      · exact absurd (show ((L.length : Nat) : Int) = 1 by rw [hc]; rfl) h1
      · exact bad hn
    · rcases hq with ⟨_, _, _, hs⟩ | ⟨hn, _⟩
      · intro e
        unfold GoodT at e
        rw [hs] at e
        injection e with e
        injection e with e3 e4
        exact h2 e3
      · exact bad hn
    · rcases hq with ⟨_, _, hs, _⟩ | ⟨hn, _⟩
      · exact absurd (congrArg ByteArray.toList hs) h3
      · exact bad hn
    · rcases hq with ⟨_, _, _, hs⟩ | ⟨hn, _⟩
      · intro e
        unfold GoodT at e
        rw [hs] at e
        injection e with e
        injection e with e3 e4
        exact h4 e4
      · exact bad hn
    · rcases hq with ⟨_, _, _, hs⟩ | ⟨_, hn⟩
      · unfold GoodT
        rw [hs, Classical.not_not.1 h2, Classical.not_not.1 h4]
      · exact absurd ⟨Classical.not_not.1 h, (by have h1' : ¬ ((L.length : Int) ≠ 1) := h1; omega), toList_inj (Classical.not_not.1 h3)⟩ hn

/-! ### Drawing -/

def Bytes (l : List Int) : Prop := ∀ x ∈ l, 0 ≤ x ∧ x ≤ 255
def CurOk (c : List Int × Int × Int × Unit) (n : Nat) : Prop := Bytes c.1 ∧ 0 ≤ c.2.1 ∧ c.2.1 ≤ (n : Int)

theorem CurOk.mono {c : List Int × Int × Int × Unit} {n m : Nat} (h : CurOk c n) (k : n ≤ m) : CurOk c m := ⟨h.1, h.2.1, by have := h.2.2; omega⟩

theorem bytes_of {l : List Int} (h : okD (.slice (.int .u8)) l) : Bytes l := fun x hx => by
  have := h.2 x hx
  simp [okD, Lit.wf, IntKind.min, IntKind.max, IntKind.bits, IntKind.signed] at this
  omega

theorem low8 (x : Int) : 0 ≤ bitsI .u64 (· &&& ·) x (255 : Int) ∧ bitsI .u64 (· &&& ·) x (255 : Int) ≤ 255 := by
  unfold bitsI
  have h : ((BitVec.ofInt IntKind.u64.bits x) &&& (BitVec.ofInt IntKind.u64.bits 255)).toNat ≤ 255 := by
    rw [BitVec.toNat_and]
    exact Nat.and_le_right
  generalize ((BitVec.ofInt IntKind.u64.bits x) &&& (BitVec.ofInt IntKind.u64.bits 255)).toNat = n at h
  have e : IntKind.wrap .u64 (n : Int) = (n : Int) := by
    rw [IntKind.wrap_u64]
    omega
  rw [e]
  omega

theorem next_ev (c : List Int × Int × Int × Unit) (n : Nat) (hn : n ≤ 1099511627776) (hc : CurOk c n) :
    EvP (fun k => spec_l1Cur_next.f k (c, ())) (fun y => CurOk y.1 (n + 1) ∧ 0 ≤ y.2.1 ∧ y.2.1 ≤ 255) := by
  obtain ⟨code, at_, seed, _⟩ := c
  obtain ⟨hb, h0, h1⟩ := hc
  simp only at hb h0 h1
  have hw : w64 (at_ + 1) = at_ + 1 := w64_id (by omega) (by omega)
  have hlow : ∀ x : Int, w64 (bitsI .u64 (· &&& ·) x (255 : Int)) = bitsI .u64 (· &&& ·) x (255 : Int) := fun x => by
    have := low8 x
    exact w64_id (by omega) (by omega)
  simp only [spec_l1Cur_next.f, decide_eq_true_eq, hw]
  refine EvP.ite (fun h => EvP.pos h0 (EvP.pos h (EvP.ite (fun h2 => EvP.ret ?_) (fun h2 => EvP.ret ?_)))) (fun h => EvP.ite (fun h2 => EvP.ret ?_) (fun h2 => EvP.ret ?_))
  · have hr := hb _ (rdT_mem (t := .int .u8) (l := code) (i := at_.toNat) (by omega))
    refine ⟨⟨hb, ?_, ?_⟩, ?_, ?_⟩
    · show 0 ≤ at_ + 1; omega
    · show at_ + 1 ≤ ((n + 1 : Nat) : Int); omega
    · show 0 ≤ w64 (rdT (.int .u8) code at_.toNat); rw [w64_id (by omega) (by omega)]; omega
    · show w64 (rdT (.int .u8) code at_.toNat) ≤ 255; rw [w64_id (by omega) (by omega)]; omega
  · refine ⟨⟨hb, ?_, ?_⟩, ?_, ?_⟩
    · show 0 ≤ at_ + 1; omega
    · show at_ + 1 ≤ ((n + 1 : Nat) : Int); omega
    · simp only [hlow]; exact (low8 _).1
    · simp only [hlow]; exact (low8 _).2
  · exact ⟨⟨hb, by show 0 ≤ at_ + 1; omega, by show at_ + 1 ≤ ((n + 1 : Nat) : Int); omega⟩, by show (0 : Int) ≤ 0; decide, by show (0 : Int) ≤ 255; decide⟩
  · refine ⟨⟨hb, ?_, ?_⟩, ?_, ?_⟩
    · show 0 ≤ at_ + 1; omega
    · show at_ + 1 ≤ ((n + 1 : Nat) : Int); omega
    · simp only [hlow]; exact (low8 _).1
    · simp only [hlow]; exact (low8 _).2

theorem pick_ev (c : List Int × Int × Int × Unit) (n : Nat) (hn : n ≤ 1099511627775) (hc : CurOk c n) (m : Int) :
    EvP (fun k => spec_l1Cur_pick.f k (c, m, ())) (fun y => CurOk y.1 (n + 2) ∧ 0 ≤ y.2.1 ∧ (m ≤ 1 → y.2.1 = 0) ∧ (1 < m → y.2.1 < m)) := by
  obtain ⟨code, at_, seed, _⟩ := c
  simp only [spec_l1Cur_pick.f, decide_eq_true_eq]
  refine EvP.ite (fun h => EvP.ret ⟨hc.mono (by omega), by show (0 : Int) ≤ 0; decide, fun _ => rfl, fun h2 => by omega⟩) (fun h => ?_)
  have hm : 1 < m := by omega
  refine EvP.bind (next_ev _ n (by omega) hc) ?_
  rintro ⟨⟨code1, at1, seed1, _⟩, x, _⟩ ⟨h1, hx0, hx1⟩
  simp only at hx0 hx1
  refine EvP.ite (fun h2 => ?_) (fun h2 => EvP.pos (by omega) (EvP.ret ?_))
  · refine EvP.bind (next_ev _ (n + 1) (by omega) h1) ?_
    rintro ⟨⟨code2, at2, seed2, _⟩, y, _⟩ ⟨h3, hy0, hy1⟩
    simp only at hy0 hy1
    refine EvP.pos (by omega) (EvP.ret ?_)
    have e : w64 (w64 (x * 256) + y) = x * 256 + y := by rw [w64_id (x := x * 256) (by omega) (by omega), w64_id (by omega) (by omega)]
    simp only [e]
    exact ⟨h3, Int.tmod_nonneg _ (by omega), fun h => by omega, fun _ => Int.tmod_lt_of_pos _ (by omega)⟩
  · exact ⟨h1.mono (by omega), Int.tmod_nonneg _ hx0, fun h => by omega, fun _ => Int.tmod_lt_of_pos _ (by omega)⟩

theorem of_ev (c : List Int × Int × Int × Unit) (n : Nat) (hn : n ≤ 1099511627775) (hc : CurOk c n) (l : List ByteArray) (hl : 1 ≤ l.length) :
    EvP (fun k => spec_l1Cur_of.f k (c, l, ())) (fun y => CurOk y.1 (n + 2) ∧ y.2.1 ∈ l) := by
  obtain ⟨code, at_, seed, _⟩ := c
  simp only [spec_l1Cur_of.f]
  refine EvP.bind (pick_ev _ n hn hc (l.length : Int)) ?_
  rintro ⟨⟨code1, at1, seed1, _⟩, x, _⟩ ⟨h1, hx0, hx1, hx2⟩
  simp only at hx0 hx1 hx2
  have hx : x < (l.length : Int) := by
    rcases Int.lt_or_le 1 (l.length : Int) with h | h
    · exact hx2 h
    · have := hx1 h; omega
  exact EvP.pos hx0 (EvP.pos hx (EvP.ret ⟨h1, rdT_mem (t := .str) (by show x.toNat < l.length; omega)⟩))

/-! ### Drawing texts -/

theorem words_ev (c : List Int × Int × Int × Unit) (n : Nat) (hn : n ≤ 1000000000) (hc : CurOk c n) :
    EvP (fun k => spec_l1Cur_words.f k (c, ())) (fun y => CurOk y.1 (n + 30) ∧ y.2.1.size ≤ 112) := by
  obtain ⟨code, at_, seed, _⟩ := c
  simp only [spec_l1Cur_words.f]
  refine EvP.bind (pick_ev _ n (by omega) hc 8) ?_
  rintro ⟨⟨code1, at1, seed1, _⟩, x, _⟩ ⟨h1, hx0, _, hx2⟩
  have hx : x < 8 := hx2 (by decide)
  simp only at hx0
  have loop := EvP.loop (L := spec_l1Cur_words.l1) (Q := fun y => CurOk y.1 (n + 30) ∧ y.2.1.size ≤ 112) (fun j st => ∃ (c : List Int × Int × Int × Unit) (s : ByteArray), st = (c, s, (j : Int), ()) ∧ j ≤ 7 ∧ CurOk c (n + 2 + 4 * (7 - j)) ∧ s.size ≤ 16 * (7 - j)) ?_
  · obtain ⟨m, rfl⟩ : ∃ m : Nat, x = (m : Int) := ⟨x.toNat, by omega⟩
    exact loop m _ ⟨_, _, rfl, by omega, h1.mono (by omega), Nat.zero_le _⟩
  · rintro j _ ⟨c, s, rfl, hj, hcc, hs⟩ ih
    simp only [spec_l1Cur_words.l1, decide_eq_true_eq]
    refine EvP.ite (fun h => ?_) (fun h => EvP.ret ⟨hcc.mono (by omega), by show s.size ≤ 112; omega⟩)
    have hj1 : 1 ≤ j := by omega
    refine EvP.bind (of_ev _ (n + 2 + 4 * (7 - j)) (by omega) hcc _ (by decide)) ?_
    rintro ⟨c2, t, _⟩ ⟨h2, ht⟩
    refine EvP.bind (of_ev _ (n + 2 + 4 * (7 - j) + 2) (by omega) h2 _ (by decide)) ?_
    rintro ⟨c3, u, _⟩ ⟨h3, hu⟩
    simp only at ht hu
    have ht' : t.size ≤ 15 := by
      simp only [List.mem_cons, List.not_mem_nil, or_false] at ht
      rcases ht with rfl | rfl | rfl | rfl | rfl | rfl | rfl | rfl | rfl | rfl | rfl | rfl | rfl | rfl | rfl | rfl <;> decide
    have hu' : u.size ≤ 1 := by
      simp only [List.mem_cons, List.not_mem_nil, or_false] at hu
      rcases hu with rfl | rfl | rfl <;> decide
    have e : w64 ((j : Int) - 1) = ((j - 1 : Nat) : Int) := by rw [w64_id (by omega) (by omega)]; omega
    simp only [e]
    refine EvP.pos (by unfold sizeN; omega) (EvP.pos (by unfold sizeN; rw [ByteArray.size_append]; omega) ?_)
    refine ih (j - 1) _ (by omega) ⟨_, _, rfl, by omega, h3.mono (by omega), ?_⟩
    rw [ByteArray.size_append, ByteArray.size_append]
    omega

/-- The texts of the first tokens, with blanks between them. -/
def words (l : List TToken.D) : List ByteArray := l.map fun t => t.2.1
def acc (l : List TToken.D) : Nat → ByteArray
  | 0 => ByteArray.empty
  | i + 1 => if 0 < i then (acc l i ++ (⟨#[32]⟩ : ByteArray)) ++ (rdT TToken l i).2.1 else acc l i ++ (rdT TToken l i).2.1

theorem goodT_size {t : TToken.D} (h : GoodT t) : (t.2.1 : ByteArray).size ≤ 10 := by
  rcases Nat.lt_or_ge 10 (t.2.1 : ByteArray).size with h1 | h1
  · unfold GoodT at h
    rw [tok_big h1] at h
    cases h
  · exact h1

theorem acc_size {l : List TToken.D} (hg : GoodL l) : ∀ i, i ≤ l.length → (acc l i).size ≤ 11 * i
  | 0, _ => by show ByteArray.empty.size ≤ 0; decide
  | i + 1, h => by
    have h1 := acc_size hg i (by omega)
    have h2 := goodT_size (hg.2 i (by omega))
    unfold acc
    split
    · rw [ByteArray.size_append, ByteArray.size_append]
      have : (⟨#[32]⟩ : ByteArray).size = 1 := rfl
      omega
    · rw [ByteArray.size_append]
      omega

theorem tail_snoc (sep : List UInt8) (r : List (List UInt8)) (y : List UInt8) : Lib.joinTail sep (r ++ [y]) = Lib.joinTail sep r ++ (sep ++ y) := by
  simp [Lib.joinTail]

theorem join_snoc (xs : List (List UInt8)) (y sep : List UInt8) : Lib.join (xs ++ [y]) sep = if xs = [] then y else Lib.join xs sep ++ sep ++ y := by
  cases xs with
  | nil => simp [Lib.join_one]
  | cons x r =>
    rw [if_neg (by simp), List.cons_append, Lib.join_cons, Lib.join_cons, tail_snoc]
    simp [List.append_assoc]

theorem acc_join (l : List TToken.D) : ∀ i, i ≤ l.length → (acc l i).data.toList = joinL (words (l.take i)) (⟨#[32]⟩ : ByteArray)
  | 0, _ => rfl
  | i + 1, h => by
    have h1 := acc_join l i (by omega)
    have e : l.take (i + 1) = l.take i ++ [rdT TToken l i] := by rw [List.take_add_one, rdT_some (t := TToken) (by omega)]; rfl
    unfold joinL at *
    rw [e, words, List.map_append, List.map_append, List.map_cons, List.map_nil, List.map_cons, List.map_nil, join_snoc]
    unfold acc
    by_cases h0 : 0 < i
    · rw [if_pos h0, if_neg (fun e => by
        have := congrArg List.length e
        simp at this
        rcases this with h | h
        · omega
        · subst h; simp at *)]
      rw [ByteArray.data_append, ByteArray.data_append, Array.toList_append, Array.toList_append, h1]
      rfl
    · obtain rfl : i = 0 := by omega
      rw [if_neg h0, if_pos (by simp), ByteArray.data_append, Array.toList_append]
      rfl

noncomputable def textAns (l : List TToken.D) : ByteArray × Bool × Unit :=
  pickP (GoodL l) (if (1200 : Int) < ((acc l l.length).size : Int) then (ByteArray.empty, false, ()) else (acc l l.length, true, ())) (ByteArray.empty, false, ())

theorem spec_ansX (l : List TToken.D) (hl : Fit (.slice TToken) l) : EvP (fun k => spec_TokensText.f k (l, ())) (· = textAns l) := by
  have hlen : l.length ≤ 1048576 := hl.1
  simp only [spec_TokensText.f]
  refine EvP.bind (spec_good l hl) ?_
  rintro _ rfl
  by_cases hg : GoodL l
  · refine EvP.neg (by unfold goodAns; rw [pickP_pos hg]; simp) ?_
    have loop := EvP.loop (L := spec_TokensText.l2) (Q := (· = textAns l)) (fun j st => ∃ i : Nat, st = (acc l i, l, (l.length : Int), (i : Int), ()) ∧ i ≤ l.length ∧ j = l.length - i) ?_
    · exact loop _ _ ⟨0, rfl, Nat.zero_le _, rfl⟩
    · rintro j _ ⟨i, rfl, hi, rfl⟩ ih
      simp only [spec_TokensText.l2, decide_eq_true_eq, Int.toNat_natCast, next64 (show i ≤ 1099511627776 by omega)]
      have h300 := hg.1
      refine EvP.ite (fun hlt => EvP.pos (by omega) (EvP.pos hlt ?_)) (fun hge => ?_)
      · have hil : i < l.length := by omega
        have h1 := acc_size hg i hi
        have h2 := goodT_size (hg.2 i hil)
        have go : acc l (i + 1) = (if 0 < i then (acc l i ++ (⟨#[32]⟩ : ByteArray)) ++ (rdT TToken l i).2.1 else acc l i ++ (rdT TToken l i).2.1) := rfl
        have he : (⟨#[32]⟩ : ByteArray).size = 1 := rfl
        refine EvP.ite (fun h0 => EvP.pos (by unfold sizeN; rw [he]; omega) (EvP.pos (by unfold sizeN; rw [ByteArray.size_append, he]; omega) ?_)) (fun h0 => EvP.pos (by unfold sizeN; omega) ?_)
        · rw [if_pos (by omega)] at go
          rw [← go]
          exact ih (l.length - (i + 1)) _ (by omega) ⟨i + 1, rfl, by omega, rfl⟩
        · rw [if_neg (by omega)] at go
          rw [← go]
          exact ih (l.length - (i + 1)) _ (by omega) ⟨i + 1, rfl, by omega, rfl⟩
      · obtain rfl : i = l.length := by omega
        unfold textAns
        rw [pickP_pos hg]
        exact EvP.ite (fun h => EvP.ret (by rw [if_pos h])) (fun h => EvP.ret (by rw [if_neg h]))
  · refine EvP.pos (by unfold goodAns; rw [pickP_neg hg]; rfl) (EvP.ret ?_)
    unfold textAns
    rw [pickP_neg hg]

theorem impl_ansX (l : List TToken.D) (hl : Fit (.slice TToken) l) : EvP (fun k => impl_TokensText.f k (l, ())) (· = textAns l) := by
  have hlen : l.length ≤ 1048576 := hl.1
  simp only [impl_TokensText.f]
  refine EvP.bind (impl_good l hl) ?_
  rintro _ rfl
  by_cases hg : GoodL l
  · refine EvP.neg (by unfold goodAns; rw [pickP_pos hg]; simp) ?_
    have loop := EvP.loop (L := impl_TokensText.l2) (Q := (· = textAns l)) (fun j st => ∃ i : Nat, st = (words (l.take i), l, (l.length : Int), (i : Int), ()) ∧ i ≤ l.length ∧ j = l.length - i) ?_
    · exact loop _ _ ⟨0, rfl, Nat.zero_le _, rfl⟩
    · rintro j _ ⟨i, rfl, hi, rfl⟩ ih
      simp only [impl_TokensText.l2, decide_eq_true_eq, Int.toNat_natCast, next64 (show i ≤ 1099511627776 by omega)]
      have h300 := hg.1
      have hw : (words (l.take i)).length = i := by unfold words; rw [List.length_map, List.length_take]; omega
      refine EvP.ite (fun hlt => EvP.pos (by omega) (EvP.pos hlt (EvP.pos (by rw [hw, big_eq]; omega) ?_))) (fun hge => ?_)
      · have hil : i < l.length := by omega
        have e : words (l.take (i + 1)) = words (l.take i) ++ [(rdT TToken l i).2.1] := by rw [List.take_add_one, rdT_some (t := TToken) hil]; unfold words; rw [List.map_append]; rfl
        rw [← e]
        exact ih (l.length - (i + 1)) _ (by omega) ⟨i + 1, rfl, by omega, rfl⟩
      · obtain rfl : i = l.length := by omega
        have hj := acc_join l l.length (Nat.le_refl _)
        have hs := acc_size hg l.length (Nat.le_refl _)
        have hok : joinOk (words (l.take l.length)) (⟨#[32]⟩ : ByteArray) := by
          refine ⟨by rw [hw]; omega, ?_⟩
          rw [← hj]
          have : (acc l l.length).data.toList.length = (acc l l.length).size := Array.length_toList
          omega
        have hr : (⟨(joinL (words (l.take l.length)) (⟨#[32]⟩ : ByteArray)).toArray⟩ : ByteArray) = acc l l.length := by
          rw [← hj]
        simp only [strings_Join.f, if_pos hok, hr]
        refine EvP.bind (R := (· = (acc l l.length, ()))) (EvP.ret rfl) ?_
        rintro _ rfl
        unfold textAns
        rw [pickP_pos hg]
        exact EvP.ite (fun h => EvP.ret (by rw [if_pos h])) (fun h => EvP.ret (by rw [if_neg h]))
  · refine EvP.pos (by unfold goodAns; rw [pickP_neg hg]; rfl) (EvP.ret ?_)
    unfold textAns
    rw [pickP_neg hg]

/-! ### The token at a place of a text -/

theorem bt_get {x : ByteArray} {j : Nat} (h : j < x.data.size) : bt x j = ((x.data[j]'h).toNat : Int) := by
  unfold bt Array.getD
  rw [dif_pos h]
  rfl

theorem bt_sub (s : ByteArray) {a b j : Nat} (hb : b ≤ s.size) (h : a + j < b) : bt (s.extract a b) j = bt s (a + j) := by
  have h1 : a + j < s.data.size := Nat.lt_of_lt_of_le h hb
  have h2 : j < (s.extract a b).data.size := by
    have := ext_size s a b hb
    show j < (s.extract a b).size
    rw [this]; omega
  rw [bt_get h2, bt_get h1]
  congr 2
  simp only [ByteArray.data_extract, Array.getElem_extract]

theorem sub_sub (s : ByteArray) {a n : Nat} (h : a + n ≤ s.size) : (s.extract a s.size).extract 0 n = s.extract a (a + n) := by
  apply ByteArray.ext
  simp only [ByteArray.data_extract, Array.extract_extract]
  congr 1
  show min (a + n) s.size = a + n
  omega

theorem WL.unique {s : ByteArray} {n m : Nat} (h : WL s n) (k : WL s m) : n = m := by
  rcases Nat.lt_trichotomy n m with e | e | e
  · exact absurd (k.2.1 n e) (h.2.2 (by have := k.1; omega))
  · exact e
  · exact absurd (h.2.1 m e) (k.2.2 (by have := h.1; omega))

noncomputable def wl (s : ByteArray) : Nat := @dite _ (∃ n, WL s n) (Classical.propDecidable _) (fun h => Classical.choose h) (fun _ => 0)
theorem wl_eq {s : ByteArray} {n : Nat} (h : WL s n) : wl s = n := by
  have hx : ∃ n, WL s n := ⟨n, h⟩
  unfold wl
  rw [dif_pos hx]
  exact (Classical.choose_spec hx).unique h

/-- Code, length, kind and value of the token at the beginning of a text. -/
noncomputable def lexM (u : ByteArray) : Int × Nat × Int × Int :=
  pickP (Sgn (bt u 0)) (0, 1, 4, 0) (pickP (alnum (bt u 0)) (match tok (u.extract 0 (wl u)) with
    | some (k, v) => (0, wl u, k, v)
    | none => (3, 0, 0, 0)) (4, 0, 0, 0))

theorem lex_sgn {u : ByteArray} (h : Sgn (bt u 0)) : lexM u = (0, 1, 4, 0) := by unfold lexM; rw [pickP_pos h]
theorem lex_bad {u : ByteArray} (h : ¬ Sgn (bt u 0)) (k : ¬ alnum (bt u 0)) : lexM u = (4, 0, 0, 0) := by unfold lexM; rw [pickP_neg h, pickP_neg k]
theorem lex_some {u : ByteArray} {n : Nat} (h : alnum (bt u 0)) (hw : WL u n) {k v : Int} (ht : tok (u.extract 0 n) = some (k, v)) : lexM u = (0, n, k, v) := by
  unfold lexM
  rw [pickP_neg (fun e => sgn_not e h), pickP_pos h, wl_eq hw, ht]
theorem lex_none {u : ByteArray} {n : Nat} (h : alnum (bt u 0)) (hw : WL u n) (ht : tok (u.extract 0 n) = none) : lexM u = (3, 0, 0, 0) := by
  unfold lexM
  rw [pickP_neg (fun e => sgn_not e h), pickP_pos h, wl_eq hw, ht]

theorem WL.word {u : ByteArray} {n : Nat} (h : WL u n) (h1 : 1 ≤ n) : AllW (u.extract 0 n) ∧ bt (u.extract 0 n) 0 = bt u 0 := by
  have hn := h.1
  have hs := ext_size u 0 n hn
  refine ⟨⟨by omega, fun j hj => ?_⟩, ?_⟩
  · rw [bt_sub u hn (by omega), Nat.zero_add]
    exact h.2.1 j (by omega)
  · rw [bt_sub u hn (by omega)]

theorem WL.one {u : ByteArray} {n : Nat} (h : WL u n) (h0 : alnum (bt u 0)) (hu : 1 ≤ u.size) : 1 ≤ n := by
  rcases Nat.eq_zero_or_pos n with e | e
  · subst e
    exact absurd h0 (h.2.2 (by omega))
  · exact e

theorem tok_word {w : ByteArray} (hw : AllW w) : tok w = pickP (w ∈ wordsL) (some (2, 0)) (pickP (digit (bt w 0)) (pickP ((ans w).2.1 = true) (some (3, (ans w).1)) none) (pickP (w.size ≤ 10) (some (1, 0)) none)) := by
  unfold tok
  rw [pickP_neg (fun e => sgn_not e.2 (hw.2 0 (by omega))), pickP_pos hw]

/-- What is known of a token that is read. -/
theorem lex_good {u : ByteArray} (hu : 1 ≤ u.size) (h : (lexM u).1 = 0) : 1 ≤ (lexM u).2.1 ∧ (lexM u).2.1 ≤ u.size ∧ tok (u.extract 0 (lexM u).2.1) = some ((lexM u).2.2.1, (lexM u).2.2.2) := by
  rcases Classical.em (Sgn (bt u 0)) with hs | hs
  · rw [lex_sgn hs]
    refine ⟨Nat.le_refl _, hu, ?_⟩
    have hz : (u.extract 0 1).size = 1 := ext_size u 0 1 hu
    unfold tok
    rw [pickP_pos ⟨hz, by rw [bt_sub u hu (by omega)]; exact hs⟩]
  rcases Classical.em (alnum (bt u 0)) with ha | ha
  · have ex : ∃ n, WL u n := by
      have key : ∀ (j i : Nat), i + j = u.size → (∀ p, p < i → alnum (bt u p)) → ∃ n, WL u n := by
        intro j
        induction j with
        | zero => exact fun i hi hp => ⟨i, by omega, hp, fun h => by omega⟩
        | succ j ih =>
          intro i hi hp
          rcases Classical.em (alnum (bt u i)) with h1 | h1
          · exact ih (i + 1) (by omega) fun p h2 => by
              rcases Nat.lt_or_ge p i with h3 | h3
              · exact hp p h3
              · obtain rfl : p = i := by omega
                exact h1
          · exact ⟨i, by omega, hp, fun _ => h1⟩
      exact key u.size 0 (by omega) fun p hp => absurd hp (Nat.not_lt_zero _)
    obtain ⟨n, hw⟩ := ex
    have h1 := hw.one ha hu
    cases ht : tok (u.extract 0 n) with
    | none => rw [lex_none ha hw ht] at h; cases h
    | some kv =>
      obtain ⟨k, v⟩ := kv
      rw [lex_some ha hw ht]
      exact ⟨h1, hw.1, ht⟩
  · rw [lex_bad hs ha] at h; cases h

def LexI (u : ByteArray) (y : TToken.D × Int × Int × Unit) : Prop := (y.2.2.1 : Int) = (lexM u).1 ∧ ((lexM u).1 = 0 → (y.2.1 : Int) = ((lexM u).2.1 : Int) ∧ (y.1.1 : Int) = (lexM u).2.2.1 ∧ y.1.2.1 = u.extract 0 (lexM u).2.1 ∧ (y.1.2.2.1 : Int) = (lexM u).2.2.2)

theorem lexI_zero {u : ByteArray} {n : Nat} {k v : Int} {z : Int} (h : lexM u = (0, n, k, v)) : LexI u ((k, (u.extract 0 n, (v, z))), (n : Int), 0, ()) := by
  unfold LexI
  rw [h]
  exact ⟨rfl, fun _ => ⟨rfl, rfl, rfl, rfl⟩⟩

theorem lexI_code {u : ByteArray} {c : Int} {t : TToken.D} {m : Int} {r : Nat × Int × Int} (hc : c ≠ 0) (h : lexM u = (c, r)) : LexI u (t, m, c, ()) := by
  unfold LexI
  rw [h]
  exact ⟨rfl, fun e => absurd e hc⟩

theorem implLex_ev (u : ByteArray) (hs : u.size ≤ 1048576) (hp : 1 ≤ u.size) : EvP (fun k => impl_tokenAt.f k (u, ())) (LexI u) := by
  simp only [impl_tokenAt.f, strings_IndexByte.f, stringslite_IndexByte.f, decide_eq_true_eq, beq_iff_eq]
  refine EvP.pos (by omega) ?_
  refine EvP.bind (R := fun y => 0 ≤ y.1 ↔ Sgn (bt u 0)) (EvP.ret (idx_sgn u 0)) ?_
  rintro ⟨y, _⟩ hy
  simp only at hy
  refine EvP.ite (fun h => EvP.pos (by omega) (EvP.ret (lexI_zero (n := 1) (lex_sgn (hy.1 h))))) (fun h => ?_)
  have hns : ¬ Sgn (bt u 0) := fun e => h (hy.2 e)
  refine EvP.bind (wordLong_ev u hs) ?_
  rintro ⟨_, _⟩ ⟨n, rfl, hw⟩
  have hn := hw.1
  refine EvP.pos (by omega) (EvP.pos (by show (n : Int) ≤ _; omega) (EvP.ite (fun h0 => EvP.ret ?_) (fun h0 => ?_)))
  · have h0' : (n : Int) = 0 := h0
    obtain rfl : n = 0 := by omega
    exact lexI_code ne4 (lex_bad hns (hw.2.2 (by omega)))
  have h1 : 1 ≤ n := by
    have h0' : ¬ (n : Int) = 0 := h0
    omega
  have ha : alnum (bt u 0) := hw.2.1 0 (by omega)
  simp only [Int.toNat_natCast]
  have hsz : (u.extract 0 n).size ≤ 1048576 := by rw [ext_size u 0 n hn]; omega
  obtain ⟨hW, hb0⟩ := hw.word h1
  have htok := tok_word hW
  refine EvP.bind (implWord_ev _) ?_
  rintro ⟨y2, _⟩ hy2
  simp only at hy2
  refine EvP.ite (fun h2 => EvP.ret (lexI_zero (lex_some ha hw ?_))) (fun h2 => EvP.pos (by omega) ?_)
  · rw [htok, pickP_pos (hy2.1 h2)]
  rw [pickP_neg (fun e => h2 (hy2.2 e)), hb0] at htok
  refine EvP.bind (isDigit_ev _) ?_
  rintro ⟨y3, _⟩ hy3
  simp only at hy3
  refine EvP.ite (fun h3 => ?_) (fun h3 => ?_)
  · rw [pickP_pos (show digit (bt u 0) from hy3.1 h3)] at htok
    refine EvP.bind (number_ans _ hsz) ?_
    rintro _ rfl
    refine EvP.ite (fun h4 => EvP.ret (lexI_code ne3 (lex_none ha hw ?_))) (fun h4 => EvP.ret (lexI_zero (lex_some ha hw ?_)))
    · rw [htok, pickP_neg]
      intro e
      rw [e] at h4; cases h4
    · rw [htok, pickP_pos]
      cases hc : (ans (u.extract 0 n)).2.1 with
      | true => rfl
      | false => rw [hc] at h4; exact absurd rfl h4
  · rw [pickP_neg (show ¬ digit (bt u 0) from fun e => h3 (hy3.2 e)), ext_size u 0 n hn] at htok
    refine EvP.ite (fun h4 => EvP.ret (lexI_code ne3 (lex_none ha hw ?_))) (fun h4 => EvP.ret (lexI_zero (lex_some ha hw ?_)))
    · have h4' : (n : Int) > 10 := h4
      rw [htok, pickP_neg (by omega)]
    · have h4' : ¬ (n : Int) > 10 := h4
      rw [htok, pickP_pos (by omega)]

def LexS (u : ByteArray) (at' : Int) (y : TToken.D × Int × Unit) : Prop := (y.2.1 : Int) = (lexM u).1 ∧ ((lexM u).1 = 0 → y.1 = ((lexM u).2.2.1, (u.extract 0 (lexM u).2.1, ((lexM u).2.2.2, at'))))

theorem lexS_zero {u : ByteArray} {n : Nat} {k v : Int} {z : Int} (h : lexM u = (0, n, k, v)) : LexS u z ((k, (u.extract 0 n, (v, z))), 0, ()) := by
  unfold LexS
  rw [h]
  exact ⟨rfl, fun _ => rfl⟩

theorem lexS_code {u : ByteArray} {c z : Int} {t : TToken.D} {r : Nat × Int × Int} (hc : c ≠ 0) (h : lexM u = (c, r)) : LexS u z (t, c, ()) := by
  unfold LexS
  rw [h]
  exact ⟨rfl, fun e => absurd e hc⟩

/-- Behind the end of a word. -/
theorem lex_tail (s : ByteArray) (hs : s.size ≤ 1048576) (a n : Nat) (ha : a < s.size) (h1 : 1 ≤ n) (hn : a + n ≤ s.size) (hw : WL (s.extract a s.size) n) :
    EvP (fun k => ((spec_l2Letter.f k ((bt s a), ())).bind fun y11 => (if y11.1 = true then ((spec_IsWord.f k ((s.extract a (a + n)), ())).bind fun y12 => (if y12.1 = true then (some ((2, ((s.extract a (a + n)), (0, (a : Int)))), 0, ())) else ((spec_l1Name.f k ((s.extract a (a + n)), ())).bind fun y13 => (if (!y13.1) = true then (some ((1, ((s.extract a (a + n)), (0, (a : Int)))), 3, ())) else (some ((1, ((s.extract a (a + n)), (0, (a : Int)))), 0, ())))))) else (if 0 ≤ (a : Int) then (if (a : Int) < (s.size : Int) then ((spec_l2Digit.f k ((bt s a), ())).bind fun y14 => (if y14.1 = true then ((spec_l2Number.f k ((s.extract a (a + n)), ())).bind fun y15 => (if (!y15.2.1) = true then (some ((4, ((s.extract a (a + n)), (0, (a : Int)))), 3, ())) else (some ((3, ((s.extract a (a + n)), (y15.1, (a : Int)))), 0, ())))) else (if 0 ≤ (a : Int) then (if (a : Int) < (s.size : Int) then ((spec_l2Sign.f k ((bt s a), ())).bind fun y16 => (if (!y16.1) = true then (some ((4, ((s.extract a (a + n)), (0, (a : Int)))), 4, ())) else (some ((4, ((s.extract a (a + n)), (0, (a : Int)))), 0, ())))) else none) else none))) else none) else none))) : Nat → Option (TToken.D × Int × Unit)) (LexS (s.extract a s.size) (a : Int)) := by
  have hus := ext_size s a s.size (Nat.le_refl _)
  have e0 : bt (s.extract a s.size) 0 = bt s a := by rw [bt_sub s (Nat.le_refl _) (by omega)]; rfl
  have ew : (s.extract a s.size).extract 0 n = s.extract a (a + n) := sub_sub s hn
  have hal : alnum (bt (s.extract a s.size) 0) := hw.2.1 0 (by omega)
  obtain ⟨hW, hb0⟩ := hw.word h1
  have htok := tok_word hW
  have hsz : (s.extract a (a + n)).size = n := by rw [ext_size s a (a + n) hn]; omega
  rw [hb0, e0, ew] at htok
  rw [ew] at hW hb0
  rw [e0] at hb0
  have zero : ∀ {k v : Int}, tok (s.extract a (a + n)) = some (k, v) → LexS (s.extract a s.size) (a : Int) ((k, (s.extract a (a + n), (v, (a : Int)))), 0, ()) := by
    intro k v h
    rw [← ew] at h ⊢
    exact lexS_zero (lex_some hal hw h)
  have code : ∀ {t : TToken.D}, tok (s.extract a (a + n)) = none → LexS (s.extract a s.size) (a : Int) (t, 3, ()) := by
    intro t h
    rw [← ew] at h
    exact lexS_code ne3 (lex_none hal hw h)
  rw [e0] at hal
  refine EvP.bind (l2Letter_ev _) ?_
  rintro ⟨y, _⟩ hy
  simp only at hy
  refine EvP.ite (fun h => ?_) (fun h => EvP.pos (by omega) (EvP.pos (by omega) ?_))
  · have hl := hy.1 h
    have hnd : ¬ digit (bt s a) := by
      unfold letter at hl
      unfold digit
      omega
    refine EvP.bind (specWord_ev _) ?_
    rintro ⟨y2, _⟩ hy2
    simp only at hy2
    refine EvP.ite (fun h2 => EvP.ret (zero ?_)) (fun h2 => ?_)
    · rw [htok, pickP_pos (hy2.1 h2)]
    · rw [pickP_neg (fun e => h2 (hy2.2 e)), pickP_neg hnd, hsz] at htok
      refine EvP.bind (spec_l1Name_ev _ (by omega)) ?_
      rintro ⟨y3, _⟩ hy3
      simp only at hy3
      rw [named_word hW (by rw [hb0]; exact hl), hsz] at hy3
      refine EvP.ite (fun h3 => EvP.ret (code ?_)) (fun h3 => EvP.ret (zero ?_))
      · rw [htok, pickP_neg]
        intro e
        have := hy3.2 e
        subst this; cases h3
      · rw [htok, pickP_pos]
        exact hy3.1 (by cases y3 <;> simp_all)
  · refine EvP.bind (l2Digit_ev _) ?_
    rintro ⟨y2, _⟩ hy2
    simp only at hy2
    have hd : digit (bt s a) := by
      rcases hal with e | e
      · exact absurd (hy.2 e) h
      · exact e
    have hnw : s.extract a (a + n) ∉ wordsL := fun e => words_first _ e (by rw [hb0]; exact hd)
    have hsz9 : (s.extract a (a + n)).size ≤ 1048576 := by rw [hsz]; omega
    rw [pickP_neg hnw, pickP_pos hd] at htok
    refine EvP.pos (hy2.2 hd) ?_
    refine EvP.bind (l2Number_ev _ hsz9) ?_
    rintro _ rfl
    refine EvP.ite (fun h3 => EvP.ret (code ?_)) (fun h3 => EvP.ret (zero ?_))
    · rw [htok, pickP_neg]
      intro e
      rw [e] at h3; cases h3
    · rw [htok, pickP_pos]
      cases hc : (ans (s.extract a (a + n))).2.1 with
      | true => rfl
      | false => rw [hc] at h3; exact absurd rfl h3

theorem specLex_ev (s : ByteArray) (hs : s.size ≤ 1048576) (a : Nat) (ha : a < s.size) : EvP (fun k => spec_l2One.f k (s, (a : Int), ())) (LexS (s.extract a s.size) (a : Int)) := by
  have hus := ext_size s a s.size (Nat.le_refl _)
  have sub : ∀ j, a + j < s.size → bt (s.extract a s.size) j = bt s (a + j) := fun j hj => bt_sub s (Nat.le_refl _) hj
  have e0 : bt (s.extract a s.size) 0 = bt s a := sub 0 (by omega)
  have loop : ∀ (j i : Nat) (q : Int × ByteArray × Int × Int × Unit) (r : ByteArray), a + i + j = s.size → 1 ≤ i → (∀ p < i, alnum (bt s (a + p))) → EvP (fun k => spec_l2One.l2 k (s, (a : Int), q, ((a + i : Nat) : Int), (4, (r, (0, ((a : Int), ())))), ())) (LexS (s.extract a s.size) (a : Int)) := by
    intro j
    induction j with
    | zero =>
      intro i q r hij h1 hg
      have hw : WL (s.extract a s.size) i := ⟨by omega, fun p hp => by rw [sub p (by omega)]; exact hg p hp, fun h => by omega⟩
      refine EvP.succ ?_
      simp only [spec_l2One.l2, decide_eq_true_eq, Int.toNat_natCast]
      refine EvP.neg (by omega) (EvP.pos (by omega) (EvP.pos (by omega) (EvP.pos (by omega) (EvP.pos (by omega) (EvP.pos (by omega) (EvP.pos (by omega) ?_))))))
      exact lex_tail s hs a i ha h1 (by omega) hw
    | succ j ih =>
      intro i q r hij h1 hg
      have more : alnum (bt s (a + i)) → EvP (fun k => spec_l2One.l2 k (s, (a : Int), (q.1, (q.2.1, (q.2.2.1, (q.2.2.2.1, ())))), ((a + i + 1 : Nat) : Int), (4, (r, (0, ((a : Int), ())))), ())) (LexS (s.extract a s.size) (a : Int)) := fun h => ih (i + 1) _ r (by omega) (by omega) fun p hp => by
        rcases Nat.lt_or_ge p i with h2 | h2
        · exact hg p h2
        · obtain rfl : p = i := by omega
          exact h
      refine EvP.succ ?_
      simp only [spec_l2One.l2, decide_eq_true_eq, Int.toNat_natCast, next64 (show a + i ≤ 1099511627776 by omega)]
      refine EvP.pos (by omega) (EvP.pos (by omega) (EvP.pos (by omega) ?_))
      refine EvP.bind (l2Letter_ev _) ?_
      rintro ⟨y, _⟩ hy
      refine EvP.ite (fun h => more (.inl (hy.1 h))) (fun h => EvP.pos (by omega) (EvP.pos (by omega) ?_))
      refine EvP.bind (l2Digit_ev _) ?_
      rintro ⟨y2, _⟩ hy2
      refine EvP.ite (fun h2 => more (.inr (hy2.1 h2))) (fun h2 => ?_)
      have hna : ¬ alnum (bt s (a + i)) := fun e => by
        rcases e with e | e
        · exact h (hy.2 e)
        · exact h2 (hy2.2 e)
      have hw : WL (s.extract a s.size) i := ⟨by omega, fun p hp => by rw [sub p (by omega)]; exact hg p hp, fun _ => by rw [sub i (by omega)]; exact hna⟩
      refine EvP.pos (by omega) (EvP.pos (by omega) (EvP.pos (by omega) (EvP.pos (by omega) (EvP.pos (by omega) (EvP.pos (by omega) ?_)))))
      exact lex_tail s hs a i ha h1 (by omega) hw
  simp only [spec_l2One.f, Int.toNat_natCast, next64 (show a ≤ 1099511627776 by omega)]
  have go : alnum (bt s a) → EvP (fun k => spec_l2One.l2 k (s, (a : Int), (0, (ByteArray.empty, (0, (0, ())))), ((a + 1 : Nat) : Int), (4, (ByteArray.empty, (0, ((a : Int), ())))), ())) (LexS (s.extract a s.size) (a : Int)) := fun h => loop (s.size - (a + 1)) 1 _ _ (by omega) (Nat.le_refl _) fun p hp => by
    obtain rfl : p = 0 := by omega
    exact h
  refine EvP.pos (by omega) (EvP.pos (by omega) ?_)
  refine EvP.bind (l2Letter_ev _) ?_
  rintro ⟨y, _⟩ hy
  refine EvP.ite (fun h => go (.inl (hy.1 h))) (fun h => EvP.pos (by omega) (EvP.pos (by omega) ?_))
  refine EvP.bind (l2Digit_ev _) ?_
  rintro ⟨y2, _⟩ hy2
  refine EvP.ite (fun h2 => go (.inr (hy2.1 h2))) (fun h2 => ?_)
  have hna : ¬ alnum (bt s a) := fun e => by
    rcases e with e | e
    · exact h (hy.2 e)
    · exact h2 (hy2.2 e)
  refine EvP.pos (by omega) (EvP.pos (by omega) (EvP.pos (by omega) (EvP.pos (by omega) (EvP.pos (by omega) (EvP.pos (by omega) ?_)))))
  refine EvP.bind (l2Letter_ev _) ?_
  rintro ⟨y3, _⟩ hy3
  refine EvP.neg (fun e => hna (.inl (hy3.1 e))) (EvP.pos (by omega) (EvP.pos (by omega) ?_))
  refine EvP.bind (l2Digit_ev _) ?_
  rintro ⟨y4, _⟩ hy4
  refine EvP.neg (fun e => hna (.inr (hy4.1 e))) (EvP.pos (by omega) (EvP.pos (by omega) ?_))
  refine EvP.bind (l2Sign_ev _) ?_
  rintro ⟨y5, _⟩ hy5
  simp only at hy5
  have ew : (s.extract a s.size).extract 0 1 = s.extract a (a + 1) := sub_sub s (by omega)
  refine EvP.ite (fun h3 => EvP.ret (lexS_code ne4 (lex_bad (fun e => ?_) (by rw [e0]; exact hna)))) (fun h3 => EvP.ret ?_)
  · rw [e0] at e
    have := hy5.2 e
    subst this; cases h3
  · have hsg : Sgn (bt s a) := hy5.1 (by cases y5 <;> simp_all)
    rw [← ew]
    exact lexS_zero (lex_sgn (by rw [e0]; exact hsg))

/-! ### Texts of tokens are read again -/

theorem bt_ext {x y : ByteArray} (hs : x.size = y.size) (h : ∀ j, j < x.size → bt x j = bt y j) : x = y := by
  apply ByteArray.ext
  apply Array.ext
  · exact hs
  · intro j h1 h2
    have := h j h1
    rw [bt_get h1, bt_get h2] at this
    exact UInt8.toNat_inj.1 (Int.ofNat.inj this)

theorem bt_left {x y : ByteArray} {j : Nat} (h : j < x.size) : bt (x ++ y) j = bt x j := by
  have h1 : j < x.data.size := h
  have h2 : j < (x ++ y).data.size := by
    show j < (x ++ y).size
    rw [ByteArray.size_append]; omega
  rw [bt_get h2, bt_get h1]
  simp only [ByteArray.data_append, Array.getElem_append_left h1]

theorem bt_right {x y : ByteArray} {j : Nat} (h : j < y.size) : bt (x ++ y) (x.size + j) = bt y j := by
  have h1 : j < y.data.size := h
  have h2 : x.size + j < (x ++ y).data.size := by
    show x.size + j < (x ++ y).size
    rw [ByteArray.size_append]; omega
  rw [bt_get h2, bt_get h1]
  have e : x.data.size ≤ x.size + j := Nat.le_add_right _ _
  have e2 : x.size + j - x.data.size = j := Nat.add_sub_cancel_left _ _
  simp only [ByteArray.data_append]
  rw [Array.getElem_append_right e]
  simp only [e2]

theorem two_eq {x : ByteArray} {a b : UInt8} (h : x.size = 2) : x = (⟨#[a, b]⟩ : ByteArray) ↔ bt x 0 = (a.toNat : Int) ∧ bt x 1 = (b.toNat : Int) := by
  constructor
  · rintro rfl
    exact ⟨rfl, rfl⟩
  · rintro ⟨h0, h1⟩
    refine bt_ext (by rw [h]; rfl) fun j hj => ?_
    have hc : j = 0 ∨ j = 1 := by omega
    rcases hc with rfl | rfl
    · rw [h0]; rfl
    · rw [h1]; rfl

theorem head_ev (u : ByteArray) : EvP (fun k => strings_HasPrefix.f k (u, (⟨#[40, 42]⟩ : ByteArray), ())) (fun y => y.1 = true ↔ 2 ≤ u.size ∧ bt u 0 = 40 ∧ bt u 1 = 42) := by
  simp only [strings_HasPrefix.f]
  refine EvP.bind (R := fun y => y.1 = true ↔ 2 ≤ u.size ∧ bt u 0 = 40 ∧ bt u 1 = 42) ?_ ?_
  · simp only [internal_stringslite_HasPrefix.f, decide_eq_true_eq]
    have e1 : ((⟨#[40, 42]⟩ : ByteArray).size : Int) = 2 := rfl
    simp only [e1, show (2 : Int).toNat = 2 from rfl]
    refine EvP.ite (fun h => EvP.pos (by omega) (EvP.pos (by omega) (EvP.ret ?_))) (fun h => EvP.ret ⟨fun e => (by cases e), fun e => by omega⟩)
    simp only [beq_iff_eq, toList_eq]
    rw [two_eq (ext_size u 0 2 (by omega)), bt_sub u (show 2 ≤ u.size by omega) (by omega), bt_sub u (show 2 ≤ u.size by omega) (by omega)]
    exact ⟨fun e => ⟨by omega, e.1, e.2⟩, fun e => e.2⟩
  · rintro ⟨y, _⟩ hy
    exact EvP.ret hy

/-- A token that stands alone is read whole. -/
theorem lex_whole {u w : ByteArray} {k v : Int} (ht : tok w = some (k, v)) (hs : w.size ≤ u.size) (hj : ∀ j, j < w.size → bt u j = bt w j) (hb : w.size < u.size → bt u w.size = 32) :
    lexM u = (0, w.size, k, v) ∧ u.extract 0 w.size = w ∧ 1 ≤ w.size ∧ ¬ (2 ≤ u.size ∧ bt u 0 = 40 ∧ bt u 1 = 42) ∧ bt u 0 ≠ 32 ∧ bt u 0 ≠ 10 := by
  have ex : u.extract 0 w.size = w := by
    refine bt_ext (by rw [ext_size u 0 w.size hs]; omega) fun j h => ?_
    rw [ext_size u 0 w.size hs] at h
    rw [bt_sub u hs (by omega), Nat.zero_add]
    exact hj j (by omega)
  rcases Classical.em (w.size = 1 ∧ Sgn (bt w 0)) with h | h
  · have e0 := hj 0 (by omega)
    have hsu : Sgn (bt u 0) := by rw [e0]; exact h.2
    have ekv : some ((4 : Int), (0 : Int)) = some (k, v) := by
      rw [← ht]
      unfold tok
      rw [pickP_pos h]
    injection ekv with ekv
    injection ekv with ek ev
    subst ek; subst ev
    refine ⟨by rw [lex_sgn hsu, h.1], ex, by omega, fun e => ?_, fun e => ?_, fun e => ?_⟩
    · have := hb (by omega)
      rw [h.1] at this
      omega
    · rw [e] at hsu; revert hsu; decide
    · rw [e] at hsu; revert hsu; decide
  · have hW : AllW w := Classical.byContradiction fun e => by rw [tok_no h e] at ht; cases ht
    have h1 := hW.1
    have e0 := hj 0 (by omega)
    have ha : alnum (bt u 0) := by rw [e0]; exact hW.2 0 (by omega)
    have hw : WL u w.size := ⟨hs, fun j h2 => by rw [hj j h2]; exact hW.2 j h2, fun h2 => by
      rw [hb h2]
      unfold alnum letter digit
      omega⟩
    refine ⟨lex_some ha hw (by rw [ex]; exact ht), ex, h1, fun e => ?_, fun e => ?_, fun e => ?_⟩
    · rw [e.2.1] at ha
      unfold alnum letter digit at ha
      omega
    · rw [e] at ha
      unfold alnum letter digit at ha
      omega
    · rw [e] at ha
      unfold alnum letter digit at ha
      omega

/-! where the words stand in the text -/

def start (l : List TToken.D) (i : Nat) : Nat := if i = 0 then 0 else (acc l i).size + 1

theorem acc_succ (l : List TToken.D) (i : Nat) : (acc l (i + 1)).size = start l i + (rdT TToken l i).2.1.size ∧ (∀ j, j < (rdT TToken l i).2.1.size → bt (acc l (i + 1)) (start l i + j) = bt (rdT TToken l i).2.1 j) ∧ (∀ j, j < (acc l i).size → bt (acc l (i + 1)) j = bt (acc l i) j) ∧ (0 < i → bt (acc l (i + 1)) (acc l i).size = 32) := by
  unfold start
  rcases Nat.eq_zero_or_pos i with rfl | hi
  · have e : acc l 1 = ByteArray.empty ++ (rdT TToken l 0).2.1 := rfl
    have es : (ByteArray.empty).size = 0 := rfl
    rw [if_pos rfl, e]
    refine ⟨by rw [ByteArray.size_append, es], fun j hj => ?_, fun j hj => absurd hj (Nat.not_lt_zero _), fun h => absurd h (Nat.lt_irrefl _)⟩
    have := bt_right (x := ByteArray.empty) hj
    exact this
  · have e : acc l (i + 1) = (acc l i ++ (⟨#[32]⟩ : ByteArray)) ++ (rdT TToken l i).2.1 := by
      show (if 0 < i then _ else _) = _
      rw [if_pos hi]
    have es : (acc l i ++ (⟨#[32]⟩ : ByteArray)).size = (acc l i).size + 1 := by rw [ByteArray.size_append]; rfl
    rw [if_neg (by omega), e]
    refine ⟨by rw [ByteArray.size_append, es], fun j hj => ?_, fun j hj => ?_, fun _ => ?_⟩
    · rw [← es]; exact bt_right hj
    · rw [bt_left (by omega), bt_left hj]
    · rw [bt_left (by omega)]
      exact bt_right (x := acc l i) (y := (⟨#[32]⟩ : ByteArray)) (j := 0) (by decide)

theorem acc_pre (l : List TToken.D) (i : Nat) : ∀ n, (acc l i).size ≤ (acc l (i + n)).size ∧ ∀ j, j < (acc l i).size → bt (acc l (i + n)) j = bt (acc l i) j
  | 0 => ⟨Nat.le_refl _, fun j _ => rfl⟩
  | n + 1 => by
    obtain ⟨h1, h2⟩ := acc_pre l i n
    obtain ⟨a1, _, a3, _⟩ := acc_succ l (i + n)
    have hst : (acc l (i + n)).size ≤ start l (i + n) := by
      unfold start
      split
      · rename_i h
        have : i + n = 0 := h
        rw [this]; exact Nat.le_refl 0
      · omega
    refine ⟨by rw [show i + (n + 1) = i + n + 1 by omega]; omega, fun j hj => ?_⟩
    rw [show i + (n + 1) = i + n + 1 by omega, a3 j (by omega), h2 j hj]

/-- The rest of the text from a word on. -/
theorem word_at (l : List TToken.D) {i N : Nat} (hi : i < N) (hN : N ≤ l.length) : start l i + (rdT TToken l i).2.1.size ≤ (acc l N).size ∧ (∀ j, j < (rdT TToken l i).2.1.size → bt (acc l N) (start l i + j) = bt (rdT TToken l i).2.1 j) ∧
    ((i + 1 = N ∧ start l i + (rdT TToken l i).2.1.size = (acc l N).size) ∨ (i + 1 < N ∧ start l i + (rdT TToken l i).2.1.size + 1 = start l (i + 1) ∧ bt (acc l N) (start l i + (rdT TToken l i).2.1.size) = 32 ∧ start l (i + 1) ≤ (acc l N).size)) := by
  obtain ⟨a1, a2, _, _⟩ := acc_succ l i
  obtain ⟨p1, p2⟩ := acc_pre l (i + 1) (N - (i + 1))
  rw [show i + 1 + (N - (i + 1)) = N by omega] at p1 p2
  refine ⟨by omega, fun j hj => by rw [p2 _ (by omega), a2 j hj], ?_⟩
  rcases Nat.lt_or_ge (i + 1) N with h | h
  · obtain ⟨b1, _, _, b4⟩ := acc_succ l (i + 1)
    obtain ⟨q1, q2⟩ := acc_pre l (i + 1 + 1) (N - (i + 1 + 1))
    rw [show i + 1 + 1 + (N - (i + 1 + 1)) = N by omega] at q1 q2
    have hst : start l (i + 1) = (acc l (i + 1)).size + 1 := by unfold start; rw [if_neg (by omega)]
    refine .inr ⟨h, by rw [hst, a1], ?_, by omega⟩
    rw [← a1, q2 _ (by omega)]
    exact b4 (by omega)
  · obtain rfl : i + 1 = N := by omega
    exact .inl ⟨rfl, a1.symm⟩

def SameW (l out : List TToken.D) (n : Nat) : Prop := out.length = n ∧ ∀ i, i < n → (rdT TToken out i).1 = (rdT TToken l i).1 ∧ (rdT TToken out i).2.1 = (rdT TToken l i).2.1 ∧ (rdT TToken out i).2.2.1 = (rdT TToken l i).2.2.1

theorem SameW.add {l out : List TToken.D} {n : Nat} (h : SameW l out n) {t : TToken.D} (h1 : t.1 = (rdT TToken l n).1) (h2 : t.2.1 = (rdT TToken l n).2.1) (h3 : t.2.2.1 = (rdT TToken l n).2.2.1) : SameW l (out ++ [t]) (n + 1) := by
  refine ⟨by rw [List.length_append, h.1]; rfl, fun i hi => ?_⟩
  rcases Nat.lt_or_ge i n with h4 | h4
  · have e : rdT TToken (out ++ [t]) i = rdT TToken out i := by
      simp only [rdT, List.getD, List.getElem?_append_left (show i < out.length by rw [h.1]; exact h4)]
    rw [e]; exact h.2 i h4
  · obtain rfl : i = n := by omega
    have e : rdT TToken (out ++ [t]) i = t := by
      simp [rdT, List.getD, ← h.1]
    rw [e]; exact ⟨h1, h2, h3⟩

theorem read_back (l : List TToken.D) (hg : GoodL l) (hs : (acc l l.length).size ≤ 1200) : EvP (fun k => impl_readTokens.f k (acc l l.length, ())) (fun y => y.2.1 = 0 ∧ SameW l y.1 l.length) := by
  have hbig := big_eq
  have h300 := hg.1
  simp only [impl_readTokens.f, decide_eq_true_eq]
  refine EvP.neg (by omega) ?_
  have fin : ∀ out, SameW l out l.length → ∀ p : Nat, p = (acc l l.length).size → EvP (fun k => impl_readTokens.l2 k (acc l l.length, out, (p : Int), ())) (fun y => y.2.1 = 0 ∧ SameW l y.1 l.length) := by
    intro out ho p hp
    refine EvP.succ ?_
    simp only [impl_readTokens.l2, decide_eq_true_eq]
    refine EvP.neg (by omega) (EvP.neg (by rw [ho.1]; omega) (EvP.ret ⟨rfl, ho⟩))
  have loop : ∀ (j i : Nat) (out : List TToken.D), i + j = l.length → i < l.length → SameW l out i → EvP (fun k => impl_readTokens.l2 k (acc l l.length, out, (start l i : Int), ())) (fun y => y.2.1 = 0 ∧ SameW l y.1 l.length) := by
    intro j
    induction j with
    | zero => intro i out hij hi; omega
    | succ j ih =>
      intro i out hij hi ho
      obtain ⟨w1, w2, w3⟩ := word_at l hi (Nat.le_refl _)
      have hgi := hg.2 i hi
      generalize hS : acc l l.length = S at *
      generalize hp : start l i = p at *
      have hus := ext_size S p S.size (Nat.le_refl _)
      have sub : ∀ q, p + q < S.size → bt (S.extract p S.size) q = bt S (p + q) := fun q hq => bt_sub S (Nat.le_refl _) hq
      obtain ⟨e1, e2, e3, e4, e5, e6⟩ := lex_whole (u := S.extract p S.size) (w := (rdT TToken l i).2.1) hgi (by omega) (fun q hq => by rw [sub q (by omega)]; exact w2 q hq) (fun h => by
        rw [sub _ (by omega)]
        rcases w3 with w3 | w3
        · omega
        · exact w3.2.2.1)
      have e0 : bt (S.extract p S.size) 0 = bt S p := sub 0 (by omega)
      rw [e0] at e5 e6
      refine EvP.succ ?_
      simp only [impl_readTokens.l2, decide_eq_true_eq, Int.toNat_natCast, next64 (show p ≤ 1099511627776 by omega), beq_iff_eq, bne_iff_ne]
      refine EvP.pos (by omega) (EvP.pos (by omega) (EvP.pos (by omega) (EvP.neg e5 (EvP.pos (by omega) (EvP.pos (by omega) (EvP.neg e6 (EvP.pos (by omega) (EvP.pos (by omega) ?_))))))))
      refine EvP.bind (head_ev _) ?_
      rintro ⟨y, _⟩ hy
      refine EvP.neg (fun h => e4 (hy.1 h)) (EvP.pos (by omega) (EvP.pos (by omega) ?_))
      refine EvP.bind (implLex_ev _ (by omega) (by omega)) ?_
      rintro ⟨t, n', c, _⟩ ⟨hc, hrest⟩
      simp only at hc hrest
      rw [e1] at hc hrest
      obtain ⟨r1, r2, r3, r4⟩ := hrest rfl
      simp only at hc r1 r2 r3 r4
      subst hc
      rw [e2] at r3
      refine EvP.neg (by simp) (EvP.pos (by rw [ho.1]; omega) ?_)
      have hadd : w64 ((p : Int) + n') = ((p + (rdT TToken l i).2.1.size : Nat) : Int) := by
        rw [show (n' : Int) = _ from r1, w64_id (by omega) (by omega)]; omega
      simp only [hadd]
      have ho' := ho.add (t := (t.1, (t.2.1, (t.2.2.1, (p : Int))))) r2 r3 r4
      rcases w3 with ⟨w3, w4⟩ | ⟨w3, w4, w5, w6⟩
      · rw [w3] at ho'
        exact fin _ ho' _ w4
      · have key := ih (i + 1) _ (by omega) w3 ho'
        refine EvP.succ ?_
        simp only [impl_readTokens.l2, decide_eq_true_eq, Int.toNat_natCast, next64 (show p + (rdT TToken l i).2.1.size ≤ 1099511627776 by omega), beq_iff_eq]
        refine EvP.pos (by omega) (EvP.pos (by omega) (EvP.pos (by omega) (EvP.pos w5 ?_)))
        rw [w4]
        exact key
  rcases Nat.eq_zero_or_pos l.length with h0 | h0
  · have := fin [] ⟨by rw [h0]; rfl, fun i hi => by omega⟩ 0 (by rw [h0]; rfl)
    exact this
  · exact loop l.length 0 [] (Nat.zero_add _) h0 ⟨rfl, fun i hi => absurd hi (Nat.not_lt_zero _)⟩

/-! ### Both readers read the same -/

theorem sub_two (s : ByteArray) {a i : Nat} (h : a + i + 2 ≤ s.size) : (s.extract a s.size).extract i (i + 2) = s.extract (a + i) (a + i + 2) := by
  apply ByteArray.ext
  simp only [ByteArray.data_extract, Array.extract_extract]
  congr 1
  show min (a + (i + 2)) s.size = a + i + 2
  omega

/-- A remark that has begun. -/
theorem remark_go (s : ByteArray) (hs : s.size ≤ 1048576) (a : Nat) (ha : a ≤ s.size) : ∀ (j i d : Nat), a + i + j = s.size → 1 ≤ d → d ≤ i + 1 →
    ∃ r : Nat, (r = 0 ∨ (1 ≤ r ∧ a + r ≤ s.size)) ∧ EvP (fun k => impl_remark.l1 k (s.extract a s.size, (d : Int), (i : Int), ())) (· = ((r : Int), ())) ∧
      EvP (fun k => spec_l2Remark.l1 k (s, ((a + i : Nat) : Int), (d : Int), ())) (· = ((if r = 0 then (-1 : Int) else ((a + r : Nat) : Int)), ())) := by
  have hus := ext_size s a s.size (Nat.le_refl _)
  intro j
  induction j using Nat.strongRecOn with
  | _ j ih =>
  intro i d hij hd1 hd2
  have w2 : w64 ((i : Int) + 2) = ((i + 2 : Nat) : Int) := by rw [w64_id (by omega) (by omega)]; omega
  have w3 : w64 (((a + i : Nat) : Int) + 2) = ((a + i + 2 : Nat) : Int) := by rw [w64_id (by omega) (by omega)]; omega
  have w4 : w64 ((d : Int) - 1) = ((d - 1 : Nat) : Int) := by rw [w64_id (by omega) (by omega)]; omega
  rcases Nat.lt_or_ge (i + 1) (s.size - a) with hlt | hge
  · have e2 := sub_two s (a := a) (i := i) (by omega)
    rcases Classical.em (s.extract (a + i) (a + i + 2) = (⟨#[40, 42]⟩ : ByteArray)) with h1 | h1
    · obtain ⟨r, hr, ei, es⟩ := ih (j - 2) (by omega) (i + 2) (d + 1) (by omega) (by omega) (by omega)
      refine ⟨r, hr, EvP.succ ?_, EvP.succ ?_⟩
      · simp only [impl_remark.l1, decide_eq_true_eq, next64 (show i ≤ 1099511627776 by omega), next64 (show i + 1 ≤ 1099511627776 by omega), next64 (show d ≤ 1099511627776 by omega), w2, Int.toNat_natCast, e2, beq_iff_eq, toList_eq]
        exact EvP.pos (by omega) (EvP.pos (by omega) (EvP.pos (by omega) (EvP.pos (by omega) (EvP.pos (by omega) (EvP.pos h1 (EvP.neg (by omega) ei))))))
      · simp only [spec_l2Remark.l1, decide_eq_true_eq, next64 (show a + i ≤ 1099511627776 by omega), next64 (show d ≤ 1099511627776 by omega), w3, Int.toNat_natCast, beq_iff_eq, toList_eq]
        exact EvP.pos (by omega) (EvP.pos (by omega) (EvP.pos (by omega) (EvP.pos (by omega) (EvP.pos (by omega) (EvP.pos h1 es)))))
    · rcases Classical.em (s.extract (a + i) (a + i + 2) = (⟨#[42, 41]⟩ : ByteArray)) with h2 | h2
      · rcases Nat.lt_or_ge 1 d with hd | hd
        · obtain ⟨r, hr, ei, es⟩ := ih (j - 2) (by omega) (i + 2) (d - 1) (by omega) (by omega) (by omega)
          refine ⟨r, hr, EvP.succ ?_, EvP.succ ?_⟩
          · simp only [impl_remark.l1, decide_eq_true_eq, next64 (show i ≤ 1099511627776 by omega), next64 (show i + 1 ≤ 1099511627776 by omega), w4, w2, Int.toNat_natCast, e2, beq_iff_eq, toList_eq]
            exact EvP.pos (by omega) (EvP.pos (by omega) (EvP.pos (by omega) (EvP.pos (by omega) (EvP.pos (by omega) (EvP.neg h1 (EvP.pos h2 (EvP.neg (by omega) ei)))))))
          · simp only [spec_l2Remark.l1, decide_eq_true_eq, next64 (show a + i ≤ 1099511627776 by omega), w4, w3, Int.toNat_natCast, beq_iff_eq, toList_eq]
            exact EvP.pos (by omega) (EvP.pos (by omega) (EvP.pos (by omega) (EvP.pos (by omega) (EvP.pos (by omega) (EvP.neg h1 (EvP.pos h2 (EvP.neg (by omega) es)))))))
        · obtain rfl : d = 1 := by omega
          refine ⟨i + 2, .inr ⟨by omega, by omega⟩, EvP.succ ?_, EvP.succ ?_⟩
          · simp only [impl_remark.l1, decide_eq_true_eq, next64 (show i ≤ 1099511627776 by omega), next64 (show i + 1 ≤ 1099511627776 by omega), w4, w2, Int.toNat_natCast, e2, beq_iff_eq, toList_eq]
            exact EvP.pos (by omega) (EvP.pos (by omega) (EvP.pos (by omega) (EvP.pos (by omega) (EvP.pos (by omega) (EvP.neg h1 (EvP.pos h2 (EvP.pos (by omega) (EvP.ret rfl))))))))
          · simp only [spec_l2Remark.l1, decide_eq_true_eq, next64 (show a + i ≤ 1099511627776 by omega), w4, w3, Int.toNat_natCast, beq_iff_eq, toList_eq]
            exact EvP.pos (by omega) (EvP.pos (by omega) (EvP.pos (by omega) (EvP.pos (by omega) (EvP.pos (by omega) (EvP.neg h1 (EvP.pos h2 (EvP.pos (by omega) (EvP.ret (by rw [if_neg (by omega)]; rfl)))))))))
      · obtain ⟨r, hr, ei, es⟩ := ih (j - 1) (by omega) (i + 1) d (by omega) hd1 (by omega)
        refine ⟨r, hr, EvP.succ ?_, EvP.succ ?_⟩
        · simp only [impl_remark.l1, decide_eq_true_eq, next64 (show i ≤ 1099511627776 by omega), next64 (show i + 1 ≤ 1099511627776 by omega), w2, Int.toNat_natCast, e2, beq_iff_eq, toList_eq]
          exact EvP.pos (by omega) (EvP.pos (by omega) (EvP.pos (by omega) (EvP.pos (by omega) (EvP.pos (by omega) (EvP.neg h1 (EvP.neg h2 (EvP.neg (by omega) ei)))))))
        · simp only [spec_l2Remark.l1, decide_eq_true_eq, next64 (show a + i ≤ 1099511627776 by omega), w3, Int.toNat_natCast, beq_iff_eq, toList_eq]
          exact EvP.pos (by omega) (EvP.pos (by omega) (EvP.pos (by omega) (EvP.pos (by omega) (EvP.pos (by omega) (EvP.neg h1 (EvP.neg h2 es))))))
  · refine ⟨0, .inl rfl, EvP.succ ?_, EvP.succ ?_⟩
    · simp only [impl_remark.l1, decide_eq_true_eq, next64 (show i ≤ 1099511627776 by omega)]
      exact EvP.neg (by omega) (EvP.ret rfl)
    · simp only [spec_l2Remark.l1, decide_eq_true_eq, next64 (show a + i ≤ 1099511627776 by omega)]
      exact EvP.neg (by omega) (EvP.ret rfl)

theorem remark_both (s : ByteArray) (hs : s.size ≤ 1048576) (a : Nat) (h2 : a + 2 ≤ s.size) (h : s.extract a (a + 2) = (⟨#[40, 42]⟩ : ByteArray)) :
    ∃ r : Nat, (r = 0 ∨ (1 ≤ r ∧ a + r ≤ s.size)) ∧ EvP (fun k => impl_remark.f k (s.extract a s.size, ())) (· = ((r : Int), ())) ∧
      EvP (fun k => spec_l2Remark.f k (s, (a : Int), ())) (· = ((if r = 0 then (-1 : Int) else ((a + r : Nat) : Int)), ())) := by
  have hus := ext_size s a s.size (Nat.le_refl _)
  obtain ⟨r, hr, ei, es⟩ := remark_go s hs a (by omega) (s.size - a - 2) 2 1 (by omega) (by omega) (by omega)
  have e2 : (s.extract a s.size).extract 0 2 = s.extract a (a + 2) := sub_two s (a := a) (i := 0) (by omega)
  have w0 : w64 ((0 : Int) + 1) = 1 := rfl
  have w1 : w64 ((0 : Int) + 2) = 2 := rfl
  have w2 : w64 ((1 : Int) + 1) = 2 := rfl
  have w3 : w64 ((a : Int) + 2) = ((a + 2 : Nat) : Int) := by rw [w64_id (by omega) (by omega)]; omega
  refine ⟨r, hr, ?_, ?_⟩
  · simp only [impl_remark.f]
    refine EvP.succ ?_
    simp only [impl_remark.l1, decide_eq_true_eq, w0, w1, w2, show (0 : Int).toNat = 0 from rfl, show (2 : Int).toNat = 2 from rfl, e2, beq_iff_eq, toList_eq]
    exact EvP.pos (by omega) (EvP.pos (by omega) (EvP.pos (by omega) (EvP.pos (by omega) (EvP.pos (by omega) (EvP.pos h (EvP.neg (by decide) ei))))))
  · simp only [spec_l2Remark.f]
    refine EvP.succ ?_
    simp only [spec_l2Remark.l1, decide_eq_true_eq, next64 (show a ≤ 1099511627776 by omega), w0, w3, Int.toNat_natCast, beq_iff_eq, toList_eq]
    exact EvP.pos (by omega) (EvP.pos (by omega) (EvP.pos (by omega) (EvP.pos (by omega) (EvP.pos (by omega) (EvP.pos h es)))))

/-- A token at its place. -/
structure TokAt (s : ByteArray) (t : TToken.D) : Prop where
  lo : (0 : Int) ≤ t.2.2.2
  hi : (t.2.2.2 : Int) + (t.2.1.size : Int) ≤ (s.size : Int)
  txt : s.extract (t.2.2.2 : Int).toNat ((t.2.2.2 : Int).toNat + t.2.1.size) = t.2.1
  good : GoodT t

theorem lex_code {u : ByteArray} : (lexM u).1 = 0 ∨ (lexM u).1 = 3 ∨ (lexM u).1 = 4 := by
  unfold lexM
  rcases Classical.em (Sgn (bt u 0)) with h | h
  · rw [pickP_pos h]; exact .inl rfl
  rw [pickP_neg h]
  rcases Classical.em (alnum (bt u 0)) with h2 | h2
  · rw [pickP_pos h2]
    split
    · exact .inl rfl
    · exact .inr (.inl rfl)
  · rw [pickP_neg h2]; exact .inr (.inr rfl)

def Both (s : ByteArray) (r : List TToken.D) (c p : Int) : Prop := c = 0 → r.length ≤ 300 ∧ ∀ t ∈ r, TokAt s t

theorem read_both (s : ByteArray) (hs : s.size ≤ 1200) : ∀ (j a : Nat) (out : List TToken.D), a + j = s.size → out.length ≤ a → (∀ t ∈ out, TokAt s t) →
    ∃ (r : List TToken.D) (c p : Int), Both s r c p ∧ r.length ≤ 1200 ∧ (∀ t ∈ r, TokAt s t) ∧ EvP (fun k => impl_readTokens.l2 k (s, out, (a : Int), ())) (· = (r, c, p, ())) ∧ EvP (fun k => spec_ReadTokens.l2 k (s, out, (a : Int), ())) (· = (r, c, p, (decide (c = 0)), ())) := by
  have hbig := big_eq
  intro j
  induction j using Nat.strongRecOn with
  | _ j ih =>
  intro a out haj hl hall
  rcases Nat.lt_or_ge a s.size with ha | ha
  case inr =>
    rcases Nat.lt_or_ge 300 out.length with hbigl | hsm
    · refine ⟨[], 5, 0, fun e => absurd e (by decide), by simp, fun t ht => (nomatch ht), EvP.succ ?_, EvP.succ ?_⟩
      · simp only [impl_readTokens.l2, decide_eq_true_eq]
        exact EvP.neg (by omega) (EvP.pos (by omega) (EvP.ret rfl))
      · simp only [spec_ReadTokens.l2, decide_eq_true_eq]
        exact EvP.neg (by omega) (EvP.pos (by omega) (EvP.ret rfl))
    · refine ⟨out, 0, 0, fun _ => ⟨hsm, hall⟩, by omega, hall, EvP.succ ?_, EvP.succ ?_⟩
      · simp only [impl_readTokens.l2, decide_eq_true_eq]
        exact EvP.neg (by omega) (EvP.neg (by omega) (EvP.ret rfl))
      · simp only [spec_ReadTokens.l2, decide_eq_true_eq]
        exact EvP.neg (by omega) (EvP.neg (by omega) (EvP.ret rfl))
  have hus := ext_size s a s.size (Nat.le_refl _)
  rcases Classical.em (bt s a = 32) with hb | hb
  · obtain ⟨r, c, p, h1, h2, h3, ei, es⟩ := ih (j - 1) (by omega) (a + 1) out (by omega) (by omega) hall
    refine ⟨r, c, p, h1, h2, h3, EvP.succ ?_, EvP.succ ?_⟩
    · simp only [impl_readTokens.l2, decide_eq_true_eq, Int.toNat_natCast, next64 (show a ≤ 1099511627776 by omega), beq_iff_eq]
      exact EvP.pos (by omega) (EvP.pos (by omega) (EvP.pos (by omega) (EvP.pos hb ei)))
    · simp only [spec_ReadTokens.l2, decide_eq_true_eq, Int.toNat_natCast, next64 (show a ≤ 1099511627776 by omega), beq_iff_eq]
      exact EvP.pos (by omega) (EvP.pos (by omega) (EvP.pos (by omega) (EvP.pos hb es)))
  rcases Classical.em (bt s a = 10) with hn | hn
  · obtain ⟨r, c, p, h1, h2, h3, ei, es⟩ := ih (j - 1) (by omega) (a + 1) out (by omega) (by omega) hall
    refine ⟨r, c, p, h1, h2, h3, EvP.succ ?_, EvP.succ ?_⟩
    · simp only [impl_readTokens.l2, decide_eq_true_eq, Int.toNat_natCast, next64 (show a ≤ 1099511627776 by omega), beq_iff_eq]
      exact EvP.pos (by omega) (EvP.pos (by omega) (EvP.pos (by omega) (EvP.neg hb (EvP.pos (by omega) (EvP.pos (by omega) (EvP.pos hn ei))))))
    · simp only [spec_ReadTokens.l2, decide_eq_true_eq, Int.toNat_natCast, next64 (show a ≤ 1099511627776 by omega), beq_iff_eq]
      exact EvP.pos (by omega) (EvP.pos (by omega) (EvP.pos (by omega) (EvP.neg hb (EvP.pos (by omega) (EvP.pos (by omega) (EvP.pos hn es))))))
  have sub : ∀ q, a + q < s.size → bt (s.extract a s.size) q = bt s (a + q) := fun q hq => bt_sub s (Nat.le_refl _) hq
  have w2 : w64 ((a : Int) + 2) = ((a + 2 : Nat) : Int) := by rw [w64_id (by omega) (by omega)]; omega
  rcases Classical.em (a + 2 ≤ s.size ∧ s.extract a (a + 2) = (⟨#[40, 42]⟩ : ByteArray)) with hr | hr
  · -- a remark
    obtain ⟨h2, h3⟩ := hr
    have hd : 2 ≤ (s.extract a s.size).size ∧ bt (s.extract a s.size) 0 = 40 ∧ bt (s.extract a s.size) 1 = 42 := by
      have e := (two_eq (ext_size s a (a + 2) h2 |>.trans (by omega))).1 h3
      rw [bt_sub s h2 (by omega), bt_sub s h2 (by omega)] at e
      exact ⟨by omega, by rw [sub 0 (by omega)]; exact e.1, by rw [sub 1 (by omega)]; exact e.2⟩
    obtain ⟨n, hn1, ei, es⟩ := remark_both s (by omega) a h2 h3
    rcases hn1 with rfl | ⟨hn1, hn2⟩
    · refine ⟨[], 2, (a : Int), fun e => absurd e (by decide), by simp, fun t ht => (nomatch ht), EvP.succ ?_, EvP.succ ?_⟩
      · simp only [impl_readTokens.l2, decide_eq_true_eq, Int.toNat_natCast, beq_iff_eq]
        refine EvP.pos (by omega) (EvP.pos (by omega) (EvP.pos (by omega) (EvP.neg hb (EvP.pos (by omega) (EvP.pos (by omega) (EvP.neg hn (EvP.pos (by omega) (EvP.pos (by omega) (EvP.bind (head_ev _) ?_)))))))))
        rintro ⟨y, _⟩ hy
        refine EvP.pos (hy.2 hd) (EvP.pos (by omega) (EvP.pos (by omega) (EvP.bind ei ?_)))
        rintro _ rfl
        exact EvP.pos rfl (EvP.ret rfl)
      · simp only [spec_ReadTokens.l2, decide_eq_true_eq, Int.toNat_natCast, next64 (show a ≤ 1099511627776 by omega), w2, beq_iff_eq, toList_eq]
        refine EvP.pos (by omega) (EvP.pos (by omega) (EvP.pos (by omega) (EvP.neg hb (EvP.pos (by omega) (EvP.pos (by omega) (EvP.neg hn (EvP.pos (by omega) (EvP.pos (by omega) (EvP.pos (by omega) (EvP.pos (by omega) (EvP.pos (by omega) (EvP.pos h3 (EvP.bind es ?_)))))))))))))
        rintro _ rfl
        exact EvP.pos (by simp) (EvP.ret rfl)
    · obtain ⟨r, c, p, h4, h5, h6, fi, fs⟩ := ih (j - n) (by omega) (a + n) out (by omega) (by omega) hall
      have wn : w64 ((a : Int) + (n : Int)) = ((a + n : Nat) : Int) := by rw [w64_id (by omega) (by omega)]; omega
      refine ⟨r, c, p, h4, h5, h6, EvP.succ ?_, EvP.succ ?_⟩
      · simp only [impl_readTokens.l2, decide_eq_true_eq, Int.toNat_natCast, beq_iff_eq]
        refine EvP.pos (by omega) (EvP.pos (by omega) (EvP.pos (by omega) (EvP.neg hb (EvP.pos (by omega) (EvP.pos (by omega) (EvP.neg hn (EvP.pos (by omega) (EvP.pos (by omega) (EvP.bind (head_ev _) ?_)))))))))
        rintro ⟨y, _⟩ hy
        refine EvP.pos (hy.2 hd) (EvP.pos (by omega) (EvP.pos (by omega) (EvP.bind ei ?_)))
        rintro _ rfl
        refine EvP.neg (by show ¬ (n : Int) = 0; omega) ?_
        simp only [wn]
        exact fi
      · simp only [spec_ReadTokens.l2, decide_eq_true_eq, Int.toNat_natCast, next64 (show a ≤ 1099511627776 by omega), w2, beq_iff_eq, toList_eq]
        refine EvP.pos (by omega) (EvP.pos (by omega) (EvP.pos (by omega) (EvP.neg hb (EvP.pos (by omega) (EvP.pos (by omega) (EvP.neg hn (EvP.pos (by omega) (EvP.pos (by omega) (EvP.pos (by omega) (EvP.pos (by omega) (EvP.pos (by omega) (EvP.pos h3 (EvP.bind es ?_)))))))))))))
        rintro _ rfl
        rw [if_neg (by omega)]
        exact EvP.neg (by simp only; omega) fs
  -- a token
  have hnd : ¬ (2 ≤ (s.extract a s.size).size ∧ bt (s.extract a s.size) 0 = 40 ∧ bt (s.extract a s.size) 1 = 42) := fun e => hr ⟨by omega, by
    have h2 : a + 2 ≤ s.size := by omega
    rw [two_eq (ext_size s a (a + 2) h2 |>.trans (by omega)), bt_sub s h2 (by omega), bt_sub s h2 (by omega)]
    rw [sub 0 (by omega), sub 1 (by omega)] at e
    exact ⟨e.2.1, e.2.2⟩⟩
  have hu1 : 1 ≤ (s.extract a s.size).size := by omega
  have implStep : ∀ Q : List TToken.D × Int × Int × Unit → Prop, (∀ y, LexI (s.extract a s.size) y → EvP (fun k => (if (y.2.2.1 != (0 : Int)) = true then (some ([], y.2.2.1, (a : Int), ()) : Option (List TToken.D × Int × Int × Unit)) else (if out.length + 1 ≤ big then (impl_readTokens.l2 k (s, (out ++ [(y.1.1, (y.1.2.1, (y.1.2.2.1, (a : Int))))]), (w64 ((a : Int) + y.2.1)), ())) else none))) Q) → EvP (fun k => impl_readTokens.l2 k (s, out, (a : Int), ())) Q := by
    intro Q hgo
    refine EvP.succ ?_
    simp only [impl_readTokens.l2, decide_eq_true_eq, Int.toNat_natCast, beq_iff_eq]
    refine EvP.pos (by omega) (EvP.pos (by omega) (EvP.pos (by omega) (EvP.neg hb (EvP.pos (by omega) (EvP.pos (by omega) (EvP.neg hn (EvP.pos (by omega) (EvP.pos (by omega) (EvP.bind (head_ev _) ?_)))))))))
    rintro ⟨y, _⟩ hy
    exact EvP.neg (fun h => hnd (hy.1 h)) (EvP.pos (by omega) (EvP.pos (by omega) (EvP.bind (implLex_ev _ (by omega) hu1) hgo)))
  have specStep : ∀ Q : List TToken.D × Int × Int × Bool × Unit → Prop, (∀ y, LexS (s.extract a s.size) (a : Int) y → EvP (fun k => (if (decide (y.2.1 > (0 : Int))) = true then (some ([], y.2.1, (a : Int), false, ()) : Option (List TToken.D × Int × Int × Bool × Unit)) else (if out.length + 1 ≤ big then (spec_ReadTokens.l2 k (s, (out ++ [y.1]), (w64 ((a : Int) + (y.1.2.1.size : Int))), ())) else none))) Q) → EvP (fun k => spec_ReadTokens.l2 k (s, out, (a : Int), ())) Q := by
    intro Q hgo
    refine EvP.succ ?_
    simp only [spec_ReadTokens.l2, Int.toNat_natCast, next64 (show a ≤ 1099511627776 by omega), w2, beq_iff_eq, toList_eq]
    refine EvP.pos (decide_eq_true (by omega)) (EvP.pos (by omega) (EvP.pos (by omega) (EvP.neg hb (EvP.pos (by omega) (EvP.pos (by omega) (EvP.neg hn (EvP.ite (fun h2 => ?_) (fun h2 => EvP.bind (specLex_ev s (by omega) a ha) hgo))))))))
    have h2' : ((a + 1 : Nat) : Int) < (s.size : Int) := of_decide_eq_true h2
    exact EvP.pos (by omega) (EvP.pos (by omega) (EvP.pos (by omega) (EvP.pos (by omega) (EvP.neg (fun e => hr ⟨by omega, e⟩) (EvP.bind (specLex_ev s (by omega) a ha) hgo)))))
  rcases Classical.em ((lexM (s.extract a s.size)).1 = 0) with h0 | h0
  · obtain ⟨g1, g2, g3⟩ := lex_good hu1 h0
    have hlen : (s.extract a (a + (lexM (s.extract a s.size)).2.1)).size = (lexM (s.extract a s.size)).2.1 := by rw [ext_size s a _ (by omega)]; omega
    have ew := sub_sub s (a := a) (n := (lexM (s.extract a s.size)).2.1) (by omega)
    rw [ew] at g3
    have htok : TokAt s ((lexM (s.extract a s.size)).2.2.1, (s.extract a (a + (lexM (s.extract a s.size)).2.1), ((lexM (s.extract a s.size)).2.2.2, (a : Int)))) :=
      ⟨by show (0 : Int) ≤ (a : Int); omega, by show (a : Int) + ((s.extract a (a + (lexM (s.extract a s.size)).2.1)).size : Int) ≤ _; rw [hlen]; omega, by show s.extract (a : Int).toNat ((a : Int).toNat + (s.extract a (a + (lexM (s.extract a s.size)).2.1)).size) = _; rw [hlen, Int.toNat_natCast], g3⟩
    obtain ⟨r, c, p, h4, h5, h6, fi, fs⟩ := ih (j - (lexM (s.extract a s.size)).2.1) (by omega) (a + (lexM (s.extract a s.size)).2.1) (out ++ [_]) (by omega) (by rw [List.length_append]; simp; omega) (fun t ht => by
      rcases List.mem_append.1 ht with ht | ht
      · exact hall t ht
      · rw [List.mem_singleton.1 ht]; exact htok)
    have wn : w64 ((a : Int) + ((lexM (s.extract a s.size)).2.1 : Int)) = ((a + (lexM (s.extract a s.size)).2.1 : Nat) : Int) := by rw [w64_id (by omega) (by omega)]; omega
    refine ⟨r, c, p, h4, h5, h6, implStep _ ?_, specStep _ ?_⟩
    · rintro ⟨t, m, d, _⟩ ⟨hc, hrest⟩
      obtain ⟨r1, r2, r3, r4⟩ := hrest h0
      simp only at hc r1 r2 r3 r4
      rw [ew] at r3
      have ed : (d : Int) = 0 := hc.trans h0
      subst ed
      refine EvP.neg (by simp) (EvP.pos (by omega) ?_)
      have em : (m : Int) = ((lexM (s.extract a s.size)).2.1 : Int) := r1
      subst em
      simp only [wn]
      rw [show (t.1 : Int) = _ from r2, r3, show (t.2.2.1 : Int) = _ from r4]
      exact fi
    · rintro ⟨t, d, _⟩ ⟨hc, hrest⟩
      have e := hrest h0
      simp only at hc e
      have ed : (d : Int) = 0 := hc.trans h0
      subst ed
      subst e
      refine EvP.neg (by simp) (EvP.pos (by omega) ?_)
      simp only [ew, hlen, wn]
      exact fs
  · have hc34 := lex_code.resolve_left h0
    refine ⟨[], (lexM (s.extract a s.size)).1, (a : Int), fun e => absurd e h0, by simp, fun t ht => (nomatch ht), implStep _ ?_, specStep _ ?_⟩
    · rintro ⟨t, m, d, _⟩ ⟨hc, _⟩
      simp only at hc
      have ed : (d : Int) = (lexM (s.extract a s.size)).1 := hc
      subst ed
      exact EvP.pos (by simpa using h0) (EvP.ret rfl)
    · rintro ⟨t, d, _⟩ ⟨hc, _⟩
      simp only at hc
      have ed : (d : Int) = (lexM (s.extract a s.size)).1 := hc
      subst ed
      refine EvP.pos (decide_eq_true (by have hq : (0 : Int) < (lexM (s.extract a s.size)).1 := by omega
                                         exact hq)) (EvP.ret ?_)
      rw [decide_eq_false h0]

/-- Both read the same of any text. -/
theorem reads (s : ByteArray) (hs : s.size ≤ 1048576) : ∃ (r : List TToken.D) (c p : Int), (c = 0 → r.length ≤ 300) ∧ r.length ≤ 1200 ∧ (∀ t ∈ r, TokAt s t) ∧ EvP (fun k => impl_readTokens.f k (s, ())) (· = (r, c, p, ())) ∧ EvP (fun k => spec_ReadTokens.f k (s, ())) (· = (r, c, p, (decide (c = 0)), ())) := by
  rcases Nat.lt_or_ge 1200 s.size with h | h
  · refine ⟨[], 1, 0, fun e => absurd e (by decide), by simp, fun t ht => (nomatch ht), ?_, ?_⟩
    · simp only [impl_readTokens.f, decide_eq_true_eq]
      exact EvP.pos (by omega) (EvP.ret rfl)
    · simp only [spec_ReadTokens.f, decide_eq_true_eq]
      exact EvP.pos (by omega) (EvP.ret rfl)
  · obtain ⟨r, c, p, h1, h2, h3, ei, es⟩ := read_both s h s.size 0 [] (Nat.zero_add _) (by simp) (fun t ht => nomatch ht)
    refine ⟨r, c, p, fun e => (h1 e).1, h2, h3, ?_, ?_⟩
    · simp only [impl_readTokens.f, decide_eq_true_eq]
      exact EvP.neg (by omega) ei
    · simp only [spec_ReadTokens.f, decide_eq_true_eq]
      exact EvP.neg (by omega) es

theorem tokAt_fit {s : ByteArray} {t : TToken.D} (h : TokAt s t) : Fit TToken t := ⟨trivial, Nat.le_trans (goodT_size h.good) (by decide), trivial, trivial⟩

/-! ### Drawing the tokens -/

theorem bytesOf_one (x : Int) : (bytesOf [x]).size = 1 := rfl

theorem spoilt_ev (c : List Int × Int × Int × Unit) (n : Nat) (hn : n ≤ 1000000000) (hc : CurOk c n) (s alpha : ByteArray) (hs : s.size ≤ 1000) (h1 : 1 ≤ alpha.size) :
    EvP (fun k => spec_l1Cur_spoilt.f k (c, s, alpha, ())) (fun y => y.2.1.size ≤ s.size + 2) := by
  obtain ⟨code, at_, seed, _⟩ := c
  simp only [spec_l1Cur_spoilt.f]
  refine EvP.bind (pick_ev _ n (by omega) hc 2) ?_
  rintro ⟨⟨code1, at1, seed1, _⟩, x, _⟩ ⟨h1c, hx0, _, hx2⟩
  have hx : x < 2 := hx2 (by decide)
  simp only at hx0
  have hw : w64 ((1 : Int) + x) = 1 + x := w64_id (by omega) (by omega)
  simp only [hw]
  have loop := EvP.loop (L := spec_l1Cur_spoilt.l1) (Q := fun y => y.2.1.size ≤ s.size + 2) (fun j st => ∃ (c : List Int × Int × Int × Unit) (t : ByteArray), st = (c, t, alpha, (j : Int), ()) ∧ j ≤ 2 ∧ CurOk c (n + 2 + 6 * (2 - j)) ∧ t.size ≤ s.size + (2 - j)) ?_
  · obtain ⟨m, rfl⟩ : ∃ m : Nat, x = (m : Int) := ⟨x.toNat, by omega⟩
    exact loop (1 + m) _ ⟨_, s, by rw [show (1 : Int) + (m : Int) = ((1 + m : Nat) : Int) by omega], by omega, h1c.mono (by omega), by omega⟩
  · rintro j _ ⟨c, t, rfl, hj, hcc, ht⟩ ih
    simp only [spec_l1Cur_spoilt.l1, decide_eq_true_eq]
    refine EvP.ite (fun h => ?_) (fun h => EvP.ret (by show t.size ≤ s.size + 2; omega))
    have hj1 : 1 ≤ j := by omega
    refine EvP.ite (fun hp => ?_) (fun hp => EvP.ret (by show t.size ≤ s.size + 2; omega))
    have pk : ∀ {c' : List Int × Int × Int × Unit} {n' : Nat} (hn' : n' ≤ 1099511627775) (hc' : CurOk c' n') (u : ByteArray), 1 ≤ u.size → EvP (fun k => spec_l1Cur_pick.f k (c', (u.size : Int), ())) (fun y => CurOk y.1 (n' + 2) ∧ 0 ≤ y.2.1 ∧ y.2.1 < (u.size : Int)) := by
      intro c' n' hn' hc' u hu
      refine EvP.mono (pick_ev c' n' hn' hc' (u.size : Int)) ?_
      rintro y ⟨g1, g2, g3, g4⟩
      refine ⟨g1, g2, ?_⟩
      rcases Int.lt_or_le 1 (u.size : Int) with h | h
      · exact g4 h
      · have := g3 h; omega
    refine EvP.bind (pk (show n + 2 + 6 * (2 - j) ≤ 1099511627775 by omega) hcc t (by omega)) ?_
    rintro ⟨c2, p, _⟩ ⟨h2, hp0, hp1⟩
    simp only at hp0 hp1
    obtain ⟨q, rfl⟩ : ∃ q : Nat, p = (q : Int) := ⟨p.toNat, by omega⟩
    refine EvP.bind (pk (show n + 2 + 6 * (2 - j) + 2 ≤ 1099511627775 by omega) h2 alpha h1) ?_
    rintro ⟨c3, b, _⟩ ⟨h3, hb0, hb1⟩
    refine EvP.pos hb0 (EvP.pos hb1 ?_)
    refine EvP.bind (pick_ev _ (n + 2 + 6 * (2 - j) + 2 + 2) (by omega) h3 3) ?_
    rintro ⟨c4, z, _⟩ ⟨h4, _⟩
    have e : w64 ((j : Int) - 1) = ((j - 1 : Nat) : Int) := by rw [w64_id (by omega) (by omega)]; omega
    have e2 : w64 ((q : Int) + 1) = ((q + 1 : Nat) : Int) := next64 (by omega)
    have s1 : (t.extract 0 q).size = q := by rw [ext_size t 0 q (by omega)]; omega
    have s2 : (t.extract q t.size).size = t.size - q := ext_size t q t.size (Nat.le_refl _)
    have s3 : (t.extract (q + 1) t.size).size = t.size - (q + 1) := ext_size t (q + 1) t.size (Nat.le_refl _)
    have s4 : ∀ x : Int, ((t.extract 0 q) ++ bytesOf [x]).size = q + 1 := fun x => by rw [ByteArray.size_append, s1, bytesOf_one]
    simp only [e, e2, Int.toNat_natCast]
    refine EvP.ite (fun hz => ?_) (fun hz => EvP.ite (fun hz2 => ?_) (fun hz2 => ?_))
    · refine EvP.pos (by omega) (EvP.pos (by omega) (EvP.pos (by unfold sizeN; rw [s1, bytesOf_one]; omega) (EvP.pos (by omega) (EvP.pos (by omega) (EvP.pos (by unfold sizeN; rw [s4, s2]; omega) ?_)))))
      exact ih (j - 1) _ (by omega) ⟨_, _, rfl, by omega, h4.mono (by omega), by rw [ByteArray.size_append, s4, s2]; omega⟩
    · refine EvP.pos (by omega) (EvP.pos (by omega) (EvP.pos (by unfold sizeN; rw [s1, bytesOf_one]; omega) (EvP.pos (by omega) (EvP.pos (by omega) (EvP.pos (by unfold sizeN; rw [s4, s3]; omega) ?_)))))
      exact ih (j - 1) _ (by omega) ⟨_, _, rfl, by omega, h4.mono (by omega), by rw [ByteArray.size_append, s4, s3]; omega⟩
    · refine EvP.pos (by omega) (EvP.pos (by omega) (EvP.pos (by omega) (EvP.pos (by omega) (EvP.pos (by unfold sizeN; rw [s1, s3]; omega) ?_))))
      exact ih (j - 1) _ (by omega) ⟨_, _, rfl, by omega, h4.mono (by omega), by rw [ByteArray.size_append, s1, s3]; omega⟩

theorem drawRead_ev (code : List Int) (hb : Bytes code) : EvP (fun k => spec_DrawReadTokens.f k (code, ())) (fun y => y.1.size ≤ 200) := by
  simp only [spec_DrawReadTokens.f]
  refine EvP.bind (words_ev (code, (0, (0, ()))) 0 (by decide) ⟨hb, Int.le_refl _, Int.le_refl _⟩) ?_
  rintro ⟨⟨c1, a1, s1, _⟩, t, _⟩ ⟨h1, ht⟩
  simp only at ht
  refine EvP.bind (pick_ev _ (0 + 30) (by decide) h1 _) ?_
  rintro ⟨⟨c2, a2, s2, _⟩, x, _⟩ ⟨h2, _⟩
  refine EvP.ite (fun _ => ?_) (fun _ => EvP.ite (fun _ => ?_) (fun _ => EvP.ret (by show t.size ≤ 200; omega)))
  · refine EvP.bind (of_ev _ (0 + 30 + 2) (by decide) h2 _ (by decide)) ?_
    rintro ⟨c3, u, _⟩ ⟨_, hu⟩
    simp only at hu
    have hu' : u.size ≤ 11 := by
      simp only [List.mem_cons, List.not_mem_nil, or_false] at hu
      rcases hu with rfl | rfl | rfl | rfl | rfl | rfl | rfl <;> decide
    refine EvP.pos (show sizeN t u by unfold sizeN; omega) (EvP.ret ?_)
    show (t ++ u).size ≤ 200
    rw [ByteArray.size_append]; omega
  · refine EvP.bind (spoilt_ev _ (0 + 30 + 2) (by decide) h2 t _ (by omega) (by decide)) ?_
    rintro ⟨c3, u, _⟩ hu
    exact EvP.ret (by show u.size ≤ 200; simp only at hu; omega)

theorem tok_set {l : List TToken.D} (h : Fit (.slice TToken) l) (t : TToken.D) (ht : Fit TToken t) (i : Nat) : Fit (.slice TToken) (l.set i t) := by
  refine ⟨by rw [List.length_set]; exact h.1, fun x hx => ?_⟩
  rcases List.mem_or_eq_of_mem_set hx with hx | rfl
  · exact h.2 x hx
  · exact ht

theorem drawText_ev (code : List Int) (hb : Bytes code) : EvP (fun k => spec_DrawTokensText.f k (code, ())) (fun y => Fit (.slice TToken) y.1) := by
  simp only [spec_DrawTokensText.f, decide_eq_true_eq]
  refine EvP.bind (words_ev (code, (0, (0, ()))) 0 (by decide) ⟨hb, Int.le_refl _, Int.le_refl _⟩) ?_
  rintro ⟨⟨c1, a1, s1, _⟩, t, _⟩ ⟨h1, ht⟩
  simp only at ht
  obtain ⟨r, c, p, _, hlen, hall, _, es⟩ := reads t (by omega)
  refine EvP.bind es ?_
  rintro _ rfl
  have hf : Fit (.slice TToken) r := ⟨by omega, fun x hx => tokAt_fit (hall x hx)⟩
  refine EvP.ite (fun hp => ?_) (fun hp => EvP.ret hf)
  have h0 : 0 < r.length := by simp only at hp; omega
  have ht0 := hall _ (rdT_mem (t := TToken) (l := r) (i := 0) h0)
  refine EvP.bind (pick_ev _ (0 + 30) (by decide) h1 _) ?_
  rintro ⟨⟨c2, a2, s2, _⟩, x, _⟩ ⟨h2, _⟩
  refine EvP.ite (fun _ => ?_) (fun _ => EvP.ite (fun _ => ?_) (fun _ => EvP.ret hf))
  · refine EvP.bind (pick_ev _ (0 + 30 + 2) (by decide) h2 _) ?_
    rintro ⟨⟨c3, a3, s3, _⟩, z, _⟩ _
    have hg0 := goodT_size ht0.good
    exact EvP.pos hp (EvP.ret (tok_set hf (z, (rdT TToken r 0).2) ⟨trivial, Nat.le_trans hg0 (by decide), trivial, trivial⟩ 0))
  · refine EvP.pos hp (EvP.bind (of_ev _ (0 + 30 + 2) (by decide) h2 _ (by decide)) ?_)
    rintro ⟨c3, u, _⟩ ⟨_, hu⟩
    simp only at hu
    have hu' : u.size ≤ 1 := by
      simp only [List.mem_cons, List.not_mem_nil, or_false] at hu
      rcases hu with rfl | rfl | rfl <;> decide
    have hg := goodT_size ht0.good
    refine EvP.pos (show sizeN (rdT TToken r 0).2.1 u by unfold sizeN; omega) (EvP.pos hp (EvP.ret (tok_set hf ((rdT TToken r 0).1, (((rdT TToken r 0).2.1 ++ u : ByteArray), (rdT TToken r 0).2.2)) ⟨trivial, ?_, trivial, trivial⟩ 0)))
    show ((rdT TToken r 0).2.1 ++ u : ByteArray).size ≤ 1048576
    rw [ByteArray.size_append]; omega

theorem drawWord_ev (code : List Int) (hb : Bytes code) : EvP (fun k => spec_DrawIsWord.f k (code, ())) (fun _ => True) := by
  simp only [spec_DrawIsWord.f]
  refine EvP.bind (of_ev (code, (0, (0, ()))) 0 (by decide) ⟨hb, Int.le_refl _, Int.le_refl _⟩ _ (by decide)) ?_
  rintro ⟨c2, t, _⟩ _
  exact EvP.ret trivial

/-! ### The law's own questions -/

theorem sameTok_ev (l : List TToken.D) (hl : l.length ≤ 1048576) : EvP (fun k => laws_sameTokens.f k (l, l, ())) (· = (true, ())) := by
  simp only [laws_sameTokens.f]
  refine EvP.neg (by simp) ?_
  have loop := EvP.loop (L := laws_sameTokens.l2) (Q := (· = (true, ()))) (fun j st => ∃ i : Nat, st = (l, l, (l.length : Int), (i : Int), ()) ∧ i ≤ l.length ∧ j = l.length - i) ?_
  · exact loop _ _ ⟨0, rfl, Nat.zero_le _, rfl⟩
  · rintro j _ ⟨i, rfl, hi, rfl⟩ ih
    simp only [laws_sameTokens.l2, decide_eq_true_eq, Int.toNat_natCast, next64 (show i ≤ 1099511627776 by omega)]
    refine EvP.ite (fun hlt => EvP.pos (by omega) (EvP.pos hlt (EvP.pos (by omega) (EvP.pos hlt (EvP.neg (by simp) ?_))))) (fun _ => EvP.ret rfl)
    exact ih (l.length - (i + 1)) _ (by omega) ⟨i + 1, rfl, by omega, rfl⟩

theorem sameW_ev (l out : List TToken.D) (hl : l.length ≤ 1048576) (h : SameW l out l.length) : EvP (fun k => laws_sameWords.f k (out, l, ())) (· = (true, ())) := by
  obtain ⟨h0, h⟩ := h
  simp only [laws_sameWords.f]
  refine EvP.neg (by simp [h0]) ?_
  rw [h0]
  have loop := EvP.loop (L := laws_sameWords.l2) (Q := (· = (true, ()))) (fun j st => ∃ i : Nat, st = (out, l, (l.length : Int), (i : Int), ()) ∧ i ≤ l.length ∧ j = l.length - i) ?_
  · exact loop _ _ ⟨0, rfl, Nat.zero_le _, rfl⟩
  · rintro j _ ⟨i, rfl, hi, rfl⟩ ih
    simp only [laws_sameWords.l2, decide_eq_true_eq, Int.toNat_natCast, next64 (show i ≤ 1099511627776 by omega)]
    refine EvP.ite (fun hlt => ?_) (fun _ => EvP.ret rfl)
    obtain ⟨g1, g2, g3⟩ := h i (by omega)
    refine EvP.pos (by omega) (EvP.pos (by omega) (EvP.pos (by omega) (EvP.pos hlt (EvP.neg (by simp [g1]) (EvP.pos (by omega) (EvP.pos (by omega) (EvP.pos (by omega) (EvP.pos hlt (EvP.neg (by simp [g2]) (EvP.pos (by omega) (EvP.pos (by omega) (EvP.pos (by omega) (EvP.pos hlt (EvP.neg (by simp [g3]) ?_))))))))))))))
    exact ih (l.length - (i + 1)) _ (by omega) ⟨i + 1, rfl, by omega, rfl⟩

theorem words_size2 : ∀ w ∈ wordsL, 2 ≤ w.size := by
  intro w hw
  simp only [wordsL, List.mem_cons, List.not_mem_nil, or_false] at hw
  rcases hw with rfl | rfl | rfl | rfl | rfl | rfl | rfl | rfl | rfl | rfl | rfl | rfl | rfl | rfl | rfl <;> decide

theorem tok_kind {s : ByteArray} {k v : Int} (h : tok s = some (k, v)) : k = 2 ↔ s ∈ wordsL := by
  unfold tok at h
  by_cases h1 : s.size = 1 ∧ Sgn (bt s 0)
  · rw [pickP_pos h1] at h
    injection h with h
    injection h with h2 h3
    subst h2
    exact ⟨fun e => absurd e (by decide), fun e => by have := words_size2 s e; omega⟩
  rw [pickP_neg h1] at h
  by_cases h2 : AllW s
  case neg => rw [pickP_neg h2] at h; cases h
  rw [pickP_pos h2] at h
  by_cases h3 : s ∈ wordsL
  · rw [pickP_pos h3] at h
    injection h with h
    injection h with h4 h5
    exact ⟨fun _ => h3, fun _ => h4.symm⟩
  rw [pickP_neg h3] at h
  refine ⟨fun e => ?_, fun e => absurd e h3⟩
  subst e
  by_cases h4 : digit (bt s 0)
  · rw [pickP_pos h4] at h
    by_cases h5 : (ans s).2.1 = true
    · rw [pickP_pos h5] at h
      injection h with h
      injection h with h6 h7
      exact absurd h6 (by decide)
    · rw [pickP_neg h5] at h; cases h
  · rw [pickP_neg h4] at h
    by_cases h5 : s.size ≤ 10
    · rw [pickP_pos h5] at h
      injection h with h
      injection h with h6 h7
      exact absurd h6 (by decide)
    · rw [pickP_neg h5] at h; cases h

theorem readBoth (s : ByteArray) (r : List TToken.D) (c p : Int) (h : EvP (fun k => impl_readTokens.f k (s, ())) (· = (r, c, p, ()))) : EvP (fun k => impl_ReadTokens.f k (s, ())) (· = (r, c, p, (c == 0), ())) := by
  simp only [impl_ReadTokens.f]
  refine EvP.bind h ?_
  rintro _ rfl
  exact EvP.ret rfl

theorem tail_ev (a1 : List Int) (b1 : Bytes a1) : EvP (fun k => ((spec_DrawTokensText.f k (a1, ())).bind fun y19 => ((impl_TokensText.f k (y19.1, ())).bind fun y20 => ((spec_TokensText.f k (y19.1, ())).bind fun y21 => ((spec_DrawIsWord.f k (a1, ())).bind fun y22 => (if (y20.2.1 == y21.2.1) = true then (if (y20.1.toList == y21.1.toList) = true then ((impl_GoodTokens.f k (y19.1, ())).bind fun y23 => ((spec_GoodTokens.f k (y19.1, ())).bind fun y24 => (if (y23.1 == y24.1) = true then ((impl_IsWord.f k (y22.1, ())).bind fun y25 => ((spec_IsWord.f k (y22.1, ())).bind fun y26 => (some ((y25.1 == y26.1), ())))) else (some (false, ()))))) else (some (false, ()))) else (some (false, ())))))))) (· = (true, ())) := by
  refine EvP.bind (drawText_ev a1 b1) ?_
  rintro ⟨l, _⟩ hl
  refine EvP.bind (impl_ansX l hl) ?_
  rintro _ rfl
  refine EvP.bind (spec_ansX l hl) ?_
  rintro _ rfl
  refine EvP.bind (drawWord_ev a1 b1) ?_
  rintro ⟨w, _⟩ _
  refine EvP.pos (by simp) (EvP.pos (by simp) (EvP.bind (impl_good l hl) ?_))
  rintro _ rfl
  refine EvP.bind (R := (· = goodAns l)) ?_ ?_
  · simp only [spec_GoodTokens.f]
    refine EvP.bind (spec_good l hl) ?_
    rintro _ rfl
    exact EvP.ret rfl
  rintro _ rfl
  refine EvP.pos (by simp) (EvP.bind (implWord_ev w) ?_)
  rintro ⟨x, _⟩ hx
  refine EvP.bind (specWord_ev w) ?_
  rintro ⟨z, _⟩ hz
  refine EvP.ret ?_
  have e : x = z := Bool.eq_iff_iff.2 (hx.trans hz.symm)
  subst e
  simp

/-- What is asked of one token. -/
def askTok (k : Nat) (a1 : List Int) (s : ByteArray) (l : List TToken.D) (n i : Int) (kd : Int) (tx : ByteArray) (pl : Int) : Option (Bool × Unit) :=
  (if (decide (pl < (0 : Int))) = true then (some (false, ())) else (if (decide ((w64 (pl + (tx.size : Int))) > (s.size : Int))) = true then (some (false, ())) else (if 0 ≤ (w64 (pl + (tx.size : Int))) then (if (w64 (pl + (tx.size : Int))) ≤ (s.size : Int) then (if 0 ≤ pl then (if pl ≤ (w64 (pl + (tx.size : Int))) then (if (!((s.extract (pl.toNat) ((w64 (pl + (tx.size : Int))).toNat)).toList == tx.toList)) = true then (some (false, ())) else ((impl_IsWord.f k (tx, ())).bind fun y18 => (if (!((kd == (2 : Int)) == y18.1)) = true then (some (false, ())) else (laws_FnTokens.l7 k (a1, s, l, n, i, ()))))) else none) else none) else none) else none)))

theorem askTok_ev (a1 : List Int) (s : ByteArray) (hs : s.size ≤ 200) (l : List TToken.D) (n i : Int) (kd : Int) (tx : ByteArray) (pl vl : Int) (lo : 0 ≤ pl) (hi : pl + (tx.size : Int) ≤ (s.size : Int)) (txt : s.extract pl.toNat (pl.toNat + tx.size) = tx) (good : tok tx = some (kd, vl))
    (go : EvP (fun k => laws_FnTokens.l7 k (a1, s, l, n, i, ())) (· = (true, ()))) : EvP (fun k => askTok k a1 s l n i kd tx pl) (· = (true, ())) := by
  obtain ⟨a, rfl⟩ : ∃ a : Nat, pl = (a : Int) := ⟨pl.toNat, by omega⟩
  have hw : w64 ((a : Int) + (tx.size : Int)) = ((a + tx.size : Nat) : Int) := by rw [w64_id (by omega) (by omega)]; omega
  rw [Int.toNat_natCast] at txt
  simp only [askTok, hw, Int.toNat_natCast, decide_eq_true_eq]
  refine EvP.neg (by omega) (EvP.neg (by omega) (EvP.pos (by omega) (EvP.pos (by omega) (EvP.pos (by omega) (EvP.pos (by omega) (EvP.neg (by rw [txt]; simp) ?_))))))
  refine EvP.bind (implWord_ev tx) ?_
  rintro ⟨x, _⟩ hx
  have e : (kd == (2 : Int)) = x := Bool.eq_iff_iff.2 (by rw [beq_iff_eq]; exact (tok_kind good).trans hx.symm)
  exact EvP.neg (by rw [e]; simp) go

theorem l7_ev (a1 : List Int) (b1 : Bytes a1) (s : ByteArray) (hs : s.size ≤ 200) (l : List TToken.D) (hl : l.length ≤ 1200) (hall : ∀ t ∈ l, TokAt s t) :
    EvP (fun k => laws_FnTokens.l7 k (a1, s, l, (l.length : Int), 0, ())) (· = (true, ())) := by
  have loop := EvP.loop (L := laws_FnTokens.l7) (Q := (· = (true, ()))) (fun j st => ∃ i : Nat, st = (a1, s, l, (l.length : Int), (i : Int), ()) ∧ i ≤ l.length ∧ j = l.length - i) ?_
  · exact loop _ _ ⟨0, rfl, Nat.zero_le _, rfl⟩
  · rintro j _ ⟨i, rfl, hi, rfl⟩ ih
    simp only [laws_FnTokens.l7, Int.toNat_natCast, next64 (show i ≤ 1099511627776 by omega)]
    refine EvP.ite (fun hlt => ?_) (fun _ => tail_ev a1 b1)
    have hlt : i < l.length := by have := of_decide_eq_true hlt; omega
    have ht := hall _ (rdT_mem (t := TToken) (l := l) (i := i) hlt)
    refine EvP.pos (by omega) (EvP.pos (by omega) ?_)
    exact askTok_ev a1 s hs l (l.length : Int) ((i + 1 : Nat) : Int) (rdT TToken l i).1 (rdT TToken l i).2.1 (rdT TToken l i).2.2.2 (rdT TToken l i).2.2.1 ht.lo ht.hi ht.txt ht.good (ih (l.length - (i + 1)) _ (by omega) ⟨i + 1, rfl, by omega, rfl⟩)

theorem law (a0 a1 : (Ty.slice (.int .u8)).D) (o0 : okD (.slice (.int .u8)) a0) (o1 : okD (.slice (.int .u8)) a1) : EvP (fun k => laws_FnTokens.f k (a0, a1, ())) (· = (true, ())) := by
  have b0 := bytes_of o0
  have b1 := bytes_of o1
  simp only [laws_FnTokens.f]
  refine EvP.bind (R := fun _ => True) ?_ ?_
  · simp only [laws_big.f]
    exact EvP.ite (fun _ => EvP.ret trivial) (fun _ => EvP.ret trivial)
  rintro ⟨y, _⟩ _
  refine EvP.ite (fun _ => EvP.ret rfl) (fun _ => ?_)
  refine EvP.bind (drawRead_ev a0 b0) ?_
  rintro ⟨s, _⟩ hs
  simp only at hs
  obtain ⟨r, c, p, h300, hlen, hall, ei, es⟩ := reads s (by omega)
  refine EvP.bind (readBoth s r c p ei) ?_
  rintro _ rfl
  refine EvP.bind es ?_
  rintro _ rfl
  have hce : (c == 0) = decide (c = 0) := Bool.eq_iff_iff.2 (by rw [beq_iff_eq, decide_eq_true_eq])
  refine EvP.neg (by simp [hce]) (EvP.neg (by simp) (EvP.neg (by simp) ?_))
  refine EvP.bind (sameTok_ev r (by omega)) ?_
  rintro _ rfl
  refine EvP.neg (by simp) (EvP.neg (by simp) (EvP.ite (fun h => ?_) (fun _ => tail_ev a1 b1)))
  have hc : c = 0 := by simpa using h
  have hf : Fit (.slice TToken) r := ⟨by omega, fun x hx => tokAt_fit (hall x hx)⟩
  have hg : GoodL r := ⟨h300 hc, fun i hi => (hall _ (rdT_mem (t := TToken) (l := r) (i := i) hi)).good⟩
  refine EvP.bind (impl_ansX r hf) ?_
  rintro _ rfl
  refine EvP.bind (impl_good r hf) ?_
  rintro _ rfl
  refine EvP.neg (by unfold goodAns; rw [pickP_pos hg]; simp) ?_
  refine EvP.ite (fun hx => ?_) (fun _ => l7_ev a1 b1 s hs r hlen hall)
  rcases Int.lt_or_le (1200 : Int) ((acc r r.length).size : Int) with hbig | hsm
  · unfold textAns at hx
    rw [pickP_pos hg, if_pos hbig] at hx
    cases hx
  have ex : textAns r = (acc r r.length, true, ()) := by unfold textAns; rw [pickP_pos hg, if_neg (by omega)]
  rw [ex]
  refine EvP.bind (R := fun y => y.2.2.2.1 = true ∧ SameW r y.1 r.length) ?_ ?_
  · simp only [impl_ReadTokens.f]
    refine EvP.bind (read_back r hg (by omega)) ?_
    rintro ⟨y, d, q, _⟩ ⟨g1, g2⟩
    exact EvP.ret ⟨by simpa using g1, g2⟩
  rintro ⟨y, d, q, o, _⟩ ⟨g1, g2⟩
  refine EvP.neg (by simpa using g1) (EvP.bind (sameW_ev r y (by omega) g2) ?_)
  rintro _ rfl
  exact EvP.neg (by simp) (l7_ev a1 b1 s hs r hlen hall)


end Go.Proofs.YtmcdddghlcllbaaGreatDoor.LawFnTokens
