/- The plain law FnExactTokensText: its Lean function answers true at all data. -/
import Derived.Test.YtjijgajbkcflaaaDoorDFnExactTokensText
set_option autoImplicit false
set_option linter.unusedVariables false
set_option linter.unusedSimpArgs false
namespace Go.Proofs.YtjijgajbkcflaaaDoor.LawFnExactTokensText
open Go.Proofs.YtjijgajbkcflaaaDoor.Den Go.Proofs

theorem in_ev (a b c : Int) : EvP (fun k => impl_in.f k (a, b, c, ())) (fun y => y.1 = decide (b ≤ a ∧ a ≤ c)) := by
  simp only [impl_in.f, decide_eq_true_eq]
  refine EvP.ite (fun h => EvP.ret ?_) (fun h => EvP.ret ?_)
  · simp only [ge_iff_le] at h; simp [h]
  · simp only [ge_iff_le] at h; simp [h]


/-! ### Numbers of digits -/

def Dig (b c : Int) : Prop := (48 ≤ c ∧ c ≤ 57) ∨ (b = 16 ∧ 65 ≤ c ∧ c ≤ 70)
def digV (c : Int) : Int := if c ≤ 57 then c - 48 else c - 55
def valN (s : ByteArray) (b : Int) : Nat → Int
  | 0 => 0
  | i + 1 => valN s b i * b + digV (bt s i)

theorem digV_bound {b c : Int} (hb : b = 10 ∨ b = 16) (h : Dig b c) : 0 ≤ digV c ∧ digV c < b := by
  unfold Dig at h
  unfold digV
  split <;> omega

theorem valN_bound {s : ByteArray} {b : Int} (hb : b = 10 ∨ b = 16) : ∀ i : Nat, (∀ j, j < i → Dig b (bt s j)) → 0 ≤ valN s b i ∧ valN s b i < ((16 ^ i : Nat) : Int) := by
  intro i
  induction i with
  | zero => intro _; exact ⟨Int.le_refl _, by show (0 : Int) < ((16 ^ 0 : Nat) : Int); decide⟩
  | succ i ih =>
    intro h
    obtain ⟨h1, h2⟩ := ih fun j hj => h j (by omega)
    have h3 := digV_bound hb (h i (by omega))
    simp only [valN, Nat.pow_succ]
    generalize valN s b i = v at *
    generalize digV (bt s i) = d at *
    generalize (16 ^ i : Nat) = P at *
    rcases hb with rfl | rfl <;> omega

theorem pow_le {i : Nat} (h : i ≤ 9) : (16 ^ i : Nat) ≤ 68719476736 := Nat.pow_le_pow_right (by decide) h

theorem valN_small {s : ByteArray} {b : Int} (hb : b = 10 ∨ b = 16) {i : Nat} (hi : i ≤ 9) (h : ∀ j, j < i → Dig b (bt s j)) : 0 ≤ valN s b i ∧ valN s b i < 68719476736 := by
  have h1 := valN_bound hb i h
  have h2 := pow_le hi
  omega

theorem bt_range (s : ByteArray) (i : Nat) : 0 ≤ bt s i ∧ bt s i ≤ 255 := by
  unfold bt
  have := (s.data.getD i 0).toNat_lt
  omega

theorem l2Digit_ev (c : Int) : EvP (fun k => spec_l2Digit.f k (c, ())) (fun y => y.1 = true ↔ (48 ≤ c ∧ c ≤ 57)) := by
  simp only [spec_l2Digit.f, decide_eq_true_eq]
  refine EvP.ite (fun h => EvP.ret ?_) (fun h => EvP.ret ?_)
  · simp; omega
  · simp; omega

theorem isDigit_ev (c : Int) : EvP (fun k => impl_isDigit.f k (c, ())) (fun y => y.1 = true ↔ (48 ≤ c ∧ c ≤ 57)) := by
  simp only [impl_isDigit.f, decide_eq_true_eq]
  refine EvP.ite (fun h => EvP.ret ?_) (fun h => EvP.ret ?_)
  · simp; omega
  · simp; omega

def hexR (c : Int) : Int := if 48 ≤ c ∧ c ≤ 57 then c - 48 else if 65 ≤ c ∧ c ≤ 70 then c - 55 else -1

theorem l2Hex_ev (c : Int) (hc : 0 ≤ c ∧ c ≤ 255) : EvP (fun k => spec_l2Hex.f k (c, ())) (· = (hexR c, ())) := by
  simp only [spec_l2Hex.f, decide_eq_true_eq]
  unfold hexR
  refine EvP.bind (l2Digit_ev c) ?_
  rintro ⟨y, _⟩ hy
  simp only at hy
  refine EvP.ite (fun h => EvP.ret ?_) (fun h => ?_)
  · have h1 := hy.1 h
    rw [if_pos h1, IntKind.wrap_u8', w64_id (by omega) (by omega)]
    congr 1
    omega
  · have h1 : ¬ (48 ≤ c ∧ c ≤ 57) := fun e => h (hy.2 e)
    rw [if_neg h1]
    refine EvP.ite (fun h2 => EvP.ite (fun h3 => EvP.ret ?_) (fun h3 => EvP.ret ?_)) (fun h2 => EvP.ret ?_)
    · rw [if_pos ⟨h2, h3⟩, IntKind.wrap_u8', w64_id (x := (c - 65) % 256) (by omega) (by omega), w64_id (by omega) (by omega)]
      congr 1
      omega
    · rw [if_neg (by omega)]
    · rw [if_neg (by omega)]

theorem hexR_dig {b c : Int} (hb : b = 10 ∨ b = 16) : (0 ≤ hexR c ∧ hexR c < b) ↔ Dig b c := by
  unfold hexR Dig
  split
  · omega
  · split <;> omega

theorem hexR_val {b c : Int} (h : Dig b c) : hexR c = digV c := by
  unfold hexR digV
  unfold Dig at h
  split
  · rw [if_pos (by omega)]
  · rw [if_pos (by omega), if_neg (by omega)]

def AllDig (b : Int) (s : ByteArray) : Prop := ∀ i, i < s.size → Dig b (bt s i)

theorem spec_l4_ev (b : Int) (most : Nat) (hb : b = 10 ∨ b = 16) (hm : most ≤ 9) (s : ByteArray) (hs : s.size ≤ 1048576) :
    EvP (fun k => spec_l2Number.l4 k (b, (most : Int), s, 0, 0, ())) (· = pickP (AllDig b s ∧ s.size ≤ most) (valN s b s.size, true, ()) (0, false, ())) := by
  have loop := EvP.loop (L := spec_l2Number.l4) (Q := (· = pickP (AllDig b s ∧ s.size ≤ most) (valN s b s.size, true, ()) (0, false, ()))) (fun j st => ∃ i : Nat, st = (b, (most : Int), s, valN s b i, (i : Int), ()) ∧ j = s.size - i ∧ i ≤ s.size ∧ i ≤ most ∧ ∀ p, p < i → Dig b (bt s p)) ?_
  · exact loop _ _ ⟨0, rfl, rfl, Nat.zero_le _, Nat.zero_le _, fun p hp => absurd hp (Nat.not_lt_zero _)⟩
  · rintro j _ ⟨i, rfl, rfl, hi, him, hall⟩ ih
    simp only [spec_l2Number.l4, decide_eq_true_eq, Int.toNat_natCast]
    refine EvP.ite (fun hlt => EvP.pos (by omega) (EvP.pos hlt ?_)) (fun hge => EvP.ret ?_)
    · have hil : i < s.size := by omega
      refine EvP.bind (l2Hex_ev _ (bt_range s i)) ?_
      rintro _ rfl
      have no : ¬ (Dig b (bt s i) ∧ i < most) → ((0, false, ()) : Int × Bool × Unit) = pickP (AllDig b s ∧ s.size ≤ most) (valN s b s.size, true, ()) (0, false, ()) := fun h => by rw [pickP_neg fun e => h ⟨e.1 i hil, by omega⟩]
      refine EvP.ite (fun h => EvP.ret (no fun e => by have := (hexR_dig hb).2 e.1; simp only at h; omega)) (fun h1 => ?_)
      refine EvP.ite (fun h => EvP.ret (no fun e => by have := (hexR_dig hb).2 e.1; simp only at h; omega)) (fun h2 => ?_)
      refine EvP.ite (fun h => EvP.ret (no fun e => by omega)) (fun h3 => ?_)
      simp only at h1 h2
      have hd : Dig b (bt s i) := (hexR_dig hb).1 ⟨by omega, by omega⟩
      have hv := valN_small hb (show i ≤ 9 by omega) hall
      have hv2 := valN_small hb (show i + 1 ≤ 9 by omega) (fun p hp => by
        rcases Nat.lt_or_ge p i with hp' | hp'
        · exact hall p hp'
        · obtain rfl : p = i := by omega
          exact hd)
      have e1 : w64 (w64 (valN s b i * b) + hexR (bt s i)) = valN s b (i + 1) := by
        rw [hexR_val hd]
        have h4 := digV_bound hb hd
        simp only [valN] at hv2 ⊢
        rw [w64_id (x := valN s b i * b) (by rcases hb with rfl | rfl <;> omega) (by rcases hb with rfl | rfl <;> omega), w64_id (by omega) (by omega)]
      simp only [e1, next64 (show i ≤ 1099511627776 by omega)]
      exact ih (s.size - (i + 1)) _ (by omega) ⟨i + 1, rfl, rfl, by omega, by omega, fun p hp => by
        rcases Nat.lt_or_ge p i with hp' | hp'
        · exact hall p hp'
        · obtain rfl : p = i := by omega
          exact hd⟩
    · obtain rfl : i = s.size := by omega
      rw [pickP_pos ⟨hall, him⟩]

/-! ### Trim: whether all bytes lie in a set -/

theorem all_dropWhile {α : Type} (p : α → Bool) : ∀ L : List α, (∀ x ∈ L.dropWhile p, p x = true) → ∀ x ∈ L, p x = true
  | [], _, x, hx => by cases hx
  | a :: r, h, x, hx => by
    by_cases ha : p a = true
    · rw [List.dropWhile_cons_of_pos ha] at h
      rcases List.mem_cons.1 hx with rfl | hx
      · exact ha
      · exact all_dropWhile p r h x hx
    · rw [List.dropWhile_cons_of_neg ha] at h
      exact h x hx

theorem dropWhile_all {α : Type} (p : α → Bool) : ∀ L : List α, (∀ x ∈ L, p x = true) → L.dropWhile p = []
  | [], _ => rfl
  | a :: r, h => by
    rw [List.dropWhile_cons_of_pos (h a (by simp))]
    exact dropWhile_all p r fun x hx => h x (by simp [hx])

theorem trimS_nil (l cs : List UInt8) : Lib.trimS l cs = [] ↔ ∀ x ∈ l, cs.contains x = true := by
  unfold Lib.trimS Lib.trimLeftS Lib.trimRightS
  constructor
  · intro h
    have h1 : ∀ x ∈ (l.reverse.dropWhile (cs.contains ·)).reverse, cs.contains x = true :=
      all_dropWhile (cs.contains ·) _ (fun x hx => by rw [h] at hx; cases hx)
    have h2 := all_dropWhile (cs.contains ·) l.reverse (fun x hx => h1 x (by simpa using hx))
    exact fun x hx => h2 x (by simpa using hx)
  · intro h
    rw [dropWhile_all (cs.contains ·) l.reverse (fun x hx => h x (by simpa using hx))]
    rfl

theorem bt_mem (s : ByteArray) {i : Nat} (hi : i < s.size) : s.data.getD i 0 ∈ s.data.toList := by
  have h : i < s.data.size := hi
  rw [Array.getD_eq_getD_getElem?, Array.getElem?_eq_getElem h]
  simp

theorem mem_bt (s : ByteArray) {x : UInt8} (hx : x ∈ s.data.toList) : ∃ i, i < s.size ∧ s.data.getD i 0 = x := by
  obtain ⟨i, hi, he⟩ := List.getElem_of_mem hx
  have h : i < s.data.size := by simpa using hi
  refine ⟨i, h, ?_⟩
  rw [Array.getD_eq_getD_getElem?, Array.getElem?_eq_getElem h, ← he]
  simp

def decS : List UInt8 := [48, 49, 50, 51, 52, 53, 54, 55, 56, 57]
def hexS : List UInt8 := [48, 49, 50, 51, 52, 53, 54, 55, 56, 57, 65, 66, 67, 68, 69, 70]

set_option maxRecDepth 100000 in
theorem dec_nat : ∀ n, n < 256 → decS.contains (UInt8.ofNat n) = decide (48 ≤ n ∧ n ≤ 57) := by decide
set_option maxRecDepth 100000 in
theorem hex_nat : ∀ n, n < 256 → hexS.contains (UInt8.ofNat n) = decide ((48 ≤ n ∧ n ≤ 57) ∨ (65 ≤ n ∧ n ≤ 70)) := by decide

theorem dec_mem (x : UInt8) : decS.contains x = true ↔ Dig 10 (x.toNat : Int) := by
  have h := dec_nat x.toNat x.toNat_lt
  rw [UInt8.ofNat_toNat] at h
  rw [h, decide_eq_true_eq]
  unfold Dig
  omega

theorem hex_mem (x : UInt8) : hexS.contains x = true ↔ Dig 16 (x.toNat : Int) := by
  have h := hex_nat x.toNat x.toNat_lt
  rw [UInt8.ofNat_toNat] at h
  rw [h, decide_eq_true_eq]
  unfold Dig
  omega

theorem numeral_ev (s cs : ByteArray) (b : Int) (hs : s.size ≤ 1048576) (hc : trimOk s cs) (hm : ∀ x : UInt8, cs.data.toList.contains x = true ↔ Dig b (x.toNat : Int)) :
    EvP (fun k => impl_isNumeral.f k (s, cs, ())) (fun y => y.1 = true ↔ AllDig b s) := by
  simp only [impl_isNumeral.f, strings_Trim.f]
  refine EvP.bind (EvP.pos hc (EvP.ret (Q := (· = (Den.trimmed s cs, ()))) rfl)) ?_
  rintro _ rfl
  refine EvP.ret ?_
  simp only [beq_iff_eq, toList_eq]
  have h1 : Den.trimmed s cs = ByteArray.empty ↔ Lib.trimS s.data.toList cs.data.toList = [] := by
    unfold Den.trimmed
    constructor
    · intro h
      have := congrArg (fun z => z.data.toList) h
      simpa using this
    · intro h
      rw [h]; rfl
  rw [h1, trimS_nil]
  constructor
  · intro h i hi
    exact (hm _).1 (h _ (bt_mem s hi))
  · intro h x hx
    obtain ⟨i, hi, rfl⟩ := mem_bt s hx
    exact (hm _).2 (h i hi)

theorem byteList_len (s : ByteArray) : (byteList s).length = s.size := by simp [byteList]
theorem byteList_rd (s : ByteArray) {i : Nat} (hi : i < s.size) : rdT (.int .u8) (byteList s) i = bt s i := by
  have h : i < s.data.size := hi
  unfold rdT bt byteList
  rw [Array.getD_eq_getD_getElem?, Array.getElem?_eq_getElem h]
  simp [List.getD, Array.getElem?_eq_getElem h]

theorem atoi_l5_ev (s : ByteArray) (h1 : 1 ≤ s.size) (h9 : s.size ≤ 9) (hall : AllDig 10 s) : EvP (fun k => internal_strconv_Atoi.l5 k (s, 0, byteList s, ((byteList s).length : Int), 0, ())) (· = (valN s 10 s.size, (), ())) := by
  have loop := EvP.loop (L := internal_strconv_Atoi.l5) (Q := (· = (valN s 10 s.size, (), ()))) (fun j st => ∃ i : Nat, st = (s, valN s 10 i, byteList s, ((byteList s).length : Int), (i : Int), ()) ∧ j = s.size - i ∧ i ≤ s.size) ?_
  · exact loop _ _ ⟨0, rfl, rfl, Nat.zero_le _⟩
  · rintro j _ ⟨i, rfl, rfl, hi⟩ ih
    simp only [internal_strconv_Atoi.l5, decide_eq_true_eq, Int.toNat_natCast, byteList_len, beq_iff_eq]
    refine EvP.ite (fun hlt => EvP.pos (by omega) (EvP.pos hlt ?_)) (fun hge => ?_)
    · have hil : i < s.size := by omega
      have hd : 48 ≤ bt s i ∧ bt s i ≤ 57 := by
        have := hall i hil
        unfold Dig at this
        omega
      rw [byteList_rd s hil, IntKind.wrap_u8']
      have e0 : (bt s i - 48) % 256 = bt s i - 48 := by omega
      rw [e0]
      have hv := valN_small (b := 10) (.inl rfl) (show i ≤ 9 by omega) (fun p hp => hall p (by omega))
      have hv2 := valN_small (b := 10) (.inl rfl) (show i + 1 ≤ 9 by omega) (fun p hp => hall p (by omega))
      have e1 : w64 (w64 (valN s 10 i * 10) + w64 (bt s i - 48)) = valN s 10 (i + 1) := by
        have e2 : digV (bt s i) = bt s i - 48 := by unfold digV; rw [if_pos hd.2]
        simp only [valN, e2] at hv2 ⊢
        rw [w64_id (x := valN s 10 i * 10) (by omega) (by omega), w64_id (x := bt s i - 48) (by omega) (by omega), w64_id (by omega) (by omega)]
      rw [e1]
      simp only [next64 (show i ≤ 1099511627776 by omega)]
      refine EvP.neg (by omega) ?_
      have := ih (s.size - (i + 1)) _ (by omega) ⟨i + 1, rfl, rfl, by omega⟩
      rwa [byteList_len] at this
    · obtain rfl : i = s.size := by omega
      have hd := hall 0 (by omega)
      unfold Dig at hd
      exact EvP.pos (by omega) (EvP.neg (by omega) (EvP.ret rfl))

theorem atoi_ev (s : ByteArray) (h1 : 1 ≤ s.size) (h9 : s.size ≤ 9) (hall : AllDig 10 s) : EvP (fun k => strconv_Atoi.f k (s, ())) (· = (valN s 10 s.size, (), ())) := by
  simp only [strconv_Atoi.f, internal_strconv_Atoi.f, decide_eq_true_eq, beq_iff_eq]
  have hd := hall 0 (by omega)
  unfold Dig at hd
  refine EvP.bind (EvP.pos (by omega) (EvP.pos (by omega) (EvP.pos (by omega) (EvP.neg (by omega) (EvP.pos (by omega) (EvP.neg (by omega) (atoi_l5_ev s h1 h9 hall))))))) ?_
  rintro _ rfl
  exact EvP.ret rfl

theorem low_or : ∀ c : Int, 65 ≤ c ∧ c ≤ 70 → bitsI .u8 (· ||| ·) c (32 : Int) = c + 32 := by
  intro c h
  have : c = 65 ∨ c = 66 ∨ c = 67 ∨ c = 68 ∨ c = 69 ∨ c = 70 := by omega
  rcases this with rfl | rfl | rfl | rfl | rfl | rfl <;> decide

theorem wrap64_id {x : Int} (h0 : 0 ≤ x) (h1 : x < 18446744073709551616) : IntKind.wrap .u64 x = x := by
  rw [IntKind.wrap_u64]
  omega

theorem puint_l10_ev (s t : ByteArray) (h7 : s.size ≤ 7) (hall : AllDig 16 s) : EvP (fun k => internal_strconv_ParseUint.l10 k (16, false, t, 1152921504606846976, 18446744073709551615, false, 0, byteList s, ((byteList s).length : Int), 0, ())) (· = (valN s 16 s.size, (), ())) := by
  have loop := EvP.loop (L := internal_strconv_ParseUint.l10) (Q := (· = (valN s 16 s.size, (), ()))) (fun j st => ∃ i : Nat, st = (16, false, t, 1152921504606846976, 18446744073709551615, false, valN s 16 i, byteList s, ((byteList s).length : Int), (i : Int), ()) ∧ j = s.size - i ∧ i ≤ s.size) ?_
  · exact loop _ _ ⟨0, rfl, rfl, Nat.zero_le _⟩
  · rintro j _ ⟨i, rfl, rfl, hi⟩ ih
    simp only [internal_strconv_ParseUint.l10, decide_eq_true_eq, Int.toNat_natCast, byteList_len, beq_iff_eq, internal_strconv_lower.f]
    refine EvP.ite (fun hlt => EvP.pos (by omega) (EvP.pos hlt ?_)) (fun hge => ?_)
    · have hil : i < s.size := by omega
      have hd := hall i hil
      rw [byteList_rd s hil]
      have hv := valN_small (b := 16) (.inr rfl) (show i ≤ 9 by omega) (fun p hp => hall p (by omega))
      have hv2 := valN_small (b := 16) (.inr rfl) (show i + 1 ≤ 9 by omega) (fun p hp => hall p (by omega))
      have hdb := digV_bound (b := 16) (.inr rfl) hd
      have hgo := ih (s.size - (i + 1)) _ (by omega) ⟨i + 1, rfl, rfl, by omega⟩
      rw [byteList_len] at hgo
      have w16 : IntKind.wrap .u64 (16 : Int) = 16 := by decide
      have w168 : IntKind.wrap .u8 (16 : Int) = 16 := by decide
      have e0 : IntKind.wrap .u64 (valN s 16 i * 16) = valN s 16 i * 16 := wrap64_id (by omega) (by omega)
      have step : ∀ d : Int, d = digV (bt s i) → IntKind.wrap .u64 (valN s 16 i * 16 + IntKind.wrap .u64 d) = valN s 16 (i + 1) := by
        intro d he
        subst he
        rw [wrap64_id (x := digV (bt s i)) (by omega) (by omega)]
        simp only [valN] at hv2 ⊢
        exact wrap64_id (by omega) (by omega)
      have h95 : ¬ bt s i = 95 := by unfold Dig at hd; omega
      refine EvP.neg h95 ?_
      simp only [next64 (show i ≤ 1099511627776 by omega), w16, w168, e0]
      simp only [valN] at hv2
      by_cases h57 : bt s i ≤ 57
      · have e8 : IntKind.wrap .u8 (bt s i - 48) = bt s i - 48 := by
          rw [IntKind.wrap_u8']; unfold Dig at hd; omega
        have ed : bt s i - 48 = digV (bt s i) := by unfold digV; rw [if_pos h57]
        simp only [e8, step _ ed]
        refine EvP.pos (by unfold Dig at hd; omega) (EvP.pos h57 (EvP.neg (by omega) (EvP.neg (by omega) (EvP.neg (by simp only [valN]; omega) (EvP.neg (by simp only [valN]; omega) hgo)))))
      · have hr : 65 ≤ bt s i ∧ bt s i ≤ 70 := by unfold Dig at hd; omega
        have ed : bt s i - 55 = digV (bt s i) := by unfold digV; rw [if_neg h57]
        simp only [low_or _ hr]
        have e8 : IntKind.wrap .u8 (IntKind.wrap .u8 (bt s i + 32 - 97) + 10) = bt s i - 55 := by
          rw [IntKind.wrap_u8', IntKind.wrap_u8']; omega
        refine EvP.pos (by omega) (EvP.neg h57 ?_)
        refine EvP.bind (EvP.ret (Q := (· = (bt s i + 32, ()))) rfl) ?_
        rintro _ rfl
        refine EvP.pos (by simp only; omega) ?_
        refine EvP.bind (EvP.ret (Q := (· = (bt s i + 32, ()))) rfl) ?_
        rintro _ rfl
        refine EvP.pos (by simp only; omega) ?_
        refine EvP.bind (EvP.ret (Q := (· = (bt s i + 32, ()))) rfl) ?_
        rintro _ rfl
        simp only [e8, step _ ed]
        exact EvP.neg (by omega) (EvP.neg (by omega) (EvP.neg (by simp only [valN]; omega) (EvP.neg (by simp only [valN]; omega) hgo)))
    · obtain rfl : i = s.size := by omega
      exact EvP.neg (by decide) (EvP.ret rfl)

theorem parseInt_ev (s : ByteArray) (h1 : 1 ≤ s.size) (h7 : s.size ≤ 7) (hall : AllDig 16 s) : EvP (fun k => strconv_ParseInt.f k (s, 16, 64, ())) (· = (valN s 16 s.size, (), ())) := by
  have hd := hall 0 (by omega)
  unfold Dig at hd
  have hne : ¬ s = ByteArray.empty := by rintro rfl; exact absurd h1 (by decide)
  have hv := valN_small (b := 16) (.inr rfl) (show s.size ≤ 9 by omega) (fun p hp => hall p hp)
  have hu : EvP (fun k => internal_strconv_ParseUint.f k (s, 16, 64, ())) (· = (valN s 16 s.size, (), ())) := by
    simp only [internal_strconv_ParseUint.f, decide_eq_true_eq, beq_iff_eq, toList_eq]
    refine EvP.neg hne (EvP.pos (by decide) (EvP.pos (by decide) ?_))
    simp only [internal_strconv_ParseUint.l1, internal_strconv_ParseUint.l6, internal_strconv_ParseUint.l8, decide_eq_true_eq, beq_iff_eq]
    refine EvP.neg (by decide) (EvP.neg (by decide) (EvP.neg (by decide) (EvP.neg (by decide) (EvP.pos trivial (EvP.pos (by decide) ?_)))))
    exact puint_l10_ev s s h7 hall
  simp only [strconv_ParseInt.f, internal_strconv_ParseInt.f, decide_eq_true_eq, beq_iff_eq, toList_eq]
  refine EvP.bind (R := (· = (valN s 16 s.size, (), ()))) ?_ ?_
  · refine EvP.neg hne (EvP.pos (by omega) (EvP.neg (by omega) (EvP.neg (by omega) ?_)))
    refine EvP.bind hu ?_
    rintro _ rfl
    refine EvP.neg (by decide) (EvP.pos (by decide) (EvP.neg ?_ (EvP.ret ?_)))
    · have e : IntKind.wrap .u64 ((1 : Int) * 2 ^ (min (IntKind.wrap .u64 (w64 ((64 : Int) - 1))).toNat (IntKind.bits .u64))) = 9223372036854775808 := by decide
      simp only
      rw [e]
      omega
    · simp only
      rw [w64_id (by omega) (by omega)]
  · rintro _ rfl
    exact EvP.ret rfl

theorem ext_size (s : ByteArray) (i j : Nat) (h : j ≤ s.size) : (s.extract i j).size = j - i := by
  rw [ByteArray.size_extract]; omega

theorem bt_extract (s : ByteArray) {n i : Nat} (hn : n ≤ s.size) (hi : i < n) : bt (s.extract 0 n) i = bt s i := by
  have h1 : i < s.data.size := Nat.lt_of_lt_of_le hi hn
  have h2 : i < (s.extract 0 n).data.size := by
    have := ext_size s 0 n hn
    show i < (s.extract 0 n).size
    omega
  unfold bt
  rw [Array.getD_eq_getD_getElem?, Array.getD_eq_getD_getElem?, Array.getElem?_eq_getElem h1, Array.getElem?_eq_getElem h2]
  simp [ByteArray.data_extract]

theorem last_iff (s : ByteArray) (h : 1 ≤ s.size) : s.extract (s.size - 1) s.size = ⟨#[72]⟩ ↔ bt s (s.size - 1) = 72 := by
  have h1 : s.size - 1 < s.data.size := by show s.size - 1 < s.size; omega
  have hx : s.extract (s.size - 1) s.size = ⟨#[s.data[s.size - 1]]⟩ := by
    apply ByteArray.ext
    rw [ByteArray.data_extract]
    apply Array.ext
    · simp
      omega
    · intro i hi1 hi2
      have : i = 0 := by simpa using hi2
      subst this
      simp
  have hb : bt s (s.size - 1) = ((s.data[s.size - 1]).toNat : Int) := by
    unfold bt
    rw [Array.getD_eq_getD_getElem?, Array.getElem?_eq_getElem h1]
    rfl
  rw [hx, hb]
  constructor
  · intro e
    have := congrArg (fun z => z.data.toList) e
    simp at this
    rw [this]
    rfl
  · intro e
    have : s.data[s.size - 1] = 72 := by
      apply UInt8.toNat_inj.1
      show _ = 72
      omega
    rw [this]

def body (s : ByteArray) : ByteArray := s.extract 0 (s.size - 1)
def IsDec (s : ByteArray) : Prop := 1 ≤ s.size ∧ s.size ≤ 9 ∧ AllDig 10 s
def IsHex (s : ByteArray) : Prop := bt s (s.size - 1) = 72 ∧ 2 ≤ s.size ∧ s.size ≤ 8 ∧ AllDig 16 (body s) ∧ (48 ≤ bt s 0 ∧ bt s 0 ≤ 57)
noncomputable def ans (s : ByteArray) : Int × Bool × Unit := pickP (IsDec s) (valN s 10 s.size, true, ()) (pickP (IsHex s) (valN (body s) 16 (body s).size, true, ()) (0, false, ()))

theorem body_size {s : ByteArray} : (body s).size = s.size - 1 := by
  unfold body
  rw [ext_size _ _ _ (by omega)]
  omega

theorem ans_no {s : ByteArray} (h1 : ¬ IsDec s) (h2 : ¬ IsHex s) : ((0, false, ()) : Int × Bool × Unit) = ans s := by
  unfold ans
  rw [pickP_neg h1, pickP_neg h2]

theorem l2Number_ev (s : ByteArray) (hs : Fit .str s) : EvP (fun k => spec_l2Number.f k (s, ())) (· = ans s) := by
  have hs' : s.size ≤ 1048576 := hs
  simp only [spec_l2Number.f, beq_iff_eq, toList_eq, Bool.not_eq_true']
  refine EvP.ite (fun h => EvP.ret (ans_no ?_ ?_)) (fun h => ?_)
  · subst h; exact fun e => absurd e.1 (by decide)
  · subst h; exact fun e => absurd e.2.1 (by decide)
  have hpos : 1 ≤ s.size := by
    rcases Nat.eq_zero_or_pos s.size with h0 | h0
    · exfalso
      apply h
      apply ByteArray.ext
      exact Array.eq_empty_of_size_eq_zero h0
    · exact h0
  refine EvP.pos (by omega) ?_
  refine EvP.bind (l2Digit_ev _) ?_
  rintro ⟨y, _⟩ hy
  simp only at hy
  refine EvP.ite (fun h0 => EvP.ret (ans_no ?_ ?_)) (fun h0 => ?_)
  · intro e
    have := e.2.2 0 (by omega)
    unfold Dig at this
    rw [hy.2 (by omega)] at h0; cases h0
  · intro e
    rw [hy.2 e.2.2.2.2] at h0; cases h0
  have hd : 48 ≤ bt s 0 ∧ bt s 0 ≤ 57 := hy.1 (by simpa using h0)
  have hw : w64 ((s.size : Int) - (1 : Int)) = ((s.size - 1 : Nat) : Int) := by rw [w64_id (by omega) (by omega)]; omega
  simp only [hw, Int.toNat_natCast]
  refine EvP.pos (by omega) (EvP.pos (by omega) (EvP.ite (fun hl => EvP.pos (by omega) (EvP.pos (by omega) ?_)) (fun hl => ?_)))
  · have h2 : 2 ≤ s.size := by
      rcases Nat.lt_or_ge 1 s.size with h2 | h2
      · exact h2
      · have : s.size - 1 = 0 := by omega
        rw [this] at hl
        omega
    have hb := spec_l4_ev 16 7 (.inr rfl) (by decide) (body s) (by rw [body_size]; omega)
    refine hb.mono ?_
    rintro _ rfl
    unfold ans
    rw [pickP_neg (p := IsDec s) (fun e => by
      have := e.2.2 (s.size - 1) (by omega)
      unfold Dig at this
      omega)]
    by_cases hh : IsHex s
    · rw [pickP_pos hh, pickP_pos ⟨hh.2.2.2.1, by rw [body_size]; have := hh.2.2.1; omega⟩]
    · rw [pickP_neg hh, pickP_neg fun e => hh ⟨hl, h2, by have := e.2; rw [body_size] at this; omega, e.1, hd⟩]
  · refine (spec_l4_ev 10 9 (.inl rfl) (by decide) s hs').mono ?_
    rintro _ rfl
    unfold ans
    rw [pickP_neg (p := IsHex s) fun e => hl e.1]
    by_cases hh : IsDec s
    · rw [pickP_pos hh, pickP_pos ⟨hh.2.2, hh.2.1⟩]
    · rw [pickP_neg hh, pickP_neg fun e => hh ⟨hpos, e.2, e.1⟩]

theorem cut_ev (s : ByteArray) (hs : s.size ≤ 1048576) : EvP (fun k => strings_CutSuffix.f k (s, (⟨#[72]⟩ : ByteArray), ())) (fun y => (y.2.1 = true ∧ y.1 = body s ∧ 1 ≤ s.size ∧ bt s (s.size - 1) = 72) ∨ (y.2.1 = false ∧ ¬ (1 ≤ s.size ∧ bt s (s.size - 1) = 72))) := by
  have e1 : (⟨#[72]⟩ : ByteArray).size = 1 := rfl
  simp only [strings_CutSuffix.f, internal_stringslite_CutSuffix.f]
  refine EvP.bind (R := fun y => (y.2.1 = true ∧ y.1 = body s ∧ 1 ≤ s.size ∧ bt s (s.size - 1) = 72) ∨ (y.2.1 = false ∧ ¬ (1 ≤ s.size ∧ bt s (s.size - 1) = 72))) ?_ ?_
  · refine EvP.bind (R := fun y => y.1 = true ↔ (1 ≤ s.size ∧ bt s (s.size - 1) = 72)) ?_ ?_
    · simp only [internal_stringslite_HasSuffix.f, decide_eq_true_eq, e1]
      refine EvP.ite (fun h => ?_) (fun h => EvP.ret ⟨fun e => (by cases e), fun e => by omega⟩)
      have hw : w64 ((s.size : Int) - ((1 : Nat) : Int)) = ((s.size - 1 : Nat) : Int) := by rw [w64_id (by omega) (by omega)]; omega
      simp only [hw, Int.toNat_natCast]
      refine EvP.pos (by omega) (EvP.pos (by omega) (EvP.ret ?_))
      simp only [beq_iff_eq, toList_eq]
      rw [last_iff s (by omega)]
      exact ⟨fun e => ⟨by omega, e⟩, fun e => e.2⟩
    · rintro ⟨y, _⟩ hy
      simp only [Bool.not_eq_true'] at hy ⊢
      refine EvP.ite (fun h => EvP.ret (.inr ⟨rfl, fun e => by rw [hy.2 e] at h; cases h⟩)) (fun h => ?_)
      have h1 := hy.1 (by simpa using h)
      have hw : w64 ((s.size : Int) - ((1 : Nat) : Int)) = ((s.size - 1 : Nat) : Int) := by rw [w64_id (by omega) (by omega)]; omega
      simp only [e1, hw, Int.toNat_natCast]
      exact EvP.pos (by omega) (EvP.pos (by omega) (EvP.ret (.inl ⟨rfl, rfl, h1⟩)))
  · rintro ⟨a, b, _⟩ h
    exact EvP.ret h

theorem number_ans (s : ByteArray) (hs : Fit .str s) : EvP (fun k => impl_NumberOf.f k (s, ())) (· = ans s) := by
  have hs' : s.size ≤ 1048576 := hs
  have tail : ∀ y1 : ByteArray × Bool × Unit, ((y1.2.1 = true ∧ y1.1 = body s ∧ 1 ≤ s.size ∧ bt s (s.size - 1) = 72) ∨ (y1.2.1 = false ∧ ¬ (1 ≤ s.size ∧ bt s (s.size - 1) = 72))) → ¬ IsDec s →
      EvP (fun k => (if y1.2.1 = true then ((impl_in.f k ((y1.1.size : Int), 1, 7, ())).bind fun y9 => (if y9.1 = true then ((impl_isNumeral.f k (y1.1, (⟨#[48, 49, 50, 51, 52, 53, 54, 55, 56, 57, 65, 66, 67, 68, 69, 70]⟩ : ByteArray), ())).bind fun y10 => (if y10.1 = true then (if (0 : Int) < (y1.1.size : Int) then ((impl_isDigit.f k ((bt y1.1 0), ())).bind fun y11 => (if y11.1 = true then ((strconv_ParseInt.f k (y1.1, 16, 64, ())).bind fun y12 => (some (y12.1, true, ()))) else (some (0, false, ())))) else none) else (some (0, false, ())))) else (some (0, false, ())))) else (some (0, false, ())))) (· = ans s) := by
    rintro ⟨t, c, _⟩ hc hno
    rcases hc with ⟨hc, ht, h1, hl⟩ | ⟨hc, hl⟩
    · simp only at hc ht
      subst hc ht
      refine EvP.pos rfl ?_
      have hbs := body_size (s := s)
      refine EvP.bind (in_ev _ _ _) ?_
      rintro ⟨y, _⟩ hy
      simp only at hy
      subst hy
      refine EvP.ite (fun h => ?_) (fun h => EvP.ret (ans_no hno fun e => h (decide_eq_true ⟨by have := e.2.1; omega, by have := e.2.2.1; omega⟩)))
      have hr : 1 ≤ ((body s).size : Int) ∧ ((body s).size : Int) ≤ 7 := of_decide_eq_true h
      refine EvP.bind (numeral_ev (body s) ⟨#[48, 49, 50, 51, 52, 53, 54, 55, 56, 57, 65, 66, 67, 68, 69, 70]⟩ 16 (by omega) ⟨by omega, by decide, by decide⟩ hex_mem) ?_
      rintro ⟨z, _⟩ hz
      simp only at hz
      refine EvP.ite (fun h2 => EvP.pos (by show (0 : Int) < ((body s).size : Int); omega) ?_) (fun h2 => EvP.ret (ans_no hno fun e => h2 (hz.2 e.2.2.2.1)))
      have hall := hz.1 h2
      have hb0 : bt (body s) 0 = bt s 0 := bt_extract s (by omega) (by omega)
      refine EvP.bind (isDigit_ev _) ?_
      rintro ⟨u, _⟩ hu
      simp only at hu
      rw [hb0] at hu
      refine EvP.ite (fun h3 => ?_) (fun h3 => EvP.ret (ans_no hno fun e => h3 (hu.2 e.2.2.2.2)))
      refine EvP.bind (parseInt_ev (body s) (by omega) (by omega) hall) ?_
      rintro _ rfl
      refine EvP.ret ?_
      unfold ans
      rw [pickP_neg hno, pickP_pos ⟨hl, by omega, by omega, hall, hu.1 h3⟩]
    · simp only at hc
      subst hc
      exact EvP.neg (fun e => by cases e) (EvP.ret (ans_no hno fun e => hl ⟨by have := e.2.1; omega, e.1⟩))
  simp only [impl_NumberOf.f]
  refine EvP.bind (cut_ev s hs') ?_
  intro y1 h1
  refine EvP.bind (in_ev _ _ _) ?_
  rintro ⟨y, _⟩ hy
  simp only at hy
  subst hy
  refine EvP.ite (fun h => ?_) (fun h => tail y1 h1 fun e => h (decide_eq_true ⟨by have := e.1; omega, by have := e.2.1; omega⟩))
  have hr : 1 ≤ (s.size : Int) ∧ (s.size : Int) ≤ 9 := of_decide_eq_true h
  refine EvP.bind (numeral_ev s ⟨#[48, 49, 50, 51, 52, 53, 54, 55, 56, 57]⟩ 10 hs' ⟨by omega, by decide, by decide⟩ dec_mem) ?_
  rintro ⟨z, _⟩ hz
  simp only at hz
  refine EvP.ite (fun h2 => ?_) (fun h2 => tail y1 h1 fun e => h2 (hz.2 e.2.2))
  have hall := hz.1 h2
  refine EvP.bind (atoi_ev s (by omega) (by omega) hall) ?_
  rintro _ rfl
  refine EvP.ret ?_
  unfold ans
  rw [pickP_pos ⟨by omega, by omega, hall⟩]

theorem l1In_ev (a b c : Int) : EvP (fun k => spec_l1In.f k (a, b, c, ())) (fun y => y.1 = decide (b ≤ a ∧ a ≤ c)) := by
  simp only [spec_l1In.f, decide_eq_true_eq]
  refine EvP.ite (fun h => EvP.ret ?_) (fun h => EvP.ret ?_)
  · simp only [ge_iff_le] at h; simp [h]
  · simp only [ge_iff_le] at h; simp [h]

def letter (b : Int) : Prop := (65 ≤ b ∧ b ≤ 90) ∨ (97 ≤ b ∧ b ≤ 122)
def digit (b : Int) : Prop := 48 ≤ b ∧ b ≤ 57

theorem isLetter_ev (b : Int) : EvP (fun k => impl_isLetter.f k (b, ())) (fun y => y.1 = true ↔ letter b) := by
  simp only [impl_isLetter.f, decide_eq_true_eq, letter]
  repeat' (first
    | (refine EvP.ret ?_; simp only [decide_eq_true_eq]; first | omega | (simp; omega))
    | (refine EvP.ite (fun _ => ?_) (fun _ => ?_)))

def good (x : ByteArray) (i : Nat) : Prop := letter (bt x i) ∨ (i ≠ 0 ∧ digit (bt x i))
def Named (x : ByteArray) : Prop := (∀ i < x.size, good x i) ∧ 1 ≤ x.size ∧ x.size ≤ 10

theorem spec_l1Name_ev (x : ByteArray) (hs : x.size ≤ 1048576) : EvP (fun k => spec_l1Name.f k (x, ())) (fun y => y.1 = true ↔ Named x) := by
  have loop := EvP.loop (L := spec_l1Name.l1) (Q := fun y => y.1 = true ↔ Named x) (fun j s => ∃ i : Nat, s = (x, (i : Int), ()) ∧ i ≤ x.size ∧ j = x.size - i ∧ ∀ p < i, good x p) ?_
  · simp only [spec_l1Name.f]
    exact loop _ _ ⟨0, rfl, Nat.zero_le _, rfl, fun p hp => absurd hp (Nat.not_lt_zero _)⟩
  · rintro j _ ⟨i, rfl, hi, rfl, hg⟩ ih
    simp only [spec_l1Name.l1, decide_eq_true_eq, Int.toNat_natCast, w64, IntKind.wrap_i64, Bool.not_eq_true', decide_eq_false_iff_not, beq_iff_eq]
    refine EvP.ite (fun hlt => EvP.pos (by omega) (EvP.pos (by omega) ?_)) (fun hge => ?_)
    · have hno : ¬ good x i → (((false, ()) : Bool × Unit).1 = true ↔ Named x) := fun h => ⟨fun e => (by cases e), fun hn => absurd (hn.1 i (by omega)) h⟩
      have hgo : good x i → EvP (fun k => spec_l1Name.l1 k (x, (((i : Int) + 1 + 9223372036854775808) % 18446744073709551616 - 9223372036854775808), ())) (fun y => y.1 = true ↔ Named x) := fun h => by
        refine ih (x.size - (i + 1)) _ (by omega) ⟨i + 1, ?_, by omega, rfl, fun p hp => ?_⟩
        · rw [show ((i + 1 : Nat) : Int) = ((i : Int) + 1 + 9223372036854775808) % 18446744073709551616 - 9223372036854775808 by omega]
        · rcases Nat.lt_or_ge p i with h2 | h2
          · exact hg p h2
          · obtain rfl : p = i := by omega
            exact h
      repeat' (first
        | (refine EvP.ite (fun _ => ?_) (fun _ => ?_))
        | (refine EvP.ret ?_; exact hno (by simp only [good, letter, digit]; omega))
        | (exact hgo (by simp only [good, letter, digit]; omega)))
    · refine EvP.bind (l1In_ev _ 1 10) ?_
      rintro ⟨y, _⟩ hy
      refine EvP.ret ?_
      simp only at hy
      subst hy
      simp only [decide_eq_true_eq]
      exact ⟨fun h => ⟨fun p hp => hg p (by omega), by omega, by omega⟩, fun h => by have := h.2; omega⟩


theorem rdS_mem {l : List ByteArray} {v : ByteArray} : v ∈ l ↔ ∃ p, p < l.length ∧ rdT .str l p = v := by
  constructor
  · intro h
    obtain ⟨p, hp, he⟩ := List.getElem_of_mem h
    exact ⟨p, hp, by rw [← he]; simp [rdT, List.getD, List.getElem?_eq_getElem hp]⟩
  · rintro ⟨p, hp, rfl⟩
    exact rdT_mem (t := .str) hp

theorem containsS_ev (l : List ByteArray) (v : ByteArray) (hl : l.length ≤ 1048576) : EvP (fun k => slices_Contains_string_string.f k (l, v, ())) (fun y => y.1 = true ↔ v ∈ l) := by
  simp only [slices_Contains_string_string.f]
  have hi : EvP (fun k => slices_Index_string_string.f k (l, v, ())) (fun y => 0 ≤ y.1 ↔ v ∈ l) := by
    simp only [slices_Index_string_string.f]
    refine EvP.scan (L := fun k i => slices_Index_string_string.l1 k (l, v, (l.length : Int), i, ())) l.length (fun p => ¬ v = rdT .str l p) (fun hall => ?_) (fun i hi hall hgo => ?_)
    · simp only [slices_Index_string_string.l1, decide_eq_true_eq]
      refine EvP.neg (by omega) (EvP.ret ⟨fun h => absurd h (by show ¬ (0 : Int) ≤ -1; decide), fun h => ?_⟩)
      obtain ⟨p, hp, h⟩ := rdS_mem.1 h
      exact absurd h.symm (hall p hp)
    · simp only [slices_Index_string_string.l1, decide_eq_true_eq, Int.toNat_natCast, next64 (show i ≤ 1099511627776 by omega), beq_iff_eq, toList_eq]
      refine EvP.pos (by omega) (EvP.pos (by omega) (EvP.pos (by omega) (EvP.ite (fun h => EvP.ret ⟨fun _ => rdS_mem.2 ⟨i, hi, h.symm⟩, fun _ => ?_⟩) (fun h => hgo h))))
      show (0 : Int) ≤ (i : Int)
      omega
  refine EvP.bind hi ?_
  rintro ⟨y, _⟩ hy
  refine EvP.ret ?_
  simpa using hy


def wordsL : List ByteArray := [(⟨#[77, 79, 68, 85, 76, 69]⟩ : ByteArray), (⟨#[73, 77, 80, 79, 82, 84]⟩ : ByteArray), (⟨#[67, 79, 78, 83, 84]⟩ : ByteArray), (⟨#[84, 89, 80, 69]⟩ : ByteArray), (⟨#[86, 65, 82]⟩ : ByteArray), (⟨#[80, 82, 79, 67]⟩ : ByteArray), (⟨#[85, 83, 69]⟩ : ByteArray), (⟨#[69, 78, 68]⟩ : ByteArray), (⟨#[65, 82, 82, 65, 89]⟩ : ByteArray), (⟨#[79, 70]⟩ : ByteArray), (⟨#[82, 69, 67, 79, 82, 68]⟩ : ByteArray), (⟨#[80, 79, 73, 78, 84, 69, 82]⟩ : ByteArray), (⟨#[84, 79]⟩ : ByteArray), (⟨#[68, 73, 86]⟩ : ByteArray), (⟨#[77, 79, 68]⟩ : ByteArray)]

theorem implWord_ev (s : ByteArray) : EvP (fun k => impl_IsWord.f k (s, ())) (fun y => y.1 = true ↔ s ∈ wordsL) := by
  simp only [impl_IsWord.f]
  refine EvP.bind (containsS_ev wordsL s (by decide)) ?_
  rintro ⟨y, _⟩ hy
  exact EvP.ret hy

theorem specWord_ev (s : ByteArray) : EvP (fun k => spec_IsWord.f k (s, ())) (fun y => y.1 = true ↔ s ∈ wordsL) := by
  simp only [spec_IsWord.f]
  refine EvP.bind (R := fun y => y.1 = wordsL) (EvP.ret rfl) ?_
  rintro ⟨L, _⟩ hL
  simp only at hL
  subst hL
  have hl : wordsL.length = 15 := rfl
  generalize wordsL = l at *
  refine EvP.scan (L := fun k i => spec_IsWord.l1 k (s, l, (l.length : Int), i, ())) l.length (fun p => ¬ rdT .str l p = s) (fun hall => ?_) (fun i hi hall hgo => ?_)
  · simp only [spec_IsWord.l1, decide_eq_true_eq]
    refine EvP.neg (by omega) (EvP.ret ⟨fun h => (by cases h), fun h => ?_⟩)
    obtain ⟨p, hp, h⟩ := rdS_mem.1 h
    exact absurd h (hall p hp)
  · simp only [spec_IsWord.l1, decide_eq_true_eq, Int.toNat_natCast, next64 (show i ≤ 1099511627776 by omega), beq_iff_eq, toList_eq]
    exact EvP.pos (by omega) (EvP.pos (by omega) (EvP.pos (by omega) (EvP.ite (fun h => EvP.ret ⟨fun _ => rdS_mem.2 ⟨i, hi, h⟩, fun _ => rfl⟩) (fun h => hgo h))))


def alnum (c : Int) : Prop := letter c ∨ digit c
def Sgn (c : Int) : Prop := c = 59 ∨ c = 44 ∨ c = 46 ∨ c = 58 ∨ c = 61 ∨ c = 42 ∨ c = 45 ∨ c = 43 ∨ c = 40 ∨ c = 41
def AllW (s : ByteArray) : Prop := 1 ≤ s.size ∧ ∀ j, j < s.size → alnum (bt s j)

/-- What a text is as a token: its kind and its value. -/
noncomputable def tok (s : ByteArray) : Option (Int × Int) :=
  pickP (s.size = 1 ∧ Sgn (bt s 0)) (some (4, 0)) (pickP (AllW s) (pickP (s ∈ wordsL) (some (2, 0)) (pickP (digit (bt s 0)) (pickP ((ans s).2.1 = true) (some (3, (ans s).1)) none) (pickP (s.size ≤ 10) (some (1, 0)) none))) none)

theorem tok_no {s : ByteArray} (h1 : ¬ (s.size = 1 ∧ Sgn (bt s 0))) (h2 : ¬ AllW s) : tok s = none := by
  unfold tok
  rw [pickP_neg h1, pickP_neg h2]

theorem sgn_not {c : Int} (h : Sgn c) : ¬ alnum c := by
  unfold Sgn at h
  unfold alnum letter digit
  omega

theorem words_first : ∀ w ∈ wordsL, ¬ (48 ≤ bt w 0 ∧ bt w 0 ≤ 57) := by
  intro w hw
  simp only [wordsL, List.mem_cons, List.not_mem_nil, or_false] at hw
  rcases hw with rfl | rfl | rfl | rfl | rfl | rfl | rfl | rfl | rfl | rfl | rfl | rfl | rfl | rfl | rfl <;> decide

theorem words_size : ∀ w ∈ wordsL, w.size ≤ 7 := by
  intro w hw
  simp only [wordsL, List.mem_cons, List.not_mem_nil, or_false] at hw
  rcases hw with rfl | rfl | rfl | rfl | rfl | rfl | rfl | rfl | rfl | rfl | rfl | rfl | rfl | rfl | rfl <;> decide

theorem ans_size {s : ByteArray} (h : (ans s).2.1 = true) : s.size ≤ 9 := by
  unfold ans at h
  by_cases h1 : IsDec s
  · exact h1.2.1
  · rw [pickP_neg h1] at h
    by_cases h2 : IsHex s
    · have := h2.2.2.1; omega
    · rw [pickP_neg h2] at h; cases h

theorem tok_big {s : ByteArray} (h : 10 < s.size) : tok s = none := by
  unfold tok
  rw [pickP_neg (fun e => by omega)]
  by_cases h1 : AllW s
  · rw [pickP_pos h1, pickP_neg (fun e => by have := words_size s e; omega), pickP_neg (p := s.size ≤ 10) (by omega), pickP_neg (p := (ans s).2.1 = true) (fun e => by have := ans_size e; omega)]
    by_cases h2 : digit (bt s 0)
    · rw [pickP_pos h2]
    · rw [pickP_neg h2]
  · rw [pickP_neg h1]

theorem tok_empty {s : ByteArray} (h : s.size = 0) : tok s = none := tok_no (fun e => by omega) (fun e => by have := e.1; omega)

def WL (s : ByteArray) (n : Nat) : Prop := n ≤ s.size ∧ (∀ j, j < n → alnum (bt s j)) ∧ (n < s.size → ¬ alnum (bt s n))

theorem WL.part {s : ByteArray} {n : Nat} (h : WL s n) (h1 : 1 ≤ n) (h2 : n < s.size) : tok s = none :=
  tok_no (fun e => sgn_not e.2 (h.2.1 0 (by omega))) (fun e => h.2.2 h2 (e.2 n h2))

theorem WL.all {s : ByteArray} {n : Nat} (h : WL s n) (h1 : 1 ≤ n) (h2 : n = s.size) : AllW s ∧ ¬ (s.size = 1 ∧ Sgn (bt s 0)) :=
  ⟨⟨by omega, fun j hj => h.2.1 j (by omega)⟩, fun e => sgn_not e.2 (h.2.1 0 (by omega))⟩

theorem extract_all (s : ByteArray) : s.extract 0 s.size = s := by
  apply ByteArray.ext
  rw [ByteArray.data_extract]
  exact Array.extract_eq_self_of_le (Nat.le_refl _)

theorem l2Letter_ev (c : Int) : EvP (fun k => spec_l2Letter.f k (c, ())) (fun y => y.1 = true ↔ letter c) := by
  simp only [spec_l2Letter.f, decide_eq_true_eq, letter]
  refine EvP.ite (fun h => EvP.ite (fun h2 => EvP.ret ?_) (fun h2 => EvP.ite (fun h3 => EvP.ret ?_) (fun h3 => EvP.ret ?_))) (fun h => EvP.ite (fun h3 => EvP.ret ?_) (fun h3 => EvP.ret ?_)) <;> simp <;> omega

def signsB : ByteArray := ⟨#[59, 44, 46, 58, 61, 42, 45, 43, 40, 41]⟩
instance (c : Int) : Decidable (Sgn c) := inferInstanceAs (Decidable (_ ∨ _))

theorem sgn_iff (c : Int) : Sgn c ↔ ∃ p, p < 10 ∧ bt signsB p = c := by
  constructor
  · rintro (h | h | h | h | h | h | h | h | h | h) <;> subst h
    · exact ⟨0, by decide, by decide⟩
    · exact ⟨1, by decide, by decide⟩
    · exact ⟨2, by decide, by decide⟩
    · exact ⟨3, by decide, by decide⟩
    · exact ⟨4, by decide, by decide⟩
    · exact ⟨5, by decide, by decide⟩
    · exact ⟨6, by decide, by decide⟩
    · exact ⟨7, by decide, by decide⟩
    · exact ⟨8, by decide, by decide⟩
    · exact ⟨9, by decide, by decide⟩
  · rintro ⟨p, hp, rfl⟩
    have : ∀ p, p < 10 → Sgn (bt signsB p) := by decide
    exact this p hp

theorem l2Sign_ev (c : Int) : EvP (fun k => spec_l2Sign.f k (c, ())) (fun y => y.1 = true ↔ Sgn c) := by
  simp only [spec_l2Sign.f]
  refine EvP.scan (L := fun k i => spec_l2Sign.l1 k (c, i, ())) 10 (fun p => ¬ bt signsB p = c) (fun hall => ?_) (fun i hi hall hgo => ?_)
  · simp only [spec_l2Sign.l1, decide_eq_true_eq]
    refine EvP.neg (by omega) (EvP.ret ⟨fun h => (by cases h), fun h => ?_⟩)
    obtain ⟨p, hp, h⟩ := (sgn_iff c).1 h
    exact absurd h (hall p hp)
  · simp only [spec_l2Sign.l1, decide_eq_true_eq, Int.toNat_natCast, next64 (show i ≤ 1099511627776 by omega), beq_iff_eq]
    exact EvP.pos (by omega) (EvP.pos (by omega) (EvP.pos (by omega) (EvP.ite (fun h => EvP.ret ⟨fun _ => (sgn_iff c).2 ⟨i, hi, h⟩, fun _ => rfl⟩) (fun h => hgo h))))

set_option maxRecDepth 100000 in
theorem idx_nat : ∀ n, n < 256 → decide (0 ≤ Lib.indexByte signsB.data.toList (UInt8.ofNat n)) = decide (Sgn (n : Int)) := by decide

theorem idx_sgn (s : ByteArray) (i : Nat) : 0 ≤ idxOf signsB (bt s i) ↔ Sgn (bt s i) := by
  have hb : (s.data.getD i 0).toNat < 256 := (s.data.getD i 0).toNat_lt
  have h := idx_nat _ hb
  simp only [decide_eq_decide, UInt8.ofNat_toNat] at h
  unfold idxOf
  have e : (bt s i).toNat.toUInt8 = s.data.getD i 0 := by
    unfold bt
    simp
  rw [e]
  exact h

theorem wordLong_ev (s : ByteArray) (hs : s.size ≤ 1048576) : EvP (fun k => impl_wordLong.f k (s, ())) (fun y => ∃ n : Nat, y.1 = (n : Int) ∧ WL s n) := by
  simp only [impl_wordLong.f]
  have loop := EvP.loop (L := impl_wordLong.l1) (Q := fun y => ∃ n : Nat, y.1 = (n : Int) ∧ WL s n) (fun j st => ∃ i : Nat, st = (s, (i : Int), ()) ∧ i ≤ s.size ∧ j = s.size - i ∧ ∀ p < i, alnum (bt s p)) ?_
  · exact loop _ _ ⟨0, rfl, Nat.zero_le _, rfl, fun p hp => absurd hp (Nat.not_lt_zero _)⟩
  · rintro j _ ⟨i, rfl, hi, rfl, hg⟩ ih
    simp only [impl_wordLong.l1, decide_eq_true_eq, Int.toNat_natCast, next64 (show i ≤ 1099511627776 by omega)]
    have more : i < s.size → alnum (bt s i) → EvP (fun k => impl_wordLong.l1 k (s, ((i + 1 : Nat) : Int), ())) (fun y => ∃ n : Nat, y.1 = (n : Int) ∧ WL s n) := fun hlt ha => ih (s.size - (i + 1)) _ (by omega) ⟨i + 1, rfl, by omega, rfl, fun p hp => by
      rcases Nat.lt_or_ge p i with h2 | h2
      · exact hg p h2
      · obtain rfl : p = i := by omega
        exact ha⟩
    refine EvP.ite (fun hlt => EvP.pos (by omega) (EvP.pos hlt ?_)) (fun hge => EvP.ret ⟨i, rfl, hi, hg, fun h => by omega⟩)
    refine EvP.bind (isLetter_ev _) ?_
    rintro ⟨y, _⟩ hy
    refine EvP.ite (fun h => more (by omega) (.inl (hy.1 h))) (fun h => EvP.pos (by omega) (EvP.pos hlt ?_))
    refine EvP.bind (isDigit_ev _) ?_
    rintro ⟨z, _⟩ hz
    refine EvP.ite (fun h2 => more (by omega) (.inr (hz.1 h2))) (fun h2 => EvP.ret ⟨i, rfl, hi, hg, fun _ e => ?_⟩)
    rcases e with e | e
    · exact h (hy.2 e)
    · exact h2 (hz.2 e)

/-- What the reference's one token says of a text. -/
def OneQ (s : ByteArray) (y : TToken.D × Int × Unit) : Prop :=
  ((0 : Int) < y.2.1 ∧ tok s = none) ∨ (¬ (0 : Int) < y.2.1 ∧ ((y.1.2.1 ≠ s ∧ tok s = none) ∨ (y.1.2.1 = s ∧ tok s = some (y.1.1, y.1.2.2.1))))

theorem OneQ.no {s : ByteArray} {y : TToken.D × Int × Unit} (h : tok s = none) (h2 : y.1.2.1 ≠ s) : OneQ s y := by
  by_cases hc : (0 : Int) < y.2.1
  · exact .inl ⟨hc, h⟩
  · exact .inr ⟨hc, .inl ⟨h2, h⟩⟩

theorem part_ne {s : ByteArray} {n : Nat} (h : n < s.size) : s.extract 0 n ≠ s := fun e => by
  have := ext_size s 0 n (by omega)
  rw [e] at this
  omega

theorem named_word {s : ByteArray} (h : AllW s) (hl : letter (bt s 0)) : Named s ↔ s.size ≤ 10 := by
  refine ⟨fun e => e.2.2, fun e => ⟨fun i hi => ?_, h.1, e⟩⟩
  rcases h.2 i hi with h1 | h1
  · exact .inl h1
  · by_cases h0 : i = 0
    · subst h0; exact .inl hl
    · exact .inr ⟨h0, h1⟩

theorem zz3 : (0 : Int) < 3 := by decide
theorem zz4 : (0 : Int) < 4 := by decide
theorem EvP.of_eq {α : Type} {f g : Nat → Option α} {Q : α → Prop} (h : EvP f Q) (e : ∀ k, g k = f k) : EvP g Q := by
  obtain ⟨n, a, h1, h2⟩ := h
  exact ⟨n, a, fun k hk => by rw [e, h1 k hk], h2⟩
theorem zz0 : ¬ (0 : Int) < 0 := by decide

theorem one_tail (s : ByteArray) (hs : s.size ≤ 1048576) (n : Nat) (h1 : 1 ≤ n) (hw : WL s n) :
    EvP (fun k => ((spec_l2Letter.f k ((bt s 0), ())).bind fun y11 => (if y11.1 = true then ((spec_IsWord.f k ((s.extract 0 n), ())).bind fun y12 => (if y12.1 = true then (some ((2, ((s.extract 0 n), (0, 0))), 0, ())) else ((spec_l1Name.f k ((s.extract 0 n), ())).bind fun y13 => (if (!y13.1) = true then (some ((1, ((s.extract 0 n), (0, 0))), 3, ())) else (some ((1, ((s.extract 0 n), (0, 0))), 0, ())))))) else (if (0 : Int) < (s.size : Int) then ((spec_l2Digit.f k ((bt s 0), ())).bind fun y14 => (if y14.1 = true then ((spec_l2Number.f k ((s.extract 0 n), ())).bind fun y15 => (if (!y15.2.1) = true then (some ((4, ((s.extract 0 n), (0, 0))), 3, ())) else (some ((3, ((s.extract 0 n), (y15.1, 0))), 0, ())))) else (if (0 : Int) < (s.size : Int) then ((spec_l2Sign.f k ((bt s 0), ())).bind fun y16 => (if (!y16.1) = true then (some ((4, ((s.extract 0 n), (0, 0))), 4, ())) else (some ((4, ((s.extract 0 n), (0, 0))), 0, ())))) else none))) else none))) : Nat → Option (TToken.D × Int × Unit)) (OneQ s) := by
  have hn := hw.1
  refine EvP.bind (l2Letter_ev _) ?_
  rintro ⟨y, _⟩ hy
  rcases Nat.lt_or_ge n s.size with hlt | hge
  · have no := hw.part h1 hlt
    have ne := part_ne hlt
    have hsz : (s.extract 0 n).size ≤ 1048576 := by rw [ext_size s 0 n hn]; omega
    refine EvP.ite (fun h => ?_) (fun h => EvP.pos (by omega) ?_)
    · refine EvP.bind (specWord_ev _) ?_
      rintro ⟨y2, _⟩ _
      refine EvP.ite (fun _ => EvP.ret (.no no ne)) (fun _ => ?_)
      refine EvP.bind (spec_l1Name_ev _ hsz) ?_
      rintro ⟨y3, _⟩ _
      exact EvP.ite (fun _ => EvP.ret (.no no ne)) (fun _ => EvP.ret (.no no ne))
    · refine EvP.bind (l2Digit_ev _) ?_
      rintro ⟨y2, _⟩ hy2
      refine EvP.ite (fun h => ?_) (fun h => EvP.pos (by omega) ?_)
      · refine EvP.bind (l2Number_ev _ hsz) ?_
        rintro _ rfl
        exact EvP.ite (fun _ => EvP.ret (.no no ne)) (fun _ => EvP.ret (.no no ne))
      · refine EvP.bind (l2Sign_ev _) ?_
        rintro ⟨y3, _⟩ _
        exact EvP.ite (fun _ => EvP.ret (.no no ne)) (fun _ => EvP.ret (.no no ne))
  · obtain rfl : n = s.size := by omega
    obtain ⟨ha, hns⟩ := hw.all h1 rfl
    rw [extract_all]
    refine EvP.ite (fun h => ?_) (fun h => EvP.pos (by omega) ?_)
    · have hl := hy.1 h
      have hnd : ¬ digit (bt s 0) := by
        unfold letter at hl
        unfold digit
        omega
      refine EvP.bind (specWord_ev _) ?_
      rintro ⟨y2, _⟩ hy2
      refine EvP.ite (fun h2 => EvP.ret (.inr ⟨zz0, .inr ⟨rfl, ?_⟩⟩)) (fun h2 => ?_)
      · unfold tok
        rw [pickP_neg hns, pickP_pos ha, pickP_pos (hy2.1 h2)]
      · have hnw : s ∉ wordsL := fun e => h2 (hy2.2 e)
        refine EvP.bind (spec_l1Name_ev _ hs) ?_
        rintro ⟨y3, _⟩ hy3
        simp only at hy3
        rw [named_word ha hl] at hy3
        refine EvP.ite (fun h3 => EvP.ret (.inl ⟨zz3, ?_⟩)) (fun h3 => EvP.ret (.inr ⟨zz0, .inr ⟨rfl, ?_⟩⟩))
        · unfold tok
          rw [pickP_neg hns, pickP_pos ha, pickP_neg hnw, pickP_neg hnd, pickP_neg]
          intro e
          have := hy3.2 e
          subst this; cases h3
        · unfold tok
          rw [pickP_neg hns, pickP_pos ha, pickP_neg hnw, pickP_neg hnd, pickP_pos]
          exact hy3.1 (by cases y3 <;> simp_all)
    · refine EvP.bind (l2Digit_ev _) ?_
      rintro ⟨y2, _⟩ hy2
      have hd : digit (bt s 0) := by
        rcases ha.2 0 (by omega) with e | e
        · exact absurd (hy.2 e) h
        · exact e
      refine EvP.pos (hy2.2 hd) ?_
      have hnw : s ∉ wordsL := fun e => words_first s e hd
      refine EvP.bind (l2Number_ev _ hs) ?_
      rintro _ rfl
      refine EvP.ite (fun h3 => EvP.ret (.inl ⟨zz3, ?_⟩)) (fun h3 => EvP.ret (.inr ⟨zz0, .inr ⟨rfl, ?_⟩⟩))
      · unfold tok
        rw [pickP_neg hns, pickP_pos ha, pickP_neg hnw, pickP_pos hd, pickP_neg]
        intro e
        rw [e] at h3; cases h3
      · unfold tok
        rw [pickP_neg hns, pickP_pos ha, pickP_neg hnw, pickP_pos hd, pickP_pos]
        cases hc : (ans s).2.1 with
        | true => rfl
        | false => rw [hc] at h3; exact absurd rfl h3

theorem l2One_ev (s : ByteArray) (hs : s.size ≤ 1048576) (hp : 1 ≤ s.size) : EvP (fun k => spec_l2One.f k (s, 0, ())) (OneQ s) := by
  have loop := EvP.loop (L := spec_l2One.l2) (Q := OneQ s) (fun j st => ∃ (i : Nat) (q : Int × ByteArray × Int × Int × Unit) (r : ByteArray), st = (s, 0, q, (i : Int), (4, (r, (0, (0, ())))), ()) ∧ 1 ≤ i ∧ i ≤ s.size ∧ j = s.size - i ∧ ∀ p < i, alnum (bt s p)) ?_
  · simp only [spec_l2One.f, Int.toNat_zero]
    have go : alnum (bt s 0) → EvP (fun k => spec_l2One.l2 k (s, 0, (0, (ByteArray.empty, (0, (0, ())))), (w64 (0 + (1 : Int))), (4, (ByteArray.empty, (0, (0, ())))), ())) (OneQ s) := fun h => loop (s.size - 1) _ ⟨1, _, _, rfl, Nat.le_refl _, hp, rfl, fun p hp => by
      obtain rfl : p = 0 := by omega
      exact h⟩
    refine EvP.pos (by omega) (EvP.pos (by omega) ?_)
    refine EvP.bind (l2Letter_ev _) ?_
    rintro ⟨y, _⟩ hy
    refine EvP.ite (fun h => go (.inl (hy.1 h))) (fun h => EvP.pos (by omega) (EvP.pos (by omega) ?_))
    refine EvP.bind (l2Digit_ev _) ?_
    rintro ⟨y2, _⟩ hy2
    refine EvP.ite (fun h2 => go (.inr (hy2.1 h2))) (fun h2 => ?_)
    have hna : ¬ alnum (bt s 0) := fun e => by
      rcases e with e | e
      · exact h (hy.2 e)
      · exact h2 (hy2.2 e)
    have e1 : w64 (0 + (1 : Int)) = 1 := rfl
    simp only [e1, show (1 : Int).toNat = 1 from rfl]
    refine EvP.pos (by omega) (EvP.pos (by omega) (EvP.pos (by omega) (EvP.pos (by omega) (EvP.pos (by omega) (EvP.pos (by omega) ?_)))))
    have es : (s.extract 0 1).size = 1 := ext_size s 0 1 (by omega)
    refine EvP.bind (l2Letter_ev _) ?_
    rintro ⟨y3, _⟩ hy3
    refine EvP.neg (fun e => hna (.inl (hy3.1 e))) (EvP.pos (by omega) (EvP.pos (by omega) ?_))
    refine EvP.bind (l2Digit_ev _) ?_
    rintro ⟨y4, _⟩ hy4
    refine EvP.neg (fun e => hna (.inr (hy4.1 e))) (EvP.pos (by omega) (EvP.pos (by omega) ?_))
    refine EvP.bind (l2Sign_ev _) ?_
    rintro ⟨y5, _⟩ hy5
    have hnw : ¬ AllW s := fun e => hna (e.2 0 (by omega))
    refine EvP.ite (fun h3 => EvP.ret (.inl ⟨zz4, ?_⟩)) (fun h3 => EvP.ret (.inr ⟨zz0, ?_⟩))
    · refine tok_no (fun e => ?_) hnw
      have := hy5.2 e.2
      subst this; cases h3
    · have hsg : Sgn (bt s 0) := hy5.1 (by cases y5 <;> simp_all)
      by_cases h1 : s.size = 1
      · refine .inr ⟨?_, ?_⟩
        · show s.extract 0 1 = s
          rw [← h1]
          exact extract_all s
        · unfold tok
          rw [pickP_pos ⟨h1, hsg⟩]
      · exact .inl ⟨part_ne (by omega), tok_no (fun e => h1 e.1) hnw⟩
  · rintro j _ ⟨i, q, r, rfl, h1, hi, rfl, hg⟩ ih
    simp only [spec_l2One.l2, decide_eq_true_eq, Int.toNat_natCast, Int.toNat_zero, next64 (show i ≤ 1099511627776 by omega)]
    have more : i < s.size → alnum (bt s i) → EvP (fun k => spec_l2One.l2 k (s, 0, (q.1, (q.2.1, (q.2.2.1, (q.2.2.2.1, ())))), ((i + 1 : Nat) : Int), (4, (r, (0, (0, ())))), ())) (OneQ s) := fun hlt ha => ih (s.size - (i + 1)) _ (by omega) ⟨i + 1, _, _, rfl, by omega, by omega, rfl, fun p hp => by
      rcases Nat.lt_or_ge p i with h2 | h2
      · exact hg p h2
      · obtain rfl : p = i := by omega
        exact ha⟩
    have fin : WL s i → _ := one_tail s hs i h1
    refine EvP.ite (fun hlt => EvP.pos (by omega) (EvP.pos hlt ?_)) (fun hge => ?_)
    · refine EvP.bind (l2Letter_ev _) ?_
      rintro ⟨y, _⟩ hy
      refine EvP.ite (fun h => more (by omega) (.inl (hy.1 h))) (fun h => EvP.pos (by omega) (EvP.pos hlt ?_))
      refine EvP.bind (l2Digit_ev _) ?_
      rintro ⟨y2, _⟩ hy2
      refine EvP.ite (fun h2 => more (by omega) (.inr (hy2.1 h2))) (fun h2 => ?_)
      refine EvP.pos (by omega) (EvP.pos (by omega) (EvP.pos (by omega) (EvP.pos (by omega) (EvP.pos (by omega) (EvP.pos (by omega) ?_)))))
      refine EvP.mono (EvP.of_eq (fin ⟨by omega, hg, fun _ e => ?_⟩) fun k => ?_) fun _ h => h
      · rcases e with e | e
        · exact h (hy.2 e)
        · exact h2 (hy2.2 e)
      · simp only [Int.le_refl, show (0 : Int) < (s.size : Int) by omega, if_true]
    · refine EvP.pos (by omega) (EvP.pos (by omega) (EvP.pos (by omega) (EvP.pos (by omega) (EvP.pos (by omega) (EvP.pos (by omega) ?_)))))
      refine EvP.mono (EvP.of_eq (fin ⟨by omega, hg, fun h => by omega⟩) fun k => ?_) fun _ h => h
      simp only [Int.le_refl, show (0 : Int) < (s.size : Int) by omega, if_true]

/-- What the program's reader tells of the token at the beginning of a text. -/
def AtQ (u : ByteArray) (y : TToken.D × Int × Int × Unit) : Prop :=
  (y.2.2.1 ≠ 0 ∧ tok u = none) ∨ (y.2.2.1 = 0 ∧ ∃ n : Nat, y.2.1 = (n : Int) ∧ 1 ≤ n ∧ n ≤ u.size ∧ y.1.2.1 = u.extract 0 n ∧ (n < u.size → tok u = none) ∧ (n = u.size → tok u = some (y.1.1, y.1.2.2.1)))

theorem ne3 : (3 : Int) ≠ 0 := by decide
theorem ne4 : (4 : Int) ≠ 0 := by decide

theorem tokenAt_ev (u : ByteArray) (hs : u.size ≤ 1048576) (hp : 1 ≤ u.size) : EvP (fun k => impl_tokenAt.f k (u, ())) (AtQ u) := by
  simp only [impl_tokenAt.f, strings_IndexByte.f, stringslite_IndexByte.f, decide_eq_true_eq, beq_iff_eq]
  refine EvP.pos (by omega) ?_
  refine EvP.bind (R := fun y => 0 ≤ y.1 ↔ Sgn (bt u 0)) (EvP.ret (idx_sgn u 0)) ?_
  rintro ⟨y, _⟩ hy
  simp only at hy
  refine EvP.ite (fun h => EvP.pos (by omega) (EvP.ret (.inr ⟨rfl, 1, rfl, Nat.le_refl _, hp, rfl, fun h1 => ?_, fun h1 => ?_⟩))) (fun h => ?_)
  · exact tok_no (fun e => by omega) (fun e => sgn_not (hy.1 h) (e.2 0 (by omega)))
  · unfold tok
    rw [pickP_pos ⟨h1.symm, hy.1 h⟩]
  have hns : ¬ Sgn (bt u 0) := fun e => h (hy.2 e)
  refine EvP.bind (wordLong_ev u hs) ?_
  rintro ⟨_, _⟩ ⟨n, rfl, hw⟩
  have hn := hw.1
  refine EvP.pos (by omega) (EvP.pos (by show (n : Int) ≤ _; omega) (EvP.ite (fun h0 => EvP.ret (.inl ⟨ne4, ?_⟩)) (fun h0 => ?_)))
  · have h0' : (n : Int) = 0 := h0
    obtain rfl : n = 0 := by omega
    exact tok_no (fun e => hns e.2) (fun e => hw.2.2 (by omega) (e.2 0 (by omega)))
  have h1 : 1 ≤ n := by
    have h0' : ¬ (n : Int) = 0 := h0
    omega
  simp only [Int.toNat_natCast]
  have hsz : (u.extract 0 n).size ≤ 1048576 := by rw [ext_size u 0 n hn]; omega
  refine EvP.bind (implWord_ev _) ?_
  rintro ⟨y2, _⟩ hy2
  simp only at hy2
  refine EvP.ite (fun h2 => EvP.ret (.inr ⟨rfl, n, rfl, h1, hn, rfl, fun e => hw.part h1 e, fun e => ?_⟩)) (fun h2 => EvP.pos (by omega) ?_)
  · subst e
    obtain ⟨ha, hns2⟩ := hw.all h1 rfl
    rw [extract_all] at hy2
    unfold tok
    rw [pickP_neg hns2, pickP_pos ha, pickP_pos (hy2.1 h2)]
  refine EvP.bind (isDigit_ev _) ?_
  rintro ⟨y3, _⟩ hy3
  simp only at hy3
  refine EvP.ite (fun h3 => ?_) (fun h3 => ?_)
  · refine EvP.bind (number_ans _ hsz) ?_
    rintro _ rfl
    refine EvP.ite (fun h4 => EvP.ret (.inl ⟨ne3, ?_⟩)) (fun h4 => EvP.ret (.inr ⟨rfl, n, rfl, h1, hn, rfl, fun e => hw.part h1 e, fun e => ?_⟩))
    · rcases Nat.lt_or_ge n u.size with e | e
      · exact hw.part h1 e
      · obtain rfl : n = u.size := by omega
        obtain ⟨ha, hns2⟩ := hw.all h1 rfl
        rw [extract_all] at hy2 h4
        unfold tok
        rw [pickP_neg hns2, pickP_pos ha, pickP_neg (fun e => h2 (hy2.2 e)), pickP_pos (show digit (bt u 0) from hy3.1 h3), pickP_neg]
        intro e
        rw [e] at h4; cases h4
    · subst e
      obtain ⟨ha, hns2⟩ := hw.all h1 rfl
      rw [extract_all] at hy2 h4 ⊢
      unfold tok
      rw [pickP_neg hns2, pickP_pos ha, pickP_neg (fun e => h2 (hy2.2 e)), pickP_pos (show digit (bt u 0) from hy3.1 h3), pickP_pos]
      cases hc : (ans u).2.1 with
      | true => rfl
      | false => rw [hc] at h4; exact absurd rfl h4
  · have hnd : ¬ digit (bt u 0) := fun e => h3 (hy3.2 e)
    refine EvP.ite (fun h4 => EvP.ret (.inl ⟨ne3, ?_⟩)) (fun h4 => EvP.ret (.inr ⟨rfl, n, rfl, h1, hn, rfl, fun e => hw.part h1 e, fun e => ?_⟩))
    · have h4' : (n : Int) > 10 := h4
      exact tok_big (by omega)
    · subst e
      have h4' : ¬ ((u.size : Nat) : Int) > 10 := h4
      obtain ⟨ha, hns2⟩ := hw.all h1 rfl
      rw [extract_all] at hy2
      unfold tok
      rw [pickP_neg hns2, pickP_pos ha, pickP_neg (fun e => h2 (hy2.2 e)), pickP_neg hnd, pickP_pos (show u.size ≤ 10 by omega)]

theorem remark_ev (u : ByteArray) (hs : u.size ≤ 1048576) : EvP (fun k => impl_remark.f k (u, ())) (fun y => y.1 = 0 ∨ ∃ n : Nat, y.1 = (n : Int) ∧ 1 ≤ n ∧ n ≤ u.size) := by
  simp only [impl_remark.f]
  have loop := EvP.loop (L := impl_remark.l1) (Q := fun y => y.1 = 0 ∨ ∃ n : Nat, y.1 = (n : Int) ∧ 1 ≤ n ∧ n ≤ u.size) (fun j st => ∃ (i : Nat) (d : Int), st = (u, d, (i : Int), ()) ∧ i ≤ u.size ∧ j = u.size - i) ?_
  · exact loop _ _ ⟨0, 0, rfl, Nat.zero_le _, rfl⟩
  · rintro j _ ⟨i, d, rfl, hi, rfl⟩ ih
    have e2 : w64 ((i : Int) + 2) = ((i + 2 : Nat) : Int) := by rw [w64_id (by omega) (by omega)]; omega
    simp only [impl_remark.l1, decide_eq_true_eq, next64 (show i ≤ 1099511627776 by omega), next64 (show i + 1 ≤ 1099511627776 by omega), e2]
    refine EvP.ite (fun hlt => EvP.pos (by omega) (EvP.pos (by omega) (EvP.pos (by omega) (EvP.pos (by omega) ?_)))) (fun _ => EvP.ret (.inl rfl))
    refine EvP.ite (fun _ => EvP.ite (fun _ => EvP.ret (.inr ⟨i + 1 + 1, rfl, by omega, by omega⟩)) (fun _ => ih (u.size - (i + 1 + 1)) _ (by omega) ⟨i + 1 + 1, _, rfl, by omega, rfl⟩)) (fun _ => ?_)
    refine EvP.ite (fun _ => EvP.ite (fun _ => EvP.ret (.inr ⟨i + 1 + 1, rfl, by omega, by omega⟩)) (fun _ => ih (u.size - (i + 1 + 1)) _ (by omega) ⟨i + 1 + 1, _, rfl, by omega, rfl⟩)) (fun _ => ?_)
    exact EvP.ite (fun _ => EvP.ret (.inr ⟨i + 1, rfl, by omega, by omega⟩)) (fun _ => ih (u.size - (i + 1)) _ (by omega) ⟨i + 1, _, rfl, by omega, rfl⟩)

theorem remarkHead_ev (u : ByteArray) (hs : u.size ≤ 1048576) : EvP (fun k => strings_HasPrefix.f k (u, (⟨#[40, 42]⟩ : ByteArray), ())) (fun y => y.1 = true → tok u = none) := by
  simp only [strings_HasPrefix.f]
  refine EvP.bind (R := fun y => y.1 = true → tok u = none) ?_ ?_
  · simp only [internal_stringslite_HasPrefix.f, decide_eq_true_eq]
    have e1 : ((⟨#[40, 42]⟩ : ByteArray).size : Int) = 2 := rfl
    simp only [e1, show (2 : Int).toNat = 2 from rfl]
    refine EvP.ite (fun h => EvP.pos (by omega) (EvP.pos (by omega) (EvP.ret fun e => ?_))) (fun _ => EvP.ret fun e => by cases e)
    simp only [beq_iff_eq, toList_eq] at e
    have h0 : bt u 0 = 40 := by
      rw [← bt_extract u (n := 2) (by omega) (by omega), e]
      decide
    exact tok_no (fun e2 => by omega) (fun e2 => by
      have := e2.2 0 (by omega)
      rw [h0] at this
      unfold alnum letter digit at this
      omega)
  · rintro ⟨y, _⟩ hy
    exact EvP.ret hy

theorem drop_size (s : ByteArray) {i : Nat} (h : i ≤ s.size) : (s.extract i s.size).size = s.size - i := ext_size s i s.size (Nat.le_refl _)

def Late (s : ByteArray) (y : List TToken.D × Int × Int × Unit) : Prop := y.2.1 = 0 → ∀ t ∈ y.1, (t.2.1 : ByteArray).size < s.size

/-- Behind its first byte no token of a text is the text. -/
theorem read_late (s : ByteArray) (hs : s.size ≤ 1200) : ∀ (i : Nat) (out : List TToken.D), 1 ≤ i → i ≤ s.size → out.length ≤ i → (∀ t ∈ out, (t.2.1 : ByteArray).size < s.size) →
    EvP (fun k => impl_readTokens.l2 k (s, out, (i : Int), ())) (Late s) := by
  have loop := EvP.loop (L := impl_readTokens.l2) (Q := Late s) (fun j st => ∃ (i : Nat) (out : List TToken.D), st = (s, out, (i : Int), ()) ∧ 1 ≤ i ∧ i ≤ s.size ∧ j = s.size - i ∧ out.length ≤ i ∧ ∀ t ∈ out, (t.2.1 : ByteArray).size < s.size) ?_
  · exact fun i out h1 h2 h3 h4 => loop _ _ ⟨i, out, rfl, h1, h2, rfl, h3, h4⟩
  · rintro j _ ⟨i, out, rfl, h1, hi, rfl, hl, hall⟩ ih
    simp only [impl_readTokens.l2, decide_eq_true_eq, Int.toNat_natCast, next64 (show i ≤ 1099511627776 by omega), beq_iff_eq, bne_iff_ne]
    refine EvP.ite (fun hlt => EvP.pos (by omega) (EvP.pos hlt ?_)) (fun hge => EvP.ite (fun _ => EvP.ret fun e => by cases e) (fun _ => EvP.ret fun _ => hall))
    have hil : i < s.size := by omega
    have next : EvP (fun k => impl_readTokens.l2 k (s, out, ((i + 1 : Nat) : Int), ())) (Late s) := ih (s.size - (i + 1)) _ (by omega) ⟨i + 1, out, rfl, by omega, by omega, rfl, by omega, hall⟩
    refine EvP.ite (fun _ => next) (fun _ => EvP.pos (by omega) (EvP.pos hlt (EvP.ite (fun _ => next) (fun _ => EvP.pos (by omega) (EvP.pos (by omega) ?_)))))
    have hd := drop_size s hi
    refine EvP.bind (remarkHead_ev _ (by omega)) ?_
    rintro ⟨y, _⟩ _
    refine EvP.ite (fun _ => EvP.pos (by omega) (EvP.pos (by omega) ?_)) (fun _ => EvP.pos (by omega) (EvP.pos (by omega) ?_))
    · refine EvP.bind (remark_ev _ (by omega)) ?_
      rintro ⟨z, _⟩ hz
      simp only at hz
      refine EvP.ite (fun _ => EvP.ret fun e => by cases e) (fun h0 => ?_)
      rcases hz with hz | ⟨n, rfl, h1n, hn⟩
      · exact absurd hz h0
      · have e : w64 ((i : Int) + (n : Int)) = ((i + n : Nat) : Int) := by rw [w64_id (by omega) (by omega)]; omega
        simp only [e]
        exact ih (s.size - (i + n)) _ (by omega) ⟨i + n, out, rfl, by omega, by omega, rfl, by omega, hall⟩
    · refine EvP.bind (tokenAt_ev _ (by omega) (by omega)) ?_
      rintro ⟨t, n', c, _⟩ hz
      simp only [AtQ] at hz
      refine EvP.ite (fun h0 => EvP.ret fun e => absurd e h0) (fun h0 => ?_)
      rcases hz with ⟨hc, _⟩ | ⟨_, n, rfl, h1n, hn, ht, _, _⟩
      · exact absurd hc h0
      · have e : w64 ((i : Int) + (n : Int)) = ((i + n : Nat) : Int) := by rw [w64_id (by omega) (by omega)]; omega
        simp only [e]
        refine EvP.pos (by rw [big_eq]; omega) ?_
        refine ih (s.size - (i + n)) _ (by omega) ⟨i + n, _, rfl, by omega, by omega, rfl, by simp; omega, fun q hq => ?_⟩
        rcases List.mem_append.1 hq with hq | hq
        · exact hall q hq
        · simp only [List.mem_singleton] at hq
          subst hq
          show (t.2.1 : ByteArray).size < s.size
          rw [ht, ext_size _ 0 n hn]
          omega

def ReadQ (s : ByteArray) (y : List TToken.D × Int × Int × Unit) : Prop :=
  (y.2.1 = 0 ∧ y.1.length = 1 ∧ (rdT TToken y.1 0).2.1 = s ∧ tok s = some ((rdT TToken y.1 0).1, (rdT TToken y.1 0).2.2.1)) ∨ (tok s = none ∧ ¬ (y.2.1 = 0 ∧ y.1.length = 1 ∧ (rdT TToken y.1 0).2.1 = s))

theorem Late.read {s : ByteArray} {y : List TToken.D × Int × Int × Unit} (h : Late s y) (n : tok s = none) : ReadQ s y := by
  refine .inr ⟨n, fun e => ?_⟩
  have := h e.1 _ (rdT_mem (t := TToken) (i := 0) (by omega))
  rw [e.2.2] at this
  omega

theorem readTokens_ev (s : ByteArray) (hs : s.size ≤ 1048576) : EvP (fun k => impl_readTokens.f k (s, ())) (ReadQ s) := by
  simp only [impl_readTokens.f, decide_eq_true_eq]
  refine EvP.ite (fun h => EvP.ret (.inr ⟨tok_big (by omega), fun e => by cases e.1⟩)) (fun h => ?_)
  have hs' : s.size ≤ 1200 := by omega
  refine EvP.succ ?_
  simp only [impl_readTokens.l2, decide_eq_true_eq, Int.toNat_zero, beq_iff_eq, bne_iff_ne]
  refine EvP.ite (fun hlt => EvP.pos (by omega) (EvP.pos hlt ?_)) (fun hge => EvP.neg (by decide) (EvP.ret (.inr ⟨tok_empty (by omega), fun e => by cases e.2.1⟩)))
  have hp : 1 ≤ s.size := by omega
  have late : ∀ (i : Nat) (out : List TToken.D), 1 ≤ i → i ≤ s.size → out.length ≤ i → (∀ t ∈ out, (t.2.1 : ByteArray).size < s.size) → tok s = none → EvP (fun k => impl_readTokens.l2 k (s, out, (i : Int), ())) (ReadQ s) :=
    fun i out h1 h2 h3 h4 hn => (read_late s hs' i out h1 h2 h3 h4).mono fun y hy => hy.read hn
  have e1 : w64 (0 + (1 : Int)) = ((1 : Nat) : Int) := rfl
  simp only [e1]
  refine EvP.ite (fun hb => ?_) (fun hb => EvP.pos (by omega) (EvP.pos hlt (EvP.ite (fun hb2 => ?_) (fun hb2 => EvP.pos (by omega) (EvP.pos (by omega) ?_)))))
  · exact late 1 [] (by omega) hp (by simp) (fun t ht => by cases ht) (tok_no (fun e => by have := e.2; rw [hb] at this; revert this; decide) (fun e => by have := e.2 0 (by omega); rw [hb] at this; unfold alnum letter digit at this; omega))
  · exact late 1 [] (by omega) hp (by simp) (fun t ht => by cases ht) (tok_no (fun e => by have := e.2; rw [hb2] at this; revert this; decide) (fun e => by have := e.2 0 (by omega); rw [hb2] at this; unfold alnum letter digit at this; omega))
  · simp only [extract_all]
    refine EvP.bind (remarkHead_ev _ hs) ?_
    rintro ⟨y, _⟩ hy
    refine EvP.ite (fun h3 => EvP.pos (by omega) (EvP.pos (by omega) ?_)) (fun _ => EvP.pos (by omega) (EvP.pos (by omega) ?_))
    · refine EvP.bind (remark_ev _ hs) ?_
      rintro ⟨z, _⟩ hz
      simp only at hz
      refine EvP.ite (fun _ => EvP.ret (.inr ⟨hy h3, fun e => by cases e.1⟩)) (fun h0 => ?_)
      rcases hz with hz | ⟨n, rfl, h1n, hn⟩
      · exact absurd hz h0
      · have e : w64 (0 + (n : Int)) = ((n : Nat) : Int) := by rw [w64_id (by omega) (by omega)]; omega
        simp only [e]
        exact late n [] h1n hn (by simp) (fun t ht => by cases ht) (hy h3)
    · refine EvP.bind (tokenAt_ev _ hs hp) ?_
      rintro ⟨t, n', c, _⟩ hz
      simp only [AtQ] at hz
      refine EvP.ite (fun h0 => EvP.ret ?_) (fun h0 => ?_)
      · rcases hz with ⟨_, hn⟩ | ⟨hc, _⟩
        · exact .inr ⟨hn, fun e => h0 e.1⟩
        · exact absurd hc h0
      rcases hz with ⟨hc, _⟩ | ⟨_, n, rfl, h1n, hn, ht, hno, hyes⟩
      · exact absurd hc h0
      · have e : w64 (0 + (n : Int)) = ((n : Nat) : Int) := by rw [w64_id (by omega) (by omega)]; omega
        simp only [e]
        refine EvP.pos (by decide) ?_
        rcases Nat.lt_or_ge n s.size with h2 | h2
        · refine late n _ h1n hn (by simp; omega) (fun q hq => ?_) (hno h2)
          simp only [List.nil_append, List.mem_singleton] at hq
          subst hq
          show (t.2.1 : ByteArray).size < s.size
          rw [ht, ext_size _ 0 n hn]
          omega
        · obtain rfl : n = s.size := by omega
          refine EvP.succ ?_
          simp only [impl_readTokens.l2, decide_eq_true_eq]
          refine EvP.neg (by omega) (EvP.neg (by show ¬ (1 : Int) > 300; decide) (EvP.ret (.inl ⟨rfl, rfl, ?_, ?_⟩)))
          · show t.2.1 = s
            rw [ht, extract_all]
          · exact hyes rfl

def GoodT (t : TToken.D) : Prop := tok t.2.1 = some (t.1, t.2.2.1)
def GoodL (l : List TToken.D) : Prop := l.length ≤ 300 ∧ ∀ i, i < l.length → GoodT (rdT TToken l i)
noncomputable def goodAns (l : List TToken.D) : Bool × Unit := (pickP (GoodL l) true false, ())

theorem goodAns_no {l : List TToken.D} {i : Nat} (hi : i < l.length) (h : ¬ GoodT (rdT TToken l i)) : ((false, ()) : Bool × Unit) = goodAns l := by
  unfold goodAns
  rw [pickP_neg fun e => h (e.2 i hi)]

theorem good_end {l : List TToken.D} (h : ∀ i, i < l.length → GoodT (rdT TToken l i)) : ((decide ((l.length : Int) ≤ 300), ()) : Bool × Unit) = goodAns l := by
  unfold goodAns
  by_cases hl : l.length ≤ 300
  · rw [pickP_pos ⟨hl, h⟩, decide_eq_true (by omega)]
  · rw [pickP_neg fun e => hl e.1, decide_eq_false (by omega)]

theorem spec_good (l : List TToken.D) (hl : Fit (.slice TToken) l) : EvP (fun k => spec_l2Good.f k (l, ())) (· = goodAns l) := by
  have hlen : l.length ≤ 1048576 := hl.1
  simp only [spec_l2Good.f]
  refine EvP.scan (L := fun k i => spec_l2Good.l1 k (l, l, (l.length : Int), i, ())) l.length (fun i => GoodT (rdT TToken l i)) (fun hall => ?_) (fun i hi hall hgo => ?_)
  · simp only [spec_l2Good.l1, decide_eq_true_eq]
    exact EvP.neg (by omega) (EvP.ret (good_end hall))
  · simp only [spec_l2Good.l1, decide_eq_true_eq, Int.toNat_natCast, next64 (show i ≤ 1099511627776 by omega), beq_iff_eq, bne_iff_ne, toList_eq, Bool.not_eq_true', beq_eq_false_iff_ne]
    have hf := hl.2 _ (rdT_mem (t := TToken) hi)
    generalize hT : rdT TToken l i = t at hgo hf ⊢
    have no : ¬ GoodT t → ((false, ()) : Bool × Unit) = goodAns l := fun h => goodAns_no hi (by rw [hT]; exact h)
    have hsz : (t.2.1 : ByteArray).size ≤ 1048576 := hf.2.1
    refine EvP.pos (by omega) (EvP.pos (by omega) (EvP.pos (by omega) (EvP.ite (fun h => EvP.ret (no fun e => ?_)) (fun h => ?_))))
    · unfold GoodT at e
      rw [tok_empty (by rw [h]; rfl)] at e
      cases e
    · have hp : 1 ≤ (t.2.1 : ByteArray).size := by
        rcases Nat.eq_zero_or_pos (t.2.1 : ByteArray).size with h0 | h0
        · exact absurd (ByteArray.ext (Array.eq_empty_of_size_eq_zero h0)) h
        · exact h0
      refine EvP.bind (l2One_ev _ hsz hp) ?_
      rintro ⟨q, c, _⟩ hq
      simp only [OneQ] at hq
      rcases hq with ⟨hc, hn⟩ | ⟨hc, ⟨hne, hn⟩ | ⟨he, hsome⟩⟩
      · exact EvP.pos hc (EvP.ret (no fun e => by unfold GoodT at e; rw [hn] at e; cases e))
      · exact EvP.neg hc (EvP.pos (fun h => hne (toList_inj h)) (EvP.ret (no fun e => by unfold GoodT at e; rw [hn] at e; cases e)))
      · refine EvP.neg hc (EvP.neg (fun h => h (congrArg ByteArray.toList he)) (EvP.ite (fun h1 => EvP.ret (no fun e => ?_)) (fun h1 => EvP.ite (fun h2 => EvP.ret (no fun e => ?_)) (fun h2 => hgo ?_))))
        · unfold GoodT at e
          rw [hsome] at e
          injection e with e
          injection e with e3 e4
          exact h1 e3
        · unfold GoodT at e
          rw [hsome] at e
          injection e with e
          injection e with e3 e4
          exact h2 e4
        · unfold GoodT
          rw [hsome, Classical.not_not.1 h1, Classical.not_not.1 h2]

theorem impl_good (l : List TToken.D) (hl : Fit (.slice TToken) l) : EvP (fun k => impl_GoodTokens.f k (l, ())) (· = goodAns l) := by
  have hlen : l.length ≤ 1048576 := hl.1
  simp only [impl_GoodTokens.f]
  refine EvP.scan (L := fun k i => impl_GoodTokens.l1 k (l, l, (l.length : Int), i, ())) l.length (fun i => GoodT (rdT TToken l i)) (fun hall => ?_) (fun i hi hall hgo => ?_)
  · simp only [impl_GoodTokens.l1, decide_eq_true_eq]
    exact EvP.neg (by omega) (EvP.ret (good_end hall))
  · simp only [impl_GoodTokens.l1, decide_eq_true_eq, Int.toNat_natCast, next64 (show i ≤ 1099511627776 by omega), beq_iff_eq, bne_iff_ne, toList_eq, Bool.not_eq_true', beq_eq_false_iff_ne]
    have hf := hl.2 _ (rdT_mem (t := TToken) hi)
    generalize hT : rdT TToken l i = t at hgo hf ⊢
    have no : ¬ GoodT t → ((false, ()) : Bool × Unit) = goodAns l := fun h => goodAns_no hi (by rw [hT]; exact h)
    have hsz : (t.2.1 : ByteArray).size ≤ 1048576 := hf.2.1
    refine EvP.pos (by omega) (EvP.pos (by omega) (EvP.pos (by omega) ?_))
    refine EvP.bind (readTokens_ev _ hsz) ?_
    rintro ⟨L, c, p, _⟩ hq
    simp only [ReadQ] at hq
    have bad : tok t.2.1 = none → ¬ GoodT t := fun hn e => by unfold GoodT at e; rw [hn] at e; cases e
    refine EvP.ite (fun h => EvP.ret (no ?_)) (fun h => EvP.ite (fun h1 => EvP.ret (no ?_)) (fun h1 => EvP.pos (by omega) (EvP.ite (fun h2 => EvP.ret (no ?_)) (fun h2 => EvP.pos (by omega) (EvP.ite (fun h3 => EvP.ret (no ?_)) (fun h3 => EvP.pos (by omega) (EvP.ite (fun h4 => EvP.ret (no ?_)) (fun h4 => hgo ?_))))))))
    · rcases hq with ⟨hc, _⟩ | ⟨hn, _⟩
      · exact absurd hc h
      · exact bad hn
    · rcases hq with ⟨_, hc, _⟩ | ⟨hn, _⟩
      · exact absurd (show ((L.length : Nat) : Int) = 1 by rw [hc]; rfl) h1
      · exact bad hn
    · rcases hq with ⟨_, _, _, hs⟩ | ⟨hn, _⟩
      · intro e
        unfold GoodT at e
        rw [hs] at e
        injection e with e
        injection e with e3 e4
        exact h2 e3
      · exact bad hn
    · rcases hq with ⟨_, _, hs, _⟩ | ⟨hn, _⟩
      · exact absurd (congrArg ByteArray.toList hs) h3
      · exact bad hn
    · rcases hq with ⟨_, _, _, hs⟩ | ⟨hn, _⟩
      · intro e
        unfold GoodT at e
        rw [hs] at e
        injection e with e
        injection e with e3 e4
        exact h4 e4
      · exact bad hn
    · rcases hq with ⟨_, _, _, hs⟩ | ⟨_, hn⟩
      · unfold GoodT
        rw [hs, Classical.not_not.1 h2, Classical.not_not.1 h4]
      · exact absurd ⟨Classical.not_not.1 h, (by have h1' : ¬ ((L.length : Int) ≠ 1) := h1; omega), toList_inj (Classical.not_not.1 h3)⟩ hn

/-- The texts of the first tokens, with blanks between them. -/
def words (l : List TToken.D) : List ByteArray := l.map fun t => t.2.1
def acc (l : List TToken.D) : Nat → ByteArray
  | 0 => ByteArray.empty
  | i + 1 => if 0 < i then (acc l i ++ (⟨#[32]⟩ : ByteArray)) ++ (rdT TToken l i).2.1 else acc l i ++ (rdT TToken l i).2.1

theorem goodT_size {t : TToken.D} (h : GoodT t) : (t.2.1 : ByteArray).size ≤ 10 := by
  rcases Nat.lt_or_ge 10 (t.2.1 : ByteArray).size with h1 | h1
  · unfold GoodT at h
    rw [tok_big h1] at h
    cases h
  · exact h1

theorem acc_size {l : List TToken.D} (hg : GoodL l) : ∀ i, i ≤ l.length → (acc l i).size ≤ 11 * i
  | 0, _ => by show ByteArray.empty.size ≤ 0; decide
  | i + 1, h => by
    have h1 := acc_size hg i (by omega)
    have h2 := goodT_size (hg.2 i (by omega))
    unfold acc
    split
    · rw [ByteArray.size_append, ByteArray.size_append]
      have : (⟨#[32]⟩ : ByteArray).size = 1 := rfl
      omega
    · rw [ByteArray.size_append]
      omega

theorem tail_snoc (sep : List UInt8) (r : List (List UInt8)) (y : List UInt8) : Lib.joinTail sep (r ++ [y]) = Lib.joinTail sep r ++ (sep ++ y) := by
  simp [Lib.joinTail]

theorem join_snoc (xs : List (List UInt8)) (y sep : List UInt8) : Lib.join (xs ++ [y]) sep = if xs = [] then y else Lib.join xs sep ++ sep ++ y := by
  cases xs with
  | nil => simp [Lib.join_one]
  | cons x r =>
    rw [if_neg (by simp), List.cons_append, Lib.join_cons, Lib.join_cons, tail_snoc]
    simp [List.append_assoc]

theorem acc_join (l : List TToken.D) : ∀ i, i ≤ l.length → (acc l i).data.toList = joinL (words (l.take i)) (⟨#[32]⟩ : ByteArray)
  | 0, _ => rfl
  | i + 1, h => by
    have h1 := acc_join l i (by omega)
    have e : l.take (i + 1) = l.take i ++ [rdT TToken l i] := by rw [List.take_add_one, rdT_some (t := TToken) (by omega)]; rfl
    unfold joinL at *
    rw [e, words, List.map_append, List.map_append, List.map_cons, List.map_nil, List.map_cons, List.map_nil, join_snoc]
    unfold acc
    by_cases h0 : 0 < i
    · rw [if_pos h0, if_neg (fun e => by
        have := congrArg List.length e
        simp at this
        rcases this with h | h
        · omega
        · subst h; simp at *)]
      rw [ByteArray.data_append, ByteArray.data_append, Array.toList_append, Array.toList_append, h1]
      rfl
    · obtain rfl : i = 0 := by omega
      rw [if_neg h0, if_pos (by simp), ByteArray.data_append, Array.toList_append]
      rfl

noncomputable def textAns (l : List TToken.D) : ByteArray × Bool × Unit :=
  pickP (GoodL l) (if (1200 : Int) < ((acc l l.length).size : Int) then (ByteArray.empty, false, ()) else (acc l l.length, true, ())) (ByteArray.empty, false, ())

theorem spec_ans (l : List TToken.D) (hl : Fit (.slice TToken) l) : EvP (fun k => spec_TokensText.f k (l, ())) (· = textAns l) := by
  have hlen : l.length ≤ 1048576 := hl.1
  simp only [spec_TokensText.f]
  refine EvP.bind (spec_good l hl) ?_
  rintro _ rfl
  by_cases hg : GoodL l
  · refine EvP.neg (by unfold goodAns; rw [pickP_pos hg]; simp) ?_
    have loop := EvP.loop (L := spec_TokensText.l2) (Q := (· = textAns l)) (fun j st => ∃ i : Nat, st = (acc l i, l, (l.length : Int), (i : Int), ()) ∧ i ≤ l.length ∧ j = l.length - i) ?_
    · exact loop _ _ ⟨0, rfl, Nat.zero_le _, rfl⟩
    · rintro j _ ⟨i, rfl, hi, rfl⟩ ih
      simp only [spec_TokensText.l2, decide_eq_true_eq, Int.toNat_natCast, next64 (show i ≤ 1099511627776 by omega)]
      have h300 := hg.1
      refine EvP.ite (fun hlt => EvP.pos (by omega) (EvP.pos hlt ?_)) (fun hge => ?_)
      · have hil : i < l.length := by omega
        have h1 := acc_size hg i hi
        have h2 := goodT_size (hg.2 i hil)
        have go : acc l (i + 1) = (if 0 < i then (acc l i ++ (⟨#[32]⟩ : ByteArray)) ++ (rdT TToken l i).2.1 else acc l i ++ (rdT TToken l i).2.1) := rfl
        have he : (⟨#[32]⟩ : ByteArray).size = 1 := rfl
        refine EvP.ite (fun h0 => EvP.pos (by unfold sizeN; rw [he]; omega) (EvP.pos (by unfold sizeN; rw [ByteArray.size_append, he]; omega) ?_)) (fun h0 => EvP.pos (by unfold sizeN; omega) ?_)
        · rw [if_pos (by omega)] at go
          rw [← go]
          exact ih (l.length - (i + 1)) _ (by omega) ⟨i + 1, rfl, by omega, rfl⟩
        · rw [if_neg (by omega)] at go
          rw [← go]
          exact ih (l.length - (i + 1)) _ (by omega) ⟨i + 1, rfl, by omega, rfl⟩
      · obtain rfl : i = l.length := by omega
        unfold textAns
        rw [pickP_pos hg]
        exact EvP.ite (fun h => EvP.ret (by rw [if_pos h])) (fun h => EvP.ret (by rw [if_neg h]))
  · refine EvP.pos (by unfold goodAns; rw [pickP_neg hg]; rfl) (EvP.ret ?_)
    unfold textAns
    rw [pickP_neg hg]

theorem impl_ans (l : List TToken.D) (hl : Fit (.slice TToken) l) : EvP (fun k => impl_TokensText.f k (l, ())) (· = textAns l) := by
  have hlen : l.length ≤ 1048576 := hl.1
  simp only [impl_TokensText.f]
  refine EvP.bind (impl_good l hl) ?_
  rintro _ rfl
  by_cases hg : GoodL l
  · refine EvP.neg (by unfold goodAns; rw [pickP_pos hg]; simp) ?_
    have loop := EvP.loop (L := impl_TokensText.l2) (Q := (· = textAns l)) (fun j st => ∃ i : Nat, st = (words (l.take i), l, (l.length : Int), (i : Int), ()) ∧ i ≤ l.length ∧ j = l.length - i) ?_
    · exact loop _ _ ⟨0, rfl, Nat.zero_le _, rfl⟩
    · rintro j _ ⟨i, rfl, hi, rfl⟩ ih
      simp only [impl_TokensText.l2, decide_eq_true_eq, Int.toNat_natCast, next64 (show i ≤ 1099511627776 by omega)]
      have h300 := hg.1
      have hw : (words (l.take i)).length = i := by unfold words; rw [List.length_map, List.length_take]; omega
      refine EvP.ite (fun hlt => EvP.pos (by omega) (EvP.pos hlt (EvP.pos (by rw [hw, big_eq]; omega) ?_))) (fun hge => ?_)
      · have hil : i < l.length := by omega
        have e : words (l.take (i + 1)) = words (l.take i) ++ [(rdT TToken l i).2.1] := by rw [List.take_add_one, rdT_some (t := TToken) hil]; unfold words; rw [List.map_append]; rfl
        rw [← e]
        exact ih (l.length - (i + 1)) _ (by omega) ⟨i + 1, rfl, by omega, rfl⟩
      · obtain rfl : i = l.length := by omega
        have hj := acc_join l l.length (Nat.le_refl _)
        have hs := acc_size hg l.length (Nat.le_refl _)
        have hok : joinOk (words (l.take l.length)) (⟨#[32]⟩ : ByteArray) := by
          refine ⟨by rw [hw]; omega, ?_⟩
          rw [← hj]
          have : (acc l l.length).data.toList.length = (acc l l.length).size := Array.length_toList
          omega
        have hr : (⟨(joinL (words (l.take l.length)) (⟨#[32]⟩ : ByteArray)).toArray⟩ : ByteArray) = acc l l.length := by
          rw [← hj]
        simp only [strings_Join.f, if_pos hok, hr]
        refine EvP.bind (R := (· = (acc l l.length, ()))) (EvP.ret rfl) ?_
        rintro _ rfl
        unfold textAns
        rw [pickP_pos hg]
        exact EvP.ite (fun h => EvP.ret (by rw [if_pos h])) (fun h => EvP.ret (by rw [if_neg h]))
  · refine EvP.pos (by unfold goodAns; rw [pickP_neg hg]; rfl) (EvP.ret ?_)
    unfold textAns
    rw [pickP_neg hg]

theorem law (a0 : ((.slice TToken) : Ty).D) (o0 : okD (.slice TToken) a0) : EvP (fun k => laws_FnExactTokensText.f k (a0, ())) (· = (true, ())) := by
  simp only [laws_FnExactTokensText.f, decide_eq_true_eq]
  refine EvP.bind (szTokenS a0 1048576 (by omega) (by omega) o0) ?_
  rintro ⟨n1, _⟩ hn
  refine EvP.ite (fun _ => EvP.ret rfl) (fun h => ?_)
  rcases hn with hn | ⟨hl1, hu1, f0⟩
  · exact absurd hn h
  clear h
  refine EvP.bind (toTokenS _ f0) ?_
  rintro ⟨_, _⟩ (rfl : _ = _)
  refine EvP.bind (spec_ans _ f0) ?_
  rintro _ rfl
  refine EvP.bind (toTokenS _ f0) ?_
  rintro ⟨_, _⟩ (rfl : _ = _)
  refine EvP.bind (impl_ans _ f0) ?_
  rintro _ rfl
  refine EvP.neg (by simp) ?_
  refine EvP.neg (by simp) ?_
  refine EvP.bind (toTokenS _ f0) ?_
  rintro ⟨_, _⟩ (rfl : _ = _)
  refine EvP.bind (eqTokenS _ f0) ?_
  rintro ⟨_, _⟩ (rfl : _ = _)
  refine EvP.neg (by simp) ?_
  exact EvP.ret rfl


end Go.Proofs.YtjijgajbkcflaaaDoor.LawFnExactTokensText
