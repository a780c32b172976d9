/- The plain law FnLines: its Lean function answers true at all data. -/
import Derived.Test.YtjijgajbkcflaaaDoorDFnLines
set_option autoImplicit false
set_option linter.unusedVariables false
set_option linter.unusedSimpArgs false
namespace Go.Proofs.YtjijgajbkcflaaaDoor.LawFnLines
open Go.Proofs.YtjijgajbkcflaaaDoor.Den Go.Proofs

theorem in_ev (a b c : Int) : EvP (fun k => impl_in.f k (a, b, c, ())) (fun y => y.1 = decide (b ≤ a ∧ a ≤ c)) := by
  simp only [impl_in.f, decide_eq_true_eq]
  refine EvP.ite (fun h => EvP.ret ?_) (fun h => EvP.ret ?_)
  · simp only [ge_iff_le] at h; simp [h]
  · simp only [ge_iff_le] at h; simp [h]


theorem l1In_ev (a b c : Int) : EvP (fun k => spec_l1In.f k (a, b, c, ())) (fun y => y.1 = decide (b ≤ a ∧ a ≤ c)) := by
  simp only [spec_l1In.f, decide_eq_true_eq]
  refine EvP.ite (fun h => EvP.ret ?_) (fun h => EvP.ret ?_)
  · simp only [ge_iff_le] at h; simp [h]
  · simp only [ge_iff_le] at h; simp [h]


theorem EvP.of_eq2 {α : Type} {f g : Nat → Option α} {Q : α → Prop} (h : EvP g Q) (e : ∀ k, f k = g k) : EvP f Q := by
  obtain ⟨n, a, h1, h2⟩ := h
  exact ⟨n, a, fun k hk => by rw [e, h1 k hk], h2⟩

/-! ### Numbers of digits -/

def Dig (b c : Int) : Prop := (48 ≤ c ∧ c ≤ 57) ∨ (b = 16 ∧ 65 ≤ c ∧ c ≤ 70)
def digV (c : Int) : Int := if c ≤ 57 then c - 48 else c - 55
def valN (s : ByteArray) (b : Int) : Nat → Int
  | 0 => 0
  | i + 1 => valN s b i * b + digV (bt s i)

theorem digV_bound {b c : Int} (hb : b = 10 ∨ b = 16) (h : Dig b c) : 0 ≤ digV c ∧ digV c < b := by
  unfold Dig at h
  unfold digV
  split <;> omega

theorem valN_bound {s : ByteArray} {b : Int} (hb : b = 10 ∨ b = 16) : ∀ i : Nat, (∀ j, j < i → Dig b (bt s j)) → 0 ≤ valN s b i ∧ valN s b i < ((16 ^ i : Nat) : Int) := by
  intro i
  induction i with
  | zero => intro _; exact ⟨Int.le_refl _, by show (0 : Int) < ((16 ^ 0 : Nat) : Int); decide⟩
  | succ i ih =>
    intro h
    obtain ⟨h1, h2⟩ := ih fun j hj => h j (by omega)
    have h3 := digV_bound hb (h i (by omega))
    simp only [valN, Nat.pow_succ]
    generalize valN s b i = v at *
    generalize digV (bt s i) = d at *
    generalize (16 ^ i : Nat) = P at *
    rcases hb with rfl | rfl <;> omega

theorem pow_le {i : Nat} (h : i ≤ 9) : (16 ^ i : Nat) ≤ 68719476736 := Nat.pow_le_pow_right (by decide) h

theorem valN_small {s : ByteArray} {b : Int} (hb : b = 10 ∨ b = 16) {i : Nat} (hi : i ≤ 9) (h : ∀ j, j < i → Dig b (bt s j)) : 0 ≤ valN s b i ∧ valN s b i < 68719476736 := by
  have h1 := valN_bound hb i h
  have h2 := pow_le hi
  omega

theorem bt_range (s : ByteArray) (i : Nat) : 0 ≤ bt s i ∧ bt s i ≤ 255 := by
  unfold bt
  have := (s.data.getD i 0).toNat_lt
  omega

theorem l2Digit_ev (c : Int) : EvP (fun k => spec_l2Digit.f k (c, ())) (fun y => y.1 = true ↔ (48 ≤ c ∧ c ≤ 57)) := by
  simp only [spec_l2Digit.f, decide_eq_true_eq]
  refine EvP.ite (fun h => EvP.ret ?_) (fun h => EvP.ret ?_)
  · simp; omega
  · simp; omega

theorem isDigit_ev (c : Int) : EvP (fun k => impl_isDigit.f k (c, ())) (fun y => y.1 = true ↔ (48 ≤ c ∧ c ≤ 57)) := by
  simp only [impl_isDigit.f, decide_eq_true_eq]
  refine EvP.ite (fun h => EvP.ret ?_) (fun h => EvP.ret ?_)
  · simp; omega
  · simp; omega

def hexR (c : Int) : Int := if 48 ≤ c ∧ c ≤ 57 then c - 48 else if 65 ≤ c ∧ c ≤ 70 then c - 55 else -1

theorem l2Hex_ev (c : Int) (hc : 0 ≤ c ∧ c ≤ 255) : EvP (fun k => spec_l2Hex.f k (c, ())) (· = (hexR c, ())) := by
  simp only [spec_l2Hex.f, decide_eq_true_eq]
  unfold hexR
  refine EvP.bind (l2Digit_ev c) ?_
  rintro ⟨y, _⟩ hy
  simp only at hy
  refine EvP.ite (fun h => EvP.ret ?_) (fun h => ?_)
  · have h1 := hy.1 h
    rw [if_pos h1, IntKind.wrap_u8', w64_id (by omega) (by omega)]
    congr 1
    omega
  · have h1 : ¬ (48 ≤ c ∧ c ≤ 57) := fun e => h (hy.2 e)
    rw [if_neg h1]
    refine EvP.ite (fun h2 => EvP.ite (fun h3 => EvP.ret ?_) (fun h3 => EvP.ret ?_)) (fun h2 => EvP.ret ?_)
    · rw [if_pos ⟨h2, h3⟩, IntKind.wrap_u8', w64_id (x := (c - 65) % 256) (by omega) (by omega), w64_id (by omega) (by omega)]
      congr 1
      omega
    · rw [if_neg (by omega)]
    · rw [if_neg (by omega)]

theorem hexR_dig {b c : Int} (hb : b = 10 ∨ b = 16) : (0 ≤ hexR c ∧ hexR c < b) ↔ Dig b c := by
  unfold hexR Dig
  split
  · omega
  · split <;> omega

theorem hexR_val {b c : Int} (h : Dig b c) : hexR c = digV c := by
  unfold hexR digV
  unfold Dig at h
  split
  · rw [if_pos (by omega)]
  · rw [if_pos (by omega), if_neg (by omega)]

def AllDig (b : Int) (s : ByteArray) : Prop := ∀ i, i < s.size → Dig b (bt s i)

theorem spec_l4_ev (b : Int) (most : Nat) (hb : b = 10 ∨ b = 16) (hm : most ≤ 9) (s : ByteArray) (hs : s.size ≤ 1048576) :
    EvP (fun k => spec_l2Number.l4 k (b, (most : Int), s, 0, 0, ())) (· = pickP (AllDig b s ∧ s.size ≤ most) (valN s b s.size, true, ()) (0, false, ())) := by
  have loop := EvP.loop (L := spec_l2Number.l4) (Q := (· = pickP (AllDig b s ∧ s.size ≤ most) (valN s b s.size, true, ()) (0, false, ()))) (fun j st => ∃ i : Nat, st = (b, (most : Int), s, valN s b i, (i : Int), ()) ∧ j = s.size - i ∧ i ≤ s.size ∧ i ≤ most ∧ ∀ p, p < i → Dig b (bt s p)) ?_
  · exact loop _ _ ⟨0, rfl, rfl, Nat.zero_le _, Nat.zero_le _, fun p hp => absurd hp (Nat.not_lt_zero _)⟩
  · rintro j _ ⟨i, rfl, rfl, hi, him, hall⟩ ih
    simp only [spec_l2Number.l4, decide_eq_true_eq, Int.toNat_natCast]
    refine EvP.ite (fun hlt => EvP.pos (by omega) (EvP.pos hlt ?_)) (fun hge => EvP.ret ?_)
    · have hil : i < s.size := by omega
      refine EvP.bind (l2Hex_ev _ (bt_range s i)) ?_
      rintro _ rfl
      have no : ¬ (Dig b (bt s i) ∧ i < most) → ((0, false, ()) : Int × Bool × Unit) = pickP (AllDig b s ∧ s.size ≤ most) (valN s b s.size, true, ()) (0, false, ()) := fun h => by rw [pickP_neg fun e => h ⟨e.1 i hil, by omega⟩]
      refine EvP.ite (fun h => EvP.ret (no fun e => by have := (hexR_dig hb).2 e.1; simp only at h; omega)) (fun h1 => ?_)
      refine EvP.ite (fun h => EvP.ret (no fun e => by have := (hexR_dig hb).2 e.1; simp only at h; omega)) (fun h2 => ?_)
      refine EvP.ite (fun h => EvP.ret (no fun e => by omega)) (fun h3 => ?_)
      simp only at h1 h2
      have hd : Dig b (bt s i) := (hexR_dig hb).1 ⟨by omega, by omega⟩
      have hv := valN_small hb (show i ≤ 9 by omega) hall
      have hv2 := valN_small hb (show i + 1 ≤ 9 by omega) (fun p hp => by
        rcases Nat.lt_or_ge p i with hp' | hp'
        · exact hall p hp'
        · obtain rfl : p = i := by omega
          exact hd)
      have e1 : w64 (w64 (valN s b i * b) + hexR (bt s i)) = valN s b (i + 1) := by
        rw [hexR_val hd]
        have h4 := digV_bound hb hd
        simp only [valN] at hv2 ⊢
        rw [w64_id (x := valN s b i * b) (by rcases hb with rfl | rfl <;> omega) (by rcases hb with rfl | rfl <;> omega), w64_id (by omega) (by omega)]
      simp only [e1, next64 (show i ≤ 1099511627776 by omega)]
      exact ih (s.size - (i + 1)) _ (by omega) ⟨i + 1, rfl, rfl, by omega, by omega, fun p hp => by
        rcases Nat.lt_or_ge p i with hp' | hp'
        · exact hall p hp'
        · obtain rfl : p = i := by omega
          exact hd⟩
    · obtain rfl : i = s.size := by omega
      rw [pickP_pos ⟨hall, him⟩]

/-! ### Trim: whether all bytes lie in a set -/

theorem all_dropWhile {α : Type} (p : α → Bool) : ∀ L : List α, (∀ x ∈ L.dropWhile p, p x = true) → ∀ x ∈ L, p x = true
  | [], _, x, hx => by cases hx
  | a :: r, h, x, hx => by
    by_cases ha : p a = true
    · rw [List.dropWhile_cons_of_pos ha] at h
      rcases List.mem_cons.1 hx with rfl | hx
      · exact ha
      · exact all_dropWhile p r h x hx
    · rw [List.dropWhile_cons_of_neg ha] at h
      exact h x hx

theorem dropWhile_all {α : Type} (p : α → Bool) : ∀ L : List α, (∀ x ∈ L, p x = true) → L.dropWhile p = []
  | [], _ => rfl
  | a :: r, h => by
    rw [List.dropWhile_cons_of_pos (h a (by simp))]
    exact dropWhile_all p r fun x hx => h x (by simp [hx])

theorem trimS_nil (l cs : List UInt8) : Lib.trimS l cs = [] ↔ ∀ x ∈ l, cs.contains x = true := by
  unfold Lib.trimS Lib.trimLeftS Lib.trimRightS
  constructor
  · intro h
    have h1 : ∀ x ∈ (l.reverse.dropWhile (cs.contains ·)).reverse, cs.contains x = true :=
      all_dropWhile (cs.contains ·) _ (fun x hx => by rw [h] at hx; cases hx)
    have h2 := all_dropWhile (cs.contains ·) l.reverse (fun x hx => h1 x (by simpa using hx))
    exact fun x hx => h2 x (by simpa using hx)
  · intro h
    rw [dropWhile_all (cs.contains ·) l.reverse (fun x hx => h x (by simpa using hx))]
    rfl

theorem bt_mem (s : ByteArray) {i : Nat} (hi : i < s.size) : s.data.getD i 0 ∈ s.data.toList := by
  have h : i < s.data.size := hi
  rw [Array.getD_eq_getD_getElem?, Array.getElem?_eq_getElem h]
  simp

theorem mem_bt (s : ByteArray) {x : UInt8} (hx : x ∈ s.data.toList) : ∃ i, i < s.size ∧ s.data.getD i 0 = x := by
  obtain ⟨i, hi, he⟩ := List.getElem_of_mem hx
  have h : i < s.data.size := by simpa using hi
  refine ⟨i, h, ?_⟩
  rw [Array.getD_eq_getD_getElem?, Array.getElem?_eq_getElem h, ← he]
  simp

def decS : List UInt8 := [48, 49, 50, 51, 52, 53, 54, 55, 56, 57]
def hexS : List UInt8 := [48, 49, 50, 51, 52, 53, 54, 55, 56, 57, 65, 66, 67, 68, 69, 70]

set_option maxRecDepth 100000 in
theorem dec_nat : ∀ n, n < 256 → decS.contains (UInt8.ofNat n) = decide (48 ≤ n ∧ n ≤ 57) := by decide
set_option maxRecDepth 100000 in
theorem hex_nat : ∀ n, n < 256 → hexS.contains (UInt8.ofNat n) = decide ((48 ≤ n ∧ n ≤ 57) ∨ (65 ≤ n ∧ n ≤ 70)) := by decide

theorem dec_mem (x : UInt8) : decS.contains x = true ↔ Dig 10 (x.toNat : Int) := by
  have h := dec_nat x.toNat x.toNat_lt
  rw [UInt8.ofNat_toNat] at h
  rw [h, decide_eq_true_eq]
  unfold Dig
  omega

theorem hex_mem (x : UInt8) : hexS.contains x = true ↔ Dig 16 (x.toNat : Int) := by
  have h := hex_nat x.toNat x.toNat_lt
  rw [UInt8.ofNat_toNat] at h
  rw [h, decide_eq_true_eq]
  unfold Dig
  omega

theorem numeral_ev (s cs : ByteArray) (b : Int) (hs : s.size ≤ 1048576) (hc : trimOk s cs) (hm : ∀ x : UInt8, cs.data.toList.contains x = true ↔ Dig b (x.toNat : Int)) :
    EvP (fun k => impl_isNumeral.f k (s, cs, ())) (fun y => y.1 = true ↔ AllDig b s) := by
  simp only [impl_isNumeral.f, strings_Trim.f]
  refine EvP.bind (EvP.pos hc (EvP.ret (Q := (· = (Den.trimmed s cs, ()))) rfl)) ?_
  rintro _ rfl
  refine EvP.ret ?_
  simp only [beq_iff_eq, toList_eq]
  have h1 : Den.trimmed s cs = ByteArray.empty ↔ Lib.trimS s.data.toList cs.data.toList = [] := by
    unfold Den.trimmed
    constructor
    · intro h
      have := congrArg (fun z => z.data.toList) h
      simpa using this
    · intro h
      rw [h]; rfl
  rw [h1, trimS_nil]
  constructor
  · intro h i hi
    exact (hm _).1 (h _ (bt_mem s hi))
  · intro h x hx
    obtain ⟨i, hi, rfl⟩ := mem_bt s hx
    exact (hm _).2 (h i hi)

theorem byteList_len (s : ByteArray) : (byteList s).length = s.size := by simp [byteList]
theorem byteList_rd (s : ByteArray) {i : Nat} (hi : i < s.size) : rdT (.int .u8) (byteList s) i = bt s i := by
  have h : i < s.data.size := hi
  unfold rdT bt byteList
  rw [Array.getD_eq_getD_getElem?, Array.getElem?_eq_getElem h]
  simp [List.getD, Array.getElem?_eq_getElem h]

theorem atoi_l5_ev (s : ByteArray) (h1 : 1 ≤ s.size) (h9 : s.size ≤ 9) (hall : AllDig 10 s) : EvP (fun k => internal_strconv_Atoi.l5 k (s, 0, byteList s, ((byteList s).length : Int), 0, ())) (· = (valN s 10 s.size, (), ())) := by
  have loop := EvP.loop (L := internal_strconv_Atoi.l5) (Q := (· = (valN s 10 s.size, (), ()))) (fun j st => ∃ i : Nat, st = (s, valN s 10 i, byteList s, ((byteList s).length : Int), (i : Int), ()) ∧ j = s.size - i ∧ i ≤ s.size) ?_
  · exact loop _ _ ⟨0, rfl, rfl, Nat.zero_le _⟩
  · rintro j _ ⟨i, rfl, rfl, hi⟩ ih
    simp only [internal_strconv_Atoi.l5, decide_eq_true_eq, Int.toNat_natCast, byteList_len, beq_iff_eq]
    refine EvP.ite (fun hlt => EvP.pos (by omega) (EvP.pos hlt ?_)) (fun hge => ?_)
    · have hil : i < s.size := by omega
      have hd : 48 ≤ bt s i ∧ bt s i ≤ 57 := by
        have := hall i hil
        unfold Dig at this
        omega
      rw [byteList_rd s hil, IntKind.wrap_u8']
      have e0 : (bt s i - 48) % 256 = bt s i - 48 := by omega
      rw [e0]
      have hv := valN_small (b := 10) (.inl rfl) (show i ≤ 9 by omega) (fun p hp => hall p (by omega))
      have hv2 := valN_small (b := 10) (.inl rfl) (show i + 1 ≤ 9 by omega) (fun p hp => hall p (by omega))
      have e1 : w64 (w64 (valN s 10 i * 10) + w64 (bt s i - 48)) = valN s 10 (i + 1) := by
        have e2 : digV (bt s i) = bt s i - 48 := by unfold digV; rw [if_pos hd.2]
        simp only [valN, e2] at hv2 ⊢
        rw [w64_id (x := valN s 10 i * 10) (by omega) (by omega), w64_id (x := bt s i - 48) (by omega) (by omega), w64_id (by omega) (by omega)]
      rw [e1]
      simp only [next64 (show i ≤ 1099511627776 by omega)]
      refine EvP.neg (by omega) ?_
      have := ih (s.size - (i + 1)) _ (by omega) ⟨i + 1, rfl, rfl, by omega⟩
      rwa [byteList_len] at this
    · obtain rfl : i = s.size := by omega
      have hd := hall 0 (by omega)
      unfold Dig at hd
      exact EvP.pos (by omega) (EvP.neg (by omega) (EvP.ret rfl))

theorem atoi_ev (s : ByteArray) (h1 : 1 ≤ s.size) (h9 : s.size ≤ 9) (hall : AllDig 10 s) : EvP (fun k => strconv_Atoi.f k (s, ())) (· = (valN s 10 s.size, (), ())) := by
  simp only [strconv_Atoi.f, internal_strconv_Atoi.f, decide_eq_true_eq, beq_iff_eq]
  have hd := hall 0 (by omega)
  unfold Dig at hd
  refine EvP.bind (EvP.pos (by omega) (EvP.pos (by omega) (EvP.pos (by omega) (EvP.neg (by omega) (EvP.pos (by omega) (EvP.neg (by omega) (atoi_l5_ev s h1 h9 hall))))))) ?_
  rintro _ rfl
  exact EvP.ret rfl

theorem low_or : ∀ c : Int, 65 ≤ c ∧ c ≤ 70 → bitsI .u8 (· ||| ·) c (32 : Int) = c + 32 := by
  intro c h
  have : c = 65 ∨ c = 66 ∨ c = 67 ∨ c = 68 ∨ c = 69 ∨ c = 70 := by omega
  rcases this with rfl | rfl | rfl | rfl | rfl | rfl <;> decide

theorem wrap64_id {x : Int} (h0 : 0 ≤ x) (h1 : x < 18446744073709551616) : IntKind.wrap .u64 x = x := by
  rw [IntKind.wrap_u64]
  omega

theorem puint_l10_ev (s t : ByteArray) (h7 : s.size ≤ 7) (hall : AllDig 16 s) : EvP (fun k => internal_strconv_ParseUint.l10 k (16, false, t, 1152921504606846976, 18446744073709551615, false, 0, byteList s, ((byteList s).length : Int), 0, ())) (· = (valN s 16 s.size, (), ())) := by
  have loop := EvP.loop (L := internal_strconv_ParseUint.l10) (Q := (· = (valN s 16 s.size, (), ()))) (fun j st => ∃ i : Nat, st = (16, false, t, 1152921504606846976, 18446744073709551615, false, valN s 16 i, byteList s, ((byteList s).length : Int), (i : Int), ()) ∧ j = s.size - i ∧ i ≤ s.size) ?_
  · exact loop _ _ ⟨0, rfl, rfl, Nat.zero_le _⟩
  · rintro j _ ⟨i, rfl, rfl, hi⟩ ih
    simp only [internal_strconv_ParseUint.l10, decide_eq_true_eq, Int.toNat_natCast, byteList_len, beq_iff_eq, internal_strconv_lower.f]
    refine EvP.ite (fun hlt => EvP.pos (by omega) (EvP.pos hlt ?_)) (fun hge => ?_)
    · have hil : i < s.size := by omega
      have hd := hall i hil
      rw [byteList_rd s hil]
      have hv := valN_small (b := 16) (.inr rfl) (show i ≤ 9 by omega) (fun p hp => hall p (by omega))
      have hv2 := valN_small (b := 16) (.inr rfl) (show i + 1 ≤ 9 by omega) (fun p hp => hall p (by omega))
      have hdb := digV_bound (b := 16) (.inr rfl) hd
      have hgo := ih (s.size - (i + 1)) _ (by omega) ⟨i + 1, rfl, rfl, by omega⟩
      rw [byteList_len] at hgo
      have w16 : IntKind.wrap .u64 (16 : Int) = 16 := by decide
      have w168 : IntKind.wrap .u8 (16 : Int) = 16 := by decide
      have e0 : IntKind.wrap .u64 (valN s 16 i * 16) = valN s 16 i * 16 := wrap64_id (by omega) (by omega)
      have step : ∀ d : Int, d = digV (bt s i) → IntKind.wrap .u64 (valN s 16 i * 16 + IntKind.wrap .u64 d) = valN s 16 (i + 1) := by
        intro d he
        subst he
        rw [wrap64_id (x := digV (bt s i)) (by omega) (by omega)]
        simp only [valN] at hv2 ⊢
        exact wrap64_id (by omega) (by omega)
      have h95 : ¬ bt s i = 95 := by unfold Dig at hd; omega
      refine EvP.neg h95 ?_
      simp only [next64 (show i ≤ 1099511627776 by omega), w16, w168, e0]
      simp only [valN] at hv2
      by_cases h57 : bt s i ≤ 57
      · have e8 : IntKind.wrap .u8 (bt s i - 48) = bt s i - 48 := by
          rw [IntKind.wrap_u8']; unfold Dig at hd; omega
        have ed : bt s i - 48 = digV (bt s i) := by unfold digV; rw [if_pos h57]
        simp only [e8, step _ ed]
        refine EvP.pos (by unfold Dig at hd; omega) (EvP.pos h57 (EvP.neg (by omega) (EvP.neg (by omega) (EvP.neg (by simp only [valN]; omega) (EvP.neg (by simp only [valN]; omega) hgo)))))
      · have hr : 65 ≤ bt s i ∧ bt s i ≤ 70 := by unfold Dig at hd; omega
        have ed : bt s i - 55 = digV (bt s i) := by unfold digV; rw [if_neg h57]
        simp only [low_or _ hr]
        have e8 : IntKind.wrap .u8 (IntKind.wrap .u8 (bt s i + 32 - 97) + 10) = bt s i - 55 := by
          rw [IntKind.wrap_u8', IntKind.wrap_u8']; omega
        refine EvP.pos (by omega) (EvP.neg h57 ?_)
        refine EvP.bind (EvP.ret (Q := (· = (bt s i + 32, ()))) rfl) ?_
        rintro _ rfl
        refine EvP.pos (by simp only; omega) ?_
        refine EvP.bind (EvP.ret (Q := (· = (bt s i + 32, ()))) rfl) ?_
        rintro _ rfl
        refine EvP.pos (by simp only; omega) ?_
        refine EvP.bind (EvP.ret (Q := (· = (bt s i + 32, ()))) rfl) ?_
        rintro _ rfl
        simp only [e8, step _ ed]
        exact EvP.neg (by omega) (EvP.neg (by omega) (EvP.neg (by simp only [valN]; omega) (EvP.neg (by simp only [valN]; omega) hgo)))
    · obtain rfl : i = s.size := by omega
      exact EvP.neg (by decide) (EvP.ret rfl)

theorem parseInt_ev (s : ByteArray) (h1 : 1 ≤ s.size) (h7 : s.size ≤ 7) (hall : AllDig 16 s) : EvP (fun k => strconv_ParseInt.f k (s, 16, 64, ())) (· = (valN s 16 s.size, (), ())) := by
  have hd := hall 0 (by omega)
  unfold Dig at hd
  have hne : ¬ s = ByteArray.empty := by rintro rfl; exact absurd h1 (by decide)
  have hv := valN_small (b := 16) (.inr rfl) (show s.size ≤ 9 by omega) (fun p hp => hall p hp)
  have hu : EvP (fun k => internal_strconv_ParseUint.f k (s, 16, 64, ())) (· = (valN s 16 s.size, (), ())) := by
    simp only [internal_strconv_ParseUint.f, decide_eq_true_eq, beq_iff_eq, toList_eq]
    refine EvP.neg hne (EvP.pos (by decide) (EvP.pos (by decide) ?_))
    simp only [internal_strconv_ParseUint.l1, internal_strconv_ParseUint.l6, internal_strconv_ParseUint.l8, decide_eq_true_eq, beq_iff_eq]
    refine EvP.neg (by decide) (EvP.neg (by decide) (EvP.neg (by decide) (EvP.neg (by decide) (EvP.pos trivial (EvP.pos (by decide) ?_)))))
    exact puint_l10_ev s s h7 hall
  simp only [strconv_ParseInt.f, internal_strconv_ParseInt.f, decide_eq_true_eq, beq_iff_eq, toList_eq]
  refine EvP.bind (R := (· = (valN s 16 s.size, (), ()))) ?_ ?_
  · refine EvP.neg hne (EvP.pos (by omega) (EvP.neg (by omega) (EvP.neg (by omega) ?_)))
    refine EvP.bind hu ?_
    rintro _ rfl
    refine EvP.neg (by decide) (EvP.pos (by decide) (EvP.neg ?_ (EvP.ret ?_)))
    · have e : IntKind.wrap .u64 ((1 : Int) * 2 ^ (min (IntKind.wrap .u64 (w64 ((64 : Int) - 1))).toNat (IntKind.bits .u64))) = 9223372036854775808 := by decide
      simp only
      rw [e]
      omega
    · simp only
      rw [w64_id (by omega) (by omega)]
  · rintro _ rfl
    exact EvP.ret rfl

theorem ext_size (s : ByteArray) (i j : Nat) (h : j ≤ s.size) : (s.extract i j).size = j - i := by
  rw [ByteArray.size_extract]; omega

theorem bt_extract (s : ByteArray) {n i : Nat} (hn : n ≤ s.size) (hi : i < n) : bt (s.extract 0 n) i = bt s i := by
  have h1 : i < s.data.size := Nat.lt_of_lt_of_le hi hn
  have h2 : i < (s.extract 0 n).data.size := by
    have := ext_size s 0 n hn
    show i < (s.extract 0 n).size
    omega
  unfold bt
  rw [Array.getD_eq_getD_getElem?, Array.getD_eq_getD_getElem?, Array.getElem?_eq_getElem h1, Array.getElem?_eq_getElem h2]
  simp [ByteArray.data_extract]

theorem last_iff (s : ByteArray) (h : 1 ≤ s.size) : s.extract (s.size - 1) s.size = ⟨#[72]⟩ ↔ bt s (s.size - 1) = 72 := by
  have h1 : s.size - 1 < s.data.size := by show s.size - 1 < s.size; omega
  have hx : s.extract (s.size - 1) s.size = ⟨#[s.data[s.size - 1]]⟩ := by
    apply ByteArray.ext
    rw [ByteArray.data_extract]
    apply Array.ext
    · simp
      omega
    · intro i hi1 hi2
      have : i = 0 := by simpa using hi2
      subst this
      simp
  have hb : bt s (s.size - 1) = ((s.data[s.size - 1]).toNat : Int) := by
    unfold bt
    rw [Array.getD_eq_getD_getElem?, Array.getElem?_eq_getElem h1]
    rfl
  rw [hx, hb]
  constructor
  · intro e
    have := congrArg (fun z => z.data.toList) e
    simp at this
    rw [this]
    rfl
  · intro e
    have : s.data[s.size - 1] = 72 := by
      apply UInt8.toNat_inj.1
      show _ = 72
      omega
    rw [this]

def body (s : ByteArray) : ByteArray := s.extract 0 (s.size - 1)
def IsDec (s : ByteArray) : Prop := 1 ≤ s.size ∧ s.size ≤ 9 ∧ AllDig 10 s
def IsHex (s : ByteArray) : Prop := bt s (s.size - 1) = 72 ∧ 2 ≤ s.size ∧ s.size ≤ 8 ∧ AllDig 16 (body s) ∧ (48 ≤ bt s 0 ∧ bt s 0 ≤ 57)
noncomputable def ans (s : ByteArray) : Int × Bool × Unit := pickP (IsDec s) (valN s 10 s.size, true, ()) (pickP (IsHex s) (valN (body s) 16 (body s).size, true, ()) (0, false, ()))

theorem body_size {s : ByteArray} : (body s).size = s.size - 1 := by
  unfold body
  rw [ext_size _ _ _ (by omega)]
  omega

theorem ans_no {s : ByteArray} (h1 : ¬ IsDec s) (h2 : ¬ IsHex s) : ((0, false, ()) : Int × Bool × Unit) = ans s := by
  unfold ans
  rw [pickP_neg h1, pickP_neg h2]

theorem l2Number_ev (s : ByteArray) (hs : Fit .str s) : EvP (fun k => spec_l2Number.f k (s, ())) (· = ans s) := by
  have hs' : s.size ≤ 1048576 := hs
  simp only [spec_l2Number.f, beq_iff_eq, toList_eq, Bool.not_eq_true']
  refine EvP.ite (fun h => EvP.ret (ans_no ?_ ?_)) (fun h => ?_)
  · subst h; exact fun e => absurd e.1 (by decide)
  · subst h; exact fun e => absurd e.2.1 (by decide)
  have hpos : 1 ≤ s.size := by
    rcases Nat.eq_zero_or_pos s.size with h0 | h0
    · exfalso
      apply h
      apply ByteArray.ext
      exact Array.eq_empty_of_size_eq_zero h0
    · exact h0
  refine EvP.pos (by omega) ?_
  refine EvP.bind (l2Digit_ev _) ?_
  rintro ⟨y, _⟩ hy
  simp only at hy
  refine EvP.ite (fun h0 => EvP.ret (ans_no ?_ ?_)) (fun h0 => ?_)
  · intro e
    have := e.2.2 0 (by omega)
    unfold Dig at this
    rw [hy.2 (by omega)] at h0; cases h0
  · intro e
    rw [hy.2 e.2.2.2.2] at h0; cases h0
  have hd : 48 ≤ bt s 0 ∧ bt s 0 ≤ 57 := hy.1 (by simpa using h0)
  have hw : w64 ((s.size : Int) - (1 : Int)) = ((s.size - 1 : Nat) : Int) := by rw [w64_id (by omega) (by omega)]; omega
  simp only [hw, Int.toNat_natCast]
  refine EvP.pos (by omega) (EvP.pos (by omega) (EvP.ite (fun hl => EvP.pos (by omega) (EvP.pos (by omega) ?_)) (fun hl => ?_)))
  · have h2 : 2 ≤ s.size := by
      rcases Nat.lt_or_ge 1 s.size with h2 | h2
      · exact h2
      · have : s.size - 1 = 0 := by omega
        rw [this] at hl
        omega
    have hb := spec_l4_ev 16 7 (.inr rfl) (by decide) (body s) (by rw [body_size]; omega)
    refine hb.mono ?_
    rintro _ rfl
    unfold ans
    rw [pickP_neg (p := IsDec s) (fun e => by
      have := e.2.2 (s.size - 1) (by omega)
      unfold Dig at this
      omega)]
    by_cases hh : IsHex s
    · rw [pickP_pos hh, pickP_pos ⟨hh.2.2.2.1, by rw [body_size]; have := hh.2.2.1; omega⟩]
    · rw [pickP_neg hh, pickP_neg fun e => hh ⟨hl, h2, by have := e.2; rw [body_size] at this; omega, e.1, hd⟩]
  · refine (spec_l4_ev 10 9 (.inl rfl) (by decide) s hs').mono ?_
    rintro _ rfl
    unfold ans
    rw [pickP_neg (p := IsHex s) fun e => hl e.1]
    by_cases hh : IsDec s
    · rw [pickP_pos hh, pickP_pos ⟨hh.2.2, hh.2.1⟩]
    · rw [pickP_neg hh, pickP_neg fun e => hh ⟨hpos, e.2, e.1⟩]

theorem cut_ev (s : ByteArray) (hs : s.size ≤ 1048576) : EvP (fun k => strings_CutSuffix.f k (s, (⟨#[72]⟩ : ByteArray), ())) (fun y => (y.2.1 = true ∧ y.1 = body s ∧ 1 ≤ s.size ∧ bt s (s.size - 1) = 72) ∨ (y.2.1 = false ∧ ¬ (1 ≤ s.size ∧ bt s (s.size - 1) = 72))) := by
  have e1 : (⟨#[72]⟩ : ByteArray).size = 1 := rfl
  simp only [strings_CutSuffix.f, internal_stringslite_CutSuffix.f]
  refine EvP.bind (R := fun y => (y.2.1 = true ∧ y.1 = body s ∧ 1 ≤ s.size ∧ bt s (s.size - 1) = 72) ∨ (y.2.1 = false ∧ ¬ (1 ≤ s.size ∧ bt s (s.size - 1) = 72))) ?_ ?_
  · refine EvP.bind (R := fun y => y.1 = true ↔ (1 ≤ s.size ∧ bt s (s.size - 1) = 72)) ?_ ?_
    · simp only [internal_stringslite_HasSuffix.f, decide_eq_true_eq, e1]
      refine EvP.ite (fun h => ?_) (fun h => EvP.ret ⟨fun e => (by cases e), fun e => by omega⟩)
      have hw : w64 ((s.size : Int) - ((1 : Nat) : Int)) = ((s.size - 1 : Nat) : Int) := by rw [w64_id (by omega) (by omega)]; omega
      simp only [hw, Int.toNat_natCast]
      refine EvP.pos (by omega) (EvP.pos (by omega) (EvP.ret ?_))
      simp only [beq_iff_eq, toList_eq]
      rw [last_iff s (by omega)]
      exact ⟨fun e => ⟨by omega, e⟩, fun e => e.2⟩
    · rintro ⟨y, _⟩ hy
      simp only [Bool.not_eq_true'] at hy ⊢
      refine EvP.ite (fun h => EvP.ret (.inr ⟨rfl, fun e => by rw [hy.2 e] at h; cases h⟩)) (fun h => ?_)
      have h1 := hy.1 (by simpa using h)
      have hw : w64 ((s.size : Int) - ((1 : Nat) : Int)) = ((s.size - 1 : Nat) : Int) := by rw [w64_id (by omega) (by omega)]; omega
      simp only [e1, hw, Int.toNat_natCast]
      exact EvP.pos (by omega) (EvP.pos (by omega) (EvP.ret (.inl ⟨rfl, rfl, h1⟩)))
  · rintro ⟨a, b, _⟩ h
    exact EvP.ret h

theorem number_ans (s : ByteArray) (hs : Fit .str s) : EvP (fun k => impl_NumberOf.f k (s, ())) (· = ans s) := by
  have hs' : s.size ≤ 1048576 := hs
  have tail : ∀ y1 : ByteArray × Bool × Unit, ((y1.2.1 = true ∧ y1.1 = body s ∧ 1 ≤ s.size ∧ bt s (s.size - 1) = 72) ∨ (y1.2.1 = false ∧ ¬ (1 ≤ s.size ∧ bt s (s.size - 1) = 72))) → ¬ IsDec s →
      EvP (fun k => (if y1.2.1 = true then ((impl_in.f k ((y1.1.size : Int), 1, 7, ())).bind fun y9 => (if y9.1 = true then ((impl_isNumeral.f k (y1.1, (⟨#[48, 49, 50, 51, 52, 53, 54, 55, 56, 57, 65, 66, 67, 68, 69, 70]⟩ : ByteArray), ())).bind fun y10 => (if y10.1 = true then (if (0 : Int) < (y1.1.size : Int) then ((impl_isDigit.f k ((bt y1.1 0), ())).bind fun y11 => (if y11.1 = true then ((strconv_ParseInt.f k (y1.1, 16, 64, ())).bind fun y12 => (some (y12.1, true, ()))) else (some (0, false, ())))) else none) else (some (0, false, ())))) else (some (0, false, ())))) else (some (0, false, ())))) (· = ans s) := by
    rintro ⟨t, c, _⟩ hc hno
    rcases hc with ⟨hc, ht, h1, hl⟩ | ⟨hc, hl⟩
    · simp only at hc ht
      subst hc ht
      refine EvP.pos rfl ?_
      have hbs := body_size (s := s)
      refine EvP.bind (in_ev _ _ _) ?_
      rintro ⟨y, _⟩ hy
      simp only at hy
      subst hy
      refine EvP.ite (fun h => ?_) (fun h => EvP.ret (ans_no hno fun e => h (decide_eq_true ⟨by have := e.2.1; omega, by have := e.2.2.1; omega⟩)))
      have hr : 1 ≤ ((body s).size : Int) ∧ ((body s).size : Int) ≤ 7 := of_decide_eq_true h
      refine EvP.bind (numeral_ev (body s) ⟨#[48, 49, 50, 51, 52, 53, 54, 55, 56, 57, 65, 66, 67, 68, 69, 70]⟩ 16 (by omega) ⟨by omega, by decide, by decide⟩ hex_mem) ?_
      rintro ⟨z, _⟩ hz
      simp only at hz
      refine EvP.ite (fun h2 => EvP.pos (by show (0 : Int) < ((body s).size : Int); omega) ?_) (fun h2 => EvP.ret (ans_no hno fun e => h2 (hz.2 e.2.2.2.1)))
      have hall := hz.1 h2
      have hb0 : bt (body s) 0 = bt s 0 := bt_extract s (by omega) (by omega)
      refine EvP.bind (isDigit_ev _) ?_
      rintro ⟨u, _⟩ hu
      simp only at hu
      rw [hb0] at hu
      refine EvP.ite (fun h3 => ?_) (fun h3 => EvP.ret (ans_no hno fun e => h3 (hu.2 e.2.2.2.2)))
      refine EvP.bind (parseInt_ev (body s) (by omega) (by omega) hall) ?_
      rintro _ rfl
      refine EvP.ret ?_
      unfold ans
      rw [pickP_neg hno, pickP_pos ⟨hl, by omega, by omega, hall, hu.1 h3⟩]
    · simp only at hc
      subst hc
      exact EvP.neg (fun e => by cases e) (EvP.ret (ans_no hno fun e => hl ⟨by have := e.2.1; omega, e.1⟩))
  simp only [impl_NumberOf.f]
  refine EvP.bind (cut_ev s hs') ?_
  intro y1 h1
  refine EvP.bind (in_ev _ _ _) ?_
  rintro ⟨y, _⟩ hy
  simp only at hy
  subst hy
  refine EvP.ite (fun h => ?_) (fun h => tail y1 h1 fun e => h (decide_eq_true ⟨by have := e.1; omega, by have := e.2.1; omega⟩))
  have hr : 1 ≤ (s.size : Int) ∧ (s.size : Int) ≤ 9 := of_decide_eq_true h
  refine EvP.bind (numeral_ev s ⟨#[48, 49, 50, 51, 52, 53, 54, 55, 56, 57]⟩ 10 hs' ⟨by omega, by decide, by decide⟩ dec_mem) ?_
  rintro ⟨z, _⟩ hz
  simp only at hz
  refine EvP.ite (fun h2 => ?_) (fun h2 => tail y1 h1 fun e => h2 (hz.2 e.2.2))
  have hall := hz.1 h2
  refine EvP.bind (atoi_ev s (by omega) (by omega) hall) ?_
  rintro _ rfl
  refine EvP.ret ?_
  unfold ans
  rw [pickP_pos ⟨by omega, by omega, hall⟩]

/-! ### Drawing -/

def Bytes (l : List Int) : Prop := ∀ x ∈ l, 0 ≤ x ∧ x ≤ 255
def CurOk (c : List Int × Int × Int × Unit) (n : Nat) : Prop := Bytes c.1 ∧ 0 ≤ c.2.1 ∧ c.2.1 ≤ (n : Int)

theorem CurOk.mono {c : List Int × Int × Int × Unit} {n m : Nat} (h : CurOk c n) (k : n ≤ m) : CurOk c m := ⟨h.1, h.2.1, by have := h.2.2; omega⟩

theorem bytes_of {l : List Int} (h : okD (.slice (.int .u8)) l) : Bytes l := fun x hx => by
  have := h.2 x hx
  simp [okD, Lit.wf, IntKind.min, IntKind.max, IntKind.bits, IntKind.signed] at this
  omega

theorem low8 (x : Int) : 0 ≤ bitsI .u64 (· &&& ·) x (255 : Int) ∧ bitsI .u64 (· &&& ·) x (255 : Int) ≤ 255 := by
  unfold bitsI
  have h : ((BitVec.ofInt IntKind.u64.bits x) &&& (BitVec.ofInt IntKind.u64.bits 255)).toNat ≤ 255 := by
    rw [BitVec.toNat_and]
    exact Nat.and_le_right
  generalize ((BitVec.ofInt IntKind.u64.bits x) &&& (BitVec.ofInt IntKind.u64.bits 255)).toNat = n at h
  have e : IntKind.wrap .u64 (n : Int) = (n : Int) := by
    rw [IntKind.wrap_u64]
    omega
  rw [e]
  omega

theorem next_ev (c : List Int × Int × Int × Unit) (n : Nat) (hn : n ≤ 1099511627776) (hc : CurOk c n) :
    EvP (fun k => spec_l1Cur_next.f k (c, ())) (fun y => CurOk y.1 (n + 1) ∧ 0 ≤ y.2.1 ∧ y.2.1 ≤ 255) := by
  obtain ⟨code, at_, seed, _⟩ := c
  obtain ⟨hb, h0, h1⟩ := hc
  simp only at hb h0 h1
  have hw : w64 (at_ + 1) = at_ + 1 := w64_id (by omega) (by omega)
  have hlow : ∀ x : Int, w64 (bitsI .u64 (· &&& ·) x (255 : Int)) = bitsI .u64 (· &&& ·) x (255 : Int) := fun x => by
    have := low8 x
    exact w64_id (by omega) (by omega)
  simp only [spec_l1Cur_next.f, decide_eq_true_eq, hw]
  refine EvP.ite (fun h => EvP.pos h0 (EvP.pos h (EvP.ite (fun h2 => EvP.ret ?_) (fun h2 => EvP.ret ?_)))) (fun h => EvP.ite (fun h2 => EvP.ret ?_) (fun h2 => EvP.ret ?_))
  · have hr := hb _ (rdT_mem (t := .int .u8) (l := code) (i := at_.toNat) (by omega))
    refine ⟨⟨hb, ?_, ?_⟩, ?_, ?_⟩
    · show 0 ≤ at_ + 1; omega
    · show at_ + 1 ≤ ((n + 1 : Nat) : Int); omega
    · show 0 ≤ w64 (rdT (.int .u8) code at_.toNat); rw [w64_id (by omega) (by omega)]; omega
    · show w64 (rdT (.int .u8) code at_.toNat) ≤ 255; rw [w64_id (by omega) (by omega)]; omega
  · refine ⟨⟨hb, ?_, ?_⟩, ?_, ?_⟩
    · show 0 ≤ at_ + 1; omega
    · show at_ + 1 ≤ ((n + 1 : Nat) : Int); omega
    · simp only [hlow]; exact (low8 _).1
    · simp only [hlow]; exact (low8 _).2
  · exact ⟨⟨hb, by show 0 ≤ at_ + 1; omega, by show at_ + 1 ≤ ((n + 1 : Nat) : Int); omega⟩, by show (0 : Int) ≤ 0; decide, by show (0 : Int) ≤ 255; decide⟩
  · refine ⟨⟨hb, ?_, ?_⟩, ?_, ?_⟩
    · show 0 ≤ at_ + 1; omega
    · show at_ + 1 ≤ ((n + 1 : Nat) : Int); omega
    · simp only [hlow]; exact (low8 _).1
    · simp only [hlow]; exact (low8 _).2

theorem pick_ev (c : List Int × Int × Int × Unit) (n : Nat) (hn : n ≤ 1099511627775) (hc : CurOk c n) (m : Int) :
    EvP (fun k => spec_l1Cur_pick.f k (c, m, ())) (fun y => CurOk y.1 (n + 2) ∧ 0 ≤ y.2.1 ∧ (m ≤ 1 → y.2.1 = 0) ∧ (1 < m → y.2.1 < m)) := by
  obtain ⟨code, at_, seed, _⟩ := c
  simp only [spec_l1Cur_pick.f, decide_eq_true_eq]
  refine EvP.ite (fun h => EvP.ret ⟨hc.mono (by omega), by show (0 : Int) ≤ 0; decide, fun _ => rfl, fun h2 => by omega⟩) (fun h => ?_)
  have hm : 1 < m := by omega
  refine EvP.bind (next_ev _ n (by omega) hc) ?_
  rintro ⟨⟨code1, at1, seed1, _⟩, x, _⟩ ⟨h1, hx0, hx1⟩
  simp only at hx0 hx1
  refine EvP.ite (fun h2 => ?_) (fun h2 => EvP.pos (by omega) (EvP.ret ?_))
  · refine EvP.bind (next_ev _ (n + 1) (by omega) h1) ?_
    rintro ⟨⟨code2, at2, seed2, _⟩, y, _⟩ ⟨h3, hy0, hy1⟩
    simp only at hy0 hy1
    refine EvP.pos (by omega) (EvP.ret ?_)
    have e : w64 (w64 (x * 256) + y) = x * 256 + y := by rw [w64_id (x := x * 256) (by omega) (by omega), w64_id (by omega) (by omega)]
    simp only [e]
    exact ⟨h3, Int.tmod_nonneg _ (by omega), fun h => by omega, fun _ => Int.tmod_lt_of_pos _ (by omega)⟩
  · exact ⟨h1.mono (by omega), Int.tmod_nonneg _ hx0, fun h => by omega, fun _ => Int.tmod_lt_of_pos _ (by omega)⟩

theorem of_ev (c : List Int × Int × Int × Unit) (n : Nat) (hn : n ≤ 1099511627775) (hc : CurOk c n) (l : List ByteArray) (hl : 1 ≤ l.length) :
    EvP (fun k => spec_l1Cur_of.f k (c, l, ())) (fun y => CurOk y.1 (n + 2) ∧ y.2.1 ∈ l) := by
  obtain ⟨code, at_, seed, _⟩ := c
  simp only [spec_l1Cur_of.f]
  refine EvP.bind (pick_ev _ n hn hc (l.length : Int)) ?_
  rintro ⟨⟨code1, at1, seed1, _⟩, x, _⟩ ⟨h1, hx0, hx1, hx2⟩
  simp only at hx0 hx1 hx2
  have hx : x < (l.length : Int) := by
    rcases Int.lt_or_le 1 (l.length : Int) with h | h
    · exact hx2 h
    · have := hx1 h; omega
  exact EvP.pos hx0 (EvP.pos hx (EvP.ret ⟨h1, rdT_mem (t := .str) (by show x.toNat < l.length; omega)⟩))

/-! ### Lines -/
def cntN (s : ByteArray) : Nat → Nat
  | 0 => 0
  | i + 1 => cntN s i + (if bt s i = 10 then 1 else 0)
def lastN (s : ByteArray) : Nat → Nat
  | 0 => 0
  | i + 1 => if bt s i = 10 then i + 1 else lastN s i

theorem cntN_le (s : ByteArray) (n : Nat) : cntN s n ≤ n := by
  induction n with
  | zero => exact Nat.le_refl _
  | succ n ih =>
    simp only [cntN]
    split <;> omega

theorem lastN_le (s : ByteArray) (n : Nat) : lastN s n ≤ n := by
  induction n with
  | zero => exact Nat.le_refl _
  | succ n ih =>
    simp only [lastN]
    split <;> omega

theorem extract_list (s : ByteArray) (n : Nat) : (s.extract 0 n).data.toList = s.data.toList.take n := by
  simp [ByteArray.data_extract]

theorem count_take (s : ByteArray) (n : Nat) (hn : n ≤ s.size) : (s.data.toList.take n).count 10 = cntN s n := by
  induction n with
  | zero => rfl
  | succ n ih =>
    have h : n < s.data.toList.length := by rw [Array.length_toList]; exact hn
    rw [List.take_succ_eq_append_getElem h, List.count_append, ih (by omega)]
    simp only [cntN]
    have eb : bt s n = ((s.data.toList[n]).toNat : Int) := by
      unfold bt
      have h2 : n < s.data.size := hn
      rw [Array.getElem_toList, Array.getD, dif_pos h2]
      rfl
    rw [eb]
    have e : ∀ x : UInt8, List.count 10 [x] = if ((x.toNat : Nat) : Int) = 10 then 1 else 0 := by
      intro x
      rw [List.count_singleton]
      by_cases hx : x = 10
      · subst hx
        rfl
      · have h2 : ¬ ((x.toNat : Nat) : Int) = 10 := by
          intro q
          apply hx
          apply UInt8.toNat_inj.1
          have : x.toNat = 10 := by omega
          rw [this]
          rfl
        rw [if_neg h2]
        simp [hx]
    rw [e]

theorem lastIdx_eq (s : ByteArray) : ∀ n : Nat, Lib.lastIdx s 10 n = ((lastN s n : Nat) : Int) - 1
  | 0 => rfl
  | n + 1 => by
    have e : ((s.data[n]!).toNat : Int) = bt s n := by
      unfold bt
      by_cases h : n < s.data.size
      · rw [getElem!_pos s.data n h, Array.getD, dif_pos h]
        rfl
      · rw [getElem!_neg s.data n h, Array.getD, dif_neg h]
        rfl
    simp only [Lib.lastIdx, lastN, e]
    split
    · omega
    · exact lastIdx_eq s n

theorem lastN_extract (s : ByteArray) (n : Nat) (hn : n ≤ s.size) : ∀ i, i ≤ n → lastN (s.extract 0 n) i = lastN s i
  | 0, _ => rfl
  | i + 1, h => by
    simp only [lastN]
    rw [bt_extract s hn (by omega), lastN_extract s n hn i (by omega)]

def LineIn (s : ByteArray) (a : Int) : Prop := s.size ≤ 1200 ∧ 0 ≤ a ∧ a ≤ (s.size : Int)
noncomputable def lineAns (s : ByteArray) (a : Int) : Int × Int × Bool × Unit :=
  pickP (LineIn s a) (((cntN s a.toNat + 1 : Nat) : Int), a - ((lastN s a.toNat : Nat) : Int), true, ()) (0, 0, false, ())

theorem specLine_ev (s : ByteArray) (a : Int) : EvP (fun k => spec_LineOf.f k (s, a, ())) (· = lineAns s a) := by
  simp only [spec_LineOf.f, decide_eq_true_eq]
  refine EvP.ite (fun h => EvP.ret (by unfold lineAns; rw [pickP_neg fun e => by have := e.1; omega])) (fun h => ?_)
  refine EvP.bind (l1In_ev a 0 (s.size : Int)) ?_
  rintro ⟨y, _⟩ hy
  simp only at hy
  subst hy
  refine EvP.ite (fun h2 => EvP.ret ?_) (fun h2 => ?_)
  · unfold lineAns
    rw [pickP_neg]
    intro e
    simp [e.2.1, e.2.2] at h2
  have hin : 0 ≤ a ∧ a ≤ (s.size : Int) := by
    simpa using h2
  obtain ⟨n, rfl⟩ : ∃ n : Nat, a = (n : Int) := ⟨a.toNat, by omega⟩
  have hn : n ≤ s.size := by omega
  have loop := EvP.loop (L := spec_LineOf.l3) (Q := (· = lineAns s (n : Int))) (fun j st => ∃ i : Nat, st = (s, (n : Int), ((cntN s i + 1 : Nat) : Int), ((lastN s i : Nat) : Int), (i : Int), ()) ∧ i ≤ n ∧ j = n - i) ?_
  · exact loop _ _ ⟨0, rfl, Nat.zero_le _, rfl⟩
  · rintro j _ ⟨i, rfl, hi, rfl⟩ ih
    have hc := cntN_le s i
    have hl := lastN_le s i
    simp only [spec_LineOf.l3, decide_eq_true_eq, Int.toNat_natCast, next64 (show i ≤ 1099511627776 by omega), next64 (show cntN s i + 1 ≤ 1099511627776 by omega), beq_iff_eq]
    refine EvP.ite (fun hlt => EvP.pos (by omega) (EvP.pos (by omega) (EvP.ite (fun h10 => ?_) (fun h10 => ?_)))) (fun hge => EvP.ret ?_)
    · refine ih (n - (i + 1)) _ (by omega) ⟨i + 1, ?_, by omega, rfl⟩
      simp only [cntN, lastN, if_pos h10]
    · refine ih (n - (i + 1)) _ (by omega) ⟨i + 1, ?_, by omega, rfl⟩
      simp only [cntN, lastN, if_neg h10, Nat.add_zero]
    · obtain rfl : i = n := by omega
      unfold lineAns
      rw [pickP_pos ⟨by omega, hin⟩, w64_id (by omega) (by omega)]
      rfl

theorem implLine_ev (s : ByteArray) (a : Int) : EvP (fun k => impl_LineOf.f k (s, a, ())) (· = lineAns s a) := by
  simp only [impl_LineOf.f, decide_eq_true_eq]
  refine EvP.ite (fun h => EvP.ret (by unfold lineAns; rw [pickP_neg fun e => by have := e.1; omega])) (fun h => ?_)
  refine EvP.bind (in_ev a 0 (s.size : Int)) ?_
  rintro ⟨y, _⟩ hy
  simp only at hy
  subst hy
  refine EvP.ite (fun h2 => EvP.ret ?_) (fun h2 => ?_)
  · unfold lineAns
    rw [pickP_neg]
    intro e
    simp [e.2.1, e.2.2] at h2
  have hin : 0 ≤ a ∧ a ≤ (s.size : Int) := by
    simpa using h2
  obtain ⟨n, rfl⟩ : ∃ n : Nat, a = (n : Int) := ⟨a.toNat, by omega⟩
  have hn : n ≤ s.size := by omega
  have hc := cntN_le s n
  have hl := lastN_le s n
  simp only [Int.toNat_natCast]
  have hsz : (s.extract 0 n).size = n := ext_size s 0 n hn
  refine EvP.pos (by omega) (EvP.pos (by omega) ?_)
  refine EvP.bind (R := (· = (((cntN s n : Nat) : Int), ()))) (EvP.of_eq2 (g := fun _ => some (((cntN s n : Nat) : Int), ())) (EvP.ret rfl) fun k => ?_) ?_
  · show (if (⟨#[10]⟩ : ByteArray).size = 1 then some ((Lib.countByte (s.extract 0 n).data.toList 10 : Int), ()) else none) = _
    rw [if_pos (show (⟨#[10]⟩ : ByteArray).size = 1 from rfl), extract_list]
    unfold Lib.countByte
    rw [count_take s n hn]
  rintro _ rfl
  refine EvP.pos (by omega) (EvP.pos (by omega) ?_)
  refine EvP.bind (R := (· = (((lastN s n : Nat) : Int) - 1, ()))) (EvP.of_eq2 (g := fun _ => some (((lastN s n : Nat) : Int) - 1, ())) (EvP.ret rfl) fun k => ?_) ?_
  · show (if (⟨#[10]⟩ : ByteArray).size = 1 ∧ (s.extract 0 n).size ≤ 1099511627776 then some (Lib.lastIndexByte (s.extract 0 n) 10, ()) else none) = _
    rw [if_pos ⟨rfl, by omega⟩]
    unfold Lib.lastIndexByte
    rw [lastIdx_eq, hsz, lastN_extract s n hn n (Nat.le_refl _)]
  rintro _ rfl
  refine EvP.ret ?_
  unfold lineAns
  rw [pickP_pos ⟨by omega, hin⟩]
  simp only [next64 (show cntN s n ≤ 1099511627776 by omega), Int.toNat_natCast]
  rw [w64_id (x := (n : Int) - (((lastN s n : Nat) : Int) - 1)) (by omega) (by omega), w64_id (by omega) (by omega)]
  congr 2
  omega

theorem words_ev (c : List Int × Int × Int × Unit) (n : Nat) (hn : n ≤ 1000000000) (hc : CurOk c n) :
    EvP (fun k => spec_l1Cur_words.f k (c, ())) (fun y => CurOk y.1 (n + 30) ∧ y.2.1.size ≤ 112) := by
  obtain ⟨code, at_, seed, _⟩ := c
  simp only [spec_l1Cur_words.f]
  refine EvP.bind (pick_ev _ n (by omega) hc 8) ?_
  rintro ⟨⟨code1, at1, seed1, _⟩, x, _⟩ ⟨h1, hx0, _, hx2⟩
  have hx : x < 8 := hx2 (by decide)
  simp only at hx0
  have loop := EvP.loop (L := spec_l1Cur_words.l1) (Q := fun y => CurOk y.1 (n + 30) ∧ y.2.1.size ≤ 112) (fun j st => ∃ (c : List Int × Int × Int × Unit) (s : ByteArray), st = (c, s, (j : Int), ()) ∧ j ≤ 7 ∧ CurOk c (n + 2 + 4 * (7 - j)) ∧ s.size ≤ 16 * (7 - j)) ?_
  · obtain ⟨m, rfl⟩ : ∃ m : Nat, x = (m : Int) := ⟨x.toNat, by omega⟩
    exact loop m _ ⟨_, _, rfl, by omega, h1.mono (by omega), Nat.zero_le _⟩
  · rintro j _ ⟨c, s, rfl, hj, hcc, hs⟩ ih
    simp only [spec_l1Cur_words.l1, decide_eq_true_eq]
    refine EvP.ite (fun h => ?_) (fun h => EvP.ret ⟨hcc.mono (by omega), by show s.size ≤ 112; omega⟩)
    have hj1 : 1 ≤ j := by omega
    refine EvP.bind (of_ev _ (n + 2 + 4 * (7 - j)) (by omega) hcc _ (by decide)) ?_
    rintro ⟨c2, t, _⟩ ⟨h2, ht⟩
    refine EvP.bind (of_ev _ (n + 2 + 4 * (7 - j) + 2) (by omega) h2 _ (by decide)) ?_
    rintro ⟨c3, u, _⟩ ⟨h3, hu⟩
    simp only at ht hu
    have ht' : t.size ≤ 15 := by
      simp only [List.mem_cons, List.not_mem_nil, or_false] at ht
      rcases ht with rfl | rfl | rfl | rfl | rfl | rfl | rfl | rfl | rfl | rfl | rfl | rfl | rfl | rfl | rfl | rfl <;> decide
    have hu' : u.size ≤ 1 := by
      simp only [List.mem_cons, List.not_mem_nil, or_false] at hu
      rcases hu with rfl | rfl | rfl <;> decide
    have e : w64 ((j : Int) - 1) = ((j - 1 : Nat) : Int) := by rw [w64_id (by omega) (by omega)]; omega
    simp only [e]
    refine EvP.pos (by unfold sizeN; omega) (EvP.pos (by unfold sizeN; rw [ByteArray.size_append]; omega) ?_)
    refine ih (j - 1) _ (by omega) ⟨_, _, rfl, by omega, h3.mono (by omega), ?_⟩
    rw [ByteArray.size_append, ByteArray.size_append]
    omega

theorem drawLine_ev (code : List Int) (hb : Bytes code) : EvP (fun k => spec_DrawLineOf.f k (code, ())) (fun y => y.1.size ≤ 112) := by
  simp only [spec_DrawLineOf.f]
  refine EvP.bind (words_ev (code, (0, (0, ()))) 0 (by decide) ⟨hb, Int.le_refl _, Int.le_refl _⟩) ?_
  rintro ⟨⟨c1, a1, s1, _⟩, t, _⟩ ⟨h1, ht⟩
  refine EvP.bind (pick_ev _ (0 + 30) (by decide) h1 _) ?_
  rintro ⟨⟨c2, a2, s2, _⟩, x, _⟩ ⟨h2, _⟩
  refine EvP.bind (pick_ev _ (0 + 30 + 2) (by decide) h2 _) ?_
  rintro ⟨⟨c3, a3, s3, _⟩, z, _⟩ _
  exact EvP.ret ht

theorem ans_nonneg (s : ByteArray) : 0 ≤ (ans s).1 := by
  unfold ans
  by_cases h1 : IsDec s
  · rw [pickP_pos h1]
    exact (valN_small (.inl rfl) h1.2.1 fun j hj => h1.2.2 j hj).1
  · rw [pickP_neg h1]
    by_cases h2 : IsHex s
    · rw [pickP_pos h2]
      exact (valN_small (.inr rfl) (by rw [body_size]; have := h2.2.2.1; omega) fun j hj => h2.2.2.2.1 j hj).1
    · rw [pickP_neg h2]
      exact Int.le_refl _

theorem drawNumber_ev (code : List Int) (hb : Bytes code) : EvP (fun k => spec_DrawNumberOf.f k (code, ())) (fun y => y.1.size ≤ 10) := by
  simp only [spec_DrawNumberOf.f]
  refine EvP.bind (of_ev (code, (0, (0, ()))) 0 (by decide) ⟨hb, Int.le_refl _, Int.le_refl _⟩ _ (by decide)) ?_
  rintro ⟨c2, t, _⟩ ⟨_, ht⟩
  refine EvP.ret ?_
  simp only at ht
  simp only [List.mem_cons, List.not_mem_nil, or_false] at ht
  show t.size ≤ 10
  rcases ht with rfl | rfl | rfl | rfl | rfl | rfl | rfl | rfl | rfl | rfl | rfl | rfl | rfl <;> decide

theorem specNumber_ev (s : ByteArray) (hs : s.size ≤ 1048576) : EvP (fun k => spec_NumberOf.f k (s, ())) (· = ans s) := by
  simp only [spec_NumberOf.f]
  refine EvP.bind (l2Number_ev s hs) ?_
  rintro _ rfl
  exact EvP.ret rfl

theorem last_ev (code : List Int) (hb : Bytes code) : EvP (fun k => ((spec_DrawNumberOf.f k (code, ())).bind fun y5 => ((impl_NumberOf.f k (y5.1, ())).bind fun y6 => ((spec_NumberOf.f k (y5.1, ())).bind fun y7 => (if (y6.2.1 == y7.2.1) = true then (if (y6.1 == y7.1) = true then (some ((decide (y6.1 ≥ (0 : Int))), ())) else (some (false, ()))) else (some (false, ()))))))) (· = (true, ())) := by
  refine EvP.bind (drawNumber_ev code hb) ?_
  rintro ⟨t, _⟩ ht
  simp only at ht
  refine EvP.bind (number_ans t (show t.size ≤ 1048576 by omega)) ?_
  rintro _ rfl
  refine EvP.bind (specNumber_ev t (by omega)) ?_
  rintro _ rfl
  refine EvP.pos (by simp) (EvP.pos (by simp) (EvP.ret ?_))
  rw [decide_eq_true (ans_nonneg t)]

theorem law (a0 a1 : (Ty.slice (.int .u8)).D) (o0 : okD (.slice (.int .u8)) a0) (o1 : okD (.slice (.int .u8)) a1) : EvP (fun k => laws_FnLines.f k (a0, a1, ())) (· = (true, ())) := by
  have b0 := bytes_of o0
  have b1 := bytes_of o1
  simp only [laws_FnLines.f]
  refine EvP.bind (R := fun _ => True) ?_ ?_
  · simp only [laws_big.f]
    exact EvP.ite (fun _ => EvP.ret trivial) (fun _ => EvP.ret trivial)
  rintro ⟨y, _⟩ _
  refine EvP.ite (fun _ => EvP.ret rfl) (fun _ => ?_)
  refine EvP.bind (drawLine_ev a0 b0) ?_
  rintro ⟨s, a, _⟩ hs
  simp only at hs
  refine EvP.bind (implLine_ev s a) ?_
  rintro _ rfl
  refine EvP.bind (specLine_ev s a) ?_
  rintro _ rfl
  refine EvP.neg (by simp) (EvP.neg (by simp) (EvP.neg (by simp) (EvP.ite (fun h => ?_) (fun _ => last_ev a1 b1))))
  have hin : LineIn s a := by
    refine Classical.byContradiction fun hn => ?_
    unfold lineAns at h
    rw [pickP_neg hn] at h
    cases h
  unfold lineAns
  rw [pickP_pos hin]
  obtain ⟨h12, ha0, ha1⟩ := hin
  obtain ⟨n, rfl⟩ : ∃ n : Nat, a = (n : Int) := ⟨a.toNat, by omega⟩
  simp only [Int.toNat_natCast]
  have hl := lastN_le s n
  have hc := cntN_le s n
  have loop := EvP.loop (L := laws_FnLines.l5) (Q := (· = (true, ()))) (fun j st => ∃ i : Nat, st = (a1, s, (n : Int), ((cntN s n + 1 : Nat) : Int), (n : Int) - ((lastN s n : Nat) : Int), ((cntN s i + 1 : Nat) : Int), (i : Int), ()) ∧ i ≤ n ∧ j = n - i) ?_
  · exact loop _ _ ⟨0, rfl, Nat.zero_le _, rfl⟩
  · rintro j _ ⟨i, rfl, hi, rfl⟩ ih
    have hci := cntN_le s i
    simp only [laws_FnLines.l5, decide_eq_true_eq, Int.toNat_natCast, next64 (show i ≤ 1099511627776 by omega), next64 (show cntN s i + 1 ≤ 1099511627776 by omega), bne_iff_ne]
    refine EvP.ite (fun hlt => EvP.pos (by omega) (EvP.pos (by omega) (EvP.pos (by omega) ?_))) (fun hge => ?_)
    · simp only [beq_iff_eq]
      refine EvP.ite (fun h10 => ?_) (fun h10 => ?_)
      · refine ih (n - (i + 1)) _ (by omega) ⟨i + 1, ?_, by omega, rfl⟩
        simp only [cntN, if_pos h10]
      · refine ih (n - (i + 1)) _ (by omega) ⟨i + 1, ?_, by omega, rfl⟩
        simp only [cntN, if_neg h10, Nat.add_zero]
    · obtain rfl : i = n := by omega
      exact EvP.neg (by simp) (EvP.neg (by omega) (EvP.neg (by omega) (last_ev a1 b1)))


end Go.Proofs.YtjijgajbkcflaaaDoor.LawFnLines
