/- The law's counting, copying and comparing functions over any data. -/
import Derived.Test.YtmcdddghlcllbaaLFnExactSizeOf
import Derived.Test.YtmcdddghlcllbaaP0
set_option autoImplicit false
set_option linter.unusedVariables false
set_option linter.unusedSimpArgs false
namespace Go.Proofs.Ytmcdddghlcllbaa.LawFnExactSizeOf
open Go.Proofs.Ytmcdddghlcllbaa.Den Go.Proofs

theorem szField (x : (TField : Ty).D) (n : Int) (h0 : 0 ≤ n) (h1 : n ≤ 1048576) (ho : okD TField x) : EvP (fun k => laws_szField.f k (x, n, ())) (Cnt TField x n) := by
  have hr := reach_lt
  have ho' := ho
  simp only [okD] at ho'
  simp only [laws_szField.f, w64, IntKind.wrap_i64, decide_eq_true_eq]
  repeat' (first
    | (refine EvP.ret ?_; first | (exfalso; omega) | (left; show (-1 : Int) < 0; decide) | (right; refine ⟨by omega, by omega, ?_⟩; repeat' (first | trivial | assumption | (show ByteArray.size _ ≤ 1048576; omega) | constructor)))
    | (refine EvP.ite (fun _ => ?_) (fun _ => ?_)))

theorem szFieldS (l : List (TField : Ty).D) (n : Int) (h0 : 0 ≤ n) (h1 : n ≤ 1048576) (ho : okD (.slice TField) l) : EvP (fun k => laws_szFieldS.f k (l, n, ())) (Cnt (.slice TField) l n) := by
  have hr := reach_lt
  have hl : l.length ≤ reachBytes := ho.1
  have loop := EvP.loop (L := laws_szFieldS.l2) (Q := Cnt (.slice TField) l n) (fun j s => ∃ (i : Nat) (m : Int), s = (l, m, (i : Int), ()) ∧ i ≤ l.length ∧ j = l.length - i ∧ 0 ≤ m ∧ m ≤ n ∧ l.length ≤ 1048576 ∧ ∀ p < i, Fit TField (rdT TField l p)) ?_
  · simp only [laws_szFieldS.f, w64, IntKind.wrap_i64, decide_eq_true_eq]
    refine EvP.ite (fun _ => EvP.ret (.inl (by show (-1 : Int) < 0; decide))) (fun _ => ?_)
    exact loop _ _ ⟨0, _, rfl, Nat.zero_le _, rfl, by omega, by omega, by omega, fun p hp => absurd hp (Nat.not_lt_zero _)⟩
  · rintro j _ ⟨i, m, rfl, hi, rfl, hm0, hm1, hlen, hf⟩ ih
    simp only [laws_szFieldS.l2, w64, IntKind.wrap_i64, decide_eq_true_eq]
    refine EvP.ite (fun hlt => EvP.pos (by omega) (EvP.pos (by omega) ?_)) (fun hge => EvP.ret (.inr ⟨hm0, hm1, hlen, fun x hx => ?_⟩))
    · have hil : i < l.length := by omega
      simp only [Int.toNat_natCast]
      refine EvP.bind (szField _ m hm0 (by omega) (ho.2 _ (rdT_mem hil))) ?_
      rintro ⟨y, _⟩ hy
      refine EvP.ite (fun h => EvP.ret (.inl (by show (-1 : Int) < 0; decide))) (fun h => ?_)
      rcases hy with hy | ⟨hy0, hy1, hy2⟩
      · exact absurd hy h
      · refine ih (l.length - (i + 1)) _ (by omega) ⟨i + 1, y, ?_, by omega, rfl, hy0, by omega, hlen, fun p hp => ?_⟩
        · rw [show ((i + 1 : Nat) : Int) = ((i : Int) + 1 + 9223372036854775808) % 18446744073709551616 - 9223372036854775808 by omega]
        · rcases Nat.lt_or_ge p i with h2 | h2
          · exact hf p h2
          · obtain rfl : p = i := by omega
            exact hy2
    · obtain ⟨p, hp, rfl⟩ := List.getElem_of_mem hx
      have := hf p (by omega)
      rwa [show rdT TField l p = l[p] from rdT_get hp] at this

theorem szType (x : (TType : Ty).D) (n : Int) (h0 : 0 ≤ n) (h1 : n ≤ 1048576) (ho : okD TType x) : EvP (fun k => laws_szType.f k (x, n, ())) (Cnt TType x n) := by
  have hr := reach_lt
  have ho' := ho
  simp only [okD] at ho'
  simp only [laws_szType.f, w64, IntKind.wrap_i64, decide_eq_true_eq]
  repeat' (first
    | (refine EvP.ret ?_; first | (exfalso; omega) | (left; show (-1 : Int) < 0; decide) | (right; refine ⟨by omega, by omega, ?_⟩; repeat' (first | trivial | assumption | (show ByteArray.size _ ≤ 1048576; omega) | constructor)))
    | (refine EvP.ite (fun _ => ?_) (fun _ => ?_))
    | ((with_reducible refine EvP.bind (szFieldS _ _ ?_ ?_ ?_) ?_); (· omega); (· omega); (· first | exact ho.1 | exact ho | exact ho.2.1 | exact ho.2 | exact ho.2.2.1 | exact ho.2.2 | exact ho.2.2.2.1 | exact ho.2.2.2 | exact ho.2.2.2.2.1 | exact ho.2.2.2.2 | exact ho.2.2.2.2.2.1 | exact ho.2.2.2.2.2 | exact ho.2.2.2.2.2.2.1 | exact ho.2.2.2.2.2.2 | exact ho.2.2.2.2.2.2.2.1 | exact ho.2.2.2.2.2.2.2 | exact ho.2.2.2.2.2.2.2.2.1 | exact ho.2.2.2.2.2.2.2.2 | exact ho.2.2.2.2.2.2.2.2.2.1 | exact ho.2.2.2.2.2.2.2.2.2 | exact ho.2.2.2.2.2.2.2.2.2.2.1 | exact ho.2.2.2.2.2.2.2.2.2.2 | exact ho.2.2.2.2.2.2.2.2.2.2.2.1 | exact ho.2.2.2.2.2.2.2.2.2.2.2); rintro ⟨y, _⟩ hy; rcases hy with hy | ⟨_, _, _⟩))

theorem szTypeS (l : List (TType : Ty).D) (n : Int) (h0 : 0 ≤ n) (h1 : n ≤ 1048576) (ho : okD (.slice TType) l) : EvP (fun k => laws_szTypeS.f k (l, n, ())) (Cnt (.slice TType) l n) := by
  have hr := reach_lt
  have hl : l.length ≤ reachBytes := ho.1
  have loop := EvP.loop (L := laws_szTypeS.l2) (Q := Cnt (.slice TType) l n) (fun j s => ∃ (i : Nat) (m : Int), s = (l, m, (i : Int), ()) ∧ i ≤ l.length ∧ j = l.length - i ∧ 0 ≤ m ∧ m ≤ n ∧ l.length ≤ 1048576 ∧ ∀ p < i, Fit TType (rdT TType l p)) ?_
  · simp only [laws_szTypeS.f, w64, IntKind.wrap_i64, decide_eq_true_eq]
    refine EvP.ite (fun _ => EvP.ret (.inl (by show (-1 : Int) < 0; decide))) (fun _ => ?_)
    exact loop _ _ ⟨0, _, rfl, Nat.zero_le _, rfl, by omega, by omega, by omega, fun p hp => absurd hp (Nat.not_lt_zero _)⟩
  · rintro j _ ⟨i, m, rfl, hi, rfl, hm0, hm1, hlen, hf⟩ ih
    simp only [laws_szTypeS.l2, w64, IntKind.wrap_i64, decide_eq_true_eq]
    refine EvP.ite (fun hlt => EvP.pos (by omega) (EvP.pos (by omega) ?_)) (fun hge => EvP.ret (.inr ⟨hm0, hm1, hlen, fun x hx => ?_⟩))
    · have hil : i < l.length := by omega
      simp only [Int.toNat_natCast]
      refine EvP.bind (szType _ m hm0 (by omega) (ho.2 _ (rdT_mem hil))) ?_
      rintro ⟨y, _⟩ hy
      refine EvP.ite (fun h => EvP.ret (.inl (by show (-1 : Int) < 0; decide))) (fun h => ?_)
      rcases hy with hy | ⟨hy0, hy1, hy2⟩
      · exact absurd hy h
      · refine ih (l.length - (i + 1)) _ (by omega) ⟨i + 1, y, ?_, by omega, rfl, hy0, by omega, hlen, fun p hp => ?_⟩
        · rw [show ((i + 1 : Nat) : Int) = ((i : Int) + 1 + 9223372036854775808) % 18446744073709551616 - 9223372036854775808 by omega]
        · rcases Nat.lt_or_ge p i with h2 | h2
          · exact hf p h2
          · obtain rfl : p = i := by omega
            exact hy2
    · obtain ⟨p, hp, rfl⟩ := List.getElem_of_mem hx
      have := hf p (by omega)
      rwa [show rdT TType l p = l[p] from rdT_get hp] at this

theorem toField (x : (TField : Ty).D) (hf : Fit TField x) : EvP (fun k => laws_toField.f k (x, ())) (fun y => y.1 = x) := by
  simp only [laws_toField.f]
  repeat' (first
    | (refine EvP.ret ?_; rfl))

theorem toFieldS (l : List (TField : Ty).D) (hf : Fit (.slice TField) l) : EvP (fun k => laws_toFieldS.f k (l, ())) (fun y => y.1 = l) := by
  have hlen : l.length ≤ 1048576 := hf.1
  have hb : big = 1099511627776 := rfl
  have loop := EvP.loop (L := laws_toFieldS.l1) (Q := fun y => y.1 = l) (fun j s => ∃ (i : Nat) (b : List (TField : Ty).D), s = (l, b, (i : Int), ()) ∧ i ≤ l.length ∧ j = l.length - i ∧ b.length = l.length ∧ b.take i = l.take i) ?_
  · simp only [laws_toFieldS.f]
    exact EvP.pos (by omega) (EvP.pos (by omega) (EvP.pos (by omega) (loop _ _ ⟨0, _, rfl, Nat.zero_le _, rfl, by simp, by simp⟩)))
  · rintro j _ ⟨i, b, rfl, hi, rfl, hbl, hbt⟩ ih
    simp only [laws_toFieldS.l1, w64, IntKind.wrap_i64, decide_eq_true_eq]
    refine EvP.ite (fun hlt => EvP.pos (by omega) (EvP.pos (by omega) ?_)) (fun hge => EvP.ret (take_done (t := TField) hbt (by show b.length ≤ i; omega) (by omega)))
    · have hil : i < l.length := by omega
      simp only [Int.toNat_natCast]
      refine EvP.bind (toField _ (hf.2 _ (rdT_mem hil))) ?_
      rintro ⟨y, _⟩ (rfl : y = _)
      refine EvP.pos (by omega) (EvP.pos (by omega) ?_)
      refine ih (l.length - (i + 1)) _ (by omega) ⟨i + 1, _, ?_, by omega, rfl, ?_, set_next hbt hbl hil⟩
      · rw [show ((i + 1 : Nat) : Int) = ((i : Int) + 1 + 9223372036854775808) % 18446744073709551616 - 9223372036854775808 by omega]
      · rw [List.length_set]; exact hbl

theorem toType (x : (TType : Ty).D) (hf : Fit TType x) : EvP (fun k => laws_toType.f k (x, ())) (fun y => y.1 = x) := by
  simp only [laws_toType.f]
  repeat' (first
    | (refine EvP.ret ?_; rfl)
    | ((with_reducible refine EvP.bind (toFieldS _ ?_) ?_); (· first | exact hf.1 | exact hf | exact hf.2.1 | exact hf.2 | exact hf.2.2.1 | exact hf.2.2 | exact hf.2.2.2.1 | exact hf.2.2.2 | exact hf.2.2.2.2.1 | exact hf.2.2.2.2 | exact hf.2.2.2.2.2.1 | exact hf.2.2.2.2.2 | exact hf.2.2.2.2.2.2.1 | exact hf.2.2.2.2.2.2 | exact hf.2.2.2.2.2.2.2.1 | exact hf.2.2.2.2.2.2.2 | exact hf.2.2.2.2.2.2.2.2.1 | exact hf.2.2.2.2.2.2.2.2 | exact hf.2.2.2.2.2.2.2.2.2.1 | exact hf.2.2.2.2.2.2.2.2.2 | exact hf.2.2.2.2.2.2.2.2.2.2.1 | exact hf.2.2.2.2.2.2.2.2.2.2 | exact hf.2.2.2.2.2.2.2.2.2.2.2.1 | exact hf.2.2.2.2.2.2.2.2.2.2.2); rintro ⟨y, _⟩ (rfl : y = _)))

theorem toTypeS (l : List (TType : Ty).D) (hf : Fit (.slice TType) l) : EvP (fun k => laws_toTypeS.f k (l, ())) (fun y => y.1 = l) := by
  have hlen : l.length ≤ 1048576 := hf.1
  have hb : big = 1099511627776 := rfl
  have loop := EvP.loop (L := laws_toTypeS.l1) (Q := fun y => y.1 = l) (fun j s => ∃ (i : Nat) (b : List (TType : Ty).D), s = (l, b, (i : Int), ()) ∧ i ≤ l.length ∧ j = l.length - i ∧ b.length = l.length ∧ b.take i = l.take i) ?_
  · simp only [laws_toTypeS.f]
    exact EvP.pos (by omega) (EvP.pos (by omega) (EvP.pos (by omega) (loop _ _ ⟨0, _, rfl, Nat.zero_le _, rfl, by simp, by simp⟩)))
  · rintro j _ ⟨i, b, rfl, hi, rfl, hbl, hbt⟩ ih
    simp only [laws_toTypeS.l1, w64, IntKind.wrap_i64, decide_eq_true_eq]
    refine EvP.ite (fun hlt => EvP.pos (by omega) (EvP.pos (by omega) ?_)) (fun hge => EvP.ret (take_done (t := TType) hbt (by show b.length ≤ i; omega) (by omega)))
    · have hil : i < l.length := by omega
      simp only [Int.toNat_natCast]
      refine EvP.bind (toType _ (hf.2 _ (rdT_mem hil))) ?_
      rintro ⟨y, _⟩ (rfl : y = _)
      refine EvP.pos (by omega) (EvP.pos (by omega) ?_)
      refine ih (l.length - (i + 1)) _ (by omega) ⟨i + 1, _, ?_, by omega, rfl, ?_, set_next hbt hbl hil⟩
      · rw [show ((i + 1 : Nat) : Int) = ((i : Int) + 1 + 9223372036854775808) % 18446744073709551616 - 9223372036854775808 by omega]
      · rw [List.length_set]; exact hbl

theorem eqField (x : (TField : Ty).D) (hf : Fit TField x) : EvP (fun k => laws_eqField.f k (x, x, ())) (fun y => y.1 = true) := by
  simp only [laws_eqField.f]
  repeat' (first
    | (refine EvP.ret ?_; rfl)
    | (refine EvP.neg (by simp) ?_))

theorem eqFieldS (l : List (TField : Ty).D) (hf : Fit (.slice TField) l) : EvP (fun k => laws_eqFieldS.f k (l, l, ())) (fun y => y.1 = true) := by
  have hlen : l.length ≤ 1048576 := hf.1
  have loop := EvP.loop (L := laws_eqFieldS.l2) (Q := fun y => y.1 = true) (fun j s => ∃ (i : Nat), s = (l, l, (i : Int), ()) ∧ i ≤ l.length ∧ j = l.length - i) ?_
  · simp only [laws_eqFieldS.f]
    exact EvP.neg (by simp) (loop _ _ ⟨0, rfl, Nat.zero_le _, rfl⟩)
  · rintro j _ ⟨i, rfl, hi, rfl⟩ ih
    simp only [laws_eqFieldS.l2, w64, IntKind.wrap_i64, decide_eq_true_eq]
    refine EvP.ite (fun hlt => EvP.pos (by omega) (EvP.pos (by omega) (EvP.pos (by omega) (EvP.pos (by omega) ?_)))) (fun hge => EvP.ret rfl)
    · have hil : i < l.length := by omega
      simp only [Int.toNat_natCast]
      refine EvP.bind (eqField _ (hf.2 _ (rdT_mem hil))) ?_
      rintro ⟨y, _⟩ (rfl : y = _)
      refine EvP.neg (by simp) ?_
      refine ih (l.length - (i + 1)) _ (by omega) ⟨i + 1, ?_, by omega, rfl⟩
      rw [show ((i + 1 : Nat) : Int) = ((i : Int) + 1 + 9223372036854775808) % 18446744073709551616 - 9223372036854775808 by omega]

theorem eqType (x : (TType : Ty).D) (hf : Fit TType x) : EvP (fun k => laws_eqType.f k (x, x, ())) (fun y => y.1 = true) := by
  simp only [laws_eqType.f]
  repeat' (first
    | (refine EvP.ret ?_; rfl)
    | (refine EvP.neg (by simp) ?_)
    | ((with_reducible refine EvP.bind (eqFieldS _ ?_) ?_); (· first | exact hf.1 | exact hf | exact hf.2.1 | exact hf.2 | exact hf.2.2.1 | exact hf.2.2 | exact hf.2.2.2.1 | exact hf.2.2.2 | exact hf.2.2.2.2.1 | exact hf.2.2.2.2 | exact hf.2.2.2.2.2.1 | exact hf.2.2.2.2.2 | exact hf.2.2.2.2.2.2.1 | exact hf.2.2.2.2.2.2 | exact hf.2.2.2.2.2.2.2.1 | exact hf.2.2.2.2.2.2.2 | exact hf.2.2.2.2.2.2.2.2.1 | exact hf.2.2.2.2.2.2.2.2 | exact hf.2.2.2.2.2.2.2.2.2.1 | exact hf.2.2.2.2.2.2.2.2.2 | exact hf.2.2.2.2.2.2.2.2.2.2.1 | exact hf.2.2.2.2.2.2.2.2.2.2 | exact hf.2.2.2.2.2.2.2.2.2.2.2.1 | exact hf.2.2.2.2.2.2.2.2.2.2.2); rintro ⟨y, _⟩ (rfl : y = _)))

theorem eqTypeS (l : List (TType : Ty).D) (hf : Fit (.slice TType) l) : EvP (fun k => laws_eqTypeS.f k (l, l, ())) (fun y => y.1 = true) := by
  have hlen : l.length ≤ 1048576 := hf.1
  have loop := EvP.loop (L := laws_eqTypeS.l2) (Q := fun y => y.1 = true) (fun j s => ∃ (i : Nat), s = (l, l, (i : Int), ()) ∧ i ≤ l.length ∧ j = l.length - i) ?_
  · simp only [laws_eqTypeS.f]
    exact EvP.neg (by simp) (loop _ _ ⟨0, rfl, Nat.zero_le _, rfl⟩)
  · rintro j _ ⟨i, rfl, hi, rfl⟩ ih
    simp only [laws_eqTypeS.l2, w64, IntKind.wrap_i64, decide_eq_true_eq]
    refine EvP.ite (fun hlt => EvP.pos (by omega) (EvP.pos (by omega) (EvP.pos (by omega) (EvP.pos (by omega) ?_)))) (fun hge => EvP.ret rfl)
    · have hil : i < l.length := by omega
      simp only [Int.toNat_natCast]
      refine EvP.bind (eqType _ (hf.2 _ (rdT_mem hil))) ?_
      rintro ⟨y, _⟩ (rfl : y = _)
      refine EvP.neg (by simp) ?_
      refine ih (l.length - (i + 1)) _ (by omega) ⟨i + 1, ?_, by omega, rfl⟩
      rw [show ((i + 1 : Nat) : Int) = ((i : Int) + 1 + 9223372036854775808) % 18446744073709551616 - 9223372036854775808 by omega]

end Go.Proofs.Ytmcdddghlcllbaa.LawFnExactSizeOf
