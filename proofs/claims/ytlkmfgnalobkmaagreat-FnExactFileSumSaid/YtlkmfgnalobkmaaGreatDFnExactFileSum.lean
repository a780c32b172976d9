/- The law's counting, copying and comparing functions over any data. -/
import Derived.Test.YtlkmfgnalobkmaaGreatLFnExactFileSum
import Derived.Test.YtlkmfgnalobkmaaGreatP0
set_option autoImplicit false
set_option linter.unusedVariables false
set_option linter.unusedSimpArgs false
namespace Go.Proofs.YtlkmfgnalobkmaaGreat.LawFnExactFileSum
open Go.Proofs.YtlkmfgnalobkmaaGreat.Den Go.Proofs

theorem szStringS (l : List (.str : Ty).D) (n : Int) (h0 : 0 ≤ n) (h1 : n ≤ 1048576) (ho : okD (.slice .str) l) : EvP (fun k => laws_szStringS.f k (l, n, ())) (Cnt (.slice .str) l n) := by
  have hr := reach_lt
  have hl : l.length ≤ reachBytes := ho.1
  have loop := EvP.loop (L := laws_szStringS.l2) (Q := Cnt (.slice .str) l n) (fun j s => ∃ (i : Nat) (m : Int), s = (l, m, (i : Int), ()) ∧ i ≤ l.length ∧ j = l.length - i ∧ 0 ≤ m ∧ m ≤ n ∧ l.length ≤ 1048576 ∧ ∀ p < i, Fit .str (rdT .str l p)) ?_
  · simp only [laws_szStringS.f, w64, IntKind.wrap_i64, decide_eq_true_eq]
    refine EvP.ite (fun _ => EvP.ret (.inl (by show (-1 : Int) < 0; decide))) (fun _ => ?_)
    exact loop _ _ ⟨0, _, rfl, Nat.zero_le _, rfl, by omega, by omega, by omega, fun p hp => absurd hp (Nat.not_lt_zero _)⟩
  · rintro j _ ⟨i, m, rfl, hi, rfl, hm0, hm1, hlen, hf⟩ ih
    simp only [laws_szStringS.l2, w64, IntKind.wrap_i64, decide_eq_true_eq]
    refine EvP.ite (fun hlt => EvP.pos (by omega) (EvP.pos (by omega) ?_)) (fun hge => EvP.ret (.inr ⟨hm0, hm1, hlen, fun x hx => ?_⟩))
    · have hil : i < l.length := by omega
      simp only [Int.toNat_natCast]
      have hs := ho.2 _ (rdT_mem hil)
      simp only [okD] at hs
      refine EvP.ite (fun h => EvP.ret (.inl (by show (-1 : Int) < 0; decide))) (fun h => ?_)
      have hy2 : Fit .str (rdT .str l i) := by
        show ByteArray.size _ ≤ 1048576
        omega
      refine ih (l.length - (i + 1)) _ (by omega) ⟨i + 1, (m - ((rdT .str l i).size : Int) + 9223372036854775808) % 18446744073709551616 - 9223372036854775808, ?_, by omega, rfl, by omega, by omega, hlen, fun p hp => ?_⟩
      · rw [show ((i + 1 : Nat) : Int) = ((i : Int) + 1 + 9223372036854775808) % 18446744073709551616 - 9223372036854775808 by omega]
      · rcases Nat.lt_or_ge p i with h2 | h2
        · exact hf p h2
        · obtain rfl : p = i := by omega
          exact hy2
    · obtain ⟨p, hp, rfl⟩ := List.getElem_of_mem hx
      have := hf p (by omega)
      rwa [show rdT .str l p = l[p] from rdT_get hp] at this

theorem szField (x : (TField : Ty).D) (n : Int) (h0 : 0 ≤ n) (h1 : n ≤ 1048576) (ho : okD TField x) : EvP (fun k => laws_szField.f k (x, n, ())) (Cnt TField x n) := by
  have hr := reach_lt
  have ho' := ho
  simp only [okD] at ho'
  simp only [laws_szField.f, w64, IntKind.wrap_i64, decide_eq_true_eq]
  repeat' (first
    | (refine EvP.ret ?_; first | (exfalso; omega) | (left; show (-1 : Int) < 0; decide) | (right; refine ⟨by omega, by omega, ?_⟩; repeat' (first | trivial | assumption | (show ByteArray.size _ ≤ 1048576; omega) | constructor)))
    | (refine EvP.ite (fun _ => ?_) (fun _ => ?_)))

theorem szFieldS (l : List (TField : Ty).D) (n : Int) (h0 : 0 ≤ n) (h1 : n ≤ 1048576) (ho : okD (.slice TField) l) : EvP (fun k => laws_szFieldS.f k (l, n, ())) (Cnt (.slice TField) l n) := by
  have hr := reach_lt
  have hl : l.length ≤ reachBytes := ho.1
  have loop := EvP.loop (L := laws_szFieldS.l2) (Q := Cnt (.slice TField) l n) (fun j s => ∃ (i : Nat) (m : Int), s = (l, m, (i : Int), ()) ∧ i ≤ l.length ∧ j = l.length - i ∧ 0 ≤ m ∧ m ≤ n ∧ l.length ≤ 1048576 ∧ ∀ p < i, Fit TField (rdT TField l p)) ?_
  · simp only [laws_szFieldS.f, w64, IntKind.wrap_i64, decide_eq_true_eq]
    refine EvP.ite (fun _ => EvP.ret (.inl (by show (-1 : Int) < 0; decide))) (fun _ => ?_)
    exact loop _ _ ⟨0, _, rfl, Nat.zero_le _, rfl, by omega, by omega, by omega, fun p hp => absurd hp (Nat.not_lt_zero _)⟩
  · rintro j _ ⟨i, m, rfl, hi, rfl, hm0, hm1, hlen, hf⟩ ih
    simp only [laws_szFieldS.l2, w64, IntKind.wrap_i64, decide_eq_true_eq]
    refine EvP.ite (fun hlt => EvP.pos (by omega) (EvP.pos (by omega) ?_)) (fun hge => EvP.ret (.inr ⟨hm0, hm1, hlen, fun x hx => ?_⟩))
    · have hil : i < l.length := by omega
      simp only [Int.toNat_natCast]
      refine EvP.bind (szField _ m hm0 (by omega) (ho.2 _ (rdT_mem hil))) ?_
      rintro ⟨y, _⟩ hy
      refine EvP.ite (fun h => EvP.ret (.inl (by show (-1 : Int) < 0; decide))) (fun h => ?_)
      rcases hy with hy | ⟨hy0, hy1, hy2⟩
      · exact absurd hy h
      · refine ih (l.length - (i + 1)) _ (by omega) ⟨i + 1, y, ?_, by omega, rfl, hy0, by omega, hlen, fun p hp => ?_⟩
        · rw [show ((i + 1 : Nat) : Int) = ((i : Int) + 1 + 9223372036854775808) % 18446744073709551616 - 9223372036854775808 by omega]
        · rcases Nat.lt_or_ge p i with h2 | h2
          · exact hf p h2
          · obtain rfl : p = i := by omega
            exact hy2
    · obtain ⟨p, hp, rfl⟩ := List.getElem_of_mem hx
      have := hf p (by omega)
      rwa [show rdT TField l p = l[p] from rdT_get hp] at this

theorem szType (x : (TType : Ty).D) (n : Int) (h0 : 0 ≤ n) (h1 : n ≤ 1048576) (ho : okD TType x) : EvP (fun k => laws_szType.f k (x, n, ())) (Cnt TType x n) := by
  have hr := reach_lt
  have ho' := ho
  simp only [okD] at ho'
  simp only [laws_szType.f, w64, IntKind.wrap_i64, decide_eq_true_eq]
  repeat' (first
    | (refine EvP.ret ?_; first | (exfalso; omega) | (left; show (-1 : Int) < 0; decide) | (right; refine ⟨by omega, by omega, ?_⟩; repeat' (first | trivial | assumption | (show ByteArray.size _ ≤ 1048576; omega) | constructor)))
    | (refine EvP.ite (fun _ => ?_) (fun _ => ?_))
    | ((with_reducible refine EvP.bind (szFieldS _ _ ?_ ?_ ?_) ?_); (· omega); (· omega); (· first | exact ho.1 | exact ho | exact ho.2.1 | exact ho.2 | exact ho.2.2.1 | exact ho.2.2 | exact ho.2.2.2.1 | exact ho.2.2.2 | exact ho.2.2.2.2.1 | exact ho.2.2.2.2 | exact ho.2.2.2.2.2.1 | exact ho.2.2.2.2.2 | exact ho.2.2.2.2.2.2.1 | exact ho.2.2.2.2.2.2 | exact ho.2.2.2.2.2.2.2.1 | exact ho.2.2.2.2.2.2.2 | exact ho.2.2.2.2.2.2.2.2.1 | exact ho.2.2.2.2.2.2.2.2 | exact ho.2.2.2.2.2.2.2.2.2.1 | exact ho.2.2.2.2.2.2.2.2.2 | exact ho.2.2.2.2.2.2.2.2.2.2.1 | exact ho.2.2.2.2.2.2.2.2.2.2 | exact ho.2.2.2.2.2.2.2.2.2.2.2.1 | exact ho.2.2.2.2.2.2.2.2.2.2.2); rintro ⟨y, _⟩ hy; rcases hy with hy | ⟨_, _, _⟩))

theorem szTypeS (l : List (TType : Ty).D) (n : Int) (h0 : 0 ≤ n) (h1 : n ≤ 1048576) (ho : okD (.slice TType) l) : EvP (fun k => laws_szTypeS.f k (l, n, ())) (Cnt (.slice TType) l n) := by
  have hr := reach_lt
  have hl : l.length ≤ reachBytes := ho.1
  have loop := EvP.loop (L := laws_szTypeS.l2) (Q := Cnt (.slice TType) l n) (fun j s => ∃ (i : Nat) (m : Int), s = (l, m, (i : Int), ()) ∧ i ≤ l.length ∧ j = l.length - i ∧ 0 ≤ m ∧ m ≤ n ∧ l.length ≤ 1048576 ∧ ∀ p < i, Fit TType (rdT TType l p)) ?_
  · simp only [laws_szTypeS.f, w64, IntKind.wrap_i64, decide_eq_true_eq]
    refine EvP.ite (fun _ => EvP.ret (.inl (by show (-1 : Int) < 0; decide))) (fun _ => ?_)
    exact loop _ _ ⟨0, _, rfl, Nat.zero_le _, rfl, by omega, by omega, by omega, fun p hp => absurd hp (Nat.not_lt_zero _)⟩
  · rintro j _ ⟨i, m, rfl, hi, rfl, hm0, hm1, hlen, hf⟩ ih
    simp only [laws_szTypeS.l2, w64, IntKind.wrap_i64, decide_eq_true_eq]
    refine EvP.ite (fun hlt => EvP.pos (by omega) (EvP.pos (by omega) ?_)) (fun hge => EvP.ret (.inr ⟨hm0, hm1, hlen, fun x hx => ?_⟩))
    · have hil : i < l.length := by omega
      simp only [Int.toNat_natCast]
      refine EvP.bind (szType _ m hm0 (by omega) (ho.2 _ (rdT_mem hil))) ?_
      rintro ⟨y, _⟩ hy
      refine EvP.ite (fun h => EvP.ret (.inl (by show (-1 : Int) < 0; decide))) (fun h => ?_)
      rcases hy with hy | ⟨hy0, hy1, hy2⟩
      · exact absurd hy h
      · refine ih (l.length - (i + 1)) _ (by omega) ⟨i + 1, y, ?_, by omega, rfl, hy0, by omega, hlen, fun p hp => ?_⟩
        · rw [show ((i + 1 : Nat) : Int) = ((i : Int) + 1 + 9223372036854775808) % 18446744073709551616 - 9223372036854775808 by omega]
        · rcases Nat.lt_or_ge p i with h2 | h2
          · exact hf p h2
          · obtain rfl : p = i := by omega
            exact hy2
    · obtain ⟨p, hp, rfl⟩ := List.getElem_of_mem hx
      have := hf p (by omega)
      rwa [show rdT TType l p = l[p] from rdT_get hp] at this

theorem szParam (x : (TParam : Ty).D) (n : Int) (h0 : 0 ≤ n) (h1 : n ≤ 1048576) (ho : okD TParam x) : EvP (fun k => laws_szParam.f k (x, n, ())) (Cnt TParam x n) := by
  have hr := reach_lt
  have ho' := ho
  simp only [okD] at ho'
  simp only [laws_szParam.f, w64, IntKind.wrap_i64, decide_eq_true_eq]
  repeat' (first
    | (refine EvP.ret ?_; first | (exfalso; omega) | (left; show (-1 : Int) < 0; decide) | (right; refine ⟨by omega, by omega, ?_⟩; repeat' (first | trivial | assumption | (show ByteArray.size _ ≤ 1048576; omega) | constructor)))
    | (refine EvP.ite (fun _ => ?_) (fun _ => ?_)))

theorem szParamS (l : List (TParam : Ty).D) (n : Int) (h0 : 0 ≤ n) (h1 : n ≤ 1048576) (ho : okD (.slice TParam) l) : EvP (fun k => laws_szParamS.f k (l, n, ())) (Cnt (.slice TParam) l n) := by
  have hr := reach_lt
  have hl : l.length ≤ reachBytes := ho.1
  have loop := EvP.loop (L := laws_szParamS.l2) (Q := Cnt (.slice TParam) l n) (fun j s => ∃ (i : Nat) (m : Int), s = (l, m, (i : Int), ()) ∧ i ≤ l.length ∧ j = l.length - i ∧ 0 ≤ m ∧ m ≤ n ∧ l.length ≤ 1048576 ∧ ∀ p < i, Fit TParam (rdT TParam l p)) ?_
  · simp only [laws_szParamS.f, w64, IntKind.wrap_i64, decide_eq_true_eq]
    refine EvP.ite (fun _ => EvP.ret (.inl (by show (-1 : Int) < 0; decide))) (fun _ => ?_)
    exact loop _ _ ⟨0, _, rfl, Nat.zero_le _, rfl, by omega, by omega, by omega, fun p hp => absurd hp (Nat.not_lt_zero _)⟩
  · rintro j _ ⟨i, m, rfl, hi, rfl, hm0, hm1, hlen, hf⟩ ih
    simp only [laws_szParamS.l2, w64, IntKind.wrap_i64, decide_eq_true_eq]
    refine EvP.ite (fun hlt => EvP.pos (by omega) (EvP.pos (by omega) ?_)) (fun hge => EvP.ret (.inr ⟨hm0, hm1, hlen, fun x hx => ?_⟩))
    · have hil : i < l.length := by omega
      simp only [Int.toNat_natCast]
      refine EvP.bind (szParam _ m hm0 (by omega) (ho.2 _ (rdT_mem hil))) ?_
      rintro ⟨y, _⟩ hy
      refine EvP.ite (fun h => EvP.ret (.inl (by show (-1 : Int) < 0; decide))) (fun h => ?_)
      rcases hy with hy | ⟨hy0, hy1, hy2⟩
      · exact absurd hy h
      · refine ih (l.length - (i + 1)) _ (by omega) ⟨i + 1, y, ?_, by omega, rfl, hy0, by omega, hlen, fun p hp => ?_⟩
        · rw [show ((i + 1 : Nat) : Int) = ((i : Int) + 1 + 9223372036854775808) % 18446744073709551616 - 9223372036854775808 by omega]
        · rcases Nat.lt_or_ge p i with h2 | h2
          · exact hf p h2
          · obtain rfl : p = i := by omega
            exact hy2
    · obtain ⟨p, hp, rfl⟩ := List.getElem_of_mem hx
      have := hf p (by omega)
      rwa [show rdT TParam l p = l[p] from rdT_get hp] at this

theorem szObject (x : (TObject : Ty).D) (n : Int) (h0 : 0 ≤ n) (h1 : n ≤ 1048576) (ho : okD TObject x) : EvP (fun k => laws_szObject.f k (x, n, ())) (Cnt TObject x n) := by
  have hr := reach_lt
  have ho' := ho
  simp only [okD] at ho'
  simp only [laws_szObject.f, w64, IntKind.wrap_i64, decide_eq_true_eq]
  repeat' (first
    | (refine EvP.ret ?_; first | (exfalso; omega) | (left; show (-1 : Int) < 0; decide) | (right; refine ⟨by omega, by omega, ?_⟩; repeat' (first | trivial | assumption | (show ByteArray.size _ ≤ 1048576; omega) | constructor)))
    | (refine EvP.ite (fun _ => ?_) (fun _ => ?_))
    | ((with_reducible refine EvP.bind (szParamS _ _ ?_ ?_ ?_) ?_); (· omega); (· omega); (· first | exact ho.1 | exact ho | exact ho.2.1 | exact ho.2 | exact ho.2.2.1 | exact ho.2.2 | exact ho.2.2.2.1 | exact ho.2.2.2 | exact ho.2.2.2.2.1 | exact ho.2.2.2.2 | exact ho.2.2.2.2.2.1 | exact ho.2.2.2.2.2 | exact ho.2.2.2.2.2.2.1 | exact ho.2.2.2.2.2.2 | exact ho.2.2.2.2.2.2.2.1 | exact ho.2.2.2.2.2.2.2 | exact ho.2.2.2.2.2.2.2.2.1 | exact ho.2.2.2.2.2.2.2.2 | exact ho.2.2.2.2.2.2.2.2.2.1 | exact ho.2.2.2.2.2.2.2.2.2 | exact ho.2.2.2.2.2.2.2.2.2.2.1 | exact ho.2.2.2.2.2.2.2.2.2.2 | exact ho.2.2.2.2.2.2.2.2.2.2.2.1 | exact ho.2.2.2.2.2.2.2.2.2.2.2); rintro ⟨y, _⟩ hy; rcases hy with hy | ⟨_, _, _⟩))

theorem szObjectS (l : List (TObject : Ty).D) (n : Int) (h0 : 0 ≤ n) (h1 : n ≤ 1048576) (ho : okD (.slice TObject) l) : EvP (fun k => laws_szObjectS.f k (l, n, ())) (Cnt (.slice TObject) l n) := by
  have hr := reach_lt
  have hl : l.length ≤ reachBytes := ho.1
  have loop := EvP.loop (L := laws_szObjectS.l2) (Q := Cnt (.slice TObject) l n) (fun j s => ∃ (i : Nat) (m : Int), s = (l, m, (i : Int), ()) ∧ i ≤ l.length ∧ j = l.length - i ∧ 0 ≤ m ∧ m ≤ n ∧ l.length ≤ 1048576 ∧ ∀ p < i, Fit TObject (rdT TObject l p)) ?_
  · simp only [laws_szObjectS.f, w64, IntKind.wrap_i64, decide_eq_true_eq]
    refine EvP.ite (fun _ => EvP.ret (.inl (by show (-1 : Int) < 0; decide))) (fun _ => ?_)
    exact loop _ _ ⟨0, _, rfl, Nat.zero_le _, rfl, by omega, by omega, by omega, fun p hp => absurd hp (Nat.not_lt_zero _)⟩
  · rintro j _ ⟨i, m, rfl, hi, rfl, hm0, hm1, hlen, hf⟩ ih
    simp only [laws_szObjectS.l2, w64, IntKind.wrap_i64, decide_eq_true_eq]
    refine EvP.ite (fun hlt => EvP.pos (by omega) (EvP.pos (by omega) ?_)) (fun hge => EvP.ret (.inr ⟨hm0, hm1, hlen, fun x hx => ?_⟩))
    · have hil : i < l.length := by omega
      simp only [Int.toNat_natCast]
      refine EvP.bind (szObject _ m hm0 (by omega) (ho.2 _ (rdT_mem hil))) ?_
      rintro ⟨y, _⟩ hy
      refine EvP.ite (fun h => EvP.ret (.inl (by show (-1 : Int) < 0; decide))) (fun h => ?_)
      rcases hy with hy | ⟨hy0, hy1, hy2⟩
      · exact absurd hy h
      · refine ih (l.length - (i + 1)) _ (by omega) ⟨i + 1, y, ?_, by omega, rfl, hy0, by omega, hlen, fun p hp => ?_⟩
        · rw [show ((i + 1 : Nat) : Int) = ((i : Int) + 1 + 9223372036854775808) % 18446744073709551616 - 9223372036854775808 by omega]
        · rcases Nat.lt_or_ge p i with h2 | h2
          · exact hf p h2
          · obtain rfl : p = i := by omega
            exact hy2
    · obtain ⟨p, hp, rfl⟩ := List.getElem_of_mem hx
      have := hf p (by omega)
      rwa [show rdT TObject l p = l[p] from rdT_get hp] at this

theorem szUse (x : (TUse : Ty).D) (n : Int) (h0 : 0 ≤ n) (h1 : n ≤ 1048576) (ho : okD TUse x) : EvP (fun k => laws_szUse.f k (x, n, ())) (Cnt TUse x n) := by
  have hr := reach_lt
  have ho' := ho
  simp only [okD] at ho'
  simp only [laws_szUse.f, w64, IntKind.wrap_i64, decide_eq_true_eq]
  repeat' (first
    | (refine EvP.ret ?_; first | (exfalso; omega) | (left; show (-1 : Int) < 0; decide) | (right; refine ⟨by omega, by omega, ?_⟩; repeat' (first | trivial | assumption | (show ByteArray.size _ ≤ 1048576; omega) | constructor)))
    | (refine EvP.ite (fun _ => ?_) (fun _ => ?_)))

theorem szUseS (l : List (TUse : Ty).D) (n : Int) (h0 : 0 ≤ n) (h1 : n ≤ 1048576) (ho : okD (.slice TUse) l) : EvP (fun k => laws_szUseS.f k (l, n, ())) (Cnt (.slice TUse) l n) := by
  have hr := reach_lt
  have hl : l.length ≤ reachBytes := ho.1
  have loop := EvP.loop (L := laws_szUseS.l2) (Q := Cnt (.slice TUse) l n) (fun j s => ∃ (i : Nat) (m : Int), s = (l, m, (i : Int), ()) ∧ i ≤ l.length ∧ j = l.length - i ∧ 0 ≤ m ∧ m ≤ n ∧ l.length ≤ 1048576 ∧ ∀ p < i, Fit TUse (rdT TUse l p)) ?_
  · simp only [laws_szUseS.f, w64, IntKind.wrap_i64, decide_eq_true_eq]
    refine EvP.ite (fun _ => EvP.ret (.inl (by show (-1 : Int) < 0; decide))) (fun _ => ?_)
    exact loop _ _ ⟨0, _, rfl, Nat.zero_le _, rfl, by omega, by omega, by omega, fun p hp => absurd hp (Nat.not_lt_zero _)⟩
  · rintro j _ ⟨i, m, rfl, hi, rfl, hm0, hm1, hlen, hf⟩ ih
    simp only [laws_szUseS.l2, w64, IntKind.wrap_i64, decide_eq_true_eq]
    refine EvP.ite (fun hlt => EvP.pos (by omega) (EvP.pos (by omega) ?_)) (fun hge => EvP.ret (.inr ⟨hm0, hm1, hlen, fun x hx => ?_⟩))
    · have hil : i < l.length := by omega
      simp only [Int.toNat_natCast]
      refine EvP.bind (szUse _ m hm0 (by omega) (ho.2 _ (rdT_mem hil))) ?_
      rintro ⟨y, _⟩ hy
      refine EvP.ite (fun h => EvP.ret (.inl (by show (-1 : Int) < 0; decide))) (fun h => ?_)
      rcases hy with hy | ⟨hy0, hy1, hy2⟩
      · exact absurd hy h
      · refine ih (l.length - (i + 1)) _ (by omega) ⟨i + 1, y, ?_, by omega, rfl, hy0, by omega, hlen, fun p hp => ?_⟩
        · rw [show ((i + 1 : Nat) : Int) = ((i : Int) + 1 + 9223372036854775808) % 18446744073709551616 - 9223372036854775808 by omega]
        · rcases Nat.lt_or_ge p i with h2 | h2
          · exact hf p h2
          · obtain rfl : p = i := by omega
            exact hy2
    · obtain ⟨p, hp, rfl⟩ := List.getElem_of_mem hx
      have := hf p (by omega)
      rwa [show rdT TUse l p = l[p] from rdT_get hp] at this

theorem szScope (x : (TScope : Ty).D) (n : Int) (h0 : 0 ≤ n) (h1 : n ≤ 1048576) (ho : okD TScope x) : EvP (fun k => laws_szScope.f k (x, n, ())) (Cnt TScope x n) := by
  have hr := reach_lt
  have ho' := ho
  simp only [okD] at ho'
  simp only [laws_szScope.f, w64, IntKind.wrap_i64, decide_eq_true_eq]
  repeat' (first
    | (refine EvP.ret ?_; first | (exfalso; omega) | (left; show (-1 : Int) < 0; decide) | (right; refine ⟨by omega, by omega, ?_⟩; repeat' (first | trivial | assumption | (show ByteArray.size _ ≤ 1048576; omega) | constructor)))
    | (refine EvP.ite (fun _ => ?_) (fun _ => ?_))
    | ((with_reducible refine EvP.bind (szStringS _ _ ?_ ?_ ?_) ?_); (· omega); (· omega); (· first | exact ho.1 | exact ho | exact ho.2.1 | exact ho.2 | exact ho.2.2.1 | exact ho.2.2 | exact ho.2.2.2.1 | exact ho.2.2.2 | exact ho.2.2.2.2.1 | exact ho.2.2.2.2 | exact ho.2.2.2.2.2.1 | exact ho.2.2.2.2.2 | exact ho.2.2.2.2.2.2.1 | exact ho.2.2.2.2.2.2 | exact ho.2.2.2.2.2.2.2.1 | exact ho.2.2.2.2.2.2.2 | exact ho.2.2.2.2.2.2.2.2.1 | exact ho.2.2.2.2.2.2.2.2 | exact ho.2.2.2.2.2.2.2.2.2.1 | exact ho.2.2.2.2.2.2.2.2.2 | exact ho.2.2.2.2.2.2.2.2.2.2.1 | exact ho.2.2.2.2.2.2.2.2.2.2 | exact ho.2.2.2.2.2.2.2.2.2.2.2.1 | exact ho.2.2.2.2.2.2.2.2.2.2.2); rintro ⟨y, _⟩ hy; rcases hy with hy | ⟨_, _, _⟩)
    | ((with_reducible refine EvP.bind (szTypeS _ _ ?_ ?_ ?_) ?_); (· omega); (· omega); (· first | exact ho.1 | exact ho | exact ho.2.1 | exact ho.2 | exact ho.2.2.1 | exact ho.2.2 | exact ho.2.2.2.1 | exact ho.2.2.2 | exact ho.2.2.2.2.1 | exact ho.2.2.2.2 | exact ho.2.2.2.2.2.1 | exact ho.2.2.2.2.2 | exact ho.2.2.2.2.2.2.1 | exact ho.2.2.2.2.2.2 | exact ho.2.2.2.2.2.2.2.1 | exact ho.2.2.2.2.2.2.2 | exact ho.2.2.2.2.2.2.2.2.1 | exact ho.2.2.2.2.2.2.2.2 | exact ho.2.2.2.2.2.2.2.2.2.1 | exact ho.2.2.2.2.2.2.2.2.2 | exact ho.2.2.2.2.2.2.2.2.2.2.1 | exact ho.2.2.2.2.2.2.2.2.2.2 | exact ho.2.2.2.2.2.2.2.2.2.2.2.1 | exact ho.2.2.2.2.2.2.2.2.2.2.2); rintro ⟨y, _⟩ hy; rcases hy with hy | ⟨_, _, _⟩)
    | ((with_reducible refine EvP.bind (szObjectS _ _ ?_ ?_ ?_) ?_); (· omega); (· omega); (· first | exact ho.1 | exact ho | exact ho.2.1 | exact ho.2 | exact ho.2.2.1 | exact ho.2.2 | exact ho.2.2.2.1 | exact ho.2.2.2 | exact ho.2.2.2.2.1 | exact ho.2.2.2.2 | exact ho.2.2.2.2.2.1 | exact ho.2.2.2.2.2 | exact ho.2.2.2.2.2.2.1 | exact ho.2.2.2.2.2.2 | exact ho.2.2.2.2.2.2.2.1 | exact ho.2.2.2.2.2.2.2 | exact ho.2.2.2.2.2.2.2.2.1 | exact ho.2.2.2.2.2.2.2.2 | exact ho.2.2.2.2.2.2.2.2.2.1 | exact ho.2.2.2.2.2.2.2.2.2 | exact ho.2.2.2.2.2.2.2.2.2.2.1 | exact ho.2.2.2.2.2.2.2.2.2.2 | exact ho.2.2.2.2.2.2.2.2.2.2.2.1 | exact ho.2.2.2.2.2.2.2.2.2.2.2); rintro ⟨y, _⟩ hy; rcases hy with hy | ⟨_, _, _⟩)
    | ((with_reducible refine EvP.bind (szUseS _ _ ?_ ?_ ?_) ?_); (· omega); (· omega); (· first | exact ho.1 | exact ho | exact ho.2.1 | exact ho.2 | exact ho.2.2.1 | exact ho.2.2 | exact ho.2.2.2.1 | exact ho.2.2.2 | exact ho.2.2.2.2.1 | exact ho.2.2.2.2 | exact ho.2.2.2.2.2.1 | exact ho.2.2.2.2.2 | exact ho.2.2.2.2.2.2.1 | exact ho.2.2.2.2.2.2 | exact ho.2.2.2.2.2.2.2.1 | exact ho.2.2.2.2.2.2.2 | exact ho.2.2.2.2.2.2.2.2.1 | exact ho.2.2.2.2.2.2.2.2 | exact ho.2.2.2.2.2.2.2.2.2.1 | exact ho.2.2.2.2.2.2.2.2.2 | exact ho.2.2.2.2.2.2.2.2.2.2.1 | exact ho.2.2.2.2.2.2.2.2.2.2 | exact ho.2.2.2.2.2.2.2.2.2.2.2.1 | exact ho.2.2.2.2.2.2.2.2.2.2.2); rintro ⟨y, _⟩ hy; rcases hy with hy | ⟨_, _, _⟩))

theorem toStringS (l : List (.str : Ty).D) (hf : Fit (.slice .str) l) : EvP (fun k => laws_toStringS.f k (l, ())) (fun y => y.1 = l) := by
  have hlen : l.length ≤ 1048576 := hf.1
  have hb : big = 1099511627776 := rfl
  have loop := EvP.loop (L := laws_toStringS.l1) (Q := fun y => y.1 = l) (fun j s => ∃ (i : Nat) (b : List (.str : Ty).D), s = (l, b, (i : Int), ()) ∧ i ≤ l.length ∧ j = l.length - i ∧ b.length = l.length ∧ b.take i = l.take i) ?_
  · simp only [laws_toStringS.f]
    exact EvP.pos (by omega) (EvP.pos (by omega) (EvP.pos (by omega) (loop _ _ ⟨0, _, rfl, Nat.zero_le _, rfl, by simp, by simp⟩)))
  · rintro j _ ⟨i, b, rfl, hi, rfl, hbl, hbt⟩ ih
    simp only [laws_toStringS.l1, w64, IntKind.wrap_i64, decide_eq_true_eq]
    refine EvP.ite (fun hlt => EvP.pos (by omega) (EvP.pos (by omega) ?_)) (fun hge => EvP.ret (take_done (t := .str) hbt (by show b.length ≤ i; omega) (by omega)))
    · have hil : i < l.length := by omega
      simp only [Int.toNat_natCast]
      refine EvP.pos (by omega) (EvP.pos (by omega) ?_)
      refine ih (l.length - (i + 1)) _ (by omega) ⟨i + 1, _, ?_, by omega, rfl, ?_, set_next hbt hbl hil⟩
      · rw [show ((i + 1 : Nat) : Int) = ((i : Int) + 1 + 9223372036854775808) % 18446744073709551616 - 9223372036854775808 by omega]
      · rw [List.length_set]; exact hbl

theorem toField (x : (TField : Ty).D) (hf : Fit TField x) : EvP (fun k => laws_toField.f k (x, ())) (fun y => y.1 = x) := by
  simp only [laws_toField.f]
  repeat' (first
    | (refine EvP.ret ?_; rfl))

theorem toFieldS (l : List (TField : Ty).D) (hf : Fit (.slice TField) l) : EvP (fun k => laws_toFieldS.f k (l, ())) (fun y => y.1 = l) := by
  have hlen : l.length ≤ 1048576 := hf.1
  have hb : big = 1099511627776 := rfl
  have loop := EvP.loop (L := laws_toFieldS.l1) (Q := fun y => y.1 = l) (fun j s => ∃ (i : Nat) (b : List (TField : Ty).D), s = (l, b, (i : Int), ()) ∧ i ≤ l.length ∧ j = l.length - i ∧ b.length = l.length ∧ b.take i = l.take i) ?_
  · simp only [laws_toFieldS.f]
    exact EvP.pos (by omega) (EvP.pos (by omega) (EvP.pos (by omega) (loop _ _ ⟨0, _, rfl, Nat.zero_le _, rfl, by simp, by simp⟩)))
  · rintro j _ ⟨i, b, rfl, hi, rfl, hbl, hbt⟩ ih
    simp only [laws_toFieldS.l1, w64, IntKind.wrap_i64, decide_eq_true_eq]
    refine EvP.ite (fun hlt => EvP.pos (by omega) (EvP.pos (by omega) ?_)) (fun hge => EvP.ret (take_done (t := TField) hbt (by show b.length ≤ i; omega) (by omega)))
    · have hil : i < l.length := by omega
      simp only [Int.toNat_natCast]
      refine EvP.bind (toField _ (hf.2 _ (rdT_mem hil))) ?_
      rintro ⟨y, _⟩ (rfl : y = _)
      refine EvP.pos (by omega) (EvP.pos (by omega) ?_)
      refine ih (l.length - (i + 1)) _ (by omega) ⟨i + 1, _, ?_, by omega, rfl, ?_, set_next hbt hbl hil⟩
      · rw [show ((i + 1 : Nat) : Int) = ((i : Int) + 1 + 9223372036854775808) % 18446744073709551616 - 9223372036854775808 by omega]
      · rw [List.length_set]; exact hbl

theorem toType (x : (TType : Ty).D) (hf : Fit TType x) : EvP (fun k => laws_toType.f k (x, ())) (fun y => y.1 = x) := by
  simp only [laws_toType.f]
  repeat' (first
    | (refine EvP.ret ?_; rfl)
    | ((with_reducible refine EvP.bind (toFieldS _ ?_) ?_); (· first | exact hf.1 | exact hf | exact hf.2.1 | exact hf.2 | exact hf.2.2.1 | exact hf.2.2 | exact hf.2.2.2.1 | exact hf.2.2.2 | exact hf.2.2.2.2.1 | exact hf.2.2.2.2 | exact hf.2.2.2.2.2.1 | exact hf.2.2.2.2.2 | exact hf.2.2.2.2.2.2.1 | exact hf.2.2.2.2.2.2 | exact hf.2.2.2.2.2.2.2.1 | exact hf.2.2.2.2.2.2.2 | exact hf.2.2.2.2.2.2.2.2.1 | exact hf.2.2.2.2.2.2.2.2 | exact hf.2.2.2.2.2.2.2.2.2.1 | exact hf.2.2.2.2.2.2.2.2.2 | exact hf.2.2.2.2.2.2.2.2.2.2.1 | exact hf.2.2.2.2.2.2.2.2.2.2 | exact hf.2.2.2.2.2.2.2.2.2.2.2.1 | exact hf.2.2.2.2.2.2.2.2.2.2.2); rintro ⟨y, _⟩ (rfl : y = _)))

theorem toTypeS (l : List (TType : Ty).D) (hf : Fit (.slice TType) l) : EvP (fun k => laws_toTypeS.f k (l, ())) (fun y => y.1 = l) := by
  have hlen : l.length ≤ 1048576 := hf.1
  have hb : big = 1099511627776 := rfl
  have loop := EvP.loop (L := laws_toTypeS.l1) (Q := fun y => y.1 = l) (fun j s => ∃ (i : Nat) (b : List (TType : Ty).D), s = (l, b, (i : Int), ()) ∧ i ≤ l.length ∧ j = l.length - i ∧ b.length = l.length ∧ b.take i = l.take i) ?_
  · simp only [laws_toTypeS.f]
    exact EvP.pos (by omega) (EvP.pos (by omega) (EvP.pos (by omega) (loop _ _ ⟨0, _, rfl, Nat.zero_le _, rfl, by simp, by simp⟩)))
  · rintro j _ ⟨i, b, rfl, hi, rfl, hbl, hbt⟩ ih
    simp only [laws_toTypeS.l1, w64, IntKind.wrap_i64, decide_eq_true_eq]
    refine EvP.ite (fun hlt => EvP.pos (by omega) (EvP.pos (by omega) ?_)) (fun hge => EvP.ret (take_done (t := TType) hbt (by show b.length ≤ i; omega) (by omega)))
    · have hil : i < l.length := by omega
      simp only [Int.toNat_natCast]
      refine EvP.bind (toType _ (hf.2 _ (rdT_mem hil))) ?_
      rintro ⟨y, _⟩ (rfl : y = _)
      refine EvP.pos (by omega) (EvP.pos (by omega) ?_)
      refine ih (l.length - (i + 1)) _ (by omega) ⟨i + 1, _, ?_, by omega, rfl, ?_, set_next hbt hbl hil⟩
      · rw [show ((i + 1 : Nat) : Int) = ((i : Int) + 1 + 9223372036854775808) % 18446744073709551616 - 9223372036854775808 by omega]
      · rw [List.length_set]; exact hbl

theorem toParam (x : (TParam : Ty).D) (hf : Fit TParam x) : EvP (fun k => laws_toParam.f k (x, ())) (fun y => y.1 = x) := by
  simp only [laws_toParam.f]
  repeat' (first
    | (refine EvP.ret ?_; rfl))

theorem toParamS (l : List (TParam : Ty).D) (hf : Fit (.slice TParam) l) : EvP (fun k => laws_toParamS.f k (l, ())) (fun y => y.1 = l) := by
  have hlen : l.length ≤ 1048576 := hf.1
  have hb : big = 1099511627776 := rfl
  have loop := EvP.loop (L := laws_toParamS.l1) (Q := fun y => y.1 = l) (fun j s => ∃ (i : Nat) (b : List (TParam : Ty).D), s = (l, b, (i : Int), ()) ∧ i ≤ l.length ∧ j = l.length - i ∧ b.length = l.length ∧ b.take i = l.take i) ?_
  · simp only [laws_toParamS.f]
    exact EvP.pos (by omega) (EvP.pos (by omega) (EvP.pos (by omega) (loop _ _ ⟨0, _, rfl, Nat.zero_le _, rfl, by simp, by simp⟩)))
  · rintro j _ ⟨i, b, rfl, hi, rfl, hbl, hbt⟩ ih
    simp only [laws_toParamS.l1, w64, IntKind.wrap_i64, decide_eq_true_eq]
    refine EvP.ite (fun hlt => EvP.pos (by omega) (EvP.pos (by omega) ?_)) (fun hge => EvP.ret (take_done (t := TParam) hbt (by show b.length ≤ i; omega) (by omega)))
    · have hil : i < l.length := by omega
      simp only [Int.toNat_natCast]
      refine EvP.bind (toParam _ (hf.2 _ (rdT_mem hil))) ?_
      rintro ⟨y, _⟩ (rfl : y = _)
      refine EvP.pos (by omega) (EvP.pos (by omega) ?_)
      refine ih (l.length - (i + 1)) _ (by omega) ⟨i + 1, _, ?_, by omega, rfl, ?_, set_next hbt hbl hil⟩
      · rw [show ((i + 1 : Nat) : Int) = ((i : Int) + 1 + 9223372036854775808) % 18446744073709551616 - 9223372036854775808 by omega]
      · rw [List.length_set]; exact hbl

theorem toObject (x : (TObject : Ty).D) (hf : Fit TObject x) : EvP (fun k => laws_toObject.f k (x, ())) (fun y => y.1 = x) := by
  simp only [laws_toObject.f]
  repeat' (first
    | (refine EvP.ret ?_; rfl)
    | ((with_reducible refine EvP.bind (toParamS _ ?_) ?_); (· first | exact hf.1 | exact hf | exact hf.2.1 | exact hf.2 | exact hf.2.2.1 | exact hf.2.2 | exact hf.2.2.2.1 | exact hf.2.2.2 | exact hf.2.2.2.2.1 | exact hf.2.2.2.2 | exact hf.2.2.2.2.2.1 | exact hf.2.2.2.2.2 | exact hf.2.2.2.2.2.2.1 | exact hf.2.2.2.2.2.2 | exact hf.2.2.2.2.2.2.2.1 | exact hf.2.2.2.2.2.2.2 | exact hf.2.2.2.2.2.2.2.2.1 | exact hf.2.2.2.2.2.2.2.2 | exact hf.2.2.2.2.2.2.2.2.2.1 | exact hf.2.2.2.2.2.2.2.2.2 | exact hf.2.2.2.2.2.2.2.2.2.2.1 | exact hf.2.2.2.2.2.2.2.2.2.2 | exact hf.2.2.2.2.2.2.2.2.2.2.2.1 | exact hf.2.2.2.2.2.2.2.2.2.2.2); rintro ⟨y, _⟩ (rfl : y = _)))

theorem toObjectS (l : List (TObject : Ty).D) (hf : Fit (.slice TObject) l) : EvP (fun k => laws_toObjectS.f k (l, ())) (fun y => y.1 = l) := by
  have hlen : l.length ≤ 1048576 := hf.1
  have hb : big = 1099511627776 := rfl
  have loop := EvP.loop (L := laws_toObjectS.l1) (Q := fun y => y.1 = l) (fun j s => ∃ (i : Nat) (b : List (TObject : Ty).D), s = (l, b, (i : Int), ()) ∧ i ≤ l.length ∧ j = l.length - i ∧ b.length = l.length ∧ b.take i = l.take i) ?_
  · simp only [laws_toObjectS.f]
    exact EvP.pos (by omega) (EvP.pos (by omega) (EvP.pos (by omega) (loop _ _ ⟨0, _, rfl, Nat.zero_le _, rfl, by simp, by simp⟩)))
  · rintro j _ ⟨i, b, rfl, hi, rfl, hbl, hbt⟩ ih
    simp only [laws_toObjectS.l1, w64, IntKind.wrap_i64, decide_eq_true_eq]
    refine EvP.ite (fun hlt => EvP.pos (by omega) (EvP.pos (by omega) ?_)) (fun hge => EvP.ret (take_done (t := TObject) hbt (by show b.length ≤ i; omega) (by omega)))
    · have hil : i < l.length := by omega
      simp only [Int.toNat_natCast]
      refine EvP.bind (toObject _ (hf.2 _ (rdT_mem hil))) ?_
      rintro ⟨y, _⟩ (rfl : y = _)
      refine EvP.pos (by omega) (EvP.pos (by omega) ?_)
      refine ih (l.length - (i + 1)) _ (by omega) ⟨i + 1, _, ?_, by omega, rfl, ?_, set_next hbt hbl hil⟩
      · rw [show ((i + 1 : Nat) : Int) = ((i : Int) + 1 + 9223372036854775808) % 18446744073709551616 - 9223372036854775808 by omega]
      · rw [List.length_set]; exact hbl

theorem toUse (x : (TUse : Ty).D) (hf : Fit TUse x) : EvP (fun k => laws_toUse.f k (x, ())) (fun y => y.1 = x) := by
  simp only [laws_toUse.f]
  repeat' (first
    | (refine EvP.ret ?_; rfl))

theorem toUseS (l : List (TUse : Ty).D) (hf : Fit (.slice TUse) l) : EvP (fun k => laws_toUseS.f k (l, ())) (fun y => y.1 = l) := by
  have hlen : l.length ≤ 1048576 := hf.1
  have hb : big = 1099511627776 := rfl
  have loop := EvP.loop (L := laws_toUseS.l1) (Q := fun y => y.1 = l) (fun j s => ∃ (i : Nat) (b : List (TUse : Ty).D), s = (l, b, (i : Int), ()) ∧ i ≤ l.length ∧ j = l.length - i ∧ b.length = l.length ∧ b.take i = l.take i) ?_
  · simp only [laws_toUseS.f]
    exact EvP.pos (by omega) (EvP.pos (by omega) (EvP.pos (by omega) (loop _ _ ⟨0, _, rfl, Nat.zero_le _, rfl, by simp, by simp⟩)))
  · rintro j _ ⟨i, b, rfl, hi, rfl, hbl, hbt⟩ ih
    simp only [laws_toUseS.l1, w64, IntKind.wrap_i64, decide_eq_true_eq]
    refine EvP.ite (fun hlt => EvP.pos (by omega) (EvP.pos (by omega) ?_)) (fun hge => EvP.ret (take_done (t := TUse) hbt (by show b.length ≤ i; omega) (by omega)))
    · have hil : i < l.length := by omega
      simp only [Int.toNat_natCast]
      refine EvP.bind (toUse _ (hf.2 _ (rdT_mem hil))) ?_
      rintro ⟨y, _⟩ (rfl : y = _)
      refine EvP.pos (by omega) (EvP.pos (by omega) ?_)
      refine ih (l.length - (i + 1)) _ (by omega) ⟨i + 1, _, ?_, by omega, rfl, ?_, set_next hbt hbl hil⟩
      · rw [show ((i + 1 : Nat) : Int) = ((i : Int) + 1 + 9223372036854775808) % 18446744073709551616 - 9223372036854775808 by omega]
      · rw [List.length_set]; exact hbl

theorem toScope (x : (TScope : Ty).D) (hf : Fit TScope x) : EvP (fun k => laws_toScope.f k (x, ())) (fun y => y.1 = x) := by
  simp only [laws_toScope.f]
  repeat' (first
    | (refine EvP.ret ?_; rfl)
    | ((with_reducible refine EvP.bind (toStringS _ ?_) ?_); (· first | exact hf.1 | exact hf | exact hf.2.1 | exact hf.2 | exact hf.2.2.1 | exact hf.2.2 | exact hf.2.2.2.1 | exact hf.2.2.2 | exact hf.2.2.2.2.1 | exact hf.2.2.2.2 | exact hf.2.2.2.2.2.1 | exact hf.2.2.2.2.2 | exact hf.2.2.2.2.2.2.1 | exact hf.2.2.2.2.2.2 | exact hf.2.2.2.2.2.2.2.1 | exact hf.2.2.2.2.2.2.2 | exact hf.2.2.2.2.2.2.2.2.1 | exact hf.2.2.2.2.2.2.2.2 | exact hf.2.2.2.2.2.2.2.2.2.1 | exact hf.2.2.2.2.2.2.2.2.2 | exact hf.2.2.2.2.2.2.2.2.2.2.1 | exact hf.2.2.2.2.2.2.2.2.2.2 | exact hf.2.2.2.2.2.2.2.2.2.2.2.1 | exact hf.2.2.2.2.2.2.2.2.2.2.2); rintro ⟨y, _⟩ (rfl : y = _))
    | ((with_reducible refine EvP.bind (toTypeS _ ?_) ?_); (· first | exact hf.1 | exact hf | exact hf.2.1 | exact hf.2 | exact hf.2.2.1 | exact hf.2.2 | exact hf.2.2.2.1 | exact hf.2.2.2 | exact hf.2.2.2.2.1 | exact hf.2.2.2.2 | exact hf.2.2.2.2.2.1 | exact hf.2.2.2.2.2 | exact hf.2.2.2.2.2.2.1 | exact hf.2.2.2.2.2.2 | exact hf.2.2.2.2.2.2.2.1 | exact hf.2.2.2.2.2.2.2 | exact hf.2.2.2.2.2.2.2.2.1 | exact hf.2.2.2.2.2.2.2.2 | exact hf.2.2.2.2.2.2.2.2.2.1 | exact hf.2.2.2.2.2.2.2.2.2 | exact hf.2.2.2.2.2.2.2.2.2.2.1 | exact hf.2.2.2.2.2.2.2.2.2.2 | exact hf.2.2.2.2.2.2.2.2.2.2.2.1 | exact hf.2.2.2.2.2.2.2.2.2.2.2); rintro ⟨y, _⟩ (rfl : y = _))
    | ((with_reducible refine EvP.bind (toObjectS _ ?_) ?_); (· first | exact hf.1 | exact hf | exact hf.2.1 | exact hf.2 | exact hf.2.2.1 | exact hf.2.2 | exact hf.2.2.2.1 | exact hf.2.2.2 | exact hf.2.2.2.2.1 | exact hf.2.2.2.2 | exact hf.2.2.2.2.2.1 | exact hf.2.2.2.2.2 | exact hf.2.2.2.2.2.2.1 | exact hf.2.2.2.2.2.2 | exact hf.2.2.2.2.2.2.2.1 | exact hf.2.2.2.2.2.2.2 | exact hf.2.2.2.2.2.2.2.2.1 | exact hf.2.2.2.2.2.2.2.2 | exact hf.2.2.2.2.2.2.2.2.2.1 | exact hf.2.2.2.2.2.2.2.2.2 | exact hf.2.2.2.2.2.2.2.2.2.2.1 | exact hf.2.2.2.2.2.2.2.2.2.2 | exact hf.2.2.2.2.2.2.2.2.2.2.2.1 | exact hf.2.2.2.2.2.2.2.2.2.2.2); rintro ⟨y, _⟩ (rfl : y = _))
    | ((with_reducible refine EvP.bind (toUseS _ ?_) ?_); (· first | exact hf.1 | exact hf | exact hf.2.1 | exact hf.2 | exact hf.2.2.1 | exact hf.2.2 | exact hf.2.2.2.1 | exact hf.2.2.2 | exact hf.2.2.2.2.1 | exact hf.2.2.2.2 | exact hf.2.2.2.2.2.1 | exact hf.2.2.2.2.2 | exact hf.2.2.2.2.2.2.1 | exact hf.2.2.2.2.2.2 | exact hf.2.2.2.2.2.2.2.1 | exact hf.2.2.2.2.2.2.2 | exact hf.2.2.2.2.2.2.2.2.1 | exact hf.2.2.2.2.2.2.2.2 | exact hf.2.2.2.2.2.2.2.2.2.1 | exact hf.2.2.2.2.2.2.2.2.2 | exact hf.2.2.2.2.2.2.2.2.2.2.1 | exact hf.2.2.2.2.2.2.2.2.2.2 | exact hf.2.2.2.2.2.2.2.2.2.2.2.1 | exact hf.2.2.2.2.2.2.2.2.2.2.2); rintro ⟨y, _⟩ (rfl : y = _)))

theorem eqStringS (l : List (.str : Ty).D) (hf : Fit (.slice .str) l) : EvP (fun k => laws_eqStringS.f k (l, l, ())) (fun y => y.1 = true) := by
  have hlen : l.length ≤ 1048576 := hf.1
  have loop := EvP.loop (L := laws_eqStringS.l2) (Q := fun y => y.1 = true) (fun j s => ∃ (i : Nat), s = (l, l, (i : Int), ()) ∧ i ≤ l.length ∧ j = l.length - i) ?_
  · simp only [laws_eqStringS.f]
    exact EvP.neg (by simp) (loop _ _ ⟨0, rfl, Nat.zero_le _, rfl⟩)
  · rintro j _ ⟨i, rfl, hi, rfl⟩ ih
    simp only [laws_eqStringS.l2, w64, IntKind.wrap_i64, decide_eq_true_eq]
    refine EvP.ite (fun hlt => EvP.pos (by omega) (EvP.pos (by omega) (EvP.pos (by omega) (EvP.pos (by omega) ?_)))) (fun hge => EvP.ret rfl)
    · have hil : i < l.length := by omega
      simp only [Int.toNat_natCast]
      refine EvP.neg (by simp) ?_
      refine ih (l.length - (i + 1)) _ (by omega) ⟨i + 1, ?_, by omega, rfl⟩
      rw [show ((i + 1 : Nat) : Int) = ((i : Int) + 1 + 9223372036854775808) % 18446744073709551616 - 9223372036854775808 by omega]

theorem eqField (x : (TField : Ty).D) (hf : Fit TField x) : EvP (fun k => laws_eqField.f k (x, x, ())) (fun y => y.1 = true) := by
  simp only [laws_eqField.f]
  repeat' (first
    | (refine EvP.ret ?_; rfl)
    | (refine EvP.neg (by simp) ?_))

theorem eqFieldS (l : List (TField : Ty).D) (hf : Fit (.slice TField) l) : EvP (fun k => laws_eqFieldS.f k (l, l, ())) (fun y => y.1 = true) := by
  have hlen : l.length ≤ 1048576 := hf.1
  have loop := EvP.loop (L := laws_eqFieldS.l2) (Q := fun y => y.1 = true) (fun j s => ∃ (i : Nat), s = (l, l, (i : Int), ()) ∧ i ≤ l.length ∧ j = l.length - i) ?_
  · simp only [laws_eqFieldS.f]
    exact EvP.neg (by simp) (loop _ _ ⟨0, rfl, Nat.zero_le _, rfl⟩)
  · rintro j _ ⟨i, rfl, hi, rfl⟩ ih
    simp only [laws_eqFieldS.l2, w64, IntKind.wrap_i64, decide_eq_true_eq]
    refine EvP.ite (fun hlt => EvP.pos (by omega) (EvP.pos (by omega) (EvP.pos (by omega) (EvP.pos (by omega) ?_)))) (fun hge => EvP.ret rfl)
    · have hil : i < l.length := by omega
      simp only [Int.toNat_natCast]
      refine EvP.bind (eqField _ (hf.2 _ (rdT_mem hil))) ?_
      rintro ⟨y, _⟩ (rfl : y = _)
      refine EvP.neg (by simp) ?_
      refine ih (l.length - (i + 1)) _ (by omega) ⟨i + 1, ?_, by omega, rfl⟩
      rw [show ((i + 1 : Nat) : Int) = ((i : Int) + 1 + 9223372036854775808) % 18446744073709551616 - 9223372036854775808 by omega]

theorem eqType (x : (TType : Ty).D) (hf : Fit TType x) : EvP (fun k => laws_eqType.f k (x, x, ())) (fun y => y.1 = true) := by
  simp only [laws_eqType.f]
  repeat' (first
    | (refine EvP.ret ?_; rfl)
    | (refine EvP.neg (by simp) ?_)
    | ((with_reducible refine EvP.bind (eqFieldS _ ?_) ?_); (· first | exact hf.1 | exact hf | exact hf.2.1 | exact hf.2 | exact hf.2.2.1 | exact hf.2.2 | exact hf.2.2.2.1 | exact hf.2.2.2 | exact hf.2.2.2.2.1 | exact hf.2.2.2.2 | exact hf.2.2.2.2.2.1 | exact hf.2.2.2.2.2 | exact hf.2.2.2.2.2.2.1 | exact hf.2.2.2.2.2.2 | exact hf.2.2.2.2.2.2.2.1 | exact hf.2.2.2.2.2.2.2 | exact hf.2.2.2.2.2.2.2.2.1 | exact hf.2.2.2.2.2.2.2.2 | exact hf.2.2.2.2.2.2.2.2.2.1 | exact hf.2.2.2.2.2.2.2.2.2 | exact hf.2.2.2.2.2.2.2.2.2.2.1 | exact hf.2.2.2.2.2.2.2.2.2.2 | exact hf.2.2.2.2.2.2.2.2.2.2.2.1 | exact hf.2.2.2.2.2.2.2.2.2.2.2); rintro ⟨y, _⟩ (rfl : y = _)))

theorem eqTypeS (l : List (TType : Ty).D) (hf : Fit (.slice TType) l) : EvP (fun k => laws_eqTypeS.f k (l, l, ())) (fun y => y.1 = true) := by
  have hlen : l.length ≤ 1048576 := hf.1
  have loop := EvP.loop (L := laws_eqTypeS.l2) (Q := fun y => y.1 = true) (fun j s => ∃ (i : Nat), s = (l, l, (i : Int), ()) ∧ i ≤ l.length ∧ j = l.length - i) ?_
  · simp only [laws_eqTypeS.f]
    exact EvP.neg (by simp) (loop _ _ ⟨0, rfl, Nat.zero_le _, rfl⟩)
  · rintro j _ ⟨i, rfl, hi, rfl⟩ ih
    simp only [laws_eqTypeS.l2, w64, IntKind.wrap_i64, decide_eq_true_eq]
    refine EvP.ite (fun hlt => EvP.pos (by omega) (EvP.pos (by omega) (EvP.pos (by omega) (EvP.pos (by omega) ?_)))) (fun hge => EvP.ret rfl)
    · have hil : i < l.length := by omega
      simp only [Int.toNat_natCast]
      refine EvP.bind (eqType _ (hf.2 _ (rdT_mem hil))) ?_
      rintro ⟨y, _⟩ (rfl : y = _)
      refine EvP.neg (by simp) ?_
      refine ih (l.length - (i + 1)) _ (by omega) ⟨i + 1, ?_, by omega, rfl⟩
      rw [show ((i + 1 : Nat) : Int) = ((i : Int) + 1 + 9223372036854775808) % 18446744073709551616 - 9223372036854775808 by omega]

theorem eqParam (x : (TParam : Ty).D) (hf : Fit TParam x) : EvP (fun k => laws_eqParam.f k (x, x, ())) (fun y => y.1 = true) := by
  simp only [laws_eqParam.f]
  repeat' (first
    | (refine EvP.ret ?_; rfl)
    | (refine EvP.neg (by simp) ?_))

theorem eqParamS (l : List (TParam : Ty).D) (hf : Fit (.slice TParam) l) : EvP (fun k => laws_eqParamS.f k (l, l, ())) (fun y => y.1 = true) := by
  have hlen : l.length ≤ 1048576 := hf.1
  have loop := EvP.loop (L := laws_eqParamS.l2) (Q := fun y => y.1 = true) (fun j s => ∃ (i : Nat), s = (l, l, (i : Int), ()) ∧ i ≤ l.length ∧ j = l.length - i) ?_
  · simp only [laws_eqParamS.f]
    exact EvP.neg (by simp) (loop _ _ ⟨0, rfl, Nat.zero_le _, rfl⟩)
  · rintro j _ ⟨i, rfl, hi, rfl⟩ ih
    simp only [laws_eqParamS.l2, w64, IntKind.wrap_i64, decide_eq_true_eq]
    refine EvP.ite (fun hlt => EvP.pos (by omega) (EvP.pos (by omega) (EvP.pos (by omega) (EvP.pos (by omega) ?_)))) (fun hge => EvP.ret rfl)
    · have hil : i < l.length := by omega
      simp only [Int.toNat_natCast]
      refine EvP.bind (eqParam _ (hf.2 _ (rdT_mem hil))) ?_
      rintro ⟨y, _⟩ (rfl : y = _)
      refine EvP.neg (by simp) ?_
      refine ih (l.length - (i + 1)) _ (by omega) ⟨i + 1, ?_, by omega, rfl⟩
      rw [show ((i + 1 : Nat) : Int) = ((i : Int) + 1 + 9223372036854775808) % 18446744073709551616 - 9223372036854775808 by omega]

theorem eqObject (x : (TObject : Ty).D) (hf : Fit TObject x) : EvP (fun k => laws_eqObject.f k (x, x, ())) (fun y => y.1 = true) := by
  simp only [laws_eqObject.f]
  repeat' (first
    | (refine EvP.ret ?_; rfl)
    | (refine EvP.neg (by simp) ?_)
    | ((with_reducible refine EvP.bind (eqParamS _ ?_) ?_); (· first | exact hf.1 | exact hf | exact hf.2.1 | exact hf.2 | exact hf.2.2.1 | exact hf.2.2 | exact hf.2.2.2.1 | exact hf.2.2.2 | exact hf.2.2.2.2.1 | exact hf.2.2.2.2 | exact hf.2.2.2.2.2.1 | exact hf.2.2.2.2.2 | exact hf.2.2.2.2.2.2.1 | exact hf.2.2.2.2.2.2 | exact hf.2.2.2.2.2.2.2.1 | exact hf.2.2.2.2.2.2.2 | exact hf.2.2.2.2.2.2.2.2.1 | exact hf.2.2.2.2.2.2.2.2 | exact hf.2.2.2.2.2.2.2.2.2.1 | exact hf.2.2.2.2.2.2.2.2.2 | exact hf.2.2.2.2.2.2.2.2.2.2.1 | exact hf.2.2.2.2.2.2.2.2.2.2 | exact hf.2.2.2.2.2.2.2.2.2.2.2.1 | exact hf.2.2.2.2.2.2.2.2.2.2.2); rintro ⟨y, _⟩ (rfl : y = _)))

theorem eqObjectS (l : List (TObject : Ty).D) (hf : Fit (.slice TObject) l) : EvP (fun k => laws_eqObjectS.f k (l, l, ())) (fun y => y.1 = true) := by
  have hlen : l.length ≤ 1048576 := hf.1
  have loop := EvP.loop (L := laws_eqObjectS.l2) (Q := fun y => y.1 = true) (fun j s => ∃ (i : Nat), s = (l, l, (i : Int), ()) ∧ i ≤ l.length ∧ j = l.length - i) ?_
  · simp only [laws_eqObjectS.f]
    exact EvP.neg (by simp) (loop _ _ ⟨0, rfl, Nat.zero_le _, rfl⟩)
  · rintro j _ ⟨i, rfl, hi, rfl⟩ ih
    simp only [laws_eqObjectS.l2, w64, IntKind.wrap_i64, decide_eq_true_eq]
    refine EvP.ite (fun hlt => EvP.pos (by omega) (EvP.pos (by omega) (EvP.pos (by omega) (EvP.pos (by omega) ?_)))) (fun hge => EvP.ret rfl)
    · have hil : i < l.length := by omega
      simp only [Int.toNat_natCast]
      refine EvP.bind (eqObject _ (hf.2 _ (rdT_mem hil))) ?_
      rintro ⟨y, _⟩ (rfl : y = _)
      refine EvP.neg (by simp) ?_
      refine ih (l.length - (i + 1)) _ (by omega) ⟨i + 1, ?_, by omega, rfl⟩
      rw [show ((i + 1 : Nat) : Int) = ((i : Int) + 1 + 9223372036854775808) % 18446744073709551616 - 9223372036854775808 by omega]

theorem eqUse (x : (TUse : Ty).D) (hf : Fit TUse x) : EvP (fun k => laws_eqUse.f k (x, x, ())) (fun y => y.1 = true) := by
  simp only [laws_eqUse.f]
  repeat' (first
    | (refine EvP.ret ?_; rfl)
    | (refine EvP.neg (by simp) ?_))

theorem eqUseS (l : List (TUse : Ty).D) (hf : Fit (.slice TUse) l) : EvP (fun k => laws_eqUseS.f k (l, l, ())) (fun y => y.1 = true) := by
  have hlen : l.length ≤ 1048576 := hf.1
  have loop := EvP.loop (L := laws_eqUseS.l2) (Q := fun y => y.1 = true) (fun j s => ∃ (i : Nat), s = (l, l, (i : Int), ()) ∧ i ≤ l.length ∧ j = l.length - i) ?_
  · simp only [laws_eqUseS.f]
    exact EvP.neg (by simp) (loop _ _ ⟨0, rfl, Nat.zero_le _, rfl⟩)
  · rintro j _ ⟨i, rfl, hi, rfl⟩ ih
    simp only [laws_eqUseS.l2, w64, IntKind.wrap_i64, decide_eq_true_eq]
    refine EvP.ite (fun hlt => EvP.pos (by omega) (EvP.pos (by omega) (EvP.pos (by omega) (EvP.pos (by omega) ?_)))) (fun hge => EvP.ret rfl)
    · have hil : i < l.length := by omega
      simp only [Int.toNat_natCast]
      refine EvP.bind (eqUse _ (hf.2 _ (rdT_mem hil))) ?_
      rintro ⟨y, _⟩ (rfl : y = _)
      refine EvP.neg (by simp) ?_
      refine ih (l.length - (i + 1)) _ (by omega) ⟨i + 1, ?_, by omega, rfl⟩
      rw [show ((i + 1 : Nat) : Int) = ((i : Int) + 1 + 9223372036854775808) % 18446744073709551616 - 9223372036854775808 by omega]

theorem eqScope (x : (TScope : Ty).D) (hf : Fit TScope x) : EvP (fun k => laws_eqScope.f k (x, x, ())) (fun y => y.1 = true) := by
  simp only [laws_eqScope.f]
  repeat' (first
    | (refine EvP.ret ?_; rfl)
    | (refine EvP.neg (by simp) ?_)
    | ((with_reducible refine EvP.bind (eqStringS _ ?_) ?_); (· first | exact hf.1 | exact hf | exact hf.2.1 | exact hf.2 | exact hf.2.2.1 | exact hf.2.2 | exact hf.2.2.2.1 | exact hf.2.2.2 | exact hf.2.2.2.2.1 | exact hf.2.2.2.2 | exact hf.2.2.2.2.2.1 | exact hf.2.2.2.2.2 | exact hf.2.2.2.2.2.2.1 | exact hf.2.2.2.2.2.2 | exact hf.2.2.2.2.2.2.2.1 | exact hf.2.2.2.2.2.2.2 | exact hf.2.2.2.2.2.2.2.2.1 | exact hf.2.2.2.2.2.2.2.2 | exact hf.2.2.2.2.2.2.2.2.2.1 | exact hf.2.2.2.2.2.2.2.2.2 | exact hf.2.2.2.2.2.2.2.2.2.2.1 | exact hf.2.2.2.2.2.2.2.2.2.2 | exact hf.2.2.2.2.2.2.2.2.2.2.2.1 | exact hf.2.2.2.2.2.2.2.2.2.2.2); rintro ⟨y, _⟩ (rfl : y = _))
    | ((with_reducible refine EvP.bind (eqTypeS _ ?_) ?_); (· first | exact hf.1 | exact hf | exact hf.2.1 | exact hf.2 | exact hf.2.2.1 | exact hf.2.2 | exact hf.2.2.2.1 | exact hf.2.2.2 | exact hf.2.2.2.2.1 | exact hf.2.2.2.2 | exact hf.2.2.2.2.2.1 | exact hf.2.2.2.2.2 | exact hf.2.2.2.2.2.2.1 | exact hf.2.2.2.2.2.2 | exact hf.2.2.2.2.2.2.2.1 | exact hf.2.2.2.2.2.2.2 | exact hf.2.2.2.2.2.2.2.2.1 | exact hf.2.2.2.2.2.2.2.2 | exact hf.2.2.2.2.2.2.2.2.2.1 | exact hf.2.2.2.2.2.2.2.2.2 | exact hf.2.2.2.2.2.2.2.2.2.2.1 | exact hf.2.2.2.2.2.2.2.2.2.2 | exact hf.2.2.2.2.2.2.2.2.2.2.2.1 | exact hf.2.2.2.2.2.2.2.2.2.2.2); rintro ⟨y, _⟩ (rfl : y = _))
    | ((with_reducible refine EvP.bind (eqObjectS _ ?_) ?_); (· first | exact hf.1 | exact hf | exact hf.2.1 | exact hf.2 | exact hf.2.2.1 | exact hf.2.2 | exact hf.2.2.2.1 | exact hf.2.2.2 | exact hf.2.2.2.2.1 | exact hf.2.2.2.2 | exact hf.2.2.2.2.2.1 | exact hf.2.2.2.2.2 | exact hf.2.2.2.2.2.2.1 | exact hf.2.2.2.2.2.2 | exact hf.2.2.2.2.2.2.2.1 | exact hf.2.2.2.2.2.2.2 | exact hf.2.2.2.2.2.2.2.2.1 | exact hf.2.2.2.2.2.2.2.2 | exact hf.2.2.2.2.2.2.2.2.2.1 | exact hf.2.2.2.2.2.2.2.2.2 | exact hf.2.2.2.2.2.2.2.2.2.2.1 | exact hf.2.2.2.2.2.2.2.2.2.2 | exact hf.2.2.2.2.2.2.2.2.2.2.2.1 | exact hf.2.2.2.2.2.2.2.2.2.2.2); rintro ⟨y, _⟩ (rfl : y = _))
    | ((with_reducible refine EvP.bind (eqUseS _ ?_) ?_); (· first | exact hf.1 | exact hf | exact hf.2.1 | exact hf.2 | exact hf.2.2.1 | exact hf.2.2 | exact hf.2.2.2.1 | exact hf.2.2.2 | exact hf.2.2.2.2.1 | exact hf.2.2.2.2 | exact hf.2.2.2.2.2.1 | exact hf.2.2.2.2.2 | exact hf.2.2.2.2.2.2.1 | exact hf.2.2.2.2.2.2 | exact hf.2.2.2.2.2.2.2.1 | exact hf.2.2.2.2.2.2.2 | exact hf.2.2.2.2.2.2.2.2.1 | exact hf.2.2.2.2.2.2.2.2 | exact hf.2.2.2.2.2.2.2.2.2.1 | exact hf.2.2.2.2.2.2.2.2.2 | exact hf.2.2.2.2.2.2.2.2.2.2.1 | exact hf.2.2.2.2.2.2.2.2.2.2 | exact hf.2.2.2.2.2.2.2.2.2.2.2.1 | exact hf.2.2.2.2.2.2.2.2.2.2.2); rintro ⟨y, _⟩ (rfl : y = _)))

end Go.Proofs.YtlkmfgnalobkmaaGreat.LawFnExactFileSum
