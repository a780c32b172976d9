/- The law's counting, copying and comparing functions over any data. -/
import Derived.Test.YtjijgajbkcflaaaDoorLFnExactTokensText
import Derived.Test.YtjijgajbkcflaaaDoorP0
set_option autoImplicit false
set_option linter.unusedVariables false
set_option linter.unusedSimpArgs false
namespace Go.Proofs.YtjijgajbkcflaaaDoor.LawFnExactTokensText
open Go.Proofs.YtjijgajbkcflaaaDoor.Den Go.Proofs

theorem szToken (x : (TToken : Ty).D) (n : Int) (h0 : 0 ≤ n) (h1 : n ≤ 1048576) (ho : okD TToken x) : EvP (fun k => laws_szToken.f k (x, n, ())) (Cnt TToken x n) := by
  have hr := reach_lt
  have ho' := ho
  simp only [okD] at ho'
  simp only [laws_szToken.f, w64, IntKind.wrap_i64, decide_eq_true_eq]
  repeat' (first
    | (refine EvP.ret ?_; first | (exfalso; omega) | (left; show (-1 : Int) < 0; decide) | (right; refine ⟨by omega, by omega, ?_⟩; repeat' (first | trivial | assumption | (show ByteArray.size _ ≤ 1048576; omega) | constructor)))
    | (refine EvP.ite (fun _ => ?_) (fun _ => ?_)))

theorem szTokenS (l : List (TToken : Ty).D) (n : Int) (h0 : 0 ≤ n) (h1 : n ≤ 1048576) (ho : okD (.slice TToken) l) : EvP (fun k => laws_szTokenS.f k (l, n, ())) (Cnt (.slice TToken) l n) := by
  have hr := reach_lt
  have hl : l.length ≤ reachBytes := ho.1
  have loop := EvP.loop (L := laws_szTokenS.l2) (Q := Cnt (.slice TToken) l n) (fun j s => ∃ (i : Nat) (m : Int), s = (l, m, (i : Int), ()) ∧ i ≤ l.length ∧ j = l.length - i ∧ 0 ≤ m ∧ m ≤ n ∧ l.length ≤ 1048576 ∧ ∀ p < i, Fit TToken (rdT TToken l p)) ?_
  · simp only [laws_szTokenS.f, w64, IntKind.wrap_i64, decide_eq_true_eq]
    refine EvP.ite (fun _ => EvP.ret (.inl (by show (-1 : Int) < 0; decide))) (fun _ => ?_)
    exact loop _ _ ⟨0, _, rfl, Nat.zero_le _, rfl, by omega, by omega, by omega, fun p hp => absurd hp (Nat.not_lt_zero _)⟩
  · rintro j _ ⟨i, m, rfl, hi, rfl, hm0, hm1, hlen, hf⟩ ih
    simp only [laws_szTokenS.l2, w64, IntKind.wrap_i64, decide_eq_true_eq]
    refine EvP.ite (fun hlt => EvP.pos (by omega) (EvP.pos (by omega) ?_)) (fun hge => EvP.ret (.inr ⟨hm0, hm1, hlen, fun x hx => ?_⟩))
    · have hil : i < l.length := by omega
      simp only [Int.toNat_natCast]
      refine EvP.bind (szToken _ m hm0 (by omega) (ho.2 _ (rdT_mem hil))) ?_
      rintro ⟨y, _⟩ hy
      refine EvP.ite (fun h => EvP.ret (.inl (by show (-1 : Int) < 0; decide))) (fun h => ?_)
      rcases hy with hy | ⟨hy0, hy1, hy2⟩
      · exact absurd hy h
      · refine ih (l.length - (i + 1)) _ (by omega) ⟨i + 1, y, ?_, by omega, rfl, hy0, by omega, hlen, fun p hp => ?_⟩
        · rw [show ((i + 1 : Nat) : Int) = ((i : Int) + 1 + 9223372036854775808) % 18446744073709551616 - 9223372036854775808 by omega]
        · rcases Nat.lt_or_ge p i with h2 | h2
          · exact hf p h2
          · obtain rfl : p = i := by omega
            exact hy2
    · obtain ⟨p, hp, rfl⟩ := List.getElem_of_mem hx
      have := hf p (by omega)
      rwa [show rdT TToken l p = l[p] from rdT_get hp] at this

theorem toToken (x : (TToken : Ty).D) (hf : Fit TToken x) : EvP (fun k => laws_toToken.f k (x, ())) (fun y => y.1 = x) := by
  simp only [laws_toToken.f]
  repeat' (first
    | (refine EvP.ret ?_; rfl))

theorem toTokenS (l : List (TToken : Ty).D) (hf : Fit (.slice TToken) l) : EvP (fun k => laws_toTokenS.f k (l, ())) (fun y => y.1 = l) := by
  have hlen : l.length ≤ 1048576 := hf.1
  have hb : big = 1099511627776 := rfl
  have loop := EvP.loop (L := laws_toTokenS.l1) (Q := fun y => y.1 = l) (fun j s => ∃ (i : Nat) (b : List (TToken : Ty).D), s = (l, b, (i : Int), ()) ∧ i ≤ l.length ∧ j = l.length - i ∧ b.length = l.length ∧ b.take i = l.take i) ?_
  · simp only [laws_toTokenS.f]
    exact EvP.pos (by omega) (EvP.pos (by omega) (EvP.pos (by omega) (loop _ _ ⟨0, _, rfl, Nat.zero_le _, rfl, by simp, by simp⟩)))
  · rintro j _ ⟨i, b, rfl, hi, rfl, hbl, hbt⟩ ih
    simp only [laws_toTokenS.l1, w64, IntKind.wrap_i64, decide_eq_true_eq]
    refine EvP.ite (fun hlt => EvP.pos (by omega) (EvP.pos (by omega) ?_)) (fun hge => EvP.ret (take_done (t := TToken) hbt (by show b.length ≤ i; omega) (by omega)))
    · have hil : i < l.length := by omega
      simp only [Int.toNat_natCast]
      refine EvP.bind (toToken _ (hf.2 _ (rdT_mem hil))) ?_
      rintro ⟨y, _⟩ (rfl : y = _)
      refine EvP.pos (by omega) (EvP.pos (by omega) ?_)
      refine ih (l.length - (i + 1)) _ (by omega) ⟨i + 1, _, ?_, by omega, rfl, ?_, set_next hbt hbl hil⟩
      · rw [show ((i + 1 : Nat) : Int) = ((i : Int) + 1 + 9223372036854775808) % 18446744073709551616 - 9223372036854775808 by omega]
      · rw [List.length_set]; exact hbl

theorem eqToken (x : (TToken : Ty).D) (hf : Fit TToken x) : EvP (fun k => laws_eqToken.f k (x, x, ())) (fun y => y.1 = true) := by
  simp only [laws_eqToken.f]
  repeat' (first
    | (refine EvP.ret ?_; rfl)
    | (refine EvP.neg (by simp) ?_))

theorem eqTokenS (l : List (TToken : Ty).D) (hf : Fit (.slice TToken) l) : EvP (fun k => laws_eqTokenS.f k (l, l, ())) (fun y => y.1 = true) := by
  have hlen : l.length ≤ 1048576 := hf.1
  have loop := EvP.loop (L := laws_eqTokenS.l2) (Q := fun y => y.1 = true) (fun j s => ∃ (i : Nat), s = (l, l, (i : Int), ()) ∧ i ≤ l.length ∧ j = l.length - i) ?_
  · simp only [laws_eqTokenS.f]
    exact EvP.neg (by simp) (loop _ _ ⟨0, rfl, Nat.zero_le _, rfl⟩)
  · rintro j _ ⟨i, rfl, hi, rfl⟩ ih
    simp only [laws_eqTokenS.l2, w64, IntKind.wrap_i64, decide_eq_true_eq]
    refine EvP.ite (fun hlt => EvP.pos (by omega) (EvP.pos (by omega) (EvP.pos (by omega) (EvP.pos (by omega) ?_)))) (fun hge => EvP.ret rfl)
    · have hil : i < l.length := by omega
      simp only [Int.toNat_natCast]
      refine EvP.bind (eqToken _ (hf.2 _ (rdT_mem hil))) ?_
      rintro ⟨y, _⟩ (rfl : y = _)
      refine EvP.neg (by simp) ?_
      refine ih (l.length - (i + 1)) _ (by omega) ⟨i + 1, ?_, by omega, rfl⟩
      rw [show ((i + 1 : Nat) : Int) = ((i : Int) + 1 + 9223372036854775808) % 18446744073709551616 - 9223372036854775808 by omega]

end Go.Proofs.YtjijgajbkcflaaaDoor.LawFnExactTokensText
