/- The plain law FnExactSameScope: its Lean function answers true at all data. -/
import Derived.Test.YtdphgdlkchajoaaDFnExactSameScope
set_option autoImplicit false
set_option linter.unusedVariables false
set_option linter.unusedSimpArgs false
namespace Go.Proofs.Ytdphgdlkchajoaa.LawFnExactSameScope
open Go.Proofs.Ytdphgdlkchajoaa.Den Go.Proofs

theorem eqT2 (x y : T2.D) : x = y ↔ x.1 = y.1 ∧ x.2.1 = y.2.1 ∧ x.2.2 = y.2.2 := ⟨fun h => by subst h; exact ⟨rfl, rfl, rfl⟩, fun ⟨h0, h1, h2⟩ => Prod.ext h0 (Prod.ext h1 h2)⟩

theorem eqT7 (x y : T7.D) : x = y ↔ x.1 = y.1 ∧ x.2.1 = y.2.1 ∧ x.2.2.1 = y.2.2.1 ∧ x.2.2.2.1 = y.2.2.2.1 ∧ x.2.2.2.2.1 = y.2.2.2.2.1 ∧ x.2.2.2.2.2 = y.2.2.2.2.2 := ⟨fun h => by subst h; exact ⟨rfl, rfl, rfl, rfl, rfl, rfl⟩, fun ⟨h0, h1, h2, h3, h4, h5⟩ => Prod.ext h0 (Prod.ext h1 (Prod.ext h2 (Prod.ext h3 (Prod.ext h4 h5))))⟩

theorem eqT9 (x y : T9.D) : x = y ↔ x.1 = y.1 ∧ x.2.1 = y.2.1 ∧ x.2.2 = y.2.2 := ⟨fun h => by subst h; exact ⟨rfl, rfl, rfl⟩, fun ⟨h0, h1, h2⟩ => Prod.ext h0 (Prod.ext h1 h2)⟩

theorem eqT14 (x y : T14.D) : x = y ↔ x.1 = y.1 ∧ x.2.1 = y.2.1 ∧ x.2.2.1 = y.2.2.1 ∧ x.2.2.2.1 = y.2.2.2.1 ∧ x.2.2.2.2.1 = y.2.2.2.2.1 ∧ x.2.2.2.2.2 = y.2.2.2.2.2 := ⟨fun h => by subst h; exact ⟨rfl, rfl, rfl, rfl, rfl, rfl⟩, fun ⟨h0, h1, h2, h3, h4, h5⟩ => Prod.ext h0 (Prod.ext h1 (Prod.ext h2 (Prod.ext h3 (Prod.ext h4 h5))))⟩

theorem eqT3 (x y : T3.D) : x = y ↔ x.1 = y.1 ∧ x.2 = y.2 := ⟨fun h => by subst h; exact ⟨rfl, rfl⟩, fun ⟨h0, h1⟩ => Prod.ext h0 h1⟩

theorem eqT18 (x y : T18.D) : x = y ↔ x.1 = y.1 ∧ x.2.1 = y.2.1 ∧ x.2.2.1 = y.2.2.1 ∧ x.2.2.2.1 = y.2.2.2.1 ∧ x.2.2.2.2 = y.2.2.2.2 := ⟨fun h => by subst h; exact ⟨rfl, rfl, rfl, rfl, rfl⟩, fun ⟨h0, h1, h2, h3, h4⟩ => Prod.ext h0 (Prod.ext h1 (Prod.ext h2 (Prod.ext h3 h4)))⟩

theorem spec_l4SameNames_same (a b : List (.str : Ty).D) (hfa : Fit (.slice .str) a) (hfb : Fit (.slice .str) b) : EvP (fun k => spec_l4SameNames.f k (a, b, ())) (fun y => y.1 = true ↔ a = b) := by
  have hs : a.length ≤ 1048576 := hfa.1
  simp only [spec_l4SameNames.f, bne_iff_ne, ne_eq]
  refine EvP.ite (fun hl => EvP.ret ⟨fun h => (by cases h), fun h => absurd (by rw [h]) hl⟩) (fun hl => ?_)
  have hl' : a.length = b.length := by omega
  refine EvP.same (t := .str) (a := a) (b := b) (L := fun k i => spec_l4SameNames.l2 k (a, b, (a.length : Int), i, ())) hl' (fun hne => ⟨fun h => (by cases h), fun h => absurd h hne⟩) (fun he => ?_) (fun i hi hno hgo => ?_)
  · simp only [spec_l4SameNames.l2, decide_eq_true_eq]
    exact EvP.neg (by omega) (EvP.ret ⟨fun _ => he, fun _ => rfl⟩)
  · simp only [spec_l4SameNames.l2, decide_eq_true_eq, Int.toNat_natCast, w64, IntKind.wrap_i64]
    refine EvP.pos (by omega) (EvP.pos (by omega) (EvP.pos (by omega) (EvP.pos (by omega) (EvP.pos (by omega) ?_))))
    refine EvP.ite (fun h => EvP.ret (hno fun e => ?_)) (fun h => ?_)
    · rw [e] at h
      simp at h
    · have := hgo ((by simpa [toList_eq] using h))
      rwa [show ((i + 1 : Nat) : Int) = ((i : Int) + 1 + 9223372036854775808) % 18446744073709551616 - 9223372036854775808 by omega] at this

theorem spec_l4SameType_same (x z : T7.D) (hfx : Fit T7 x) (hfz : Fit T7 z) : EvP (fun k => spec_l4SameType.f k (x, z, ())) (fun y => y.1 = true ↔ x = z) := by
  have hfa : Fit (.slice T2) x.2.2.2.1 := hfx.2.2.2.1
  have hs : (x.2.2.2.1).length ≤ 1048576 := hfa.1
  simp only [spec_l4SameType.f, bne_iff_ne, ne_eq, Bool.not_eq_true', beq_eq_false_iff_ne, toList_eq]
  repeat' (refine EvP.ite (fun hl => EvP.ret ⟨fun h => (by cases h), fun h => absurd (by rw [h]) hl⟩) (fun hl => ?_))
  have hl' : (x.2.2.2.1).length = (z.2.2.2.1).length := by omega
  refine EvP.same (t := T2) (a := x.2.2.2.1) (b := z.2.2.2.1) (L := fun k i => spec_l4SameType.l3 k ((x.1, (x.2.1, (x.2.2.1, (x.2.2.2.1, (x.2.2.2.2.1, (x.2.2.2.2.2, ())))))), (z.1, (z.2.1, (z.2.2.1, (z.2.2.2.1, (z.2.2.2.2.1, (z.2.2.2.2.2, ())))))), ((x.2.2.2.1).length : Int), i, ())) hl' (fun hne => ⟨fun h => (by cases h), fun h => absurd (by rw [h]) hne⟩) (fun he => ?_) (fun i hi hno hgo => ?_)
  · simp only [spec_l4SameType.l3, decide_eq_true_eq]
    refine EvP.neg (by omega) (EvP.ret ⟨fun _ => ?_, fun _ => rfl⟩)
    refine (eqT7 x z).2 ?_
    simp_all
  · simp only [spec_l4SameType.l3, decide_eq_true_eq, Int.toNat_natCast, w64, IntKind.wrap_i64]
    refine EvP.pos (by omega) (EvP.pos (by omega) (EvP.pos (by omega) (EvP.pos (by omega) (EvP.pos (by omega) ?_))))
    refine EvP.ite (fun h => EvP.ret (hno fun e => ?_)) (fun h => ?_)
    · rw [e] at h
      simp at h
    · have := hgo ((eqT2 _ _).2 (by simpa [toList_eq] using h))
      rwa [show ((i + 1 : Nat) : Int) = ((i : Int) + 1 + 9223372036854775808) % 18446744073709551616 - 9223372036854775808 by omega] at this

theorem spec_l4SameObject_same (x z : T14.D) (hfx : Fit T14 x) (hfz : Fit T14 z) : EvP (fun k => spec_l4SameObject.f k (x, z, ())) (fun y => y.1 = true ↔ x = z) := by
  have hfa : Fit (.slice T9) x.2.2.2.2.2 := hfx.2.2.2.2.2
  have hs : (x.2.2.2.2.2).length ≤ 1048576 := hfa.1
  simp only [spec_l4SameObject.f, bne_iff_ne, ne_eq, Bool.not_eq_true', beq_eq_false_iff_ne, toList_eq]
  repeat' (refine EvP.ite (fun hl => EvP.ret ⟨fun h => (by cases h), fun h => absurd (by rw [h]) hl⟩) (fun hl => ?_))
  have hl' : (x.2.2.2.2.2).length = (z.2.2.2.2.2).length := by omega
  refine EvP.same (t := T9) (a := x.2.2.2.2.2) (b := z.2.2.2.2.2) (L := fun k i => spec_l4SameObject.l3 k ((x.1, (x.2.1, (x.2.2.1, (x.2.2.2.1, (x.2.2.2.2.1, (x.2.2.2.2.2, ())))))), (z.1, (z.2.1, (z.2.2.1, (z.2.2.2.1, (z.2.2.2.2.1, (z.2.2.2.2.2, ())))))), ((x.2.2.2.2.2).length : Int), i, ())) hl' (fun hne => ⟨fun h => (by cases h), fun h => absurd (by rw [h]) hne⟩) (fun he => ?_) (fun i hi hno hgo => ?_)
  · simp only [spec_l4SameObject.l3, decide_eq_true_eq]
    refine EvP.neg (by omega) (EvP.ret ⟨fun _ => ?_, fun _ => rfl⟩)
    refine (eqT14 x z).2 ?_
    simp_all
  · simp only [spec_l4SameObject.l3, decide_eq_true_eq, Int.toNat_natCast, w64, IntKind.wrap_i64]
    refine EvP.pos (by omega) (EvP.pos (by omega) (EvP.pos (by omega) (EvP.pos (by omega) (EvP.pos (by omega) ?_))))
    refine EvP.ite (fun h => EvP.ret (hno fun e => ?_)) (fun h => ?_)
    · rw [e] at h
      simp at h
    · have := hgo ((eqT9 _ _).2 (by simpa [toList_eq] using h))
      rwa [show ((i + 1 : Nat) : Int) = ((i : Int) + 1 + 9223372036854775808) % 18446744073709551616 - 9223372036854775808 by omega] at this

theorem spec_SameScope_l11 (x z : T18.D) (hfx : Fit T18 x) (hfz : Fit T18 z) (Q : Bool × Unit → Prop) (hl' : (x.2.2.2.2).length = (z.2.2.2.2).length) (hne : x.2.2.2.2 ≠ z.2.2.2.2 → Q (false, ())) (hend : x.2.2.2.2 = z.2.2.2.2 → EvP (fun k => some (true, ())) Q) :
    EvP (fun k => spec_SameScope.l11 k ((x.1, (x.2.1, (x.2.2.1, (x.2.2.2.1, (x.2.2.2.2, ()))))), (z.1, (z.2.1, (z.2.2.1, (z.2.2.2.1, (z.2.2.2.2, ()))))), ((x.2.2.2.2).length : Int), 0, ())) Q := by
  have hfa : Fit (.slice T3) x.2.2.2.2 := hfx.2.2.2.2
  have hfb : Fit (.slice T3) z.2.2.2.2 := hfz.2.2.2.2
  have hs : (x.2.2.2.2).length ≤ 1048576 := hfa.1
  refine EvP.same (t := T3) (a := x.2.2.2.2) (b := z.2.2.2.2) (L := fun k i => spec_SameScope.l11 k ((x.1, (x.2.1, (x.2.2.1, (x.2.2.2.1, (x.2.2.2.2, ()))))), (z.1, (z.2.1, (z.2.2.1, (z.2.2.2.1, (z.2.2.2.2, ()))))), ((x.2.2.2.2).length : Int), i, ())) hl' hne (fun he => ?_) (fun i hi hno hgo => ?_)
  · simp only [spec_SameScope.l11, decide_eq_true_eq]
    exact EvP.neg (by omega) (hend he)
  · simp only [spec_SameScope.l11, decide_eq_true_eq, Int.toNat_natCast, w64, IntKind.wrap_i64]
    refine EvP.pos (by omega) (EvP.pos (by omega) (EvP.pos (by omega) (EvP.pos (by omega) (EvP.pos (by omega) ?_))))
    refine EvP.ite (fun h => EvP.ret (hno fun e => ?_)) (fun h => ?_)
    · rw [e] at h
      simp at h
    · have := hgo ((eqT3 _ _).2 (by simpa [toList_eq] using h))
      rwa [show ((i + 1 : Nat) : Int) = ((i : Int) + 1 + 9223372036854775808) % 18446744073709551616 - 9223372036854775808 by omega] at this

theorem spec_SameScope_l7 (x z : T18.D) (hfx : Fit T18 x) (hfz : Fit T18 z) (Q : Bool × Unit → Prop) (hl' : (x.2.2.2.1).length = (z.2.2.2.1).length) (hne : x.2.2.2.1 ≠ z.2.2.2.1 → Q (false, ())) (hend : x.2.2.2.1 = z.2.2.2.1 → EvP (fun k => spec_SameScope.l11 k ((x.1, (x.2.1, (x.2.2.1, (x.2.2.2.1, (x.2.2.2.2, ()))))), (z.1, (z.2.1, (z.2.2.1, (z.2.2.2.1, (z.2.2.2.2, ()))))), ((x.2.2.2.2).length : Int), 0, ())) Q) :
    EvP (fun k => spec_SameScope.l7 k ((x.1, (x.2.1, (x.2.2.1, (x.2.2.2.1, (x.2.2.2.2, ()))))), (z.1, (z.2.1, (z.2.2.1, (z.2.2.2.1, (z.2.2.2.2, ()))))), ((x.2.2.2.1).length : Int), 0, ())) Q := by
  have hfa : Fit (.slice T14) x.2.2.2.1 := hfx.2.2.2.1
  have hfb : Fit (.slice T14) z.2.2.2.1 := hfz.2.2.2.1
  have hs : (x.2.2.2.1).length ≤ 1048576 := hfa.1
  refine EvP.same (t := T14) (a := x.2.2.2.1) (b := z.2.2.2.1) (L := fun k i => spec_SameScope.l7 k ((x.1, (x.2.1, (x.2.2.1, (x.2.2.2.1, (x.2.2.2.2, ()))))), (z.1, (z.2.1, (z.2.2.1, (z.2.2.2.1, (z.2.2.2.2, ()))))), ((x.2.2.2.1).length : Int), i, ())) hl' hne (fun he => ?_) (fun i hi hno hgo => ?_)
  · simp only [spec_SameScope.l7, decide_eq_true_eq]
    exact EvP.neg (by omega) (hend he)
  · simp only [spec_SameScope.l7, decide_eq_true_eq, Int.toNat_natCast, w64, IntKind.wrap_i64]
    refine EvP.pos (by omega) (EvP.pos (by omega) (EvP.pos (by omega) (EvP.pos (by omega) (EvP.pos (by omega) ?_))))
    refine EvP.bind (spec_l4SameObject_same _ _ (hfa.2 _ (rdT_mem hi)) (hfb.2 _ (rdT_mem (by omega)))) ?_
    rintro ⟨y, _⟩ hy
    refine EvP.ite (fun h => EvP.ret (hno fun e => ?_)) (fun h => ?_)
    · have := hy.2 e
      simp_all
    · have := hgo (hy.1 (by simpa using h))
      rwa [show ((i + 1 : Nat) : Int) = ((i : Int) + 1 + 9223372036854775808) % 18446744073709551616 - 9223372036854775808 by omega] at this

theorem spec_SameScope_l3 (x z : T18.D) (hfx : Fit T18 x) (hfz : Fit T18 z) (Q : Bool × Unit → Prop) (hl' : (x.2.2.1).length = (z.2.2.1).length) (hne : x.2.2.1 ≠ z.2.2.1 → Q (false, ())) (hend : x.2.2.1 = z.2.2.1 → EvP (fun k => spec_SameScope.l7 k ((x.1, (x.2.1, (x.2.2.1, (x.2.2.2.1, (x.2.2.2.2, ()))))), (z.1, (z.2.1, (z.2.2.1, (z.2.2.2.1, (z.2.2.2.2, ()))))), ((x.2.2.2.1).length : Int), 0, ())) Q) :
    EvP (fun k => spec_SameScope.l3 k ((x.1, (x.2.1, (x.2.2.1, (x.2.2.2.1, (x.2.2.2.2, ()))))), (z.1, (z.2.1, (z.2.2.1, (z.2.2.2.1, (z.2.2.2.2, ()))))), ((x.2.2.1).length : Int), 0, ())) Q := by
  have hfa : Fit (.slice T7) x.2.2.1 := hfx.2.2.1
  have hfb : Fit (.slice T7) z.2.2.1 := hfz.2.2.1
  have hs : (x.2.2.1).length ≤ 1048576 := hfa.1
  refine EvP.same (t := T7) (a := x.2.2.1) (b := z.2.2.1) (L := fun k i => spec_SameScope.l3 k ((x.1, (x.2.1, (x.2.2.1, (x.2.2.2.1, (x.2.2.2.2, ()))))), (z.1, (z.2.1, (z.2.2.1, (z.2.2.2.1, (z.2.2.2.2, ()))))), ((x.2.2.1).length : Int), i, ())) hl' hne (fun he => ?_) (fun i hi hno hgo => ?_)
  · simp only [spec_SameScope.l3, decide_eq_true_eq]
    exact EvP.neg (by omega) (hend he)
  · simp only [spec_SameScope.l3, decide_eq_true_eq, Int.toNat_natCast, w64, IntKind.wrap_i64]
    refine EvP.pos (by omega) (EvP.pos (by omega) (EvP.pos (by omega) (EvP.pos (by omega) (EvP.pos (by omega) ?_))))
    refine EvP.bind (spec_l4SameType_same _ _ (hfa.2 _ (rdT_mem hi)) (hfb.2 _ (rdT_mem (by omega)))) ?_
    rintro ⟨y, _⟩ hy
    refine EvP.ite (fun h => EvP.ret (hno fun e => ?_)) (fun h => ?_)
    · have := hy.2 e
      simp_all
    · have := hgo (hy.1 (by simpa using h))
      rwa [show ((i + 1 : Nat) : Int) = ((i : Int) + 1 + 9223372036854775808) % 18446744073709551616 - 9223372036854775808 by omega] at this

theorem spec_SameScope_same (x z : T18.D) (hfx : Fit T18 x) (hfz : Fit T18 z) : EvP (fun k => spec_SameScope.f k (x, z, ())) (fun y => y.1 = true ↔ x = z) := by
  simp only [spec_SameScope.f, bne_iff_ne, ne_eq, Bool.not_eq_true', beq_eq_false_iff_ne, toList_eq]
  refine EvP.ite (fun hl => EvP.ret ⟨fun h => (by cases h), fun h => absurd (by rw [h]) hl⟩) (fun h1 => ?_)
  refine EvP.bind (spec_l4SameNames_same _ _ hfx.2.1 hfz.2.1) ?_
  rintro ⟨y, _⟩ hy
  refine EvP.ite (fun h => EvP.ret ⟨fun h => (by cases h), fun e => ?_⟩) (fun h2 => ?_)
  · have := hy.2 (by rw [e])
    simp_all
  have h2' := hy.1 (by simpa using h2)
  repeat' (refine EvP.ite (fun hl => EvP.ret ⟨fun h => (by cases h), fun h => absurd (by rw [h]) hl⟩) (fun _ => ?_))
  refine spec_SameScope_l3 x z hfx hfz _ (by omega) (fun hne => ⟨fun h => (by cases h), fun h => absurd (by rw [h]) hne⟩) fun h3 => ?_
  refine spec_SameScope_l7 x z hfx hfz _ (by omega) (fun hne => ⟨fun h => (by cases h), fun h => absurd (by rw [h]) hne⟩) fun h4 => ?_
  refine spec_SameScope_l11 x z hfx hfz _ (by omega) (fun hne => ⟨fun h => (by cases h), fun h => absurd (by rw [h]) hne⟩) fun h5 => ?_
  exact EvP.ret ⟨fun _ => (eqT18 x z).2 ⟨by simpa using h1, h2', h3, h4, h5⟩, fun _ => rfl⟩

theorem slices_Equal_string_string_same (a b : List (.str : Ty).D) (hfa : Fit (.slice .str) a) (hfb : Fit (.slice .str) b) : EvP (fun k => slices_Equal_string_string.f k (a, b, ())) (fun y => y.1 = true ↔ a = b) := by
  have hs : a.length ≤ 1048576 := hfa.1
  simp only [slices_Equal_string_string.f, bne_iff_ne, ne_eq]
  refine EvP.ite (fun hl => EvP.ret ⟨fun h => (by cases h), fun h => absurd (by rw [h]) hl⟩) (fun hl => ?_)
  have hl' : a.length = b.length := by omega
  refine EvP.same (t := .str) (a := a) (b := b) (L := fun k i => slices_Equal_string_string.l2 k (a, b, (a.length : Int), i, ())) hl' (fun hne => ⟨fun h => (by cases h), fun h => absurd h hne⟩) (fun he => ?_) (fun i hi hno hgo => ?_)
  · simp only [slices_Equal_string_string.l2, decide_eq_true_eq]
    exact EvP.neg (by omega) (EvP.ret ⟨fun _ => he, fun _ => rfl⟩)
  · simp only [slices_Equal_string_string.l2, decide_eq_true_eq, Int.toNat_natCast, w64, IntKind.wrap_i64]
    refine EvP.pos (by omega) (EvP.pos (by omega) (EvP.pos (by omega) (EvP.pos (by omega) (EvP.pos (by omega) ?_))))
    refine EvP.ite (fun h => EvP.ret (hno fun e => ?_)) (fun h => ?_)
    · rw [e] at h
      simp at h
    · have := hgo ((by simpa [toList_eq] using h))
      rwa [show ((i + 1 : Nat) : Int) = ((i : Int) + 1 + 9223372036854775808) % 18446744073709551616 - 9223372036854775808 by omega] at this

theorem slices_Equal_impl_Field_impl_Field_same (a b : List (T2 : Ty).D) (hfa : Fit (.slice T2) a) (hfb : Fit (.slice T2) b) : EvP (fun k => slices_Equal_impl_Field_impl_Field.f k (a, b, ())) (fun y => y.1 = true ↔ a = b) := by
  have hs : a.length ≤ 1048576 := hfa.1
  simp only [slices_Equal_impl_Field_impl_Field.f, bne_iff_ne, ne_eq]
  refine EvP.ite (fun hl => EvP.ret ⟨fun h => (by cases h), fun h => absurd (by rw [h]) hl⟩) (fun hl => ?_)
  have hl' : a.length = b.length := by omega
  refine EvP.same (t := T2) (a := a) (b := b) (L := fun k i => slices_Equal_impl_Field_impl_Field.l2 k (a, b, (a.length : Int), i, ())) hl' (fun hne => ⟨fun h => (by cases h), fun h => absurd h hne⟩) (fun he => ?_) (fun i hi hno hgo => ?_)
  · simp only [slices_Equal_impl_Field_impl_Field.l2, decide_eq_true_eq]
    exact EvP.neg (by omega) (EvP.ret ⟨fun _ => he, fun _ => rfl⟩)
  · simp only [slices_Equal_impl_Field_impl_Field.l2, decide_eq_true_eq, Int.toNat_natCast, w64, IntKind.wrap_i64]
    refine EvP.pos (by omega) (EvP.pos (by omega) (EvP.pos (by omega) (EvP.pos (by omega) (EvP.pos (by omega) ?_))))
    refine EvP.ite (fun h => EvP.ret (hno fun e => ?_)) (fun h => ?_)
    · rw [e] at h
      simp at h
    · have := hgo ((eqT2 _ _).2 (by simpa [toList_eq] using h))
      rwa [show ((i + 1 : Nat) : Int) = ((i : Int) + 1 + 9223372036854775808) % 18446744073709551616 - 9223372036854775808 by omega] at this

theorem impl_sameType_same (x z : T7.D) (hfx : Fit T7 x) (hfz : Fit T7 z) : EvP (fun k => impl_sameType.f k (x, z, ())) (fun y => y.1 = true ↔ x = z) := by
  simp only [impl_sameType.f, beq_iff_eq, toList_eq]
  repeat' (first
    | (refine EvP.ret ?_; rw [eqT7 x z]; simp_all [toList_eq])
    | (refine EvP.ite (fun _ => ?_) (fun _ => ?_))
    | ((with_reducible refine EvP.bind (slices_Equal_impl_Field_impl_Field_same _ _ ?_ ?_) ?_); (· first | exact hfx.1 | exact hfx | exact hfx.2.1 | exact hfx.2 | exact hfx.2.2.1 | exact hfx.2.2 | exact hfx.2.2.2.1 | exact hfx.2.2.2 | exact hfx.2.2.2.2.1 | exact hfx.2.2.2.2 | exact hfx.2.2.2.2.2.1 | exact hfx.2.2.2.2.2 | exact hfx.2.2.2.2.2.2.1 | exact hfx.2.2.2.2.2.2 | exact hfx.2.2.2.2.2.2.2.1 | exact hfx.2.2.2.2.2.2.2); (· first | exact hfz.1 | exact hfz | exact hfz.2.1 | exact hfz.2 | exact hfz.2.2.1 | exact hfz.2.2 | exact hfz.2.2.2.1 | exact hfz.2.2.2 | exact hfz.2.2.2.2.1 | exact hfz.2.2.2.2 | exact hfz.2.2.2.2.2.1 | exact hfz.2.2.2.2.2 | exact hfz.2.2.2.2.2.2.1 | exact hfz.2.2.2.2.2.2 | exact hfz.2.2.2.2.2.2.2.1 | exact hfz.2.2.2.2.2.2.2); rintro ⟨y, _⟩ hy))

theorem slices_EqualFunc_impl_Type_impl_Type_impl_Type_impl_Type_same (a b : List (T7 : Ty).D) (hfa : Fit (.slice T7) a) (hfb : Fit (.slice T7) b) : EvP (fun k => slices_EqualFunc_impl_Type_impl_Type_impl_Type_impl_Type.f k (a, b, (), ())) (fun y => y.1 = true ↔ a = b) := by
  have hs : a.length ≤ 1048576 := hfa.1
  simp only [slices_EqualFunc_impl_Type_impl_Type_impl_Type_impl_Type.f, bne_iff_ne, ne_eq]
  refine EvP.ite (fun hl => EvP.ret ⟨fun h => (by cases h), fun h => absurd (by rw [h]) hl⟩) (fun hl => ?_)
  have hl' : a.length = b.length := by omega
  refine EvP.same (t := T7) (a := a) (b := b) (L := fun k i => slices_EqualFunc_impl_Type_impl_Type_impl_Type_impl_Type.l2 k (b, (), a, (a.length : Int), i, ())) hl' (fun hne => ⟨fun h => (by cases h), fun h => absurd h hne⟩) (fun he => ?_) (fun i hi hno hgo => ?_)
  · simp only [slices_EqualFunc_impl_Type_impl_Type_impl_Type_impl_Type.l2, decide_eq_true_eq]
    exact EvP.neg (by omega) (EvP.ret ⟨fun _ => he, fun _ => rfl⟩)
  · simp only [slices_EqualFunc_impl_Type_impl_Type_impl_Type_impl_Type.l2, decide_eq_true_eq, Int.toNat_natCast, w64, IntKind.wrap_i64]
    refine EvP.pos (by omega) (EvP.pos (by omega) (EvP.pos (by omega) (EvP.pos (by omega) (EvP.pos (by omega) ?_))))
    refine EvP.bind (impl_sameType_same _ _ (hfa.2 _ (rdT_mem hi)) (hfb.2 _ (rdT_mem (by omega)))) ?_
    rintro ⟨y, _⟩ hy
    refine EvP.ite (fun h => EvP.ret (hno fun e => ?_)) (fun h => ?_)
    · have := hy.2 e
      simp_all
    · have := hgo (hy.1 (by simpa using h))
      rwa [show ((i + 1 : Nat) : Int) = ((i : Int) + 1 + 9223372036854775808) % 18446744073709551616 - 9223372036854775808 by omega] at this

theorem slices_Equal_impl_Param_impl_Param_same (a b : List (T9 : Ty).D) (hfa : Fit (.slice T9) a) (hfb : Fit (.slice T9) b) : EvP (fun k => slices_Equal_impl_Param_impl_Param.f k (a, b, ())) (fun y => y.1 = true ↔ a = b) := by
  have hs : a.length ≤ 1048576 := hfa.1
  simp only [slices_Equal_impl_Param_impl_Param.f, bne_iff_ne, ne_eq]
  refine EvP.ite (fun hl => EvP.ret ⟨fun h => (by cases h), fun h => absurd (by rw [h]) hl⟩) (fun hl => ?_)
  have hl' : a.length = b.length := by omega
  refine EvP.same (t := T9) (a := a) (b := b) (L := fun k i => slices_Equal_impl_Param_impl_Param.l2 k (a, b, (a.length : Int), i, ())) hl' (fun hne => ⟨fun h => (by cases h), fun h => absurd h hne⟩) (fun he => ?_) (fun i hi hno hgo => ?_)
  · simp only [slices_Equal_impl_Param_impl_Param.l2, decide_eq_true_eq]
    exact EvP.neg (by omega) (EvP.ret ⟨fun _ => he, fun _ => rfl⟩)
  · simp only [slices_Equal_impl_Param_impl_Param.l2, decide_eq_true_eq, Int.toNat_natCast, w64, IntKind.wrap_i64]
    refine EvP.pos (by omega) (EvP.pos (by omega) (EvP.pos (by omega) (EvP.pos (by omega) (EvP.pos (by omega) ?_))))
    refine EvP.ite (fun h => EvP.ret (hno fun e => ?_)) (fun h => ?_)
    · rw [e] at h
      simp at h
    · have := hgo ((eqT9 _ _).2 (by simpa [toList_eq] using h))
      rwa [show ((i + 1 : Nat) : Int) = ((i : Int) + 1 + 9223372036854775808) % 18446744073709551616 - 9223372036854775808 by omega] at this

theorem impl_sameObject_same (x z : T14.D) (hfx : Fit T14 x) (hfz : Fit T14 z) : EvP (fun k => impl_sameObject.f k (x, z, ())) (fun y => y.1 = true ↔ x = z) := by
  simp only [impl_sameObject.f, beq_iff_eq, toList_eq]
  repeat' (first
    | (refine EvP.ret ?_; rw [eqT14 x z]; simp_all [toList_eq])
    | (refine EvP.ite (fun _ => ?_) (fun _ => ?_))
    | ((with_reducible refine EvP.bind (slices_Equal_impl_Param_impl_Param_same _ _ ?_ ?_) ?_); (· first | exact hfx.1 | exact hfx | exact hfx.2.1 | exact hfx.2 | exact hfx.2.2.1 | exact hfx.2.2 | exact hfx.2.2.2.1 | exact hfx.2.2.2 | exact hfx.2.2.2.2.1 | exact hfx.2.2.2.2 | exact hfx.2.2.2.2.2.1 | exact hfx.2.2.2.2.2 | exact hfx.2.2.2.2.2.2.1 | exact hfx.2.2.2.2.2.2 | exact hfx.2.2.2.2.2.2.2.1 | exact hfx.2.2.2.2.2.2.2); (· first | exact hfz.1 | exact hfz | exact hfz.2.1 | exact hfz.2 | exact hfz.2.2.1 | exact hfz.2.2 | exact hfz.2.2.2.1 | exact hfz.2.2.2 | exact hfz.2.2.2.2.1 | exact hfz.2.2.2.2 | exact hfz.2.2.2.2.2.1 | exact hfz.2.2.2.2.2 | exact hfz.2.2.2.2.2.2.1 | exact hfz.2.2.2.2.2.2 | exact hfz.2.2.2.2.2.2.2.1 | exact hfz.2.2.2.2.2.2.2); rintro ⟨y, _⟩ hy))

theorem slices_EqualFunc_impl_Object_impl_Object_impl_Object_impl_Object_same (a b : List (T14 : Ty).D) (hfa : Fit (.slice T14) a) (hfb : Fit (.slice T14) b) : EvP (fun k => slices_EqualFunc_impl_Object_impl_Object_impl_Object_impl_Object.f k (a, b, (), ())) (fun y => y.1 = true ↔ a = b) := by
  have hs : a.length ≤ 1048576 := hfa.1
  simp only [slices_EqualFunc_impl_Object_impl_Object_impl_Object_impl_Object.f, bne_iff_ne, ne_eq]
  refine EvP.ite (fun hl => EvP.ret ⟨fun h => (by cases h), fun h => absurd (by rw [h]) hl⟩) (fun hl => ?_)
  have hl' : a.length = b.length := by omega
  refine EvP.same (t := T14) (a := a) (b := b) (L := fun k i => slices_EqualFunc_impl_Object_impl_Object_impl_Object_impl_Object.l2 k (b, (), a, (a.length : Int), i, ())) hl' (fun hne => ⟨fun h => (by cases h), fun h => absurd h hne⟩) (fun he => ?_) (fun i hi hno hgo => ?_)
  · simp only [slices_EqualFunc_impl_Object_impl_Object_impl_Object_impl_Object.l2, decide_eq_true_eq]
    exact EvP.neg (by omega) (EvP.ret ⟨fun _ => he, fun _ => rfl⟩)
  · simp only [slices_EqualFunc_impl_Object_impl_Object_impl_Object_impl_Object.l2, decide_eq_true_eq, Int.toNat_natCast, w64, IntKind.wrap_i64]
    refine EvP.pos (by omega) (EvP.pos (by omega) (EvP.pos (by omega) (EvP.pos (by omega) (EvP.pos (by omega) ?_))))
    refine EvP.bind (impl_sameObject_same _ _ (hfa.2 _ (rdT_mem hi)) (hfb.2 _ (rdT_mem (by omega)))) ?_
    rintro ⟨y, _⟩ hy
    refine EvP.ite (fun h => EvP.ret (hno fun e => ?_)) (fun h => ?_)
    · have := hy.2 e
      simp_all
    · have := hgo (hy.1 (by simpa using h))
      rwa [show ((i + 1 : Nat) : Int) = ((i : Int) + 1 + 9223372036854775808) % 18446744073709551616 - 9223372036854775808 by omega] at this

theorem slices_Equal_impl_Use_impl_Use_same (a b : List (T3 : Ty).D) (hfa : Fit (.slice T3) a) (hfb : Fit (.slice T3) b) : EvP (fun k => slices_Equal_impl_Use_impl_Use.f k (a, b, ())) (fun y => y.1 = true ↔ a = b) := by
  have hs : a.length ≤ 1048576 := hfa.1
  simp only [slices_Equal_impl_Use_impl_Use.f, bne_iff_ne, ne_eq]
  refine EvP.ite (fun hl => EvP.ret ⟨fun h => (by cases h), fun h => absurd (by rw [h]) hl⟩) (fun hl => ?_)
  have hl' : a.length = b.length := by omega
  refine EvP.same (t := T3) (a := a) (b := b) (L := fun k i => slices_Equal_impl_Use_impl_Use.l2 k (a, b, (a.length : Int), i, ())) hl' (fun hne => ⟨fun h => (by cases h), fun h => absurd h hne⟩) (fun he => ?_) (fun i hi hno hgo => ?_)
  · simp only [slices_Equal_impl_Use_impl_Use.l2, decide_eq_true_eq]
    exact EvP.neg (by omega) (EvP.ret ⟨fun _ => he, fun _ => rfl⟩)
  · simp only [slices_Equal_impl_Use_impl_Use.l2, decide_eq_true_eq, Int.toNat_natCast, w64, IntKind.wrap_i64]
    refine EvP.pos (by omega) (EvP.pos (by omega) (EvP.pos (by omega) (EvP.pos (by omega) (EvP.pos (by omega) ?_))))
    refine EvP.ite (fun h => EvP.ret (hno fun e => ?_)) (fun h => ?_)
    · rw [e] at h
      simp at h
    · have := hgo ((eqT3 _ _).2 (by simpa [toList_eq] using h))
      rwa [show ((i + 1 : Nat) : Int) = ((i : Int) + 1 + 9223372036854775808) % 18446744073709551616 - 9223372036854775808 by omega] at this

theorem impl_sameScope_same (x z : T18.D) (hfx : Fit T18 x) (hfz : Fit T18 z) : EvP (fun k => impl_sameScope.f k (x, z, ())) (fun y => y.1 = true ↔ x = z) := by
  simp only [impl_sameScope.f, beq_iff_eq, toList_eq]
  repeat' (first
    | (refine EvP.ret ?_; rw [eqT18 x z]; simp_all [toList_eq])
    | (refine EvP.ite (fun _ => ?_) (fun _ => ?_))
    | ((with_reducible refine EvP.bind (slices_Equal_string_string_same _ _ ?_ ?_) ?_); (· first | exact hfx.1 | exact hfx | exact hfx.2.1 | exact hfx.2 | exact hfx.2.2.1 | exact hfx.2.2 | exact hfx.2.2.2.1 | exact hfx.2.2.2 | exact hfx.2.2.2.2.1 | exact hfx.2.2.2.2 | exact hfx.2.2.2.2.2.1 | exact hfx.2.2.2.2.2 | exact hfx.2.2.2.2.2.2.1 | exact hfx.2.2.2.2.2.2 | exact hfx.2.2.2.2.2.2.2.1 | exact hfx.2.2.2.2.2.2.2); (· first | exact hfz.1 | exact hfz | exact hfz.2.1 | exact hfz.2 | exact hfz.2.2.1 | exact hfz.2.2 | exact hfz.2.2.2.1 | exact hfz.2.2.2 | exact hfz.2.2.2.2.1 | exact hfz.2.2.2.2 | exact hfz.2.2.2.2.2.1 | exact hfz.2.2.2.2.2 | exact hfz.2.2.2.2.2.2.1 | exact hfz.2.2.2.2.2.2 | exact hfz.2.2.2.2.2.2.2.1 | exact hfz.2.2.2.2.2.2.2); rintro ⟨y, _⟩ hy)
    | ((with_reducible refine EvP.bind (slices_EqualFunc_impl_Type_impl_Type_impl_Type_impl_Type_same _ _ ?_ ?_) ?_); (· first | exact hfx.1 | exact hfx | exact hfx.2.1 | exact hfx.2 | exact hfx.2.2.1 | exact hfx.2.2 | exact hfx.2.2.2.1 | exact hfx.2.2.2 | exact hfx.2.2.2.2.1 | exact hfx.2.2.2.2 | exact hfx.2.2.2.2.2.1 | exact hfx.2.2.2.2.2 | exact hfx.2.2.2.2.2.2.1 | exact hfx.2.2.2.2.2.2 | exact hfx.2.2.2.2.2.2.2.1 | exact hfx.2.2.2.2.2.2.2); (· first | exact hfz.1 | exact hfz | exact hfz.2.1 | exact hfz.2 | exact hfz.2.2.1 | exact hfz.2.2 | exact hfz.2.2.2.1 | exact hfz.2.2.2 | exact hfz.2.2.2.2.1 | exact hfz.2.2.2.2 | exact hfz.2.2.2.2.2.1 | exact hfz.2.2.2.2.2 | exact hfz.2.2.2.2.2.2.1 | exact hfz.2.2.2.2.2.2 | exact hfz.2.2.2.2.2.2.2.1 | exact hfz.2.2.2.2.2.2.2); rintro ⟨y, _⟩ hy)
    | ((with_reducible refine EvP.bind (slices_EqualFunc_impl_Object_impl_Object_impl_Object_impl_Object_same _ _ ?_ ?_) ?_); (· first | exact hfx.1 | exact hfx | exact hfx.2.1 | exact hfx.2 | exact hfx.2.2.1 | exact hfx.2.2 | exact hfx.2.2.2.1 | exact hfx.2.2.2 | exact hfx.2.2.2.2.1 | exact hfx.2.2.2.2 | exact hfx.2.2.2.2.2.1 | exact hfx.2.2.2.2.2 | exact hfx.2.2.2.2.2.2.1 | exact hfx.2.2.2.2.2.2 | exact hfx.2.2.2.2.2.2.2.1 | exact hfx.2.2.2.2.2.2.2); (· first | exact hfz.1 | exact hfz | exact hfz.2.1 | exact hfz.2 | exact hfz.2.2.1 | exact hfz.2.2 | exact hfz.2.2.2.1 | exact hfz.2.2.2 | exact hfz.2.2.2.2.1 | exact hfz.2.2.2.2 | exact hfz.2.2.2.2.2.1 | exact hfz.2.2.2.2.2 | exact hfz.2.2.2.2.2.2.1 | exact hfz.2.2.2.2.2.2 | exact hfz.2.2.2.2.2.2.2.1 | exact hfz.2.2.2.2.2.2.2); rintro ⟨y, _⟩ hy)
    | ((with_reducible refine EvP.bind (slices_Equal_impl_Use_impl_Use_same _ _ ?_ ?_) ?_); (· first | exact hfx.1 | exact hfx | exact hfx.2.1 | exact hfx.2 | exact hfx.2.2.1 | exact hfx.2.2 | exact hfx.2.2.2.1 | exact hfx.2.2.2 | exact hfx.2.2.2.2.1 | exact hfx.2.2.2.2 | exact hfx.2.2.2.2.2.1 | exact hfx.2.2.2.2.2 | exact hfx.2.2.2.2.2.2.1 | exact hfx.2.2.2.2.2.2 | exact hfx.2.2.2.2.2.2.2.1 | exact hfx.2.2.2.2.2.2.2); (· first | exact hfz.1 | exact hfz | exact hfz.2.1 | exact hfz.2 | exact hfz.2.2.1 | exact hfz.2.2 | exact hfz.2.2.2.1 | exact hfz.2.2.2 | exact hfz.2.2.2.2.1 | exact hfz.2.2.2.2 | exact hfz.2.2.2.2.2.1 | exact hfz.2.2.2.2.2 | exact hfz.2.2.2.2.2.2.1 | exact hfz.2.2.2.2.2.2 | exact hfz.2.2.2.2.2.2.2.1 | exact hfz.2.2.2.2.2.2.2); rintro ⟨y, _⟩ hy))

theorem impl_SameScope_same (x z : T18.D) (hfx : Fit T18 x) (hfz : Fit T18 z) : EvP (fun k => impl_SameScope.f k (x, z, ())) (fun y => y.1 = true ↔ x = z) := by
  simp only [impl_SameScope.f]
  refine EvP.bind (impl_sameScope_same x z hfx hfz) ?_
  rintro ⟨y, _⟩ hy
  exact EvP.ret hy

theorem law (a b : T18.D) (ha : okD T18 a) (hb : okD T18 b) : EvP (fun k => laws_FnExactSameScope.f k (a, b, ())) (· = (true, ())) := by
  simp only [laws_FnExactSameScope.f, decide_eq_true_eq]
  refine EvP.bind (szScope a 1048576 (by omega) (by omega) ha) ?_
  rintro ⟨n, _⟩ hn
  refine EvP.ite (fun _ => EvP.ret rfl) (fun h => ?_)
  rcases hn with hn | ⟨hn0, hn1, fa⟩
  · exact absurd hn h
  refine EvP.bind (szScope b n hn0 hn1 hb) ?_
  rintro ⟨m, _⟩ hm
  refine EvP.ite (fun _ => EvP.ret rfl) (fun h => ?_)
  rcases hm with hm | ⟨hm0, hm1, fb⟩
  · exact absurd hm h
  refine EvP.bind (toScope a fa) ?_
  rintro ⟨_, _⟩ (rfl : _ = _)
  refine EvP.bind (toScope b fb) ?_
  rintro ⟨_, _⟩ (rfl : _ = _)
  refine EvP.bind (spec_SameScope_same _ _ fa fb) ?_
  rintro ⟨y, _⟩ hy
  refine EvP.bind (toScope _ fa) ?_
  rintro ⟨_, _⟩ (rfl : _ = _)
  refine EvP.bind (toScope _ fb) ?_
  rintro ⟨_, _⟩ (rfl : _ = _)
  refine EvP.bind (impl_SameScope_same _ _ fa fb) ?_
  rintro ⟨z, _⟩ hz
  have hyz : z = y := by
    simp only at hy hz
    cases y <;> cases z <;> simp_all
  subst hyz
  refine EvP.neg (by simp) ?_
  refine EvP.bind (toScope _ fa) ?_
  rintro ⟨_, _⟩ (rfl : _ = _)
  refine EvP.bind (eqScope _ fa) ?_
  rintro ⟨_, _⟩ (rfl : _ = _)
  refine EvP.neg (by simp) ?_
  refine EvP.bind (toScope _ fb) ?_
  rintro ⟨_, _⟩ (rfl : _ = _)
  refine EvP.bind (eqScope _ fb) ?_
  rintro ⟨_, _⟩ (rfl : _ = _)
  exact EvP.neg (by simp) (EvP.ret rfl)

end Go.Proofs.Ytdphgdlkchajoaa.LawFnExactSameScope
