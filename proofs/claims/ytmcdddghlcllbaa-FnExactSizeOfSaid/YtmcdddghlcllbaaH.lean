/- Each single operation of the abstract machine does what the Go operation does (slices, numbers, texts, comparisons). -/
import Derived.Test.YtmcdddghlcllbaaG
set_option autoImplicit false
set_option linter.unusedVariables false
set_option linter.unusedSimpArgs false
namespace Go.Proofs.Ytmcdddghlcllbaa.Den
open Classical

section
variable {P : Program} {A : Nat → Prop} {w0 : Start} {e : Env} {h : Hp} {w : World}

def RelOpt (e : Env) : Option V → Option Value → Prop
  | .none, .none => True
  | some v, some x => RelV e v x
  | _, _ => False

theorem sliceBound_ok {k : IntKind} {n : Int} {y : Nat} {code : BoundsCode} (h0 : 0 ≤ n) (h1 : n ≤ y) : (Instr.sliceBound (.int k n) y code).run P w = .ok n.toNat w := by
  simp [Instr.sliceBound, asIntOf, h0, h1]

theorem bounds_ok {n cap : Nat} {isS : Bool} {lo hi : Option V} {lo' hi' : Option Value} {ts : List Test} {a b : Option Nat} (hb : bounds n lo hi = some (ts, a, b)) (hlo : RelOpt e lo lo') (hhi : RelOpt e hi hi')
    (ht : ∀ t ∈ ts, t.p) (hc : n ≤ cap) : (Instr.sliceBounds isS n cap lo' hi' none).run P w = .ok (a.getD 0, b.getD n, cap) w ∧ a.getD 0 ≤ b.getD n ∧ b.getD n ≤ n := by
  unfold bounds at hb
  split at hb
  · cases hb
    cases lo' <;> cases hi' <;> simp [RelOpt] at hlo hhi
    simp [Instr.sliceBounds]
  · rename_i k x
    cases hb
    cases lo' <;> cases hi' <;> simp [RelOpt] at hlo hhi
    simp only [RelV, RelC] at hlo
    subst hlo
    have h0 : 0 ≤ x := ht (test (0 ≤ x)) (by simp)
    have h1 : x ≤ (n : Int) := ht (test (x ≤ (n : Int))) (by simp)
    have hr : ∀ code, (Instr.sliceBound (.int k x) n code).run P w = .ok x.toNat w := fun code => sliceBound_ok h0 h1
    refine ⟨?_, by simp; omega, by simp⟩
    simp [Instr.sliceBounds, hr]
  · rename_i k y
    cases hb
    cases lo' <;> cases hi' <;> simp [RelOpt] at hlo hhi
    simp only [RelV, RelC] at hhi
    subst hhi
    have h0 : 0 ≤ y := ht (test (0 ≤ y)) (by simp)
    have h1 : y ≤ (n : Int) := ht (test (y ≤ (n : Int))) (by simp)
    have hr : ∀ code, (Instr.sliceBound (.int k y) cap code).run P w = .ok y.toNat w := fun code => sliceBound_ok h0 (by omega)
    refine ⟨?_, by simp, by simp; omega⟩
    simp [Instr.sliceBounds, hr]
  · rename_i k x k' y
    cases hb
    cases lo' <;> cases hi' <;> simp [RelOpt] at hlo hhi
    simp only [RelV, RelC] at hlo hhi
    subst hlo; subst hhi
    have h0 : 0 ≤ y := ht (test (0 ≤ y)) (by simp)
    have h1 : y ≤ (n : Int) := ht (test (y ≤ (n : Int))) (by simp)
    have h2 : 0 ≤ x := ht (test (0 ≤ x)) (by simp)
    have h3 : x ≤ y := ht (test (x ≤ y)) (by simp)
    have hr : ∀ code, (Instr.sliceBound (.int k' y) cap code).run P w = .ok y.toNat w := fun code => sliceBound_ok h0 (by omega)
    have hr' : ∀ code, (Instr.sliceBound (.int k x) y.toNat code).run P w = .ok x.toNat w := fun code => sliceBound_ok h2 (by omega)
    refine ⟨?_, by simp; omega, by simp; omega⟩
    simp [Instr.sliceBounds, hr, hr']
  · cases hb

theorem cutS_eq (s : ByteArray) (a b : Option Nat) : cutS a b s = s.extract (a.getD 0) (b.getD s.size) := by
  cases a <;> cases b <;> simp [cutS]

theorem slice_ok (m : Mem A w0 e h w) {T : TypeId} {v : V} {x : Value} {lo hi : Option V} {lo' hi' : Option Value} {eff : Eff} (hs : stSlice P h T v lo hi = some eff) (hv : RelV e v x)
    (hlo : RelOpt e lo lo') (hhi : RelOpt e hi hi') (ht : ∀ t ∈ eff.tests, t.p) : ∃ y, (Instr.sliceAt T x lo' hi' none).run P w = .ok y w ∧ RelV e eff.v y ∧ eff.wr = [] := by
  unfold stSlice at hs
  split at hs
  · rename_i s hu
    obtain ⟨⟨ts, a, b⟩, hb, hs⟩ := bind_some hs
    cases hs
    simp only [RelV, RelC] at hv
    subst hv
    obtain ⟨hr, _, _⟩ := bounds_ok (P := P) (w := w) (cap := s.size) (isS := false) hb hlo hhi ht (Nat.le_refl _)
    refine ⟨.string (cutS a b s), ?_, rfl, rfl⟩
    simp [Instr.sliceAt, Instr.slice, run_underlying hu, hr, cutS_eq]
  · rename_i E t l hu
    split at hs
    · rename_i hz
      obtain ⟨⟨ts, a, b⟩, hb, hs⟩ := bind_some hs
      cases hs
      obtain ⟨ad, c, hx, hc, hr⟩ := hv
      cases hx
      obtain ⟨hr', h1, h2⟩ := bounds_ok (P := P) (w := w) (cap := c) (isS := true) hb hlo hhi ht hc
      have hlen := cutL_length a b l h1 h2
      refine ⟨.slice (if c = a.getD 0 then ad else ad.map (·.add (a.getD 0 * t.size))) (b.getD l.length - a.getD 0) (c - a.getD 0), ?_, ⟨_, _, by rw [hlen], by rw [hlen]; omega, ?_⟩, rfl⟩
      · simp [Instr.sliceAt, Instr.slice, run_underlying hu, hr', run_size hz]
      · by_cases hca : c = a.getD 0
        · left; exact List.eq_nil_of_length_eq_zero (by rw [hlen]; omega)
        · rw [if_neg hca]
          rcases hr with rfl | ⟨bl, o, cs, E', fz, rfl, hbl, hr⟩
          · left; exact List.eq_nil_of_length_eq_zero (by rw [hlen]; simp at h2 ⊢; omega)
          · right
            refine ⟨bl, o + a.getD 0 * t.size, cs, E', fz, by simp [addr_add], hbl, fun i hi => ?_⟩
            obtain ⟨hx, hy⟩ := cutL_get a b l h1 h2 i hi
            rw [hy]
            have := hr _ hx
            rwa [Nat.add_mul, ← Nat.add_assoc] at this
    · cases hs
  · rename_i E id hu
    have ho := m.hp id
    cases hid : h id <;> rw [hid] at hs ho <;> try (cases hs; done)
    · rename_i t l
      dsimp only at hs
      split at hs
      · rename_i hz
        obtain ⟨⟨ts, a, b⟩, hb, hs⟩ := bind_some hs
        cases hs
        simp only [RelV, RelC] at hv ⊢
        rcases ho with ⟨hl, hn⟩ | ⟨bl, o, cap, cs, E', fz, hl, hn, hbl, _⟩
        · rw [hl] at hv ⊢
          obtain ⟨_, _, rfl⟩ := hv
          subst hn
          obtain ⟨hr', h1, h2⟩ := bounds_ok (P := P) (w := w) (cap := 0) (isS := true) hb hlo hhi ht (Nat.le_refl _)
          simp only [List.length_nil] at h1 h2 hr'
          refine ⟨.slice none 0 0, ?_, ⟨by omega, by omega, rfl⟩, by first | rfl | trivial⟩
          simp [Instr.sliceAt, Instr.slice, run_underlying hu, hr', run_size hz, show a.getD 0 = 0 by omega, show b.getD 0 = 0 by omega]
        · rw [hl] at hv ⊢
          obtain ⟨_, _, ad, rfl, had⟩ := hv
          simp only [Option.getD_none, Nat.sub_zero] at *
          obtain ⟨hr', h1, h2⟩ := bounds_ok (P := P) (w := w) (cap := cap) (isS := true) hb hlo hhi ht hn
          refine ⟨.slice (if cap = a.getD 0 then some ad else (some ad).map (·.add (a.getD 0 * t.size))) (b.getD l.length - a.getD 0) (cap - a.getD 0), ?_, ⟨h1, h2, ?_⟩, by first | rfl | trivial⟩
          · simp [Instr.sliceAt, Instr.slice, run_underlying hu, hr', run_size hz]
          · by_cases hca : cap = a.getD 0
            · rw [if_pos hca]; exact ⟨ad, rfl, .inl (by omega)⟩
            · rw [if_neg hca]
              rcases had with had | rfl
              · exact ⟨_, rfl, .inl (by omega)⟩
              · exact ⟨_, rfl, .inr (by simp [addr_add])⟩
      · cases hs
    · rename_i t l
      dsimp only at hs
      split at hs
      · rename_i hz
        obtain ⟨⟨ts, a, b⟩, hb, hs⟩ := bind_some hs
        cases hs
        simp only [RelV, RelC] at hv ⊢
        rcases ho with ⟨hl, hn⟩ | ⟨bl, o, cap, cs, E', fz, hl, hn, hbl, hrow⟩
        · rw [hl] at hv
          obtain ⟨_, _, rfl⟩ := hv
          subst hn
          obtain ⟨hr', h1, h2⟩ := bounds_ok (P := P) (w := w) (cap := 0) (isS := true) hb hlo hhi ht (Nat.le_refl _)
          simp only [List.length_nil] at h1 h2 hr'
          refine ⟨.slice none 0 0, ?_, ⟨none, 0, ?_, ?_, .inl ?_⟩, by first | rfl | trivial⟩
          · simp [Instr.sliceAt, Instr.slice, run_underlying hu, hr', run_size hz, show a.getD 0 = 0 by omega, show b.getD 0 = 0 by omega]
          · cases a <;> cases b <;> simp [cutL]
          · cases a <;> cases b <;> simp [cutL]
          · cases a <;> cases b <;> simp [cutL]
        · rw [hl] at hv
          obtain ⟨_, _, ad, rfl, had⟩ := hv
          simp only [Option.getD_none, Nat.sub_zero] at *
          obtain ⟨hr', h1, h2⟩ := bounds_ok (P := P) (w := w) (cap := cap) (isS := true) hb hlo hhi ht hn
          have hlen := cutL_length a b l h1 h2
          refine ⟨.slice (if cap = a.getD 0 then some ad else (some ad).map (·.add (a.getD 0 * t.size))) (b.getD l.length - a.getD 0) (cap - a.getD 0), ?_, ⟨_, _, by rw [hlen], by rw [hlen]; omega, ?_⟩, by first | rfl | trivial⟩
          · simp [Instr.sliceAt, Instr.slice, run_underlying hu, hr', run_size hz]
          · by_cases hca : cap = a.getD 0
            · left; exact List.eq_nil_of_length_eq_zero (by rw [hlen]; omega)
            · rw [if_neg hca]
              rcases had with had | rfl
              · left; exact List.eq_nil_of_length_eq_zero (by rw [hlen]; omega)
              · right
                refine ⟨bl, o + a.getD 0 * t.size, cs, E', fz, by simp [addr_add], hbl, fun i hi => ?_⟩
                obtain ⟨hx, hy⟩ := cutL_get a b l h1 h2 i hi
                rw [hy]
                have := hrow _ hx
                rwa [Nat.add_mul, ← Nat.add_assoc] at this
      · cases hs
  · cases hs

/-! ### Numbers and texts -/

theorem binI_ok {op : BinOp} {k : IntKind} {a b : Int} {eff : Eff} (hs : binI op k a b = some eff) (ht : ∀ t ∈ eff.tests, t.p) (h1 : op ≠ .shl) (h2 : op ≠ .shr) (T : TypeId) :
    ∃ y, (binOp op T (.int k a) (.int k b)).run P w = .ok y w ∧ RelV e eff.v y ∧ eff.wr = [] := by
  cases op <;> simp only [binI, cmpI] at hs <;> try (first | (exact (h1 rfl).elim) | (exact (h2 rfl).elim))
  case quo =>
    cases hs
    have hb : b ≠ 0 := ht (test (b ≠ 0)) (by simp)
    exact ⟨_, by first | (simp [binOp, Op.intDiv, hb]; done) | (simp [binOp, Op.intDiv, hb]; rfl), rfl, rfl⟩
  case rem =>
    cases hs
    have hb : b ≠ 0 := ht (test (b ≠ 0)) (by simp)
    exact ⟨_, by first | (simp [binOp, Op.intDiv, hb]; done) | (simp [binOp, Op.intDiv, hb]; rfl), rfl, rfl⟩
  all_goals
    cases hs
    exact ⟨_, by first | (simp [binOp, Op.intArith]; done) | (simp [binOp, Op.intArith]; rfl) | (simp [binOp, Op.intBits]; rfl) | (simp [binOp, Op.intCmp]; rfl), rfl, rfl⟩

theorem strS_ok {op : BinOp} {a b : ByteArray} {eff : Eff} (hs : strS op a b = some eff) (ht : ∀ t ∈ eff.tests, t.p) (T : TypeId) :
    ∃ y, (binOp op T (.string a) (.string b)).run P w = .ok y w ∧ RelV e eff.v y ∧ eff.wr = [] := by
  cases op <;> simp only [strS] at hs <;> try (cases hs; done)
  case add =>
    cases hs
    have hb : sizeN a b := ht (test (sizeN a b)) (by simp)
    unfold sizeN at hb
    refine ⟨.string (a ++ b), ?_, rfl, rfl⟩
    have : ¬ (((a.size + b.size : Nat) : Int) > IntKind.i64.max) := by
      simp only [IntKind.max, IntKind.signed, IntKind.bits]; simp; omega
    simp only [binOp, Op.stringOp, if_neg this]; rfl
  all_goals
    cases hs
    exact ⟨_, by first | (simp [binOp, Op.stringOp]; done) | (simp [binOp, Op.stringOp]; rfl), rfl, rfl⟩

end
end Go.Proofs.Ytmcdddghlcllbaa.Den
