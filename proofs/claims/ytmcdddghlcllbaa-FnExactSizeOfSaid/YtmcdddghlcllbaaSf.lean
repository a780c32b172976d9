/- The closure walked: by induction on the calls. -/
import Derived.Test.YtmcdddghlcllbaaSe
set_option autoImplicit false
set_option linter.unusedVariables false
namespace Go.Proofs.Ytmcdddghlcllbaa.Den
open Go.Proofs Go.RowKit Go.Shelf

section
variable {TF : Ty} (pt : Nat → (TTy TF).D × Bool × Unit → Option (List Int × Unit))

theorem of_in {k : Nat} (ok : FcOK Try.prog (ptFc pt) k) {imm : Nat → Option Obj} (tb : Tb imm) {g Bo Bl Bf : Nat} {lv : Value} {l : List (TTy TF).D} (hl : LRow imm l lv) (hL : l.length ≤ 1000) (hg : imm g = none) :
    ∀ (f : Nat) (out : List Int) (n : Int) (out' : List Int) (v : Int), ofF (ptK pt k) l f out n = some (out', v) → ∀ W, SzW g Bo Bl Bf l.length lv W out → (∀ b o, imm b = some o → W.heap[b]? = some o) →
      Calls Try.prog 26 #[.int .i64 n, .pointer (some ⟨Bo, 0, none⟩), .pointer (some ⟨Bl, 0, none⟩), .pointer (some ⟨Bf, 0, none⟩)] W fun r W' => r = .returned (.int .i64 v) ∧ SzW g Bo Bl Bf l.length lv W' out' ∧ KeepB g W W' := by
  have imm_keep : ∀ {W W' : World}, (∀ b o, imm b = some o → W.heap[b]? = some o) → KeepB g W W' → ∀ b o, imm b = some o → W'.heap[b]? = some o := fun hi hk b o e => (hk.block b (Array.getElem?_eq_some_iff.1 (hi b o e)).1 (fun e' => by subst e'; rw [hg] at e; cases e)).trans (hi b o e)
  intro f
  induction f with
  | zero => intro out n out' v h; cases h
  | succ f ih =>
    intro out n out' v h W hS himm
    rw [ofF] at h
    split at h
    case isFalse => cases h
    rename_i hn
    obtain ⟨m, rfl⟩ : ∃ m : Nat, n = (m : Int) := ⟨n.toNat, by omega⟩
    have hm : m < l.length := by omega
    rw [Int.toNat_natCast] at h
    split at h
    · rename_i h0
      injection h with h
      injection h with e1 e2
      subst e1; subst e2
      refine callsIn_wide.1 ((of_hit g Bo Bl Bf l.length lv W out hS m hm hL h0).mono ?_)
      rintro r W' ⟨rfl, rfl⟩
      exact ⟨rfl, hS, KeepB.refl _ _⟩
    rename_i h0
    have h0' : out.getD m 0 < 0 := by omega
    rw [List.getElem?_eq_getElem hm] at h
    simp only at h
    obtain ⟨lb, lo, lc, fa, fc, rfl, hr, k0, k1, k2, k3, k4, k5⟩ := hl.at himm m hm
    generalize ht : l[m] = t at *
    have const : ∀ size, ((t.1 = 1 ∧ size = 4) ∨ (t.1 = 2 ∧ size = 1) ∨ (t.1 = 3 ∧ size = 1) ∨ (t.1 = 6 ∧ size = 8) ∨ (t.1 ≠ 1 ∧ t.1 ≠ 2 ∧ t.1 ≠ 3 ∧ t.1 ≠ 6 ∧ t.1 ≠ 4 ∧ t.1 ≠ 5 ∧ size = 0)) → some (noteF out m size) = some (out', v) → Calls Try.prog 26 #[.int .i64 (m : Int), .pointer (some ⟨Bo, 0, none⟩), .pointer (some ⟨Bl, 0, none⟩), .pointer (some ⟨Bf, 0, none⟩)] W fun r W' => r = .returned (.int .i64 v) ∧ SzW g Bo Bl Bf l.length (.slice (some ⟨lb, lo, none⟩) l.length lc) W' out' ∧ KeepB g W W' := by
      intro size hk he
      injection he with he
      have e1 : (noteF out m size).1 = out' := by rw [he]
      have e2 : (noteF out m size).2 = v := by rw [he]
      rw [← e1, ← e2]
      exact callsIn_wide.1 (of_const hS m hm hL h0' t.1 t.2.1 t.2.2.1 fa _ fc _ _ k0 k1 k2 k3 k4 k5 size hk)
    split at h
    · rename_i e; exact const 4 (.inl ⟨e, rfl⟩) h
    rename_i e1
    split at h
    · rename_i e; exact const 1 (.inr (.inl ⟨e, rfl⟩)) h
    rename_i e2
    split at h
    · rename_i e; exact const 1 (.inr (.inr (.inl ⟨e, rfl⟩))) h
    rename_i e3
    split at h
    · rename_i e; exact const 8 (.inr (.inr (.inr (.inl ⟨e, rfl⟩)))) h
    rename_i e6
    split at h
    · rename_i e4
      cases hq : ofF (ptK pt k) l f out t.2.2.1 with
      | none => rw [hq] at h; cases h
      | some y =>
      obtain ⟨o1, v1⟩ := y
      rw [hq] at h
      have h' : some (noteF o1 m (w64 (t.2.1 * v1))) = some (out', v) := h
      injection h' with he
      have e1' : (noteF o1 m (w64 (t.2.1 * v1))).1 = out' := by rw [he]
      have e2' : (noteF o1 m (w64 (t.2.1 * v1))).2 = v := by rw [he]
      rw [← e1', ← e2']
      refine callsIn_wide.1 (of_array hS m hm hL h0' t.1 t.2.1 t.2.2.1 fa _ fc _ _ k0 k1 k2 k3 k4 k5 e4 o1 v1 fun W' hS' hk' => ?_)
      exact ih out t.2.2.1 o1 v1 hq W' hS' (imm_keep himm hk')
    rename_i e4
    split at h
    · rename_i e5
      cases hp : ptK pt k t with
      | none => rw [hp] at h; cases h
      | some ps =>
      rw [hp] at h
      simp only [Option.bind_some] at h
      split at h
      case isFalse => cases h
      rename_i hps
      cases hq : addF (ofF (ptK pt k) l f) out ps 0 with
      | none => rw [hq] at h; cases h
      | some y =>
      obtain ⟨o1, s1⟩ := y
      rw [hq] at h
      have h' : some (noteF o1 m s1) = some (out', v) := h
      injection h' with he
      have e1' : (noteF o1 m s1).1 = out' := by rw [he]
      have e2' : (noteF o1 m s1).2 = v := by rw [he]
      rw [← e1', ← e2']
      refine callsIn_wide.1 (of_record hS m hm hL h0' t.1 t.2.1 t.2.2.1 fa _ fc _ _ k0 k1 k2 k3 k4 k5 e5 (ofF (ptK pt k) l f) ps hps o1 s1 hq (fun o p q v' hv W' hS' hk' => ih o p q v' hv W' hS' (imm_keep himm hk')) fun W' hk' => ?_)
      have := parts_call pt ok hp (imm_keep himm hk') tb hr
      unfold tcells at this
      rw [e5] at this
      exact this
    · rename_i e5
      exact const 0 (.inr (.inr (.inr (.inr ⟨e1, e2, e3, e6, e4, e5, rfl⟩)))) h
end
end Go.Proofs.Ytmcdddghlcllbaa.Den
