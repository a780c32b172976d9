/- From some number of rounds on: rules for the plain proofs of the laws. -/
import Derived.Test.YtmcdddghlcllbaaZa
set_option autoImplicit false
set_option linter.unusedVariables false
set_option linter.unusedSimpArgs false
namespace Go.Proofs.Ytmcdddghlcllbaa.Den

/-- From some number of rounds on the answer is one of which Q holds. -/
def EvP {α : Type} (f : Nat → Option α) (Q : α → Prop) : Prop := ∃ n a, (∀ k, n ≤ k → f k = some a) ∧ Q a

section
variable {α β : Type}

theorem EvP.ret {a : α} {Q : α → Prop} (h : Q a) : EvP (fun _ => some a) Q := ⟨0, a, fun _ _ => rfl, h⟩

theorem EvP.bind {f : Nat → Option α} {g : Nat → α → Option β} {R : α → Prop} {Q : β → Prop} (h : EvP f R) (k : ∀ a, R a → EvP (fun n => g n a) Q) : EvP (fun n => (f n).bind (g n)) Q := by
  obtain ⟨n, a, h1, h2⟩ := h
  obtain ⟨m, b, h3, h4⟩ := k a h2
  exact ⟨n + m, b, fun j hj => by show (f j).bind (g j) = _; rw [h1 j (by omega)]; exact h3 j (by omega), h4⟩

theorem EvP.ite {c : Prop} [Decidable c] {f g : Nat → Option α} {Q : α → Prop} (h : c → EvP f Q) (k : ¬ c → EvP g Q) : EvP (fun n => if c then f n else g n) Q := by
  by_cases hc : c
  · simp only [if_pos hc]; exact h hc
  · simp only [if_neg hc]; exact k hc

theorem EvP.pos {c : Prop} [Decidable c] {f g : Nat → Option α} {Q : α → Prop} (hc : c) (h : EvP f Q) : EvP (fun n => if c then f n else g n) Q := by
  simp only [if_pos hc]; exact h

theorem EvP.neg {c : Prop} [Decidable c] {f g : Nat → Option α} {Q : α → Prop} (hc : ¬ c) (h : EvP g Q) : EvP (fun n => if c then f n else g n) Q := by
  simp only [if_neg hc]; exact h

theorem EvP.mono {f : Nat → Option α} {R Q : α → Prop} (h : EvP f R) (k : ∀ a, R a → Q a) : EvP f Q := by
  obtain ⟨n, a, h1, h2⟩ := h
  exact ⟨n, a, h1, k a h2⟩

theorem EvP.succ {f : Nat → Option α} {Q : α → Prop} (h : EvP (fun k => f (k + 1)) Q) : EvP f Q := by
  obtain ⟨n, a, h1, h2⟩ := h
  exact ⟨n + 1, a, fun k hk => by obtain ⟨j, rfl⟩ : ∃ j, k = j + 1 := ⟨k - 1, by omega⟩; exact h1 j (by omega), h2⟩

theorem EvP.loop {σ : Type} {L : Nat → σ → Option α} {Q : α → Prop} (I : Nat → σ → Prop)
    (h : ∀ j s, I j s → (∀ j' s', j' < j → I j' s' → EvP (fun k => L k s') Q) → EvP (fun k => L (k + 1) s) Q) : ∀ j s, I j s → EvP (fun k => L k s) Q := by
  intro j
  induction j using Nat.strongRecOn with
  | _ j ih => exact fun s hs => EvP.succ (h j s hs fun j' s' hj' hs' => ih j' hj' s' hs')

theorem EvP.at {f : Nat → Option α} {a : α} (h : EvP f (· = a)) : ∃ k, f k = some a := by
  obtain ⟨n, b, h1, rfl⟩ := h
  exact ⟨n, h1 n (Nat.le_refl _)⟩
end

/-- A loop along an index that keeps everything else, and stops where an element is not as wanted. -/
theorem EvP.scan {α : Type} {L : Nat → Int → Option α} {Q : α → Prop} (n : Nat) (G : Nat → Prop) (hend : (∀ p, p < n → G p) → EvP (fun k => L (k + 1) (n : Int)) Q)
    (hstep : ∀ i : Nat, i < n → (∀ p, p < i → G p) → (G i → EvP (fun k => L k ((i + 1 : Nat) : Int)) Q) → EvP (fun k => L (k + 1) (i : Int)) Q) : EvP (fun k => L k 0) Q := by
  have loop := EvP.loop (L := L) (Q := Q) (fun j s => ∃ i : Nat, s = (i : Int) ∧ i ≤ n ∧ j = n - i ∧ ∀ p, p < i → G p) (fun j s ⟨i, hs, hi, hj, ht⟩ ih => by
    subst hs; subst hj
    rcases Nat.lt_or_ge i n with h | h
    · refine hstep i h ht fun hg => ?_
      refine ih (n - (i + 1)) _ (by omega) ⟨i + 1, rfl, by omega, rfl, fun p hp => ?_⟩
      rcases Nat.lt_or_ge p i with h2 | h2
      · exact ht p h2
      · obtain rfl : p = i := by omega
        exact hg
    · obtain rfl : i = n := by omega
      exact hend ht)
  exact loop _ _ ⟨0, rfl, Nat.zero_le _, rfl, fun p hp => absurd hp (Nat.not_lt_zero _)⟩

/-- An answer that hangs on whether something holds. -/
noncomputable def pickP {α : Type} (p : Prop) (a b : α) : α := @ite α p (Classical.propDecidable p) a b
theorem pickP_pos {α : Type} {p : Prop} (h : p) (a b : α) : pickP p a b = a := by unfold pickP; rw [if_pos h]
theorem pickP_neg {α : Type} {p : Prop} (h : ¬ p) (a b : α) : pickP p a b = b := by unfold pickP; rw [if_neg h]

theorem eq_pick {p : Prop} {b : Bool} (h : b = true ↔ p) : b = pickP p true false := by
  by_cases hp : p
  · rw [pickP_pos hp]; exact h.2 hp
  · rw [pickP_neg hp]
    cases b with
    | true => exact absurd (h.1 rfl) hp
    | false => rfl

theorem EvP.fork {α : Type} {n : Nat} {f : Nat → Bool → Option α} {Q : α → Prop} {a : α} (hq : Q a) (h1 : n = 0 → EvP (fun k => f k true) (· = a)) (h2 : EvP (fun k => f k false) (· = a)) : EvP (fun k => forkN n (f k)) Q := by
  obtain ⟨m, b, e1, rfl⟩ := h2
  by_cases hn : n = 0
  · obtain ⟨m', c, e2, rfl⟩ := h1 hn
    refine ⟨m + m', c, fun k hk => ?_, hq⟩
    simp only [forkN, if_pos hn, both, e1 k (by omega), e2 k (by omega), if_pos]
  · exact ⟨m, b, fun k hk => by simp only [forkN, if_neg hn]; exact e1 k hk, hq⟩

theorem big_eq : big = 1099511627776 := rfl

theorem next64 {i : Nat} (h : i ≤ 1099511627776) : w64 ((i : Int) + (1 : Int)) = ((i + 1 : Nat) : Int) := by
  unfold w64
  rw [IntKind.wrap_i64]
  omega

theorem drop_rd {t : Ty} {l : List t.D} {i : Nat} (h : i < l.length) : l.drop i = rdT t l i :: l.drop (i + 1) := by
  rw [List.drop_eq_getElem_cons h]
  congr 1
  simp [rdT, List.getD, List.getElem?_eq_getElem h]

/-! ### Numbers, texts, lists -/

theorem w64_id {x : Int} (h0 : -9223372036854775808 ≤ x) (h1 : x ≤ 9223372036854775807) : w64 x = x := by
  unfold w64
  rw [IntKind.wrap_i64]
  omega

theorem w64_range (x : Int) : -9223372036854775808 ≤ w64 x ∧ w64 x ≤ 9223372036854775807 := by
  unfold w64
  rw [IntKind.wrap_i64]
  omega

theorem lit64 {x : Int} (h : (Lit.int .i64 x).wf = true) : -9223372036854775808 ≤ x ∧ x ≤ 9223372036854775807 := by
  simp [Lit.wf, IntKind.min, IntKind.max, IntKind.bits, IntKind.signed] at h
  omega

theorem reach_lt : reachBytes < 140737488355329 := by decide

theorem toList_inj {s t : ByteArray} (h : s.toList = t.toList) : s = t := by
  rw [ByteArray.toList_eq, ByteArray.toList_eq] at h
  apply ByteArray.ext
  exact Array.toList_inj.1 h

theorem toList_eq {s t : ByteArray} : s.toList = t.toList ↔ s = t := ⟨toList_inj, fun h => h ▸ rfl⟩

theorem rdT_some {t : Ty} {l : List t.D} {i : Nat} (h : i < l.length) : l[i]? = some (rdT t l i) := by
  rw [List.getElem?_eq_getElem h, rdT, List.getD, List.getElem?_eq_getElem h]; rfl

theorem rdT_mem {t : Ty} {l : List t.D} {i : Nat} (h : i < l.length) : rdT t l i ∈ l := List.mem_of_getElem? (rdT_some h)

theorem rdT_take {t : Ty} {l : List t.D} {i j : Nat} (h : j < i) : rdT t (l.take i) j = rdT t l j := by
  simp only [rdT, List.getD, List.getElem?_take, if_pos h]

theorem rdT_drop {t : Ty} {l : List t.D} {i j : Nat} : rdT t (l.drop i) j = rdT t l (i + j) := by
  simp only [rdT, List.getD, List.getElem?_drop]

theorem take_next {t : Ty} {a b : List t.D} {i : Nat} (h : a.take i = b.take i) (ha : i < a.length) (hb : i < b.length) (he : rdT t a i = rdT t b i) : a.take (i + 1) = b.take (i + 1) := by
  rw [List.take_add_one, List.take_add_one, h, rdT_some ha, rdT_some hb, he]

theorem take_done {t : Ty} {a b : List t.D} {i : Nat} (h : a.take i = b.take i) (ha : a.length ≤ i) (hb : b.length ≤ i) : a = b := by
  rwa [List.take_of_length_le ha, List.take_of_length_le hb] at h

theorem rdT_congr {t : Ty} {a b : List t.D} {i : Nat} (h : a = b) : rdT t a i = rdT t b i := h ▸ rfl

theorem set_next {t : Ty} {a b : List t.D} {i : Nat} (h : b.take i = a.take i) (hl : b.length = a.length) (ha : i < a.length) : (b.set i (rdT t a i)).take (i + 1) = a.take (i + 1) := by
  rw [List.take_add_one, List.take_add_one, List.take_set_of_le (Nat.le_refl _), h, rdT_some ha, List.getElem?_set]
  simp [hl, ha]

/-! ### Data that fits -/

/-- All its rows and texts are short. -/
def Fit : (t : Ty) → t.D → Prop
  | .int _, _ | .bool, _ | .unit, _ | .ref _, _ => True
  | .str, s => s.size ≤ 1048576
  | .pair a b, x => Fit a x.1 ∧ Fit b x.2
  | .slice t, l => l.length ≤ 1048576 ∧ ∀ x ∈ l, Fit t x

/-- What a counting law answers: it is used up, or the datum is short. -/
def Cnt (t : Ty) (x : t.D) (n : Int) (y : Int × Unit) : Prop := y.1 < 0 ∨ (0 ≤ y.1 ∧ y.1 ≤ n ∧ Fit t x)

/-- A loop that runs along two rows and stops at the first difference. -/
theorem EvP.same {t : Ty} {a b : List t.D} {L : Nat → Int → Option (Bool × Unit)} {Q : Bool × Unit → Prop} (hl : a.length = b.length)
    (hno : a ≠ b → Q (false, ())) (hend : a = b → EvP (fun k => L (k + 1) (a.length : Int)) Q)
    (hstep : ∀ i : Nat, i < a.length → (rdT t a i ≠ rdT t b i → Q (false, ())) → (rdT t a i = rdT t b i → EvP (fun k => L k ((i + 1 : Nat) : Int)) Q) → EvP (fun k => L (k + 1) (i : Int)) Q) : EvP (fun k => L k 0) Q := by
  have loop := EvP.loop (L := L) (Q := Q) (fun j s => ∃ i : Nat, s = (i : Int) ∧ i ≤ a.length ∧ j = a.length - i ∧ a.take i = b.take i) (fun j s ⟨i, hs, hi, hj, ht⟩ ih => by
    subst hs; subst hj
    rcases Nat.lt_or_ge i a.length with h | h
    · refine hstep i h (fun hne => hno fun e => hne (rdT_congr e)) fun he => ?_
      exact ih (a.length - (i + 1)) _ (by omega) ⟨i + 1, rfl, by omega, rfl, take_next ht h (by omega) he⟩
    · obtain rfl : i = a.length := by omega
      exact hend (take_done ht (by omega) (by omega)))
  exact loop _ _ ⟨0, rfl, Nat.zero_le _, rfl, by simp⟩

end Go.Proofs.Ytmcdddghlcllbaa.Den
