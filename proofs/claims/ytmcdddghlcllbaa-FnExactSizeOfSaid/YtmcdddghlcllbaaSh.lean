/- sizes walked, and its contract. -/
import Derived.Test.YtmcdddghlcllbaaSg
import Derived.Laws.EntriesVeiled
import Derived.Test.YtmcdddghlcllbaaZb
set_option autoImplicit false
set_option linter.unusedVariables false
namespace Go.Proofs.Ytmcdddghlcllbaa.Den
open Go.Proofs Go.RowKit Go.Shelf

section
variable {TF : Ty} (pt : Nat → (TTy TF).D × Bool × Unit → Option (List Int × Unit))

def allF (g : List Int → Int → Option (List Int × Int)) : List Int → Nat → Nat → Option (List Int)
  | out, _, 0 => some out
  | out, i, r + 1 => (g out (i : Int)).bind fun o => allF g o.1 (i + 1) r

/-- What the program's sizes computes. -/
def sizesF (k : Nat) : List (TTy TF).D × Unit → Option (List Int × Unit) := fun x =>
  if x.1.length ≤ 1000 then (allF (ofF (ptK pt k) x.1 k) (List.replicate x.1.length (-1)) 0 x.1.length).bind fun o => some (o, ()) else none

def sizesFc : Fc := ⟨15, [.c (.list (TTy TF))], [], [.c (.arr (.int .i64))], sizesF pt⟩

set_option maxRecDepth 100000 in
set_option maxHeartbeats 4000000 in
theorem sizes_in {k : Nat} (ok : FcOK Try.prog (ptFc pt) k) {imm : Nat → Option Obj} (tb : Tb imm) {W : World} (himm : ∀ b o, imm b = some o → W.heap[b]? = some o) {l : List (TTy TF).D} {a : Option Addr} {c : Nat} (hl : LRow imm l (.slice a l.length c)) (hL : l.length ≤ 1000)
    {o : List Int} (ho : allF (ofF (ptK pt k) l k) (List.replicate l.length (-1)) 0 l.length = some o) :
    CallsIn Fence.wide 5 Try.prog 15 #[.slice a l.length c] W fun r W' => ∃ gg, r = .returned (.slice (some ⟨gg, 0, none⟩) l.length l.length) ∧ W.heap.size ≤ gg ∧ W'.heap[gg]? = some (.cells (o.map (Value.int .i64)).toArray 3 (0, 0)) ∧ o.length = l.length ∧ Below W.heap.size W W' := by
  generalize hLe : l.length = L at *
  have hb1 : Boxed (W.alloc (.cells #[.slice a L c] 26)) W.heap.size 26 (.slice a L c) := Boxed.new W 26 _
  have hb0 : Boxed ((W.alloc (.cells #[.slice a L c] 26)).alloc (.cells #[.int .i64 (-1)] 3)) (W.heap.size + 1) 3 (.int .i64 (-1)) := by
    have := Boxed.new (W.alloc (.cells #[.slice a L c] 26)) 3 (.int .i64 (-1))
    rwa [World.size_alloc] at this
  have hrep := repeat_in (W.heap.size + 1) L hL _ hb0
  refine callsIn_of_wp Try.func15 rfl trivial ?_ rfl
  simp only [Try.ntmps15, List.size_toArray, List.length_cons, List.length_nil, Nat.reduceAdd, Nat.reduceSub, Array.replicate_succ, Array.replicate_zero, List.push_toArray, List.append_toArray, List.nil_append, List.cons_append]
  gi_wp2_with (refine ⟨trivial, ?_⟩; gi_at_call 25; refine (callsIn_wide.2 (callsIn_wide.1 hrep)).mono ?_; clear hrep; rintro e W2 ⟨gg, rfl, hgg, hrow, hB2⟩; have hbl2 : Boxed W2 W.heap.size 26 (.slice a L c) := (hB2.block _ (by simp; omega)).trans (hb1.alloc _); have hblA : ∀ o1 o2, ((W2.alloc o1).alloc o2).cell? ⟨W.heap.size, 0, none⟩ = some (.slice a L c) := fun o1 o2 => ((hbl2.alloc o1).alloc o2).cell)
  simp only [World.size_alloc] at hgg
  have hbo := Boxed.new W2 41 (.slice (some ⟨gg, 0, none⟩) L L)
  have hbf : Boxed ((W2.alloc (.cells #[.slice (some ⟨gg, 0, none⟩) L L] 41)).alloc (.cells #[.func (.func 26) #[] #[.pointer (some ⟨W2.heap.size, 0, none⟩), .pointer (some ⟨W.heap.size, 0, none⟩), .pointer (some ⟨W2.heap.size + 1, 0, none⟩)]] 49)) (W2.heap.size + 1) 49 (.func (.func 26) #[] #[.pointer (some ⟨W2.heap.size, 0, none⟩), .pointer (some ⟨W.heap.size, 0, none⟩), .pointer (some ⟨W2.heap.size + 1, 0, none⟩)]) := by
    have := Boxed.new (W2.alloc (.cells #[.slice (some ⟨gg, 0, none⟩) L L] 41)) 49 (.func (.func 26) #[] #[.pointer (some ⟨W2.heap.size, 0, none⟩), .pointer (some ⟨W.heap.size, 0, none⟩), .pointer (some ⟨W2.heap.size + 1, 0, none⟩)])
    rwa [World.size_alloc] at this
  obtain ⟨W3, hW3⟩ : ∃ W3, (W2.alloc (.cells #[.slice (some ⟨gg, 0, none⟩) L L] 41)).alloc (.cells #[.func (.func 26) #[] #[.pointer (some ⟨W2.heap.size, 0, none⟩), .pointer (some ⟨W.heap.size, 0, none⟩), .pointer (some ⟨W2.heap.size + 1, 0, none⟩)]] 49) = W3 := ⟨_, rfl⟩
  have hlt : gg < W2.heap.size := (Array.getElem?_eq_some_iff.1 hrow).1
  have hS3 : SzW gg W2.heap.size W.heap.size (W2.heap.size + 1) L (.slice a L c) W3 (List.replicate L (-1)) := by
    rw [← hW3]
    refine ⟨?_, by simp, hbo.alloc _, (hbl2.alloc _).alloc _, hbf⟩
    exact (Below.heap_alloc _ _ _ (by simp; omega)).trans ((Below.heap_alloc _ _ _ hlt).trans hrow)
  have hB3 : Below W.heap.size W W3 := by
    rw [← hW3]
    have h1 : Below W.heap.size W W2 := (((Below.refl _ W).alloc (Nat.le_refl _) (.cells #[.slice a L c] 26)).alloc (by simp) (.cells #[.int .i64 (-1)] 3)).trans (hB2.mono (by simp; omega))
    exact (h1.alloc h1.size _).alloc (Nat.le_trans h1.size (by simp)) _
  have himg : imm gg = none := by
    cases hq : imm gg with
    | none => rfl
    | some ob =>
      have := (Array.getElem?_eq_some_iff.1 (himm gg ob hq)).1
      omega
  rw [hW3]
  clear hbo hbf hblA hbl2 hrow hB2 hb0 hb1 hW3
  gi_loopw [13] (fun i wr => ∃ (j : Nat) (q : List Int), j ≤ L ∧ i = .int .i64 (j : Int) ∧ allF (ofF (ptK pt k) l k) q j (L - j) = some o ∧ SzW gg W2.heap.size W.heap.size (W2.heap.size + 1) L (.slice a L c) wr q ∧ KeepB gg W3 wr)
    (fun i _ => L - (intOf i).toNat)
  case atStart => exact ⟨0, _, Nat.zero_le _, rfl, ho, hS3, KeepB.refl _ _⟩
  case round =>
    obtain ⟨j, q, hj, rfl, hq, hS, hkk⟩ := hrel
    have himmr : ∀ b ob, imm b = some ob → wr.heap[b]? = some ob := fun b ob e => by
      have h1 := (Array.getElem?_eq_some_iff.1 (himm b ob e)).1
      refine (hkk.block b (Nat.lt_of_lt_of_le h1 hB3.size) (fun e' => by subst e'; rw [himg] at e; cases e)).trans ((hB3.block b h1).trans (himm b ob e))
    by_cases hlt2 : j < L
    · obtain ⟨r, hr⟩ : ∃ r, L - j = r + 1 := ⟨L - j - 1, by omega⟩
      rw [hr, allF] at hq
      cases hof : ofF (ptK pt k) l k q (j : Int) with
      | none => rw [hof] at hq; cases hq
      | some y =>
      obtain ⟨q2, v⟩ := y
      rw [hof] at hq
      have hq' : allF (ofF (ptK pt k) l k) q2 (j + 1) (L - (j + 1)) = some o := by rw [show L - (j + 1) = r by omega]; exact hq
      have hcall := of_in pt ok tb (g := gg) (Bo := W2.heap.size) (Bl := W.heap.size) (Bf := W2.heap.size + 1) (by rw [← hLe] at hl; exact hl) (by rw [hLe]; exact hL) himg k q (j : Int) q2 v hof wr (by rw [hLe]; exact hS) himmr
      have hbfr := hS.bf.cell
      clear hq hof hS hr ho
      gi_wp2_with (refine ⟨trivial, ?_⟩; gi_at_call 26; refine (callsIn_wide.2 hcall).mono ?_; clear hcall; rintro e W4 ⟨rfl, hS4, hk4⟩)
      go_roundw
      case rel => exact ⟨j + 1, q2, hlt2, by simp, hq', by rw [hLe] at hS4; exact hS4, hkk.trans hk4⟩
      case measure => simp [intOf]; omega
    · obtain rfl : j = L := by omega
      rw [Nat.sub_self, allF] at hq
      injection hq with hq
      subst hq
      have hbor := hS.bo.cell
      gi_wp2
      go_ret
      refine ⟨gg, rfl, by omega, hS.row, hS.len, ⟨hkk.os.trans hB3.os, hkk.tape.trans hB3.tape, hkk.output.trans hB3.output, Nat.le_trans hB3.size hkk.size, fun b hb => (hkk.block b (Nat.lt_of_lt_of_le hb hB3.size) (by omega)).trans (hB3.block b hb)⟩⟩
theorem sizes_ok (hTF : (TTy TF).noRef = true) (ok : ∀ k, FcOK Try.prog (ptFc pt) k) : ∀ k, FcOK Try.prog (sizesFc pt) k := fun k => {
  fn := ⟨_, Try.func15, by kernel_rfl, by kernel_rfl⟩
  calls := fun x y hy w e vs hvs hh hvo hsep => by
    obtain ⟨l, _⟩ := x
    have hy0 : sizesF pt k (l, ()) = some y := hy
    unfold sizesF at hy0
    split at hy0
    case isFalse => cases hy0
    rename_i hL
    have hun : ∀ j, e.loc j = .un := fun j => by
      have h := hh j
      have hn : hpf (encSs (sizesFc pt).args (l, ()) 0).2 j = .none := hpf_none rfl rfl
      rw [hn] at h
      exact h
    cases ho : allF (ofF (ptK pt k) l k) (List.replicate l.length (-1)) 0 l.length with
    | none => rw [ho] at hy0; cases hy0
    | some o =>
    rw [ho] at hy0
    have hy1 : some (o, ()) = some y := hy0
    injection hy1 with hy1
    subst hy1
    cases hvs with
    | cons hx hr =>
      cases hr
      have hx' : RelD e.imm (.slice (TTy TF)) l _ := hx
      obtain ⟨a, c, hv, hc, h0⟩ := hx'
      injection hv with hv
      subst hv
      have hC := sizes_in pt (ok k) (imm := e.imm) hsep.tb (W := w) hsep.imm (l := l) (a := a) (c := c) ⟨a, c, rfl, hc, h0⟩ hL ho
      refine (callsIn_wide.1 hC).mono ?_
      rintro r w' ⟨gg, rfl, hgg, hrow, hlen, hB⟩
      have himg : e.imm gg = .none := by
        cases hq : e.imm gg with
        | none => rfl
        | some ob =>
          have := (Array.getElem?_eq_some_iff.1 (hsep.imm gg ob hq)).1
          omega
      have hkeep : ∀ b q, e.imm b = some q → w'.heap[b]? = some q := fun b q hq => (hB.block b (Array.getElem?_eq_some_iff.1 (hsep.imm b q hq)).1).trans (hsep.imm b q hq)
      refine ⟨_, ⟨e.imm, fun j => if j = 0 then .arr gg 0 1 l.length o.length else .un, fun _ => .un⟩, rfl, ?_, fun id => ?_, ⟨hkeep, fun id b hb => ?_, fun i j b hi hj => ?_, (fun k b hb => by cases hb), (fun k j b hb => by cases hb), (fun i k b _ hb => by cases hb), hsep.tb⟩, ⟨hB.os, hB.tape, hB.output, hB.size, fun b hb => hB.block b ?_⟩, fun _ _ h => h, fun _ _ h => .inl h, fun p hp => by simp [outHeads, sizesFc, heads] at hp, .un (fun _ => rfl), fun k hk => (hk (vl_un hvo rfl k)).elim⟩
      · have h2 : RelC ⟨e.imm, fun j => if j = 0 then .arr gg 0 1 l.length o.length else .un, fun _ => .un⟩ (.sl 0 none none) (.slice (some ⟨gg, 0, none⟩) l.length l.length) := by
          simp only [RelC, ↓reduceIte]
          exact ⟨Nat.zero_le _, Nat.le_refl _, ⟨gg, 0, none⟩, by simp [hlen], .inr (by simp)⟩
        exact h2
      · by_cases hid : id = 0
        · subst hid
          have hn : hpf (encSs ((sizesFc pt).outs.map (·.2) ++ (sizesFc pt).res) (o, ()) 0).2 0 = .arr (.int .i64) o := rfl
          rw [hn]
          refine .inr ⟨gg, 0, l.length, _, 3, (0, 0), rfl, by omega, hrow, fun q _ => by simp, by simp [Ty.size, hlen], rowsC_of (int_rows fun i hi => ?_)⟩
          simp [hi]
        · have hn : hpf (encSs ((sizesFc pt).outs.map (·.2) ++ (sizesFc pt).res) (o, ()) 0).2 id = .none := by
            have h1 : (encSs ((sizesFc pt).outs.map (·.2) ++ (sizesFc pt).res) (o, ()) 0).2[id]? = none := List.getElem?_eq_none (by show 1 ≤ id; omega)
            exact hpf_none h1 rfl
          rw [hn]
          show (if id = 0 then Loc.arr gg 0 1 l.length o.length else Loc.un) = .un
          rw [if_neg hid]
      · simp only at hb
        split at hb
        · injection hb with hb
          subst hb
          exact ⟨.inl hgg, himg⟩
        · cases hb
      · simp only at hi hj
        split at hi
        · split at hj
          · omega
          · cases hj
        · cases hi
      · exact Classical.byContradiction fun h => hb (.inl (by omega)) }
end
end Go.Proofs.Ytmcdddghlcllbaa.Den
