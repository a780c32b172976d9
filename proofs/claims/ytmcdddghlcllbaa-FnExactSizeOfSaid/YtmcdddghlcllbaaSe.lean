/- The closure walked: records. -/
import Derived.Test.YtmcdddghlcllbaaSd
set_option autoImplicit false
set_option linter.unusedVariables false
namespace Go.Proofs.Ytmcdddghlcllbaa.Den
open Go.Proofs Go.RowKit Go.Shelf

set_option maxRecDepth 100000 in
set_option maxHeartbeats 4000000 in
theorem of_record {g Bo Bl Bf L : Nat} {lb lo lc : Nat} {W : World} {out : List Int} (h : SzW g Bo Bl Bf L (.slice (some ⟨lb, lo, none⟩) L lc) W out) (n : Nat) (hn : n < L) (hL : L ≤ 1000) (h0 : out.getD n 0 < 0)
    (ty long base : Int) (fa : Option Addr) (fl fc : Nat) (s4 s5 : ByteArray)
    (k0 : W.cell? ⟨lb, lo + n * 6, none⟩ = some (.int .i64 ty)) (k1 : W.cell? ⟨lb, lo + n * 6 + 1, none⟩ = some (.int .i64 long)) (k2 : W.cell? ⟨lb, lo + n * 6 + 2, none⟩ = some (.int .i64 base))
    (k3 : W.cell? ⟨lb, lo + n * 6 + 3, none⟩ = some (.slice fa fl fc)) (k4 : W.cell? ⟨lb, lo + n * 6 + 4, none⟩ = some (.string s4)) (k5 : W.cell? ⟨lb, lo + n * 6 + 5, none⟩ = some (.string s5))
    (ht : ty = 5) (rec : List Int → Int → Option (List Int × Int)) (ps : List Int) (hps : ps.length ≤ 1000) (o1 : List Int) (s1 : Int) (hadd : addF rec out ps 0 = some (o1, s1))
    (hrec : ∀ o p q v, rec o p = some (q, v) → ∀ W', SzW g Bo Bl Bf L (.slice (some ⟨lb, lo, none⟩) L lc) W' o → KeepB g W W' → Calls Try.prog 26 #[.int .i64 p, .pointer (some ⟨Bo, 0, none⟩), .pointer (some ⟨Bl, 0, none⟩), .pointer (some ⟨Bf, 0, none⟩)] W' fun r W2 => r = .returned (.int .i64 v) ∧ SzW g Bo Bl Bf L (.slice (some ⟨lb, lo, none⟩) L lc) W2 q ∧ KeepB g W' W2)
    (hparts : ∀ W', KeepB g W W' → Calls Try.prog 27 #[.agg #[.int .i64 5, .int .i64 long, .int .i64 base, .slice fa fl fc, .string s4, .string s5], .bool false] W' (fun r W2 => Below W'.heap.size W' W2 ∧ ∃ a cap, r = .returned (.slice a ps.length cap) ∧ ps.length ≤ cap ∧ ((a = none ∧ ps = []) ∨ ∃ b o cs E fz a', a = some a' ∧ (cap = 0 ∨ a' = ⟨b, o, none⟩) ∧ W'.heap.size ≤ b ∧ W2.heap[b]? = some (.cells cs E fz) ∧ o + cap ≤ cs.size ∧ ∀ i (h : i < ps.length), cs.toList[o + i]? = some (.int .i64 ps[i])))) :
    CallsIn Fence.wide 5 Try.prog 26 #[.int .i64 n, .pointer (some ⟨Bo, 0, none⟩), .pointer (some ⟨Bl, 0, none⟩), .pointer (some ⟨Bf, 0, none⟩)] W fun r W' => r = .returned (.int .i64 (noteF o1 n s1).2) ∧ SzW g Bo Bl Bf L (.slice (some ⟨lb, lo, none⟩) L lc) W' (noteF o1 n s1).1 ∧ KeepB g W W' := by
  have hc := h.bo.cell
  have hcl := h.bl.cell
  have hlt := (Array.getElem?_eq_some_iff.1 h.row).1
  have hfz : W.frozen? ⟨g, n, none⟩ = false := by simp [World.frozen?, h.row]
  have hrow : W.cell? ⟨g, n, none⟩ = some (.int .i64 (out.getD n 0)) := by
    have hl := h.len
    simp only [World.cell?, h.row]
    simp [List.getD, show n < out.length by omega]
  have hcA : ∀ o, (W.alloc o).cell? ⟨Bo, 0, none⟩ = some (.slice (some ⟨g, 0, none⟩) L L) := fun o => (h.bo.alloc o).cell
  have hfA : ∀ o, (W.alloc o).frozen? ⟨g, n, none⟩ = false := fun o => by
    have : (W.alloc o).heap[g]? = some (.cells (out.map (Value.int .i64)).toArray 3 (0, 0)) := (Below.heap_alloc _ _ _ hlt).trans h.row
    simp [World.frozen?, this]
  have hrA : ∀ o, (W.alloc o).cell? ⟨g, n, none⟩ = some (.int .i64 (out.getD n 0)) := fun o => (World.cell?_of_block (a := ⟨g, n, none⟩) (Below.heap_alloc _ _ _ hlt)).trans hrow
  have hbfA : ∀ o, (W.alloc o).cell? ⟨Bf, 0, none⟩ = some (.func (.func 26) #[] #[.pointer (some ⟨Bo, 0, none⟩), .pointer (some ⟨Bl, 0, none⟩), .pointer (some ⟨Bf, 0, none⟩)]) := fun o => (h.bf.alloc o).cell
  have hkA : ∀ o, KeepB g W (W.alloc o) := fun o => KeepB.alloc g W o
  have hSA : ∀ o, SzW g Bo Bl Bf L (.slice (some ⟨lb, lo, none⟩) L lc) (W.alloc o) out := fun o => h.keep fun b hb => Below.heap_alloc _ _ _ hb
  clear hlt
  obtain ⟨ne1, ne2, ne3⟩ := h.ne
  generalize hx : out.getD n 0 = x at *
  refine callsIn_of_wp Try.func26 rfl trivial ?_ rfl
  simp only [Try.ntmps26, List.size_toArray, List.length_cons, List.length_nil, Nat.reduceAdd, Nat.reduceSub, Array.replicate_succ, Array.replicate_zero, List.push_toArray, List.append_toArray, List.nil_append, List.cons_append]
  subst ht
  have hmix : Try.prog.follows .mixedOrders = true := by kernel_rfl
  gi_wp2_with (refine ⟨trivial, ?_⟩; gi_at_call 27; refine (callsIn_wide.2 (hparts _ (hkA _))).mono ?_; rintro e W2 ⟨hB2, a, cap, rfl, hcap, hrows⟩)
  obtain ⟨b, ob, hab, hrowb⟩ : ∃ b ob, (ps.length = 0 ∨ a = some ⟨b, ob, none⟩) ∧ (ps = [] ∨ (b < W2.heap.size ∧ b ≠ g ∧ ∀ j (h : j < ps.length), W2.cell? ⟨b, ob + j, none⟩ = some (.int .i64 ps[j]))) := by
    rcases hrows with ⟨_, rfl⟩ | ⟨b, ob, cs, E, fz, a', rfl, ha', hb, hcs, _, hcells⟩
    · exact ⟨0, 0, .inl rfl, .inl rfl⟩
    · have hgW : g < W.heap.size := (Array.getElem?_eq_some_iff.1 h.row).1
      refine ⟨b, ob, ?_, .inr ⟨(Array.getElem?_eq_some_iff.1 hcs).1, fun e => by simp at hb; omega, fun j hj => ?_⟩⟩
      · rcases ha' with h | h
        · exact .inl (by omega)
        · exact .inr (by rw [h])
      · have := hcells j hj
        simp only [World.cell?, hcs]
        simpa using this
  have hS2 : SzW g Bo Bl Bf L (.slice (some ⟨lb, lo, none⟩) L lc) W2 out := (hSA _).keep hB2.block
  have hkW2 : KeepB g W W2 := (hkA _).trans (.of_below hB2)
  clear hrows hfz hrow hcA hfA hrA hbfA hkA hSA hB2 hparts
  gi_loopw [46, 7] (fun i z wr => ∃ (j : Nat) (sz : Int) (o : List Int), j ≤ ps.length ∧ i = .int .i64 (j : Int) ∧ z = .int .i64 sz ∧ addF rec o (ps.drop j) sz = some (o1, s1) ∧ SzW g Bo Bl Bf L (.slice (some ⟨lb, lo, none⟩) L lc) wr o ∧ KeepB g W2 wr)
    (fun i _ _ => ps.length - (intOf i).toNat)
  case atStart => exact ⟨0, 0, out, Nat.zero_le _, rfl, rfl, hadd, hS2, KeepB.refl _ _⟩
  case round =>
    obtain ⟨j, sz, o, hj, rfl, rfl, hadd, hS, hkk⟩ := hrel
    by_cases hlt : j < ps.length
    · have hcj : wr.cell? ⟨b, ob + j, none⟩ = some (.int .i64 ps[j]) := by
        rcases hrowb with e | ⟨hb1, hb2, hb3⟩
        · rw [e] at hlt; simp at hlt
        · exact (World.cell?_of_block (a := ⟨b, ob + j, none⟩) (hkk.block b hb1 hb2)).trans (hb3 j hlt)
      obtain rfl := hab.resolve_left (by omega)
      rw [List.drop_eq_getElem_cons hlt, addF] at hadd
      cases hq : rec o ps[j] with
      | none => rw [hq] at hadd; cases hadd
      | some y =>
      obtain ⟨q, v⟩ := y
      rw [hq] at hadd
      have hadd' : addF rec q (ps.drop (j + 1)) (w64 (sz + v)) = some (o1, s1) := hadd
      have hcall := hrec o ps[j] q v hq wr hS (hkW2.trans hkk)
      have hbf := hS.bf.cell
      clear hadd hq hS hrec hrowb
      generalize ps[j] = p at *
      gi_wp2_with (refine ⟨trivial, ?_⟩; gi_at_call 26; refine (callsIn_wide.2 hcall).mono ?_; clear hcall; rintro e W3 ⟨rfl, hS3, hk3⟩)
      go_roundw
      case rel => exact ⟨j + 1, w64 (sz + v), q, by omega, by simp, by rw [show w64 (sz + v) = wrap64 (sz + v) from IntWalk.i64_left _], hadd', hS3, hkk.trans hk3⟩
      case measure => simp [intOf]; omega
    · have hje : j = ps.length := by omega
      rw [hje, List.drop_length, addF] at hadd
      injection hadd with hadd
      injection hadd with e1 e2
      subst e1; subst e2
      have hc2 := hS.bo.cell
      have hf2 : wr.frozen? ⟨g, n, none⟩ = false := by simp [World.frozen?, hS.row]
      have hr2 : wr.cell? ⟨g, n, none⟩ = some (.int .i64 (o.getD n 0)) := by
        have hl := hS.len
        simp only [World.cell?, hS.row]
        simp [List.getD, show n < o.length by omega]
      obtain ⟨z, hz⟩ : ∃ z : Int, (if (1000000001 : Int) < sz then (1000000001 : Int) else sz) = z := ⟨_, rfl⟩
      have fin := note_end hS n hn (hkW2.trans hkk) sz z hz.symm
      have fin2 : (noteF o n sz).2 = z := hz
      clear hrec hrowb
      gi_wp2
      go_ret
      exact ⟨by rw [fin2]; rfl, fin⟩
end Go.Proofs.Ytmcdddghlcllbaa.Den
