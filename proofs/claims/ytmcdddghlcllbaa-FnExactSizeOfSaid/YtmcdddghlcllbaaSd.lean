/- The closure walked: arrays. -/
import Derived.Test.YtmcdddghlcllbaaSc
set_option autoImplicit false
set_option linter.unusedVariables false
namespace Go.Proofs.Ytmcdddghlcllbaa.Den
open Go.Proofs Go.RowKit Go.Shelf

set_option maxRecDepth 100000 in
set_option maxHeartbeats 4000000 in
theorem of_array {g Bo Bl Bf L : Nat} {lb lo lc : Nat} {W : World} {out : List Int} (h : SzW g Bo Bl Bf L (.slice (some ⟨lb, lo, none⟩) L lc) W out) (n : Nat) (hn : n < L) (hL : L ≤ 1000) (h0 : out.getD n 0 < 0)
    (ty long base : Int) (fa : Option Addr) (fl fc : Nat) (s4 s5 : ByteArray)
    (k0 : W.cell? ⟨lb, lo + n * 6, none⟩ = some (.int .i64 ty)) (k1 : W.cell? ⟨lb, lo + n * 6 + 1, none⟩ = some (.int .i64 long)) (k2 : W.cell? ⟨lb, lo + n * 6 + 2, none⟩ = some (.int .i64 base))
    (k3 : W.cell? ⟨lb, lo + n * 6 + 3, none⟩ = some (.slice fa fl fc)) (k4 : W.cell? ⟨lb, lo + n * 6 + 4, none⟩ = some (.string s4)) (k5 : W.cell? ⟨lb, lo + n * 6 + 5, none⟩ = some (.string s5))
    (ht : ty = 4) (o1 : List Int) (v : Int)
    (hrec : ∀ W', SzW g Bo Bl Bf L (.slice (some ⟨lb, lo, none⟩) L lc) W' out → KeepB g W W' → Calls Try.prog 26 #[.int .i64 base, .pointer (some ⟨Bo, 0, none⟩), .pointer (some ⟨Bl, 0, none⟩), .pointer (some ⟨Bf, 0, none⟩)] W' fun r W2 => r = .returned (.int .i64 v) ∧ SzW g Bo Bl Bf L (.slice (some ⟨lb, lo, none⟩) L lc) W2 o1 ∧ KeepB g W' W2) :
    CallsIn Fence.wide 5 Try.prog 26 #[.int .i64 n, .pointer (some ⟨Bo, 0, none⟩), .pointer (some ⟨Bl, 0, none⟩), .pointer (some ⟨Bf, 0, none⟩)] W fun r W' => r = .returned (.int .i64 (noteF o1 n (w64 (long * v))).2) ∧ SzW g Bo Bl Bf L (.slice (some ⟨lb, lo, none⟩) L lc) W' (noteF o1 n (w64 (long * v))).1 ∧ KeepB g W W' := by
  have hc := h.bo.cell
  have hcl := h.bl.cell
  have hlt := (Array.getElem?_eq_some_iff.1 h.row).1
  have hfz : W.frozen? ⟨g, n, none⟩ = false := by simp [World.frozen?, h.row]
  have hrow : W.cell? ⟨g, n, none⟩ = some (.int .i64 (out.getD n 0)) := by
    have hl := h.len
    simp only [World.cell?, h.row]
    simp [List.getD, show n < out.length by omega]
  have hcA : ∀ o, (W.alloc o).cell? ⟨Bo, 0, none⟩ = some (.slice (some ⟨g, 0, none⟩) L L) := fun o => (h.bo.alloc o).cell
  have hfA : ∀ o, (W.alloc o).frozen? ⟨g, n, none⟩ = false := fun o => by
    have : (W.alloc o).heap[g]? = some (.cells (out.map (Value.int .i64)).toArray 3 (0, 0)) := (Below.heap_alloc _ _ _ hlt).trans h.row
    simp [World.frozen?, this]
  have hrA : ∀ o, (W.alloc o).cell? ⟨g, n, none⟩ = some (.int .i64 (out.getD n 0)) := fun o => (World.cell?_of_block (a := ⟨g, n, none⟩) (Below.heap_alloc _ _ _ hlt)).trans hrow
  have hbfA : ∀ o, (W.alloc o).cell? ⟨Bf, 0, none⟩ = some (.func (.func 26) #[] #[.pointer (some ⟨Bo, 0, none⟩), .pointer (some ⟨Bl, 0, none⟩), .pointer (some ⟨Bf, 0, none⟩)]) := fun o => (h.bf.alloc o).cell
  have hrecA : ∀ o, Calls Try.prog 26 #[.int .i64 base, .pointer (some ⟨Bo, 0, none⟩), .pointer (some ⟨Bl, 0, none⟩), .pointer (some ⟨Bf, 0, none⟩)] (W.alloc o).drew fun r W2 => r = .returned (.int .i64 v) ∧ SzW g Bo Bl Bf L (.slice (some ⟨lb, lo, none⟩) L lc) W2 o1 ∧ KeepB g (W.alloc o).drew W2 := fun o => hrec (W.alloc o).drew (h.keep (W' := (W.alloc o).drew) fun b hb => Below.heap_alloc _ _ _ hb) ⟨rfl, rfl, rfl, by simp, fun b hb _ => Below.heap_alloc _ _ _ hb⟩
  have hlong : ∀ (cs : Array Value) (W2 : World), KeepB g (W.alloc (.cells cs 38)).drew W2 → ∀ j, W2.cell? ⟨W.heap.size, j, none⟩ = cs[j]? := fun cs W2 hk j => by
    have h1 : W2.heap[W.heap.size]? = some (.cells cs 38 (0, 0)) := (hk.block W.heap.size (by simp) (fun e => by omega)).trans (World.alloc_heap_new W _)
    simp [World.cell?, h1]
  have hkA : ∀ o W2, KeepB g (W.alloc o).drew W2 → KeepB g W W2 := fun o W2 hk => KeepB.trans (B := (W.alloc o).drew) ⟨rfl, rfl, rfl, by simp, fun b hb _ => Below.heap_alloc _ _ _ hb⟩ hk
  clear hlt
  obtain ⟨ne1, ne2, ne3⟩ := h.ne
  generalize hx : out.getD n 0 = x at *
  refine callsIn_of_wp Try.func26 rfl trivial ?_ rfl
  simp only [Try.ntmps26, List.size_toArray, List.length_cons, List.length_nil, Nat.reduceAdd, Nat.reduceSub, Array.replicate_succ, Array.replicate_zero, List.push_toArray, List.append_toArray, List.nil_append, List.cons_append]
  subst ht
  have hmix : Try.prog.follows .mixedOrders = true := by kernel_rfl
  gi_wp2
  gi_region_with_o (refine ⟨trivial, ?_⟩; gi_at_call 26; refine (callsIn_wide.2 (hrecA _)).mono ?_; rintro e W2 ⟨rfl, hS2, hk2⟩; have hl2 := hlong _ _ hk2 1)
  all_goals
    have hc2 := hS2.bo.cell
    have hf2 : W2.frozen? ⟨g, n, none⟩ = false := by simp [World.frozen?, hS2.row]
    have hr2 : W2.cell? ⟨g, n, none⟩ = some (.int .i64 (o1.getD n 0)) := by
      have hl := hS2.len
      simp only [World.cell?, hS2.row]
      simp [List.getD, show n < o1.length by omega]
    obtain ⟨z, hz⟩ : ∃ z : Int, (if (1000000001 : Int) < wrap64 (long * v) then (1000000001 : Int) else wrap64 (long * v)) = z := ⟨_, rfl⟩
    have ew : w64 (long * v) = wrap64 (long * v) := IntWalk.i64_left _
    have hz' : (if (1000000001 : Int) < w64 (long * v) then (1000000001 : Int) else w64 (long * v)) = z := by rw [ew]; exact hz
    have fin : SzW g Bo Bl Bf L (.slice (some ⟨lb, lo, none⟩) L lc) (W2.setCell ⟨g, n, none⟩ (.int .i64 z)) (noteF o1 n (w64 (long * v))).1 ∧ KeepB g W (W2.setCell ⟨g, n, none⟩ (.int .i64 z)) := note_end hS2 n hn (hkA _ _ hk2) _ z hz'.symm
    have fin2 : (noteF o1 n (w64 (long * v))).2 = z := hz'
    clear ew hz'
    clear hl2 hlong hrecA hkA hfA hrA hcA hbfA hrec
    gi_wp2
    go_ret
    exact ⟨by rw [fin2]; rfl, fin⟩
end Go.Proofs.Ytmcdddghlcllbaa.Den
