/- The closure walked: kinds whose size is fixed. -/
import Derived.Test.YtmcdddghlcllbaaSb
set_option autoImplicit false
set_option linter.unusedVariables false
namespace Go.Proofs.Ytmcdddghlcllbaa.Den
open Go.Proofs Go.RowKit Go.Shelf

set_option maxRecDepth 100000 in
set_option maxHeartbeats 4000000 in
theorem of_const {g Bo Bl Bf L : Nat} {lb lo lc : Nat} {W : World} {out : List Int} (h : SzW g Bo Bl Bf L (.slice (some ⟨lb, lo, none⟩) L lc) W out) (n : Nat) (hn : n < L) (hL : L ≤ 1000) (h0 : out.getD n 0 < 0)
    (ty long base : Int) (fa : Option Addr) (fl fc : Nat) (s4 s5 : ByteArray)
    (k0 : W.cell? ⟨lb, lo + n * 6, none⟩ = some (.int .i64 ty)) (k1 : W.cell? ⟨lb, lo + n * 6 + 1, none⟩ = some (.int .i64 long)) (k2 : W.cell? ⟨lb, lo + n * 6 + 2, none⟩ = some (.int .i64 base))
    (k3 : W.cell? ⟨lb, lo + n * 6 + 3, none⟩ = some (.slice fa fl fc)) (k4 : W.cell? ⟨lb, lo + n * 6 + 4, none⟩ = some (.string s4)) (k5 : W.cell? ⟨lb, lo + n * 6 + 5, none⟩ = some (.string s5))
    (size : Int) (ht : (ty = 1 ∧ size = 4) ∨ (ty = 2 ∧ size = 1) ∨ (ty = 3 ∧ size = 1) ∨ (ty = 6 ∧ size = 8) ∨ (ty ≠ 1 ∧ ty ≠ 2 ∧ ty ≠ 3 ∧ ty ≠ 6 ∧ ty ≠ 4 ∧ ty ≠ 5 ∧ size = 0)) :
    CallsIn Fence.wide 5 Try.prog 26 #[.int .i64 n, .pointer (some ⟨Bo, 0, none⟩), .pointer (some ⟨Bl, 0, none⟩), .pointer (some ⟨Bf, 0, none⟩)] W fun r W' => r = .returned (.int .i64 (noteF out n size).2) ∧ SzW g Bo Bl Bf L (.slice (some ⟨lb, lo, none⟩) L lc) W' (noteF out n size).1 ∧ KeepB g W W' := by
  have hc := h.bo.cell
  have hcl := h.bl.cell
  have hlt := (Array.getElem?_eq_some_iff.1 h.row).1
  have hfz : W.frozen? ⟨g, n, none⟩ = false := by simp [World.frozen?, h.row]
  have hrow : W.cell? ⟨g, n, none⟩ = some (.int .i64 (out.getD n 0)) := by
    have hl := h.len
    simp only [World.cell?, h.row]
    simp [List.getD, show n < out.length by omega]
  have hcA : ∀ o, (W.alloc o).cell? ⟨Bo, 0, none⟩ = some (.slice (some ⟨g, 0, none⟩) L L) := fun o => (h.bo.alloc o).cell
  have hfA : ∀ o, (W.alloc o).frozen? ⟨g, n, none⟩ = false := fun o => by
    have : (W.alloc o).heap[g]? = some (.cells (out.map (Value.int .i64)).toArray 3 (0, 0)) := (Below.heap_alloc _ _ _ hlt).trans h.row
    simp [World.frozen?, this]
  have hrA : ∀ o, (W.alloc o).cell? ⟨g, n, none⟩ = some (.int .i64 (out.getD n 0)) := fun o => (World.cell?_of_block (a := ⟨g, n, none⟩) (Below.heap_alloc _ _ _ hlt)).trans hrow
  have fin : ∀ (o : Obj) (size' v : Int), v = (if 1000000001 < size' then 1000000001 else size') → SzW g Bo Bl Bf L (.slice (some ⟨lb, lo, none⟩) L lc) ((W.alloc o).setCell ⟨g, n, none⟩ (.int .i64 v)) (noteF out n size').1 ∧ KeepB g W ((W.alloc o).setCell ⟨g, n, none⟩ (.int .i64 v)) :=
    fun o size' v hv => note_end (h.keep (W' := W.alloc o) fun b hb => Below.heap_alloc _ _ _ hb) n hn (KeepB.alloc g W o) size' v hv
  clear hlt
  obtain ⟨ne1, ne2, ne3⟩ := h.ne
  generalize hx : out.getD n 0 = x at *
  refine callsIn_of_wp Try.func26 rfl trivial ?_ rfl
  simp only [Try.ntmps26, List.size_toArray, List.length_cons, List.length_nil, Nat.reduceAdd, Nat.reduceSub, Array.replicate_succ, Array.replicate_zero, List.push_toArray, List.append_toArray, List.nil_append, List.cons_append]
  rcases ht with ⟨rfl, rfl⟩ | ⟨rfl, rfl⟩ | ⟨rfl, rfl⟩ | ⟨rfl, rfl⟩ | ⟨e1, e2, e3, e6, e4, e5, rfl⟩
  · gi_wp2
    go_ret
    exact ⟨rfl, fin _ 4 _ rfl⟩
  · gi_wp2
    go_ret
    exact ⟨rfl, fin _ 1 _ rfl⟩
  · gi_wp2
    go_ret
    exact ⟨rfl, fin _ 1 _ rfl⟩
  · gi_wp2
    go_ret
    exact ⟨rfl, fin _ 8 _ rfl⟩
  · gi_wp2
    go_ret
    exact ⟨rfl, fin _ 0 _ rfl⟩
end Go.Proofs.Ytmcdddghlcllbaa.Den
