/- slices.Chunk over whole numbers by 200: the contract of its iterator. -/
import Derived.RangeFuncBox
import Derived.RangeFuncLeaves
import Derived.RangeFuncCalls
import Derived.Shelf.Abstract
import Derived.Shelf.RegionOpen
import Derived.WalkKit
import Derived.OwnWalkIn
import Derived.TacticsInMore
import Derived.LoopNIn
import Derived.LoopIn
import Derived.Maps.AppendAt
import Derived.Test.YtlkmfgnalobkmaaGreatProg
import Derived.Test.YtlkmfgnalobkmaaGreatZa
set_option autoImplicit false
namespace Go.Proofs.YtlkmfgnalobkmaaGreat.Den
open Go.Proofs
open Go.RowKit Go.Shelf

attribute [local go_sem] Oper.semAt_some

def chunkN (len : Nat) : Nat := (len + 199) / 200
def chunkV (b off len x : Nat) : Value := .slice (some ⟨b, off + 200 * x, none⟩) (min 200 (len - 200 * x)) (min 200 (len - 200 * x))

/-- The two boxes that slices.Chunk reads lie as they lay. -/
def KpC (Bs Bn : Nat) (W W' : World) : Prop := W'.heap[Bs]? = W.heap[Bs]? ∧ W'.heap[Bn]? = W.heap[Bn]?
theorem KpC.refl (Bs Bn : Nat) (W : World) : KpC Bs Bn W W := ⟨rfl, rfl⟩
theorem KpC.trans {Bs Bn : Nat} {A B C : World} (h : KpC Bs Bn A B) (k : KpC Bs Bn B C) : KpC Bs Bn A C := ⟨k.1.trans h.1, k.2.trans h.2⟩
theorem KpC.s {Bs Bn : Nat} {W W' : World} (h : KpC Bs Bn W W') : W'.cell? ⟨Bs, 0, none⟩ = W.cell? ⟨Bs, 0, none⟩ := World.cell?_of_block (a := ⟨Bs, 0, none⟩) h.1
theorem KpC.n {Bs Bn : Nat} {W W' : World} (h : KpC Bs Bn W W') : W'.cell? ⟨Bn, 0, none⟩ = W.cell? ⟨Bn, 0, none⟩ := World.cell?_of_block (a := ⟨Bn, 0, none⟩) h.2

set_option maxRecDepth 100000 in
set_option maxHeartbeats 2000000 in
theorem chunk1_in (n : Nat) (hn : 1 ≤ n) (l Bs Bn b off len cap : Nat) (hlc : len ≤ cap) (hbig : len ≤ 1099511627776) (J Jx : List Nat → World → Prop) (hJd : ∀ pre X q, J pre X → J pre (X.drewN q))
    (hY : ∀ pre x W, J pre W → pre.length < chunkN len → YieldAt Fence.wide (n - 1) Tryz.prog l #[chunkV b off len x] W fun e W' =>
      (e = .returned (.bool true) ∧ J (pre ++ [x]) W' ∧ KpC Bs Bn W W') ∨ (e = .returned (.bool false) ∧ Jx (pre ++ [x]) W'))
    (W : World) (hBs : W.cell? ⟨Bs, 0, none⟩ = some (.slice (some ⟨b, off, none⟩) len cap)) (hBn : W.cell? ⟨Bn, 0, none⟩ = some (.int .i64 200)) (h0 : J [] W) :
    CallsIn Fence.wide n Tryz.prog 57 #[.func (.yield l) #[] #[], .pointer (some ⟨Bs, 0, none⟩), .pointer (some ⟨Bn, 0, none⟩)] W fun e W' => (∃ v, e = .returned v) ∧
      ((∃ ys, ys = List.range (chunkN len) ∧ J ys W') ∨ (∃ pre, True ∧ Jx pre W')) := by
  refine callsIn_of_wp Tryz.func57 rfl trivial ?_ rfl
  simp only [Tryz.ntmps57, List.size_toArray, List.length_cons, List.length_nil, Nat.reduceAdd, Nat.reduceSub, Array.replicate_succ, Array.replicate_zero, List.push_toArray, List.append_toArray, List.nil_append, List.cons_append]
  gi_wp2
  gi_loopw [4] (fun i wr => ∃ k : Nat, k ≤ chunkN len ∧ i = .int .i64 ((200 * k : Nat) : Int) ∧ J (List.range k) wr ∧ KpC Bs Bn W wr)
    (fun i _ => len + 200 - (intOf i).toNat)
  case atStart => exact ⟨0, Nat.zero_le _, rfl, h0, KpC.refl _ _ _⟩
  case round =>
    obtain ⟨k, hk, rfl, hJs, hnx⟩ := hrel
    have hcs := hnx.s.trans hBs
    have hcn := hnx.n.trans hBn
    by_cases hlt : 200 * k < len
    · have hmix : Tryz.prog.follows .mixedOrders = true := by kernel_rfl
      have hm : (if ((len - 200 * k : Nat) : Int) < 200 then ((len - 200 * k : Nat) : Int) else 200) = ((min 200 (len - 200 * k) : Nat) : Int) := by split <;> omega
      gi_wp2
      gi_big_quiet_th_o (skip)
      obtain ⟨fn, tmps, assign, body, hy, hR⟩ := hY _ k (wr.drewN nq) (hJd _ _ _ hJs) (by rw [List.length_range]; unfold chunkN at *; omega)
      have hcs2 : (wr.drewN nq).cell? ⟨Bs, 0, none⟩ = some (.slice (some ⟨b, off, none⟩) len cap) := hcs
      have hcn2 : (wr.drewN nq).cell? ⟨Bn, 0, none⟩ = some (.int .i64 200) := hcn
      have hk2 : KpC Bs Bn W (wr.drewN nq) := hnx
      generalize wr.drewN nq = w2 at *
      clear hm
      unfold chunkV at hy
      have hm1 : min 200 (len - 200 * k) ≤ 200 := Nat.min_le_left _ _
      have hm2 : min 200 (len - 200 * k) ≤ len - 200 * k := Nat.min_le_right _ _
      have hm3 : ¬ min 200 (len - 200 * k) = 0 := by omega
      have hm4 : k + 1 ≤ chunkN len := by unfold chunkN; omega
      generalize min 200 (len - 200 * k) = m at *
      gi_wp2
      refine hR.mono ?_
      rintro e W3 (⟨rfl, hJ3, hk3⟩ | ⟨rfl, hJx3⟩)
      · have hcn3 : W3.cell? ⟨Bn, 0, none⟩ = some (.int .i64 200) := hk3.n.trans hcn2
        gi_wp2
        go_roundw
        case rel => exact ⟨k + 1, hm4, by simp; omega, by rw [List.range_succ]; exact hJ3, hk2.trans hk3⟩
        case measure => simp [intOf]; omega
      · gi_wp2
        refine bodyPost_ret (results_none rfl _ _ _) rfl ?_
        exact ⟨⟨_, rfl⟩, .inr ⟨_, trivial, hJx3⟩⟩
    · have hke : k = chunkN len := by unfold chunkN at *; omega
      gi_wp2
      go_end0
      exact ⟨⟨_, rfl⟩, .inl ⟨_, by rw [hke], hJs⟩⟩

set_option maxRecDepth 100000 in
set_option maxHeartbeats 1000000 in
theorem chunk1_nil_in (n l Bs Bn : Nat) (a : Option Addr) (cap : Nat) (J : List Nat → World → Prop) (W : World) (hBs : W.cell? ⟨Bs, 0, none⟩ = some (.slice a 0 cap)) (hBn : W.cell? ⟨Bn, 0, none⟩ = some (.int .i64 200)) (h0 : J [] W) :
    CallsIn Fence.wide n Tryz.prog 57 #[.func (.yield l) #[] #[], .pointer (some ⟨Bs, 0, none⟩), .pointer (some ⟨Bn, 0, none⟩)] W fun e W' => (∃ v, e = .returned v) ∧ J [] W' := by
  refine callsIn_of_wp Tryz.func57 rfl trivial ?_ rfl
  simp only [Tryz.ntmps57, List.size_toArray, List.length_cons, List.length_nil, Nat.reduceAdd, Nat.reduceSub, Array.replicate_succ, Array.replicate_zero, List.push_toArray, List.append_toArray, List.nil_append, List.cons_append]
  gi_wp2
  gi_loopw [4] (fun i wr => i = .int .i64 0 ∧ wr.cell? ⟨Bs, 0, none⟩ = some (.slice a 0 cap) ∧ J [] wr) (fun _ _ => 0)
  case atStart => exact ⟨rfl, hBs, h0⟩
  case round =>
    obtain ⟨rfl, hcs, hJs⟩ := hrel
    gi_wp2
    go_end0
    exact ⟨⟨_, rfl⟩, hJs⟩

theorem chunk_stops (n : Nat) (hn : 1 ≤ n) (Bs Bn len cap : Nat) (a : Option Addr) (b off : Nat) (ha : len = 0 ∨ a = some ⟨b, off, none⟩) (hlc : len ≤ cap) (hbig : len ≤ 1099511627776) (w : World) (hBs0 : Bs < w.heap.size) (hBn0 : Bn < w.heap.size)
    (hcs : w.cell? ⟨Bs, 0, none⟩ = some (.slice a len cap)) (hcn : w.cell? ⟨Bn, 0, none⟩ = some (.int .i64 200)) :
    SeqStopsK Fence.wide n Tryz.prog 57 #[.pointer (some ⟨Bs, 0, none⟩), .pointer (some ⟨Bn, 0, none⟩)] (fun x : Nat => #[chunkV b off len x]) (KpC Bs Bn) (fun ys => ys = List.range (chunkN len)) (fun _ => True) (chunkN len) w := fun l J Jx W hW hJ hJx hY h0 => by
  have hcs' := (hW.cell (p := ⟨Bs, 0, none⟩) hBs0).trans hcs
  have hcn' := (hW.cell (p := ⟨Bn, 0, none⟩) hBn0).trans hcn
  rcases Nat.eq_zero_or_pos len with h | h
  · subst h
    refine (chunk1_nil_in n l Bs Bn a cap J W hcs' hcn' h0).mono ?_
    rintro e W' ⟨he, hj⟩
    exact ⟨he, .inl ⟨_, rfl, hj⟩⟩
  · obtain rfl := ha.resolve_left (by omega)
    refine (chunk1_in n hn l Bs Bn b off len cap hlc hbig J Jx (fun pre X q hp => hJ pre X (X.drewN q) none hp ⟨rfl, rfl, rfl, Nat.le_refl _, fun _ _ _ => rfl⟩ (fun r e => by cases e)) hY W hcs' hcn' h0).mono ?_
    rintro e W' ⟨he, ⟨ys, rfl, hj⟩ | ⟨pre, _, hj⟩⟩
    · exact ⟨he, .inl ⟨_, rfl, hj⟩⟩
    · exact ⟨he, .inr ⟨_, trivial, hj⟩⟩

set_option maxHeartbeats 1000000 in
theorem chunk_in (n : Nat) (a : Option Addr) (len cap : Nat) (w : World) :
    CallsIn Fence.wide n Tryz.prog 28 #[.slice a len cap, .int .i64 200] w fun e w' => e = .returned (.func (.func 57) #[] #[.pointer (some ⟨w.heap.size, 0, none⟩), .pointer (some ⟨w.heap.size + 1, 0, none⟩)]) ∧ w' = (w.alloc (.cells #[.slice a len cap] 57)).alloc (.cells #[.int .i64 200] 3) := by
  refine callsIn_of_wp Tryz.func28 rfl trivial ?_ rfl
  simp only [Tryz.ntmps28, List.size_toArray, List.length_cons, List.length_nil, Nat.reduceAdd, Nat.reduceSub, Array.replicate_succ, Array.replicate_zero, List.push_toArray, List.append_toArray, List.nil_append, List.cons_append]
  gi_wp2
  go_ret
  exact ⟨rfl, rfl⟩
end Go.Proofs.YtlkmfgnalobkmaaGreat.Den
