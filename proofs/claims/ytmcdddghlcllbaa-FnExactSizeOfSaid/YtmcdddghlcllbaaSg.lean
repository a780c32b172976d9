/- slices.Repeat of one number. -/
import Derived.Test.YtmcdddghlcllbaaSf
import Derived.Laws.IdiomCopy
import Derived.Laws.CopyRow
import Derived.Deep.OwnRows
import Derived.Shelf.Bits.Mul64
import Derived.Ground.NamesProg
set_option autoImplicit false
set_option linter.unusedVariables false
namespace Go.Proofs.Ytmcdddghlcllbaa.Den
open Go.Proofs Go.RowKit Go.Shelf

def laysMul_ren : Go.Shelf.Ren := ⟨fun | 212 => 45 | 263 => 60 | 264 => 61 | n => n, fun | 46 => 68 | 51 => 78 | 146 => 79 | 53 => 81 | 148 => 82 | n => n, fun | n => n⟩

theorem laysMul : Go.Proofs.Lays.n212 Try.prog laysMul_ren := {
  mixed := by kernel_rfl,
  f212 := Try.func45.trans (congrArg some (by kernel_rfl)),
  f263 := Try.func60.trans (congrArg some (by kernel_rfl)),
  f264 := Try.func61.trans (congrArg some (by kernel_rfl)),
  t46 := Try.underlying68,
  a46 := Try.isAgg68,
  z46 := Try.sizeOf68,
  v46 := Try.zeroValue68,
  t51 := Try.underlying78,
  a51 := Try.isAgg78,
  z51 := Try.sizeOf78,
  v51 := Try.zeroValue78,
  t53 := Try.underlying81,
  a53 := Try.isAgg81,
  z53 := Try.sizeOf81,
  v53 := Try.zeroValue81,
  t146 := Try.underlying79,
  a146 := Try.isAgg79,
  z146 := Try.sizeOf79,
  v146 := Try.zeroValue79,
  t148 := Try.underlying82,
  a148 := Try.isAgg82,
  z148 := Try.sizeOf82,
  v148 := Try.zeroValue82 }

theorem info3 : (Try.prog.info? 3).map (fun i => (i.zero, i.size, i.bytes)) = some (some (.int .i64 0), 1, 8) := by kernel_rfl
theorem size3 : (Try.prog.info? 3).map (·.size) = some 1 := by kernel_rfl

/-- A row whose first m numbers are written. -/
def rowM (n m : Nat) : Array Value := ((List.replicate m (-1 : Int) ++ List.replicate (n - m) 0).map (Value.int .i64)).toArray

theorem rowM_size {n m : Nat} (h : m ≤ n) : (rowM n m).size = n := by simp [rowM]; omega

theorem rowM_get {n m j : Nat} (h : j < m) : (rowM n m)[j]? = some (.int .i64 (-1)) := by
  simp only [rowM, List.getElem?_toArray, List.getElem?_map]
  rw [List.getElem?_append_left (by simp; omega)]
  simp [h]

theorem rowM_next (n m q : Nat) (h : m + q ≤ n) : ((rowM n m).toList.take m ++ List.replicate q (Value.int .i64 (-1)) ++ (rowM n m).toList.drop (m + q)).toArray = rowM n (m + q) := by
  unfold rowM
  apply Array.toList_inj.1
  simp only [List.map_append, List.map_replicate]
  rw [List.take_append_of_le_length (by simp), List.take_of_length_le (by simp), List.drop_append, List.drop_of_length_le (by simp)]
  simp only [List.length_replicate, List.nil_append, List.drop_replicate, List.replicate_append_replicate]
  congr 2
  omega

theorem copy_step {w : World} {g n m : Nat} (hm : m ≤ n) (hg : w.heap[g]? = some (.cells (rowM n m) 3 (0, 0))) (a : Addr) (sl sc dc : Nat) (hsrc : ∀ j, j < min sl (n - m) → w.cell? (a.add j) = some (.int .i64 (-1))) :
    ∃ w', (∀ ty, (Builtin.copy_ #[41, 41] ty #[.slice (some ⟨g, m, none⟩) (n - m) dc, .slice (some a) sl sc]).run Try.prog w = .ok (goInt ((min sl (n - m) : Nat) : Int)) w') ∧ w'.heap[g]? = some (.cells (rowM n (m + min sl (n - m))) 3 (0, 0)) ∧ w.grownBy w' (some g) := by
  refine ⟨w.setRow g (rowM n (m + min sl (n - m))), fun ty => ?_, ?_, ?_⟩
  · have := run_copy_row (P := Try.prog) w 41 41 ty 3 g m (n - m) dc a sl sc (rowM n m) 3 (List.replicate (min sl (n - m)) (.int .i64 (-1))) Try.underlying41 size3 hg (by simp [Nat.min_def]) (fun j v hj => by
      rw [List.getElem?_replicate] at hj
      split at hj
      · rename_i h; injection hj with hj; rw [← hj]; exact hsrc j h
      · cases hj) (by rw [rowM_size hm, List.length_replicate]; omega) (fun v hv => by rw [List.eq_of_mem_replicate hv]; rfl)
    rw [List.length_replicate, rowM_next n m _ (by omega)] at this
    exact this
  · exact setRow_heap w g (rowM n m) _ 3 _ hg
  · exact ⟨rfl, rfl, rfl, by simp, fun k _ hk => setRow_other w g k _ (fun e => hk (by rw [e]))⟩

theorem made_row (n : Nat) : madeCells #[Value.int .i64 0] n = rowM n 0 := by
  apply Array.ext
  · rw [rowM_size (Nat.zero_le _), size_madeCells]
  · intro i h1 h2
    have : (rowM n 0)[i] = .int .i64 0 := by simp [rowM]
    rw [this]
    simp [madeCells, Nat.mod_one]

set_option maxRecDepth 100000 in
set_option maxHeartbeats 4000000 in
theorem repeat_in (b0 n : Nat) (hn : n ≤ 1000) (W : World) (hb : Boxed W b0 3 (.int .i64 (-1))) :
    CallsIn Fence.wide 5 Try.prog 25 #[.slice (some ⟨b0, 0, none⟩) 1 1, .int .i64 n] W fun r W' => ∃ gg, r = .returned (.slice (some ⟨gg, 0, none⟩) n n) ∧ W.heap.size ≤ gg ∧ W'.heap[gg]? = some (.cells ((List.replicate n (-1 : Int)).map (Value.int .i64)).toArray 3 (0, 0)) ∧ Below W.heap.size W W' := by
  have hmul : ∀ w : World, CallsIn Fence.wide 4 Try.prog 45 #[.int .u64 1, .int .u64 (n : Int)] w fun e w' => e = .returned (.tuple #[.int .u64 0, .int .u64 (n : Int)]) ∧ w' = w := fun w => by
    refine callsIn_wide.2 ((Any.bits_Mul laysMul 1 n (by decide) (by omega) w).mono ?_)
    rintro e w' ⟨rfl, rfl⟩
    refine ⟨?_, rfl⟩
    rw [Nat.one_mul, Nat.div_eq_of_lt (by omega), Nat.mod_eq_of_lt (by omega)]
    rfl
  have hc := hb.cell
  have hmk : ∀ w : World, (Instr.makeSlice 41 (.int .i64 (n : Int)) (.int .i64 (n : Int))).run Try.prog w = .ok (.slice (some ⟨w.heap.size, 0, none⟩) n n) (w.alloc (.cells (rowM n 0) 3)) := fun w => by
    rw [← made_row]
    exact run_make_row' 41 3 (.int .i64 0) 8 Try.underlying41 info3 rfl .i64 .i64 n (by omega) (by omega) w
  obtain ⟨W1, hW1⟩ : ∃ W1, W.alloc (.cells (rowM n 0) 3) = W1 := ⟨_, rfl⟩
  have hg1 : W1.heap[W.heap.size]? = some (.cells (rowM n 0) 3 (0, 0)) := by rw [← hW1]; exact World.alloc_heap_new W _
  have hB1 : Below W.heap.size W W1 := by rw [← hW1]; exact (Below.refl _ W).alloc (Nat.le_refl _) _
  have hmkW : (Instr.makeSlice 41 (.int .i64 (n : Int)) (.int .i64 (n : Int))).run Try.prog W = .ok (.slice (some ⟨W.heap.size, 0, none⟩) n n) W1 := by rw [← hW1]; exact hmk W
  clear hmk hW1
  obtain ⟨W2, hcp, hg2, hgr⟩ := copy_step (w := W1) (g := W.heap.size) (n := n) (m := 0) (Nat.zero_le _) hg1 ⟨b0, 0, none⟩ 1 1 n (fun j hj => by
    obtain rfl : j = 0 := by omega
    exact (hB1.cell (p := ⟨b0, 0, none⟩) hb.lt).trans hc)
  rw [Nat.zero_add, Nat.sub_zero] at hg2
  simp only [Nat.sub_zero] at hcp
  have hB2 : Below W.heap.size W W2 := hB1.grown hgr hB1.size (fun k e => by injection e with e; omega)
  refine callsIn_of_wp Try.func25 rfl trivial ?_ rfl
  simp only [Try.ntmps25, List.size_toArray, List.length_cons, List.length_nil, Nat.reduceAdd, Nat.reduceSub, Array.replicate_succ, Array.replicate_zero, List.push_toArray, List.append_toArray, List.nil_append, List.cons_append]
  gi_wp2_with (refine ⟨trivial, ?_⟩; gi_at_call 45; refine (hmul _).mono ?_; rintro e w' ⟨rfl, hw⟩; rw [hw])
  gi_loopw [8] (fun i wr => ∃ m : Nat, m ≤ n ∧ (n = 0 ∨ 1 ≤ m) ∧ i = .int .i64 (m : Int) ∧ wr.heap[W.heap.size]? = some (.cells (rowM n m) 3 (0, 0)) ∧ Below W.heap.size W wr) (fun i _ => n - (intOf i).toNat)
  case atStart => exact ⟨min 1 n, by omega, by omega, rfl, hg2, hB2⟩
  case round =>
    obtain ⟨m, hm, hm1, rfl, hgm, hBm⟩ := hrel
    by_cases hlt : m < n
    · obtain ⟨W3, hcp3, hg3, hgr3⟩ := copy_step (w := wr.drew) (g := W.heap.size) (n := n) (m := m) hm hgm ⟨W.heap.size, 0, none⟩ m n (n - m) (fun j hj => by
        have hadd : (⟨W.heap.size, 0, none⟩ : Addr).add j = ⟨W.heap.size, j, none⟩ := by unfold Addr.add; split <;> simp_all
        rw [hadd]
        show (match wr.heap[W.heap.size]? with | some (.cells cs _ _) => cs[j]? | _ => none) = _
        rw [hgm]
        show (rowM n m)[j]? = _
        rw [rowM_get (by omega)])
      have hB3 : Below W.heap.size W W3 := hBm.drew.grown hgr3 hBm.size (fun k e => by injection e with e; omega)
      have hmn : 1 ≤ min m (n - m) := by omega
      have hmn2 : m + min m (n - m) ≤ n := by omega
      generalize min m (n - m) = q at *
      have hnm : ¬ n - m = 0 := by omega
      have hmix : Try.prog.follows .mixedOrders = true := by kernel_rfl
      gi_wp2
      gi_region
      gi_wp2
      go_roundw
      case rel => exact ⟨m + q, hmn2, by omega, by simp, hg3, hB3⟩
      case measure => simp [intOf]; omega
    · obtain rfl : m = n := by omega
      gi_wp2
      go_ret
      refine ⟨W.heap.size, rfl, Nat.le_refl _, ?_, hBm⟩
      rw [hgm]
      simp [rowM]
end Go.Proofs.Ytmcdddghlcllbaa.Den
