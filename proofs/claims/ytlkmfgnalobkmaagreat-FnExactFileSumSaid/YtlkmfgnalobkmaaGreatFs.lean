/- FileSum, walked: a range over slices.Chunk. -/
import Derived.Test.YtlkmfgnalobkmaaGreatFd
set_option autoImplicit false
set_option linter.unusedVariables false
namespace Go.Proofs.YtlkmfgnalobkmaaGreat.Den
open Go.Proofs Go.RowKit Go.Shelf
attribute [local go_sem] Oper.semAt_some

def chunkAt (l : List Int) (x : Nat) : List Int := (l.drop (200 * x)).take 200
def chunksOf (l : List Int) : List (List Int) := (List.range (chunkN l.length)).map (chunkAt l)

theorem results_two {fn : Func} {p q : Tmp} (h : fn.results = #[.tmp p, .tmp q]) (tmps : Array Value) (P : Program) (w : World) : (results fn tmps).run P w = .ok (.tuple #[tmps.getD p undef, tmps.getD q undef]) w := by
  simp [results, h]

theorem chunkAt_len (l : List Int) (x : Nat) : (chunkAt l x).length = min 200 (l.length - 200 * x) := by
  unfold chunkAt; rw [List.length_take, List.length_drop]

theorem chunkAt_get (l : List Int) (x i : Nat) (h : i < (chunkAt l x).length) : ∃ h2 : 200 * x + i < l.length, (chunkAt l x)[i] = l[200 * x + i] := by
  have := chunkAt_len l x
  refine ⟨by omega, ?_⟩
  simp [chunkAt]

section
variable {TS : Ty} (fb : Nat → TS.D × Unit → Option (ByteArray × Bool × Unit)) (bo : Nat → ByteArray × Unit → Option (List Int × Unit)) (mx : Nat → List Int × Unit → Option (Int × Unit))

def mxV (k : Nat) (c : List Int) : Int := match mx k (c, ()) with
  | some y => y.1
  | .none => 0

def sumF (k : Nat) : TS.D × Unit → Option (Int × Bool × Unit) := fun x => (fb k (x.1, ())).bind fun y =>
  if y.2.1 = true then (bo k (y.1, ())).bind fun z =>
    if z.1.length ≤ 1000000 then
      if ((mx k ([], ())).isSome && (chunksOf z.1).all fun c => (mx k (c, ())).isSome) = true then (mx k ((chunksOf z.1).map (mxV mx k), ())).bind fun t => some (t.1, true, ())
      else .none
    else .none
  else some (0, false, ())

def sumFc : Fc := ⟨11, [.agg TS], [], [.c (.int .i64), .c .bool], sumF fb bo mx⟩

theorem info3 : (Tryz.prog.info? 3).map (fun i => (i.zero, i.size, i.bytes)) = some (some (.int .i64 0), 1, 8) := by kernel_rfl

set_option maxRecDepth 100000 in
set_option maxHeartbeats 2000000 in
theorem fileSum_in {k : Nat} (okF : FcOK Tryz.prog (fbFc (TS := TS) fb) k) (okB : FcOK Tryz.prog (boFc bo) k) (okM : FcOK Tryz.prog (mxFc mx) k) {s : TS.D} {y : Int × Bool × Unit} (hy : sumF fb bo mx k (s, ()) = some y)
    {imm : Nat → Option Obj} {w : World} (himm : ∀ b o, imm b = some o → w.heap[b]? = some o) (tb : Tb imm) {cs : Array Value} (hs : cs.size = TS.size) (hr : RelD imm TS s cs.toList) :
    CallsIn Fence.wide 5 Tryz.prog 11 #[.agg cs] w fun r w' => r = .returned (.tuple #[.int .i64 y.1, .bool y.2.1]) ∧ Below w.heap.size w w' := by
  obtain ⟨i0, hi, hz0, hz1, hz2⟩ := info_parts info3
  unfold sumF at hy
  cases hfb : fb k (s, ()) with
  | none => rw [hfb] at hy; cases hy
  | some z =>
  obtain ⟨t, ok, _⟩ := z
  rw [hfb] at hy
  have hcall : ∀ W, Below w.heap.size w W → ∀ b E fz, w.heap.size ≤ b → W.heap[b]? = some (.cells cs E fz) → Calls Tryz.prog 22 #[.pointer (some ⟨b, 0, none⟩)] W (fun r w' => r = .returned (.tuple #[.string t, .bool ok]) ∧ Below W.heap.size W w') := by
    intro W hW b E fz hb hcb
    exact boxed_call fb okF hfb (fun b' o h => (hW.block b' (Array.getElem?_eq_some_iff.1 (himm b' o h)).1).trans (himm b' o h)) tb hcb hs hr (by
      cases hq : imm b with
      | none => rfl
      | some o =>
        have := (Array.getElem?_eq_some_iff.1 (himm b o hq)).1
        omega)
  refine callsIn_of_wp_marks Tryz.func11 rfl trivial ?_ rfl
  simp only [Tryz.ntmps11, List.size_toArray, List.length_cons, List.length_nil, Nat.reduceAdd, Nat.reduceSub, Array.replicate_succ, Array.replicate_zero, List.push_toArray, List.append_toArray, List.nil_append, List.cons_append]
  have hB0 : Below w.heap.size w (w.alloc (.cells cs 35)) := (Below.refl _ w).alloc (Nat.le_refl _) _
  have hc0 := hcall _ hB0 w.heap.size 35 (0, 0) (Nat.le_refl _) (World.alloc_heap_new w _)
  cases ok with
  | false =>
    have hy' : some ((0 : Int), false, ()) = some y := hy
    cases hy'
    gi_wp2_with (refine ⟨trivial, ?_⟩; gi_at_call 22; refine (callsIn_wide.2 hc0).mono ?_; clear hc0; rintro e w1 ⟨rfl, hB1⟩)
    exact ⟨_, results_two rfl _ _ _, rfl, hB0.trans (hB1.mono (by simp))⟩
  | true =>
    have hy1 : ((bo k (t, ())).bind fun z => if z.1.length ≤ 1000000 then
      if ((mx k ([], ())).isSome && (chunksOf z.1).all fun c => (mx k (c, ())).isSome) = true then (mx k ((chunksOf z.1).map (mxV mx k), ())).bind fun t => some (t.1, true, ())
      else .none
    else .none) = some y := hy
    clear hy
    cases hbo : bo k (t, ()) with
    | none => rw [hbo] at hy1; cases hy1
    | some z =>
    obtain ⟨bl, _⟩ := z
    rw [hbo] at hy1
    simp only [Option.bind_some] at hy1
    split at hy1
    case isFalse => cases hy1
    rename_i hlen
    split at hy1
    case isFalse => cases hy1
    rename_i hall
    cases hsum : mx k ((chunksOf bl).map (mxV mx k), ()) with
    | none => rw [hsum] at hy1; cases hy1
    | some z =>
    obtain ⟨tot, _⟩ := z
    rw [hsum] at hy1
    cases hy1
    simp only [Bool.and_eq_true, List.all_eq_true] at hall
    obtain ⟨hnil, hall⟩ := hall
    have old : ∀ {W : World}, Below w.heap.size w W → ∀ b o, imm b = some o → W.heap[b]? = some o := fun hW b o h => (hW.block b (Array.getElem?_eq_some_iff.1 (himm b o h)).1).trans (himm b o h)
    have hcb : ∀ W, Below w.heap.size w W → _ := fun W hW => str_call bo okB hbo (old hW) tb
    gi_wp2_with first
      | (refine ⟨trivial, ?_⟩; gi_at_call 22; refine (callsIn_wide.2 hc0).mono ?_; clear hc0; rintro e w1 ⟨rfl, hB1⟩; have hB01 : Below w.heap.size w w1 := hB0.trans (hB1.mono (by simp)))
      | (refine ⟨trivial, ?_⟩; gi_at_call 29; refine (callsIn_wide.2 (hcb _ ((hB01.alloc hB01.size (.cells #[] 3)).alloc (Nat.le_trans hB01.size (by simp)) (.cells #[.slice (some ⟨w1.heap.size, 0, none⟩) 0 0] 57)))).mono ?_; rintro e w2 ⟨hB2, a, cap, rfl, hcap, hrow⟩)
      | (refine ⟨trivial, ?_⟩; gi_at_call 28; refine (chunk_in _ _ _ _ _).mono ?_; rintro e w3 ⟨rfl, rfl⟩)
    -- where the bytes lie
    obtain ⟨rb, o, ha, hrb1, hrb2, hbytes⟩ : ∃ rb o, (bl.length = 0 ∨ a = some ⟨rb, o, none⟩) ∧ w1.heap.size + 2 ≤ rb ∧ rb < w2.heap.size + 1 ∧ (bl = [] ∨ ∃ csr E fz, w2.heap[rb]? = some (.cells csr E fz) ∧ ∀ i (h : i < bl.length), csr.toList[o + i]? = some (.int .i64 bl[i])) := by
      have hsz := hB2.size
      simp only [World.size_alloc] at hsz
      rcases hrow with ⟨_, rfl⟩ | ⟨b, o, csr, E, fz, a', rfl, ha', hb, hcs, _, hcells⟩
      · exact ⟨w2.heap.size, 0, .inl rfl, hsz, by omega, .inl rfl⟩
      · have hlt := (Array.getElem?_eq_some_iff.1 hcs).1
        simp only [World.size_alloc] at hb
        refine ⟨b, o, ?_, hb, by omega, .inr ⟨csr, E, fz, hcs, hcells⟩⟩
        rcases ha' with h | h
        · exact .inl (by omega)
        · exact .inr (by rw [h])
    have hB012 : Below w1.heap.size w1 w2 := (((Below.refl _ w1).alloc (Nat.le_refl _) (.cells #[] 3)).alloc (by simp) (.cells #[.slice (some ⟨w1.heap.size, 0, none⟩) 0 0] 57)).trans (hB2.mono (by simp; omega))
    have hbox2 : Boxed w2 (w1.heap.size + 1) 57 (.slice (some ⟨w1.heap.size, 0, none⟩) 0 0) := by
      have h1 := Boxed.new (w1.alloc (.cells #[] 3)) 57 (.slice (some ⟨w1.heap.size, 0, none⟩) 0 0)
      rw [World.size_alloc] at h1
      exact (hB2.block _ (by simp)).trans h1
    have hrow2 : w2.ownsRow w1.heap.size 3 1 (.slice (some ⟨w1.heap.size, 0, none⟩) 0 0) 0 [] := by
      refine ⟨rfl, .inr ⟨w1.heap.size, 0, #[], rfl, Nat.le_refl _, ?_, Nat.le_refl _, by decide, rfl, rfl⟩⟩
      refine (hB2.block _ (by simp; omega)).trans ?_
      exact (Below.heap_alloc _ _ _ (by simp)).trans (World.alloc_heap_new w1 _)
    obtain ⟨W0, hW0⟩ : ∃ W0, (w2.alloc (.cells #[.slice a bl.length cap] 57)).alloc (.cells #[.int .i64 200] 3) = W0 := ⟨_, rfl⟩
    have hS0 : W0.heap.size = w2.heap.size + 2 := by rw [← hW0]; simp
    have hBW0 : Below w1.heap.size w1 W0 := by rw [← hW0]; exact (hB012.alloc hB012.size _).alloc (Nat.le_trans hB012.size (by simp)) _
    have hkeep0 : ∀ q, q < w2.heap.size → W0.heap[q]? = w2.heap[q]? := fun q hq => by rw [← hW0, Below.heap_alloc _ _ _ (by simp; omega), Below.heap_alloc _ _ _ hq]
    have hbox0 : Boxed W0 (w1.heap.size + 1) 57 (.slice (some ⟨w1.heap.size, 0, none⟩) 0 0) := by rw [← hW0]; exact (hbox2.alloc _).alloc _
    have hrow0 : W0.ownsRow w1.heap.size 3 1 (.slice (some ⟨w1.heap.size, 0, none⟩) 0 0) 0 [] := by rw [← hW0]; exact (hrow2.alloc _).alloc _
    have hcs0 : W0.cell? ⟨w2.heap.size, 0, none⟩ = some (.slice a bl.length cap) := by
      rw [← hW0]; exact ((Boxed.new w2 57 (.slice a bl.length cap)).alloc _).cell
    have hcn0 : W0.cell? ⟨w2.heap.size + 1, 0, none⟩ = some (.int .i64 200) := by
      have h1 := Boxed.new (w2.alloc (.cells #[.slice a bl.length cap] 57)) 3 (.int .i64 200)
      rw [World.size_alloc] at h1
      rw [← hW0]; exact h1.cell
    rw [hW0]
    have hsz2 := hB2.size
    simp only [World.size_alloc] at hsz2
    refine wpIn_rangeFunc_ownG rfl (by decide) (gf := 57) (lb := #[.pointer (some ⟨w2.heap.size, 0, none⟩), .pointer (some ⟨w2.heap.size + 1, 0, none⟩)]) rfl trivial (enters_of Tryz.func57 (by kernel_rfl) rfl)
      (chunk_stops 4 (by decide) w2.heap.size (w2.heap.size + 1) bl.length cap a rb o ha hcap (by omega) W0 (by omega) (by omega) hcs0 hcn0) KpC.trans
      (fun W l ob ob' hl h _ _ => ⟨World.putObj_heap_other (by omega), World.putObj_heap_other (by omega)⟩) (Below.refl _ _) (fun _ => rfl)
      (fun pre W => (∃ v, Boxed W (w1.heap.size + 1) 57 v ∧ W.ownsRow w1.heap.size 3 1 v pre.length (pre.map fun x => .int .i64 (mxV mx k (chunkAt bl x))) ∧ ∀ q ∈ [rb, w2.heap.size, w2.heap.size + 1], v.ownBlock ≠ some q) ∧
        (Below w1.heap.size w1 W ∧ W0.heap.size ≤ W.heap.size ∧ ∀ q ∈ [rb, w2.heap.size, w2.heap.size + 1], W.heap[q]? = W0.heap[q]?))
      (fun _ _ _ => False) ?hI (fun _ _ _ _ _ hs _ _ => hs) ?h0
      (fun x => { tmps := #[.agg cs, .pointer (some ⟨w.heap.size, 0, none⟩), .int .i64 0, .bool false, .string t, .bool true, .pointer (some ⟨w1.heap.size + 1, 0, none⟩), chunkV rb o bl.length x, .tuple #[.string t, .bool true], .tuple #[.string t, .bool true], .string t, .bool true, .bool true, .bool false, .slice (some ⟨w1.heap.size, 0, none⟩) 0 0, .string t, .slice a bl.length cap,
          .func (.func 57) #[] #[.pointer (some ⟨w2.heap.size, 0, none⟩), .pointer (some ⟨w2.heap.size + 1, 0, none⟩)], chunkV rb o bl.length x, undef, undef, undef, undef, undef, undef, undef], defers := [] }) ?assign ?body ?done ?stop
    case hI =>
      refine OwnFrom.and (Own.from (holdsRow_own w1.heap.size (w1.heap.size + 1) 57 3 1 (fun pre : List Nat => pre.length) (fun pre => pre.map fun x => .int .i64 (mxV mx k (chunkAt bl x))) (fun pre v => ∀ q ∈ [rb, w2.heap.size, w2.heap.size + 1], v.ownBlock ≠ some q)) _) ?_
      rintro pre X Y row ⟨g1, g2, g3⟩ hg hr
      refine ⟨g1.grown hg g1.size (fun q e => ?_), Nat.le_trans g2 hg.size, fun q hq => ?_⟩
      · have := (hr q e).1; omega
      · have hq2 : q < W0.heap.size := by
          simp only [List.mem_cons, List.not_mem_nil, or_false] at hq
          omega
        refine (hg.block q (by omega) (fun e => ?_)).trans (g3 q hq)
        have := (hr q e.symm).1
        omega
    case h0 =>
      refine ⟨⟨_, hbox0, hrow0, ?_⟩, hBW0, Nat.le_refl _, fun _ _ => rfl⟩
      intro q hq
      simp only [List.mem_cons, List.not_mem_nil, or_false] at hq
      intro e
      simp only [Value.ownBlock, Option.some.injEq] at e
      omega
    case assign =>
      intro l x W K hK
      gi_wp2
      exact hK
    case body =>
      rintro l pre x W ⟨⟨v, hv, hrow, hne⟩, hBW, hSW, hkq⟩ hlt
      have hmix : Tryz.prog.follows .mixedOrders = true := by kernel_rfl
      have hBwW : Below w.heap.size w W := hB01.trans (hBW.mono hB01.size)
      obtain ⟨vx, hvx⟩ : ∃ vx, mx k (chunkAt bl x, ()) = some (vx, ()) := by
        have : (mx k (chunkAt bl x, ())).isSome = true := by
          rcases Nat.lt_or_ge x (chunkN bl.length) with h | h
          · exact hall _ (List.mem_map.2 ⟨x, List.mem_range.2 h, rfl⟩)
          · have e : chunkAt bl x = [] := List.eq_nil_of_length_eq_zero (by rw [chunkAt_len]; unfold chunkN at h; omega)
            rw [e]; exact hnil
        cases h : mx k (chunkAt bl x, ()) with
        | none => rw [h] at this; cases this
        | some y => exact ⟨y.1, rfl⟩
      have hmv : mxV mx k (chunkAt bl x) = vx := by unfold mxV; rw [hvx]
      have hlc := chunkAt_len bl x
      have hc30 : Calls Tryz.prog 30 #[chunkV rb o bl.length x] W.drew (fun r w' => r = .returned (.int .i64 vx) ∧ Below W.heap.size W w') := by
        unfold chunkV
        rw [← hlc]
        refine Calls.mono (ints_call mx okM hvx (imm := imm) (w := W.drew) (old hBwW.drew) tb (a := some ⟨rb, o + 200 * x, none⟩) (Nat.le_refl _) ?_) ?_
        · rcases hbytes with h | ⟨csr, E, fz, hcs, hcells⟩
          · exact .inl (by subst h; simp [chunkAt])
          · have hrbk : W.heap[rb]? = some (.cells csr E fz) := (hkq rb (by simp)).trans ((hkeep0 rb (Array.getElem?_eq_some_iff.1 hcs).1).trans hcs)
            refine .inr ⟨rb, o + 200 * x, csr, E, fz, rfl, hrbk, ?_, fun i h => ?_⟩
            · cases hq : imm rb with
              | none => exact .inl rfl
              | some ob => exact .inr ((old hBwW rb ob hq).symm.trans hrbk ▸ rfl)
            · obtain ⟨h2, e⟩ := chunkAt_get bl x i h
              rw [e, Nat.add_assoc]
              exact hcells _ h2
        · rintro r w' ⟨h1, h2⟩
          exact ⟨h1, ⟨h2.os, h2.tape, h2.output, h2.size, h2.block⟩⟩
      have hcv := hv.cell
      have hcf := hv.frozen
      gi_wp2
      refine wpIn_region_any (by assumption) ?_
      change wpAnyIn _ _ _ _ _ _ _ _ _ (World.drew _)
      refine wpAnyIn_ready (rs := [0, 1]) (by kernel_rfl) (by simp) ?_
      refine AllReadyIn.cons rfl (fun K hK => ?_) ?_
      go_simp
      refine hK _ _ ?_
      clear hK K
      refine wpAnyIn_ready (rs := [1]) (by kernel_rfl) (by simp) ?_
      refine AllReadyIn.cons rfl (fun K hK => ?_) AllReadyIn.nil
      go_simp
      refine hK _ _ ?_
      clear hK K
      refine wpAnyIn_ready (rs := [2]) (by kernel_rfl) (by simp) ?_
      refine AllReadyIn.cons rfl (fun K hK => ?_) AllReadyIn.nil
      go_simp
      refine ⟨trivial, ?_⟩
      gi_at_call 30
      refine (CallsIn.inRound l (callsIn_wide.2 hc30)).mono ?_
      rintro e w4 ⟨rfl, hB4⟩
      have hv4 : Boxed w4 (w1.heap.size + 1) 57 v := (hB4.block _ hv.lt).trans hv
      have hcv4 := hv4.cell
      have hcv4b := (hv4.alloc (.cells #[.int .i64 vx] 3)).cell
      gi_wp2
      refine wpAnyIn_ready (rs := [3]) (by kernel_rfl) (by simp) ?_
      refine AllReadyIn.cons rfl (fun K hK => ?_) AllReadyIn.nil
      go_simp
      refine hK _ _ ?_
      clear hK K
      rotate_left
      refine AllReadyIn.cons rfl (fun K hK => ?_) AllReadyIn.nil
      go_simp
      refine hK _ _ ?_
      clear hK K
      refine wpAnyIn_ready (rs := [0, 2]) (by kernel_rfl) (by simp) ?_
      refine AllReadyIn.cons rfl (fun K hK => ?_) ?_
      go_simp
      refine hK _ _ ?_
      clear hK K
      refine wpAnyIn_ready (rs := [2]) (by kernel_rfl) (by simp) ?_
      refine AllReadyIn.cons rfl (fun K hK => ?_) AllReadyIn.nil
      go_simp
      refine ⟨trivial, ?_⟩
      gi_at_call 30
      refine (CallsIn.inRound l (callsIn_wide.2 hc30)).mono ?_
      rintro e w4 ⟨rfl, hB4⟩
      have hv4 : Boxed w4 (w1.heap.size + 1) 57 v := (hB4.block _ hv.lt).trans hv
      have hcv4 := hv4.cell
      have hcv4b := (hv4.alloc (.cells #[.int .i64 vx] 3)).cell
      gi_wp2
      refine wpAnyIn_ready (rs := [3]) (by kernel_rfl) (by simp) ?_
      refine AllReadyIn.cons rfl (fun K hK => ?_) AllReadyIn.nil
      go_simp
      refine hK _ _ ?_
      clear hK K
      rotate_left
      refine AllReadyIn.cons rfl (fun K hK => ?_) AllReadyIn.nil
      go_simp
      refine ⟨trivial, ?_⟩
      gi_at_call 30
      refine (CallsIn.inRound l (callsIn_wide.2 hc30)).mono ?_
      rintro e w4 ⟨rfl, hB4⟩
      have hv4 : Boxed w4 (w1.heap.size + 1) 57 v := (hB4.block _ hv.lt).trans hv
      have hcv4 := hv4.cell
      have hcv4b := (hv4.alloc (.cells #[.int .i64 vx] 3)).cell
      gi_wp2
      refine wpAnyIn_ready (rs := [0, 3]) (by kernel_rfl) (by simp) ?_
      refine AllReadyIn.cons rfl (fun K hK => ?_) ?_
      go_simp
      refine hK _ _ ?_
      clear hK K
      refine wpAnyIn_ready (rs := [3]) (by kernel_rfl) (by simp) ?_
      refine AllReadyIn.cons rfl (fun K hK => ?_) AllReadyIn.nil
      go_simp
      refine hK _ _ ?_
      clear hK K
      rotate_left
      refine AllReadyIn.cons rfl (fun K hK => ?_) AllReadyIn.nil
      go_simp
      refine hK _ _ ?_
      clear hK K
      refine wpAnyIn_ready (rs := [0]) (by kernel_rfl) (by simp) ?_
      refine AllReadyIn.cons rfl (fun K hK => ?_) AllReadyIn.nil
      go_simp
      refine hK _ _ ?_
      clear hK K
      all_goals
        have hrow4 : w4.ownsRow w1.heap.size 3 1 v pre.length (pre.map fun x => .int .i64 (mxV mx k (chunkAt bl x))) := hrow.kept (row := none) ⟨hB4.os, hB4.tape, hB4.output, hB4.size, fun q hq _ => hB4.block q hq⟩ (by cases v.ownBlock <;> simp)
        have hw4 : w1.heap.size ≤ w4.heap.size := Nat.le_trans hBW.size hB4.size
        have hcn : chunkN bl.length ≤ 10000 := by unfold chunkN; omega
        refine wpAnyIn_ready (rs := [4]) (by kernel_rfl) (by simp) ?_
        refine AllReadyIn.cons rfl (fun K hK => ?_) AllReadyIn.nil
        rw [if_pos (by rfl)]
        refine oper_append (w4.alloc (.cells #[.int .i64 vx] 3)) (.tmp 19) (.tmp 22) 57 rfl w1.heap.size 3 i0 (.int .i64 0) 8 Tryz.underlying57 hi hz0 hz1 hz2 rfl v pre.length _ rfl (hrow4.alloc _) ⟨w4.heap.size, 0, none⟩ 1 (.int .i64 vx) rfl (Boxed.new w4 3 (.int .i64 vx)).cell rfl rfl (by simp only [maxLen]; omega) (by omega) (by simp; omega) ?_
        intro v' w5 hown' hgrow hfar
        obtain ⟨g', cap', rfl⟩ := ownsRow_succ hown'
        obtain ⟨hv5, hv6, hr6, hk6, hb6⟩ := hv4.appended (by decide) hrow4 hw4 (Nat.le_succ _) hown' hgrow
        have hc5 := hv5.cell
        have hf5 := hv5.frozen
        refine hK _ _ ?_
        clear hK K
        refine wpAnyIn_ready (rs := [5]) (by kernel_rfl) (by simp) ?_
        refine AllReadyIn.cons rfl (fun K hK => ?_) AllReadyIn.nil
        go_simp
        refine hK _ _ ?_
        clear hK K
        refine wpAnyIn_done (by kernel_rfl) ?_ _
        have hq6 : ∀ q ∈ [rb, w2.heap.size, w2.heap.size + 1], (w5.setCell ⟨w1.heap.size + 1, 0, none⟩ (.slice (some ⟨g', 0, none⟩) (pre.length + 1) cap')).heap[q]? = W.heap[q]? := by
          intro q hq
          have h1 := hne q hq
          have h2 : w1.heap.size + 2 ≤ q ∧ q < W.heap.size := by
            simp only [List.mem_cons, List.not_mem_nil, or_false] at hq
            omega
          have h3 : q < w4.heap.size := Nat.lt_of_lt_of_le h2.2 hB4.size
          refine (Below.heap_setCell _ _ _ q (by show q ≠ w1.heap.size + 1; omega)).trans ?_
          refine (hgrow.block q (by simp; omega) (fun e => h1 e.symm)).trans ?_
          exact (Below.heap_alloc _ _ _ h3).trans (hB4.block q h2.2)
        refine ⟨((⟨hB4.size, fun q ob hq _ => (hB4.block q (Array.getElem?_eq_some_iff.1 hq).1).trans hq⟩ : KeepsOthers W w4).trans hk6).from _, ⟨hq6 _ (by simp), hq6 _ (by simp)⟩, ⟨_, hv6, by simpa [hmv] using hr6, fun q hq => ?_⟩, (hBW.trans (hB4.mono hBW.size)).trans hb6, ?_, fun q hq => (hq6 q hq).trans (hkq q hq)⟩
        · refine hfar q ?_ (hne q hq)
          have h2 : q < W.heap.size := by
            simp only [List.mem_cons, List.not_mem_nil, or_false] at hq
            omega
          have := hB4.size
          simp only [World.size_alloc]
          omega
        · exact Nat.le_trans hSW (Nat.le_trans hB4.size hb6.size)
    case done =>
      rintro D ys W hD rfl ⟨⟨v, hv, hrow, hne⟩, hBW, hSW, hkq⟩ hK
      have hc := hv.cell
      have hBwW : Below w.heap.size w W := hB01.trans (hBW.mono hB01.size)
      have hc30 : Calls Tryz.prog 30 #[v] W (fun r w' => r = .returned (.int .i64 tot) ∧ Below W.heap.size W w') := by
        have hln : ((chunksOf bl).map (mxV mx k)).length = (List.range (chunkN bl.length)).length := by simp [chunksOf]
        rcases hrow.2 with ⟨rfl, h0⟩ | ⟨g, cp, cur, rfl, hg1, hg2, hg3, hg4, hg5, hg6⟩
        · have e : (chunksOf bl).map (mxV mx k) = [] := List.eq_nil_of_length_eq_zero (hln.trans h0)
          have := ints_call mx okM hsum (imm := imm) (w := W) (old hBwW) tb (a := none) (cap := 0) (by rw [e]; exact Nat.le_refl _) (.inl e)
          rw [e] at this
          exact this
        · have := ints_call mx okM hsum (imm := imm) (w := W) (old hBwW) tb (a := some ⟨g, 0, none⟩) (cap := cp) (by rw [hln]; exact hg3) (.inr ⟨g, 0, cur, 3, (0, 0), rfl, hg2, ?_, fun i h => ?_⟩)
          · rw [hln] at this
            exact this
          · cases hq : imm g with
            | none => exact .inl rfl
            | some ob =>
              have h1 := (Array.getElem?_eq_some_iff.1 (himm g ob hq)).1
              have := hB01.size
              omega
          · have h1 : ((List.range (chunkN bl.length)).map fun x => Value.int .i64 (mxV mx k (chunkAt bl x)))[i]? = some (.int .i64 ((chunksOf bl).map (mxV mx k))[i]) := by
              simp [chunksOf] at h ⊢
              simp [h]
            rw [← hg6, List.getElem?_take] at h1
            split at h1
            · rw [Nat.zero_add]; exact h1
            · cases h1
      gi_wp2_with (refine ⟨trivial, ?_⟩; gi_at_call 30; refine (callsIn_wide.2 hc30).mono ?_; rintro e w5 ⟨rfl, hB5⟩; have hK5 : w5.heap[D]? = some (.deferred (some [])) := (hB5.block D (Array.getElem?_eq_some_iff.1 hK).1).trans hK)
      refine ⟨by simp, .inl ⟨_, _, rfl, run_takeDeferred hK5, ?_⟩⟩
      refine ⟨_, results_two rfl _ _ _, rfl, ((hBwW.trans (hB5.mono hBwW.size)).trans (belowK_b (w := w) (Nat.le_refl _) w5 D _ _ ?_ hK5 rfl rfl))⟩
      have h1 := hBwW.size
      have h2 := hB01.size
      have h3 := hBW0.size
      omega
    case stop =>
      rintro D c pre W _ _ h _
      exact h.elim
theorem sum_ok (hTS : TS.noRef = true) (okF : ∀ k, FcOK Tryz.prog (fbFc (TS := TS) fb) k) (okB : ∀ k, FcOK Tryz.prog (boFc bo) k) (okM : ∀ k, FcOK Tryz.prog (mxFc mx) k) : ∀ k, FcOK Tryz.prog (sumFc fb bo mx) k := fun k => {
  fn := ⟨_, Tryz.func11, by kernel_rfl, by kernel_rfl⟩
  calls := fun x y hy w e vs hvs hh hvo hsep => by
    obtain ⟨s, _⟩ := x
    have hy0 : sumF fb bo mx k (s, ()) = some y := hy
    have hun : ∀ j, e.loc j = .un := fun j => by
      have h := hh j
      have hn : hpf (encSs (sumFc fb bo mx).args (s, ()) 0).2 j = .none := hpf_none rfl rfl
      rw [hn] at h
      exact h
    cases hvs with
    | cons hx hr =>
      cases hr
      obtain ⟨cs, rfl, hc⟩ := hx
      have hrd := RelD_of_RelCs TS s _ hTS hc
      have hlen := RelD.len TS s _ hrd
      have hC := fileSum_in fb bo mx (okF k) (okB k) (okM k) hy0 (imm := e.imm) (w := w) hsep.imm hsep.tb (cs := cs) (by rw [← hlen]; simp) hrd
      refine (callsIn_wide.1 hC).mono ?_
      rintro r w' ⟨rfl, hB⟩
      refine ⟨_, e, rfl, ⟨#[.int .i64 y.1, .bool y.2.1], rfl, .cons ⟨_, rfl, rfl⟩ (.cons ⟨_, rfl, rfl⟩ .nil)⟩, fun id => ?_, ?_, ⟨hB.os, hB.tape, hB.output, hB.size, fun b hb => hB.block b ?_⟩, fun _ _ h => h, fun _ _ h => .inl h, fun p hp => by simp [outHeads, sumFc, heads] at hp, .un (vl_un hvo rfl), fun _ _ => rfl⟩
      · rw [hun id]
        have hn : hpf (encSs ((sumFc fb bo mx).outs.map (·.2) ++ (sumFc fb bo mx).res) y 0).2 id = .none := hpf_none rfl rfl
        rw [hn]; rfl
      · exact ⟨fun b q hq => (hB.block b (Array.getElem?_eq_some_iff.1 (hsep.imm b q hq)).1).trans (hsep.imm b q hq), hsep.own, hsep.inj, hsep.vown, hsep.vinj, hsep.vdis, hsep.tb⟩
      · exact Classical.byContradiction fun h => hb (.inl (by omega)) }
end
end Go.Proofs.YtlkmfgnalobkmaaGreat.Den
