/- The machine's side of this law: written by the kit's print program as changed by this session's wip/patch.py (functions that the print does not take are proved by hand in between). -/
import Derived.Test.YtdphgdlkchajoaaPFnNumbersx0
import Derived.Test.YtdphgdlkchajoaaPFnNumbersx1
import Derived.Test.YtdphgdlkchajoaaPFnNumbersx3
import Derived.Test.YtdphgdlkchajoaaPFnNumbersx4
namespace Go.Proofs.Ytdphgdlkchajoaa.PFnNumbers
open Go.RowKit Go.Proofs.YtdphgdlkchajoaaW.PrintWords Go.Proofs.YtdphgdlkchajoaaW.PrintLast Go.Proofs.YtdphgdlkchajoaaW.PrintMore
attribute [local go_sem] max2_int min2_int max_two min_two max_three min_three max_four min_four   -- for this text's walks alone
set_option linter.unusedVariables false
set_option linter.unusedSimpArgs false

/-! ### spec_DrawOpenSign: function 45 -/
def spec_DrawOpenSign.f (l0 : List Int) : Option (Int) := (spec_l1Cur_among.f l0 0 0 (([0, 1, 2, 3, 200, 2000000000, 2000000001, (-1), 1999999999] : List Int))).bind fun bt245 => (some bt245.1)
set_option maxHeartbeats 8000000 in
set_option maxRecDepth 100000 in
theorem spec_DrawOpenSign.calls (A0 : Option Addr) (c0 : Nat) (l0 : List Int) (r : Int) (w : World) (hr0 : Kd.C (Kd.int .u8) w A0 l0.length l0) (hc0 : l0.length ≤ c0) (h : spec_DrawOpenSign.f l0 = some r) :
    Calls Try.prog 45 #[.slice A0 l0.length c0] w fun e w' => e = .returned (.int .i64 r) ∧ Below w.heap.size w w' := by
  have hu99 := Try.underlying99
  have HR0 := Aside0.mk hr0
  have HC0 := Aside0.mk hc0
  clear hr0 hc0
  have HB := Aside0.mk (Below.refl w.heap.size w)
  have H : ((spec_l1Cur_among.f l0 0 0 (([0, 1, 2, 3, 200, 2000000000, 2000000001, (-1), 1999999999] : List Int))).bind fun bt245 => (some bt245.1)) = some r := h
  clear h
  obtain ⟨y242, hy242⟩ : ∃ y_ : List Int, y_ = (([0, 1, 2, 3, 200, 2000000000, 2000000001, (-1), 1999999999] : List Int)) := ⟨_, rfl⟩
  replace H : ((spec_l1Cur_among.f l0 0 0 y242).bind fun bt245 => (some bt245.1)) = some r := by first | (rw [hy242]; with_reducible exact H) | (have H2_ := (Option.bind_some _ _).symm.trans H; rw [hy242]; with_reducible exact H2_) | (have H2_ := (Option.bind_some _ _).symm.trans H; with_reducible exact H2_) | with_reducible exact H | (rw [hy242]; exact H) | exact H
  have Ny242 := Aside0.mk hy242
  clear hy242
  replace H := Option.bind_eq_some_iff.mp H
  obtain ⟨⟨t245, t246, t247⟩, A20, H⟩ := H
  replace H : (some t245) = some r := H
  have A2 := Aside0.mk A20
  clear A20
  obtain rfl := Option.some.inj H
  go_enter Try.func45, Try.ntmps45
  go_wp2_with (first | ((with_reducible refine gate_dst (N := 6) rfl ?_); refine box_event ?hg (N := 6) ?hd (cs := #[.slice A0 l0.length c0, .int .i64 0, .int .u64 0]) (t := 99) ?hr ?_; (case hd => rfl); (case hg => rfl); (case hr => first | (go_simp; done) | (go_simp; rfl)); intro gb241 hg w3 hbox hb; have n0_ := Aside0.mk (below_step (by repeat (first | (with_reducible first | exact HB.out | apply below_alloc | apply pw_below_drewN | apply below_drew1) | exact HB.out)) hb); have n1_ := Aside0.mk ((by rw [hg]; exact (below_size (by repeat (first | (with_reducible first | exact HB.out | apply below_alloc | apply pw_below_drewN | apply below_drew1) | exact HB.out))) : w.heap.size ≤ gb241)); have n2_ := Aside0.mk ((by rw [hg]; exact (below_size (by repeat (first | (with_reducible first | exact HB.out | apply below_alloc | apply pw_below_drewN | apply below_drew1) | exact HB.out))) : w.heap.size ≤ gb241)); have n3_ := Aside0.mk ((show IsS99 w w3 gb241 l0 0 0 from ⟨_, _, hbox, (by rw [hg]; exact (below_size (by repeat (first | (with_reducible first | exact HB.out | apply below_alloc | apply pw_below_drewN | apply below_drew1) | exact HB.out))) : w.heap.size ≤ gb241), HR0.out⟩)); clear HB; have HB := n0_; have GW241 := n1_; have GE241 := n2_; have HI241 := n3_; clear n0_ n1_ n2_ n3_; clear hb hbox hg) | ((with_reducible refine gate_dst (N := 8) rfl ?_); refine Kd.R_lit (Kd.int .i64) _ 3 ?hg (N := 8) ?hd (xs := ([0, 1, 2, 3, 200, 2000000000, 2000000001, (-1), 1999999999] : List Int)) (inner := [.int .i64 0, .int .i64 1, .int .i64 2, .int .i64 3, .int .i64 200, .int .i64 2000000000, .int .i64 2000000001, .int .i64 (-1), .int .i64 1999999999]) (ok := fun _ => True) (okp := fun _ => True) ?hr ?hp (fun _ hk => hk) trivial (Below.refl _ _) (Nat.le_refl _) (by simp) ?_; (case hd => rfl); (case hg => rfl); (case hr => first | (go_simp; done) | (go_simp; rfl)); (case hp => exact (Reps.one (show Kd.M (Kd.int .i64) _ _ _ 0 [.int .i64 0] from rfl) (Reps.one (show Kd.M (Kd.int .i64) _ _ _ 1 [.int .i64 1] from rfl) (Reps.one (show Kd.M (Kd.int .i64) _ _ _ 2 [.int .i64 2] from rfl) (Reps.one (show Kd.M (Kd.int .i64) _ _ _ 3 [.int .i64 3] from rfl) (Reps.one (show Kd.M (Kd.int .i64) _ _ _ 200 [.int .i64 200] from rfl) (Reps.one (show Kd.M (Kd.int .i64) _ _ _ 2000000000 [.int .i64 2000000000] from rfl) (Reps.one (show Kd.M (Kd.int .i64) _ _ _ 2000000001 [.int .i64 2000000001] from rfl) (Reps.one (show Kd.M (Kd.int .i64) _ _ _ (-1) [.int .i64 (-1)] from rfl) (Reps.one (show Kd.M (Kd.int .i64) _ _ _ 1999999999 [.int .i64 1999999999] from rfl) (Reps.none _ _))))))))))); intro v243 w4 ho5 hb hg_ hnew_; clear hg_ hnew_; (first | rw [← Ny242.out] at ho5 | (simp only [Int.reduceToNat] at ho5; rw [← Ny242.out] at ho5)); have n0_ := Aside0.mk (Kd.R_lower ho5 (below_size (by repeat (first | (with_reducible first | exact HB.out | apply below_alloc | apply pw_below_drewN | apply below_drew1 | refine below_set ?_ (IsS99.ge HI241.out)) | exact HB.out)))); have n1_ := Aside0.mk (IsS99.below (by repeat (first | (with_reducible first | exact HI241.out | apply IsS99.alloc | apply IsS99.drewN | apply IsS99.drew | apply IsS99.set_1 | apply IsS99.set_2) | exact HI241.out)) hb); have n2_ := Aside0.mk (below_step (by repeat (first | (with_reducible first | exact HB.out | apply below_alloc | apply pw_below_drewN | apply below_drew1 | refine below_set ?_ (IsS99.ge HI241.out)) | exact HB.out)) hb); clear HI241; clear HB; have HO244 := n0_; have HI241 := n1_; have HB := n2_; clear n0_ n1_ n2_; clear hb ho5; obtain ⟨Ao6, co6, eo6⟩ := Kd.R_slice HO244.out; subst eo6) | ((with_reducible refine gate_callee (f := 101) rfl ?_); refine goesL_ (some 9) rfl rfl Try.func101 (by kernel_rfl) rfl #[.pointer (some ⟨gb241, 0, none⟩), .slice Ao6 y242.length co6] rfl (by (try simp only [List.map_toArray, List.map_cons, List.map_nil]); first | done | rfl | (simp only [List.length_drop, List.length_take]; rfl)) ?_; (with_reducible refine (spec_l1Cur_among.calls gb241 l0 0 0 _ _ y242 t245 t246 t247 w _ ?side1 ?side2 ?side3 ?side4 ?side5 A2.out).mono ?_); (case side1 => repeat (first | (with_reducible first | exact HI241.out | apply IsS99.alloc | apply IsS99.drewN | apply IsS99.drew | apply IsS99.set_1 | apply IsS99.set_2) | exact HI241.out)); (case side2 => repeat (first | (with_reducible first | exact HB.out | apply below_alloc | apply pw_below_drewN | apply below_drew1 | refine below_set ?_ (IsS99.ge HI241.out)) | exact HB.out)); (case side3 => repeat (first | exact (Kd.R_reads' HO244.out).2.2 | (with_reducible refine Kd.C_alloc ?_ _) | (with_reducible refine Kd.C_drewN ?_ _) | (with_reducible refine Kd.C_drew ?_))); (case side4 => exact (Kd.R_reads' HO244.out).2.1); (case side5 => exact far_slice (IsS99.own_ne HI241.out HO244.out (by decide))); rintro e w7 ⟨rfl, hi, hb, hk⟩; refine ⟨_, rfl, ?_⟩; have n0_ := Aside0.mk (Kd.R_mono (Kd.R_keep (IsS99.apart (show IsS99 w _ gb241 l0 0 0 from by repeat (first | (with_reducible first | exact HI241.out | apply IsS99.alloc | apply IsS99.drewN | apply IsS99.drew | apply IsS99.set_1 | apply IsS99.set_2) | exact HI241.out)) (by (with_reducible repeat (first | apply Kd.R_alloc | apply Kd.R_drewN | apply Kd.R_drew)); exact HO244.out) (by decide)) hk (fun _ h => h.2)) (fun _ h => h.1)); have n1_ := Aside0.mk (hb); have n2_ := Aside0.mk (hi); clear HO244; clear HB; clear HI241; have HO244 := n0_; have HB := n1_; have HI241 := n2_; clear n0_ n1_ n2_; (try clear hb); (try clear hb2); (try clear hk); (try clear hi)))
  go_ret
  exact ⟨by first | rfl | (simp [errW_none, errW_some] <;> rfl) | (simp [*, errW_none, errW_some] <;> rfl), by repeat (first | (with_reducible first | exact HB.out | apply below_alloc | apply pw_below_drewN | apply below_drew1 | refine below_set ?_ (IsS99.ge HI241.out)) | exact HB.out)⟩

/-! ### impl_OpenSign: function 46 -/
def impl_OpenSign.f (a0 : Int) : Option (Int × Bool) := (impl_in.f a0 0 2000000000).bind fun t248 => (if t248 = true then ((impl_open.f a0).bind fun t249 => (some (t249, true))) else (some (0, false)))
set_option maxHeartbeats 8000000 in
set_option maxRecDepth 100000 in
theorem impl_OpenSign.calls (a0 : Int) (r1 : Int) (r2 : Bool) (w : World) (h : impl_OpenSign.f a0 = some (r1, r2)) :
    Calls Try.prog 46 #[.int .i64 a0] w fun e w' => e = .returned (.tuple #[.int .i64 r1, .bool r2]) ∧ Drawn0 w w' := by
  have H : ((impl_in.f a0 0 2000000000).bind fun t248 => (if t248 = true then ((impl_open.f a0).bind fun t249 => (some (t249, true))) else (some (0, false)))) = some (r1, r2) := h
  clear h
  replace H := Option.bind_eq_some_iff.mp H
  obtain ⟨t248, A20, H⟩ := H
  replace H : (if t248 = true then ((impl_open.f a0).bind fun t249 => (some (t249, true))) else (some (0, false))) = some (r1, r2) := H
  have A2 := Aside0.mk A20
  clear A20
  by_cases c3 : t248 = true
  · subst c3
    have H1 : ((impl_open.f a0).bind fun t249 => (some (t249, true))) = some (r1, r2) := by rw [if_pos rfl] at H; exact H
    clear H
    have H := H1
    clear H1
    replace H := Option.bind_eq_some_iff.mp H
    obtain ⟨t249, A40, H⟩ := H
    replace H : (some (t249, true)) = some (r1, r2) := H
    have A4 := Aside0.mk A40
    clear A40
    simp only [Option.some.injEq, Prod.mk.injEq] at H
    obtain ⟨rfl, rfl⟩ := H
    go_enter Try.func46, Try.ntmps46
    go_wp2_with (first | ((with_reducible refine gate_callee (f := 93) rfl ?_); refine goesL_ (some 5) rfl rfl Try.func93 (by kernel_rfl) rfl #[.int .i64 a0, .int .i64 0, .int .i64 2000000000] rfl (by (try simp only [List.map_toArray, List.map_cons, List.map_nil]); first | done | rfl | (simp only [List.length_drop, List.length_take]; rfl)) ?_; (with_reducible refine (impl_in.calls a0 0 2000000000 true _ A2.out).mono ?_); rintro e w' ⟨rfl, ⟨nd, rfl⟩⟩; refine ⟨_, rfl, ?_⟩) | ((with_reducible refine gate_callee (f := 102) rfl ?_); refine goesL_ (some 8) rfl rfl Try.func102 (by kernel_rfl) rfl #[.int .i64 a0] rfl (by (try simp only [List.map_toArray, List.map_cons, List.map_nil]); first | done | rfl | (simp only [List.length_drop, List.length_take]; rfl)) ?_; (with_reducible refine (impl_open.calls a0 t249 _ A4.out).mono ?_); rintro e w' ⟨rfl, ⟨nd, rfl⟩⟩; refine ⟨_, rfl, ?_⟩))
    go_ret2
    exact ⟨by first | rfl | (simp; done) | (simp [*]; done), by repeat (first | exact Drawn0.refl _ | apply Drawn0.step)⟩
  · replace c3 := Bool.eq_false_iff.mpr c3
    subst c3
    have H1 : (some (0, false)) = some (r1, r2) := by rw [if_neg (show ¬ (false = true) by decide)] at H; exact H
    clear H
    have H := H1
    clear H1
    simp only [Option.some.injEq, Prod.mk.injEq] at H
    obtain ⟨rfl, rfl⟩ := H
    go_enter Try.func46, Try.ntmps46
    go_wp2_with (first | ((with_reducible refine gate_callee (f := 93) rfl ?_); refine goesL_ (some 5) rfl rfl Try.func93 (by kernel_rfl) rfl #[.int .i64 a0, .int .i64 0, .int .i64 2000000000] rfl (by (try simp only [List.map_toArray, List.map_cons, List.map_nil]); first | done | rfl | (simp only [List.length_drop, List.length_take]; rfl)) ?_; (with_reducible refine (impl_in.calls a0 0 2000000000 false _ A2.out).mono ?_); rintro e w' ⟨rfl, ⟨nd, rfl⟩⟩; refine ⟨_, rfl, ?_⟩))
    go_ret2
    exact ⟨by first | rfl | (simp; done) | (simp [*]; done), by repeat (first | exact Drawn0.refl _ | apply Drawn0.step)⟩

/-! ### spec_OpenSign: function 47 -/
def spec_OpenSign.f (a0 : Int) : Option (Int × Bool) := (spec_l1In.f a0 0 2000000000).bind fun t250 => (if t250 = true then ((spec_l1Open.f a0).bind fun t251 => (some (t251, true))) else (some (0, false)))
set_option maxHeartbeats 8000000 in
set_option maxRecDepth 100000 in
theorem spec_OpenSign.calls (a0 : Int) (r1 : Int) (r2 : Bool) (w : World) (h : spec_OpenSign.f a0 = some (r1, r2)) :
    Calls Try.prog 47 #[.int .i64 a0] w fun e w' => e = .returned (.tuple #[.int .i64 r1, .bool r2]) ∧ Drawn0 w w' := by
  have H : ((spec_l1In.f a0 0 2000000000).bind fun t250 => (if t250 = true then ((spec_l1Open.f a0).bind fun t251 => (some (t251, true))) else (some (0, false)))) = some (r1, r2) := h
  clear h
  replace H := Option.bind_eq_some_iff.mp H
  obtain ⟨t250, A20, H⟩ := H
  replace H : (if t250 = true then ((spec_l1Open.f a0).bind fun t251 => (some (t251, true))) else (some (0, false))) = some (r1, r2) := H
  have A2 := Aside0.mk A20
  clear A20
  by_cases c3 : t250 = true
  · subst c3
    have H1 : ((spec_l1Open.f a0).bind fun t251 => (some (t251, true))) = some (r1, r2) := by rw [if_pos rfl] at H; exact H
    clear H
    have H := H1
    clear H1
    replace H := Option.bind_eq_some_iff.mp H
    obtain ⟨t251, A40, H⟩ := H
    replace H : (some (t251, true)) = some (r1, r2) := H
    have A4 := Aside0.mk A40
    clear A40
    simp only [Option.some.injEq, Prod.mk.injEq] at H
    obtain ⟨rfl, rfl⟩ := H
    go_enter Try.func47, Try.ntmps47
    go_wp2_with (first | ((with_reducible refine gate_callee (f := 92) rfl ?_); refine goesL_ (some 5) rfl rfl Try.func92 (by kernel_rfl) rfl #[.int .i64 a0, .int .i64 0, .int .i64 2000000000] rfl (by (try simp only [List.map_toArray, List.map_cons, List.map_nil]); first | done | rfl | (simp only [List.length_drop, List.length_take]; rfl)) ?_; (with_reducible refine (spec_l1In.calls a0 0 2000000000 true _ A2.out).mono ?_); rintro e w' ⟨rfl, ⟨nd, rfl⟩⟩; refine ⟨_, rfl, ?_⟩) | ((with_reducible refine gate_callee (f := 103) rfl ?_); refine goesL_ (some 8) rfl rfl Try.func103 (by kernel_rfl) rfl #[.int .i64 a0] rfl (by (try simp only [List.map_toArray, List.map_cons, List.map_nil]); first | done | rfl | (simp only [List.length_drop, List.length_take]; rfl)) ?_; (with_reducible refine (spec_l1Open.calls a0 t251 _ A4.out).mono ?_); rintro e w' ⟨rfl, ⟨nd, rfl⟩⟩; refine ⟨_, rfl, ?_⟩))
    go_ret2
    exact ⟨by first | rfl | (simp; done) | (simp [*]; done), by repeat (first | exact Drawn0.refl _ | apply Drawn0.step)⟩
  · replace c3 := Bool.eq_false_iff.mpr c3
    subst c3
    have H1 : (some (0, false)) = some (r1, r2) := by rw [if_neg (show ¬ (false = true) by decide)] at H; exact H
    clear H
    have H := H1
    clear H1
    simp only [Option.some.injEq, Prod.mk.injEq] at H
    obtain ⟨rfl, rfl⟩ := H
    go_enter Try.func47, Try.ntmps47
    go_wp2_with (first | ((with_reducible refine gate_callee (f := 92) rfl ?_); refine goesL_ (some 5) rfl rfl Try.func92 (by kernel_rfl) rfl #[.int .i64 a0, .int .i64 0, .int .i64 2000000000] rfl (by (try simp only [List.map_toArray, List.map_cons, List.map_nil]); first | done | rfl | (simp only [List.length_drop, List.length_take]; rfl)) ?_; (with_reducible refine (spec_l1In.calls a0 0 2000000000 false _ A2.out).mono ?_); rintro e w' ⟨rfl, ⟨nd, rfl⟩⟩; refine ⟨_, rfl, ?_⟩))
    go_ret2
    exact ⟨by first | rfl | (simp; done) | (simp [*]; done), by repeat (first | exact Drawn0.refl _ | apply Drawn0.step)⟩

/-! ### laws_FnNumbers: function 8 -/
mutual
def laws_FnNumbers.j0 : Nat → List Int → Int → ByteArray → Bool → Bool → Option (Bool)
  | 0, _, _, _, _, _ => none
  | k + 1, x1, x5, x6, x7, x55 => if x55 = true then (some false) else (if x7 = true then (if 1 + x6.size ≤ 9223372036854775807 then (if ((⟨#[122]⟩ : ByteArray) ++ x6).size + 1 ≤ 9223372036854775807 then ((impl_ReadNum.f k (((⟨#[122]⟩ : ByteArray) ++ x6) ++ (⟨#[121]⟩ : ByteArray)) 1).bind fun bt258 => (if bt258.2.2 = true then (if bt258.1 = x5 then (if bt258.2.1 = (wrap64 ((x6.size : Int) + 1)) then (laws_FnNumbers.j1 k x1) else (some false)) else (some false)) else (some false))) else (none)) else (none)) else (laws_FnNumbers.j1 k x1))
def laws_FnNumbers.j1 : Nat → List Int → Option (Bool)
  | 0, _ => none
  | k + 1, x1 => (spec_DrawReadNum.f k x1).bind fun bt261 => ((impl_ReadNum.f k bt261.1 bt261.2).bind fun bt263 => ((spec_ReadNum.f k bt261.1 bt261.2).bind fun bt266 => ((spec_DrawFoldSign.f x1).bind fun t269 => ((impl_FoldSign.f t269).bind fun bt270 => ((spec_FoldSign.f t269).bind fun bt272 => ((spec_DrawOpenSign.f x1).bind fun t274 => ((impl_OpenSign.f t274).bind fun bt275 => ((spec_OpenSign.f t274).bind fun bt277 => (if (bt263.2.2 != bt266.2.2) = true then (laws_FnNumbers.j2 k t269 bt270.1 bt270.2 true) else (if bt263.1 = bt266.1 then (if bt263.2.1 = bt266.2.1 then (if (bt270.2 != bt272.2) = true then (laws_FnNumbers.j2 k t269 bt270.1 bt270.2 true) else (if bt270.1 = bt272.1 then (if (bt275.2 != bt277.2) = true then (laws_FnNumbers.j2 k t269 bt270.1 bt270.2 true) else (laws_FnNumbers.j2 k t269 bt270.1 bt270.2 (bt275.1 != bt277.1))) else (laws_FnNumbers.j2 k t269 bt270.1 bt270.2 true))) else (laws_FnNumbers.j2 k t269 bt270.1 bt270.2 true)) else (laws_FnNumbers.j2 k t269 bt270.1 bt270.2 true)))))))))))
def laws_FnNumbers.j2 : Nat → Int → Int → Bool → Bool → Option (Bool)
  | 0, _, _, _, _ => none
  | k + 1, x21, x22, x23, x154 => if x154 = true then (some false) else (if x23 = true then ((impl_OpenSign.f x22).bind fun bt279 => (if bt279.2 = true then (if bt279.1 = x21 then (some (decide (x22 ≥ 0))) else (some false)) else (some false))) else (some true))
end
def laws_FnNumbers.f (k : Nat) (l0 : List Int) (l1 : List Int) : Option (Bool) := (laws_big.f l0 l1).bind fun t252 => (if t252 = true then (some true) else ((spec_DrawNumBytes.f l0).bind fun t253 => ((impl_NumBytes.f k t253).bind fun bt254 => ((spec_NumBytes.f k t253).bind fun bt256 => (if (bt254.2 != bt256.2) = true then (laws_FnNumbers.j0 k l1 t253 bt254.1 bt254.2 true) else (laws_FnNumbers.j0 k l1 t253 bt254.1 bt254.2 (bt254.1.toList != bt256.1.toList)))))))
theorem laws_FnNumbers.mono_l : ∀ k, (∀ y0 y1 y2 y3 y4, LeO (laws_FnNumbers.j0 k y0 y1 y2 y3 y4) (laws_FnNumbers.j0 (k + 1) y0 y1 y2 y3 y4)) ∧ (∀ y0, LeO (laws_FnNumbers.j1 k y0) (laws_FnNumbers.j1 (k + 1) y0)) ∧ (∀ y0 y1 y2 y3, LeO (laws_FnNumbers.j2 k y0 y1 y2 y3) (laws_FnNumbers.j2 (k + 1) y0 y1 y2 y3))
  | 0 => ⟨fun _ _ _ _ _ r h => by simp [laws_FnNumbers.j0] at h, fun _ r h => by simp [laws_FnNumbers.j1] at h, fun _ _ _ _ r h => by simp [laws_FnNumbers.j2] at h⟩
  | k + 1 => by
    obtain ⟨ih0, ih1, ih2⟩ := laws_FnNumbers.mono_l k
    refine ⟨?_, ?_, ?_⟩
    · intro y0 y1 y2 y3 y4
      unfold laws_FnNumbers.j0
      repeat' first
      | (with_reducible exact ih0 _ _ _ _ _)
      | (with_reducible exact ih1 _)
      | (with_reducible exact ih2 _ _ _ _)
      | (with_reducible exact impl_NumBytes.mono _ _)
      | (with_reducible exact impl_ReadNum.mono _ _ _)
      | (with_reducible exact spec_DrawReadNum.mono _ _)
      | (with_reducible exact spec_NumBytes.mono _ _)
      | (with_reducible exact spec_ReadNum.mono _ _ _)
      | (with_reducible exact LeO.refl _)
      | (with_reducible exact LeO.none _)
      | (with_reducible refine LeO.ite ?_ ?_)
      | (with_reducible refine LeO.bind ?_ (fun _ => ?_))
      | exact ih0 _ _ _ _ _
      | exact ih1 _
      | exact ih2 _ _ _ _
      | exact impl_NumBytes.mono _ _
      | exact impl_ReadNum.mono _ _ _
      | exact spec_DrawReadNum.mono _ _
      | exact spec_NumBytes.mono _ _
      | exact spec_ReadNum.mono _ _ _
      | exact LeO.none _
      | refine LeO.ite ?_ ?_
      | refine LeO.bind ?_ (fun _ => ?_)
    · intro y0
      unfold laws_FnNumbers.j1
      repeat' first
      | (with_reducible exact ih0 _ _ _ _ _)
      | (with_reducible exact ih1 _)
      | (with_reducible exact ih2 _ _ _ _)
      | (with_reducible exact impl_NumBytes.mono _ _)
      | (with_reducible exact impl_ReadNum.mono _ _ _)
      | (with_reducible exact spec_DrawReadNum.mono _ _)
      | (with_reducible exact spec_NumBytes.mono _ _)
      | (with_reducible exact spec_ReadNum.mono _ _ _)
      | (with_reducible exact LeO.refl _)
      | (with_reducible exact LeO.none _)
      | (with_reducible refine LeO.ite ?_ ?_)
      | (with_reducible refine LeO.bind ?_ (fun _ => ?_))
      | exact ih0 _ _ _ _ _
      | exact ih1 _
      | exact ih2 _ _ _ _
      | exact impl_NumBytes.mono _ _
      | exact impl_ReadNum.mono _ _ _
      | exact spec_DrawReadNum.mono _ _
      | exact spec_NumBytes.mono _ _
      | exact spec_ReadNum.mono _ _ _
      | exact LeO.none _
      | refine LeO.ite ?_ ?_
      | refine LeO.bind ?_ (fun _ => ?_)
    · intro y0 y1 y2 y3
      unfold laws_FnNumbers.j2
      repeat' first
      | (with_reducible exact ih0 _ _ _ _ _)
      | (with_reducible exact ih1 _)
      | (with_reducible exact ih2 _ _ _ _)
      | (with_reducible exact impl_NumBytes.mono _ _)
      | (with_reducible exact impl_ReadNum.mono _ _ _)
      | (with_reducible exact spec_DrawReadNum.mono _ _)
      | (with_reducible exact spec_NumBytes.mono _ _)
      | (with_reducible exact spec_ReadNum.mono _ _ _)
      | (with_reducible exact LeO.refl _)
      | (with_reducible exact LeO.none _)
      | (with_reducible refine LeO.ite ?_ ?_)
      | (with_reducible refine LeO.bind ?_ (fun _ => ?_))
      | exact ih0 _ _ _ _ _
      | exact ih1 _
      | exact ih2 _ _ _ _
      | exact impl_NumBytes.mono _ _
      | exact impl_ReadNum.mono _ _ _
      | exact spec_DrawReadNum.mono _ _
      | exact spec_NumBytes.mono _ _
      | exact spec_ReadNum.mono _ _ _
      | exact LeO.none _
      | refine LeO.ite ?_ ?_
      | refine LeO.bind ?_ (fun _ => ?_)
theorem laws_FnNumbers.mono : ∀ a0 a1 k, LeO (laws_FnNumbers.f k a0 a1) (laws_FnNumbers.f (k + 1) a0 a1) := by
  intro a0 a1 k
  obtain ⟨ih0, ih1, ih2⟩ := laws_FnNumbers.mono_l k
  unfold laws_FnNumbers.f
  repeat' first
      | (with_reducible exact ih0 _ _ _ _ _)
      | (with_reducible exact ih1 _)
      | (with_reducible exact ih2 _ _ _ _)
      | (with_reducible exact impl_NumBytes.mono _ _)
      | (with_reducible exact impl_ReadNum.mono _ _ _)
      | (with_reducible exact spec_DrawReadNum.mono _ _)
      | (with_reducible exact spec_NumBytes.mono _ _)
      | (with_reducible exact spec_ReadNum.mono _ _ _)
      | (with_reducible exact LeO.refl _)
      | (with_reducible exact LeO.none _)
      | (with_reducible refine LeO.ite ?_ ?_)
      | (with_reducible refine LeO.bind ?_ (fun _ => ?_))
      | exact ih0 _ _ _ _ _
      | exact ih1 _
      | exact ih2 _ _ _ _
      | exact impl_NumBytes.mono _ _
      | exact impl_ReadNum.mono _ _ _
      | exact spec_DrawReadNum.mono _ _
      | exact spec_NumBytes.mono _ _
      | exact spec_ReadNum.mono _ _ _
      | exact LeO.none _
      | refine LeO.ite ?_ ?_
      | refine LeO.bind ?_ (fun _ => ?_)
set_option maxHeartbeats 8000000 in
set_option maxRecDepth 100000 in
theorem laws_FnNumbers.calls (k : Nat) (A0 : Option Addr) (c0 : Nat) (l0 : List Int) (A1 : Option Addr) (c1 : Nat) (l1 : List Int) (r : Bool) (w : World) (hr0 : Kd.C (Kd.int .u8) w A0 l0.length l0) (hc0 : l0.length ≤ c0) (hr1 : Kd.C (Kd.int .u8) w A1 l1.length l1) (hc1 : l1.length ≤ c1) (h : laws_FnNumbers.f k l0 l1 = some r) :
    Calls Try.prog 8 #[.slice A0 l0.length c0, .slice A1 l1.length c1] w fun e w' => e = .returned (.bool r) ∧ Below w.heap.size w w' := by
  have HR0 := Aside0.mk hr0
  have HC0 := Aside0.mk hc0
  clear hr0 hc0
  have HR1 := Aside0.mk hr1
  have HC1 := Aside0.mk hc1
  clear hr1 hc1
  have HB := Aside0.mk (Below.refl w.heap.size w)
  have H : ((laws_big.f l0 l1).bind fun t252 => (if t252 = true then (some true) else ((spec_DrawNumBytes.f l0).bind fun t253 => ((impl_NumBytes.f k t253).bind fun bt254 => ((spec_NumBytes.f k t253).bind fun bt256 => (if (bt254.2 != bt256.2) = true then (laws_FnNumbers.j0 k l1 t253 bt254.1 bt254.2 true) else (laws_FnNumbers.j0 k l1 t253 bt254.1 bt254.2 (bt254.1.toList != bt256.1.toList)))))))) = some r := h
  clear h
  replace H := Option.bind_eq_some_iff.mp H
  obtain ⟨t252, A30, H⟩ := H
  replace H : (if t252 = true then (some true) else ((spec_DrawNumBytes.f l0).bind fun t253 => ((impl_NumBytes.f k t253).bind fun bt254 => ((spec_NumBytes.f k t253).bind fun bt256 => (if (bt254.2 != bt256.2) = true then (laws_FnNumbers.j0 k l1 t253 bt254.1 bt254.2 true) else (laws_FnNumbers.j0 k l1 t253 bt254.1 bt254.2 (bt254.1.toList != bt256.1.toList))))))) = some r := H
  have A3 := Aside0.mk A30
  clear A30
  by_cases c4 : t252 = true
  · subst c4
    have H1 : (some true) = some r := by rw [if_pos rfl] at H; exact H
    clear H
    have H := H1
    clear H1
    obtain rfl := Option.some.inj H
    go_enter Try.func8, Try.ntmps8
    go_wp2_with (first | ((with_reducible refine gate_callee (f := 13) rfl ?_); refine goesL_ (some 35) rfl rfl Try.func13 (by kernel_rfl) rfl #[.slice A0 l0.length c0, .slice A1 l1.length c1] rfl (by (try simp only [List.map_toArray, List.map_cons, List.map_nil]); first | done | rfl | (simp only [List.length_drop, List.length_take]; rfl)) ?_; (with_reducible refine (laws_big.calls _ _ l0 _ _ l1 true _ ?side1 ?side2 ?side3 ?side4 A3.out).mono ?_); (case side1 => repeat (first | exact HR0.out | (with_reducible refine Kd.C_alloc ?_ _) | (with_reducible refine Kd.C_drewN ?_ _) | (with_reducible refine Kd.C_drew ?_))); (case side2 => exact HC0.out); (case side3 => repeat (first | exact HR1.out | (with_reducible refine Kd.C_alloc ?_ _) | (with_reducible refine Kd.C_drewN ?_ _) | (with_reducible refine Kd.C_drew ?_))); (case side4 => exact HC1.out); rintro e w' ⟨rfl, ⟨nd, rfl⟩⟩; refine ⟨_, rfl, ?_⟩))
    go_ret
    exact ⟨by first | rfl | (simp [errW_none, errW_some] <;> rfl) | (simp [*, errW_none, errW_some] <;> rfl), by repeat (first | (with_reducible first | exact HB.out | apply below_alloc | apply pw_below_drewN | apply below_drew1) | exact HB.out)⟩
  · replace c4 := Bool.eq_false_iff.mpr c4
    subst c4
    have H1 : ((spec_DrawNumBytes.f l0).bind fun t253 => ((impl_NumBytes.f k t253).bind fun bt254 => ((spec_NumBytes.f k t253).bind fun bt256 => (if (bt254.2 != bt256.2) = true then (laws_FnNumbers.j0 k l1 t253 bt254.1 bt254.2 true) else (laws_FnNumbers.j0 k l1 t253 bt254.1 bt254.2 (bt254.1.toList != bt256.1.toList)))))) = some r := by rw [if_neg (show ¬ (false = true) by decide)] at H; exact H
    clear H
    have H := H1
    clear H1
    replace H := Option.bind_eq_some_iff.mp H
    obtain ⟨t253, A50, H⟩ := H
    replace H : ((impl_NumBytes.f k t253).bind fun bt254 => ((spec_NumBytes.f k t253).bind fun bt256 => (if (bt254.2 != bt256.2) = true then (laws_FnNumbers.j0 k l1 t253 bt254.1 bt254.2 true) else (laws_FnNumbers.j0 k l1 t253 bt254.1 bt254.2 (bt254.1.toList != bt256.1.toList))))) = some r := H
    have A5 := Aside0.mk A50
    clear A50
    replace H := Option.bind_eq_some_iff.mp H
    obtain ⟨⟨t254, t255⟩, A60, H⟩ := H
    replace H : ((spec_NumBytes.f k t253).bind fun bt256 => (if (t255 != bt256.2) = true then (laws_FnNumbers.j0 k l1 t253 t254 t255 true) else (laws_FnNumbers.j0 k l1 t253 t254 t255 (t254.toList != bt256.1.toList)))) = some r := H
    have A6 := Aside0.mk A60
    clear A60
    replace H := Option.bind_eq_some_iff.mp H
    obtain ⟨⟨t256, t257⟩, A70, H⟩ := H
    replace H : (if (t255 != t257) = true then (laws_FnNumbers.j0 k l1 t253 t254 t255 true) else (laws_FnNumbers.j0 k l1 t253 t254 t255 (t254.toList != t256.toList))) = some r := H
    have A7 := Aside0.mk A70
    clear A70
    have HC8 := Aside0.mk H
    clear H
    go_enter Try.func8, Try.ntmps8
    go_upto_region 6 with (first | ((with_reducible refine gate_callee (f := 13) rfl ?_); refine goesL_ (some 35) rfl rfl Try.func13 (by kernel_rfl) rfl #[.slice A0 l0.length c0, .slice A1 l1.length c1] rfl (by (try simp only [List.map_toArray, List.map_cons, List.map_nil]); first | done | rfl | (simp only [List.length_drop, List.length_take]; rfl)) ?_; (with_reducible refine (laws_big.calls _ _ l0 _ _ l1 false _ ?side1 ?side2 ?side3 ?side4 A3.out).mono ?_); (case side1 => repeat (first | exact HR0.out | (with_reducible refine Kd.C_alloc ?_ _) | (with_reducible refine Kd.C_drewN ?_ _) | (with_reducible refine Kd.C_drew ?_))); (case side2 => exact HC0.out); (case side3 => repeat (first | exact HR1.out | (with_reducible refine Kd.C_alloc ?_ _) | (with_reducible refine Kd.C_drewN ?_ _) | (with_reducible refine Kd.C_drew ?_))); (case side4 => exact HC1.out); rintro e w' ⟨rfl, ⟨nd, rfl⟩⟩; refine ⟨_, rfl, ?_⟩) | ((with_reducible refine gate_callee (f := 38) rfl ?_); refine goesL_ (some 37) rfl rfl Try.func38 (by kernel_rfl) rfl #[.slice A0 l0.length c0] rfl (by (try simp only [List.map_toArray, List.map_cons, List.map_nil]); first | done | rfl | (simp only [List.length_drop, List.length_take]; rfl)) ?_; (with_reducible refine (spec_DrawNumBytes.calls _ _ l0 t253 _ ?side1 ?side2 A5.out).mono ?_); (case side1 => repeat (first | exact HR0.out | (with_reducible refine Kd.C_alloc ?_ _) | (with_reducible refine Kd.C_drewN ?_ _) | (with_reducible refine Kd.C_drew ?_))); (case side2 => exact HC0.out); rintro e w9 ⟨rfl, hb⟩; refine ⟨_, rfl, ?_⟩; have n0_ := Aside0.mk (below_step (by repeat (first | (with_reducible first | exact HB.out | apply below_alloc | apply pw_below_drewN | apply below_drew1) | exact HB.out)) hb); clear HB; have HB := n0_; clear n0_; (try clear hb); (try clear hb2); (try clear hk); (try clear hi)) | ((with_reducible refine gate_callee (f := 39) rfl ?_); refine goesL_ (some 40) rfl rfl Try.func39 (by kernel_rfl) rfl #[.int .i64 t253] rfl (by (try simp only [List.map_toArray, List.map_cons, List.map_nil]); first | done | rfl | (simp only [List.length_drop, List.length_take]; rfl)) ?_; (with_reducible refine (impl_NumBytes.calls k t253 t254 t255 _ A6.out).mono ?_); rintro e w10 ⟨rfl, hb⟩; refine ⟨_, rfl, ?_⟩; have n0_ := Aside0.mk (below_step (by repeat (first | (with_reducible first | exact HB.out | apply below_alloc | apply pw_below_drewN | apply below_drew1) | exact HB.out)) hb); clear HB; have HB := n0_; clear n0_; (try clear hb); (try clear hb2); (try clear hk); (try clear hi)) | ((with_reducible refine gate_callee (f := 40) rfl ?_); refine goesL_ (some 45) rfl rfl Try.func40 (by kernel_rfl) rfl #[.int .i64 t253] rfl (by (try simp only [List.map_toArray, List.map_cons, List.map_nil]); first | done | rfl | (simp only [List.length_drop, List.length_take]; rfl)) ?_; (with_reducible refine (spec_NumBytes.calls k t253 t256 t257 _ A7.out).mono ?_); rintro e w11 ⟨rfl, hb⟩; refine ⟨_, rfl, ?_⟩; have n0_ := Aside0.mk (below_step (by repeat (first | (with_reducible first | exact HB.out | apply below_alloc | apply pw_below_drewN | apply below_drew1) | exact HB.out)) hb); clear HB; have HB := n0_; clear n0_; (try clear hb); (try clear hb2); (try clear hk); (try clear hi)))
    (try simp only [Act.put, List.setIfInBounds_toArray, List.set_cons_zero, List.set_cons_succ])
    go_cut [55] (fun v55 wc => ∃ (kq : Nat) (x55_7 : Bool), v55 = .bool x55_7 ∧ Aside0 (laws_FnNumbers.j0 kq l1 t253 t254 t255 x55_7 = some r) ∧ Aside0 (kq ≤ k) ∧ Aside0 (Below w.heap.size w wc))
    case first =>
      have H := HC8.out
      clear HC8
      by_cases c12 : (t255 != t257) = true
      · rw [if_pos c12] at H
        have c12b0 : (t255 != t257) = true := c12
        (try (have c12b1 : decide (t255 = t257) = false := by simpa using c12))
        (try (have c12b2 : (t255 == t257) = false := by simpa using c12))
        (try (have c12b3 : ¬ (t255 = t257) := by simpa using c12))
        clear c12
        (first | rw [c12b0] | (simp only [i64_w, i32_w]; rw [c12b0]) | skip)
        have H' := Aside0.mk H
        clear H
        go_wp2
        go_meet
        case rel => exact ⟨_, (true), (by first | rfl | (simp; done) | (simp [*]; done)), H', ⟨by first | omega | exact Nat.le_refl _⟩, ⟨by repeat (first | (with_reducible first | exact HB.out | apply below_alloc | apply pw_below_drewN | apply below_drew1) | exact HB.out)⟩⟩
      · rw [if_neg c12] at H
        have c12b0 : (t255 != t257) = false := by simpa using c12
        (try (have c12b1 : decide (t255 = t257) = true := by simpa using c12))
        (try (have c12b2 : (t255 == t257) = true := by simpa using c12))
        clear c12
        (first | rw [c12b0] | (simp only [i64_w, i32_w]; rw [c12b0]) | skip)
        have H' := Aside0.mk H
        clear H
        go_wp2
        go_meet
        case rel => exact ⟨_, ((t254.toList != t256.toList)), (by first | rfl | (simp; done) | (simp [*]; done)), H', ⟨by first | omega | exact Nat.le_refl _⟩, ⟨by repeat (first | (with_reducible first | exact HB.out | apply below_alloc | apply pw_below_drewN | apply below_drew1) | exact HB.out)⟩⟩
    case rest =>
      clear HC8
      try clear c1
      try clear p2
      try clear c3
      try clear c4
      try clear c8
      try clear c12
      try clear c12b0
      try clear c12b1
      try clear c12b2
      obtain ⟨kq, x55_7, rfl, HA, HJ7, HB⟩ := hcut
      cases kq with
      | zero => exact absurd HA.out (by simp [laws_FnNumbers.j0])
      | succ kj7 =>
        have H := HA.out
        clear HA
        simp only [laws_FnNumbers.j0] at H
        by_cases c13 : x55_7 = true
        · subst c13
          have H1 : (some false) = some r := by rw [if_pos rfl] at H; exact H
          clear H
          have H := H1
          clear H1
          obtain rfl := Option.some.inj H
          go_wp2
          go_ret
          exact ⟨by first | rfl | (simp [errW_none, errW_some] <;> rfl) | (simp [*, errW_none, errW_some] <;> rfl), by repeat (first | (with_reducible first | exact HB.out | apply below_alloc | apply pw_below_drewN | apply below_drew1) | exact HB.out)⟩
        · replace c13 := Bool.eq_false_iff.mpr c13
          subst c13
          have H1 : (if t255 = true then (if 1 + t254.size ≤ 9223372036854775807 then (if ((⟨#[122]⟩ : ByteArray) ++ t254).size + 1 ≤ 9223372036854775807 then ((impl_ReadNum.f kj7 (((⟨#[122]⟩ : ByteArray) ++ t254) ++ (⟨#[121]⟩ : ByteArray)) 1).bind fun bt258 => (if bt258.2.2 = true then (if bt258.1 = t253 then (if bt258.2.1 = (wrap64 ((t254.size : Int) + 1)) then (laws_FnNumbers.j1 kj7 l1) else (some false)) else (some false)) else (some false))) else (none)) else (none)) else (laws_FnNumbers.j1 kj7 l1)) = some r := by rw [if_neg (show ¬ (false = true) by decide)] at H; exact H
          clear H
          have H := H1
          clear H1
          have HC14 := Aside0.mk H
          clear H
          go_upto_if 56 with (fail)
          go_cut [] (fun wc => ∃ (kq : Nat), Aside0 (laws_FnNumbers.j1 kq l1 = some r) ∧ Aside0 (kq ≤ kj7) ∧ Aside0 (Below w.heap.size w wc))
          case first =>
            have H := HC14.out
            clear HC14
            by_cases c15 : t255 = true
            · subst c15
              have H1 : (if 1 + t254.size ≤ 9223372036854775807 then (if ((⟨#[122]⟩ : ByteArray) ++ t254).size + 1 ≤ 9223372036854775807 then ((impl_ReadNum.f kj7 (((⟨#[122]⟩ : ByteArray) ++ t254) ++ (⟨#[121]⟩ : ByteArray)) 1).bind fun bt258 => (if bt258.2.2 = true then (if bt258.1 = t253 then (if bt258.2.1 = (wrap64 ((t254.size : Int) + 1)) then (laws_FnNumbers.j1 kj7 l1) else (some false)) else (some false)) else (some false))) else (none)) else (none)) = some r := by rw [if_pos rfl] at H; exact H
              clear H
              have H := H1
              clear H1
              by_cases c16 : 1 + t254.size ≤ 9223372036854775807
              · rw [if_pos c16] at H
                have c16b0 := eq_true c16
                have c16b1 : decide (1 + t254.size ≤ 9223372036854775807) = true := decide_eq_true c16
                try have c16b2 : (9223372036854775807 < 1 + t254.size) = False := eq_false (Nat.not_lt.2 c16)
                try (have c16b3 := c16b2; simp only [ByteArray.size_append] at c16b3)
                by_cases c17 : ((⟨#[122]⟩ : ByteArray) ++ t254).size + 1 ≤ 9223372036854775807
                · rw [if_pos c17] at H
                  have c17b0 := eq_true c17
                  have c17b1 : decide (((⟨#[122]⟩ : ByteArray) ++ t254).size + 1 ≤ 9223372036854775807) = true := decide_eq_true c17
                  try have c17b2 : (9223372036854775807 < ((⟨#[122]⟩ : ByteArray) ++ t254).size + 1) = False := eq_false (Nat.not_lt.2 c17)
                  try (have c17b3 := c17b2; simp only [ByteArray.size_append] at c17b3)
                  try (have c17b4 := c17b2; simp only [ByteArray.size_append, show (⟨#[122]⟩ : ByteArray).size = 1 from rfl] at c17b4)
                  try (have c17b5 : (9223372036854775806 < ((⟨#[122]⟩ : ByteArray) ++ t254).size) = False := eq_false (fun h_ => by have h2_ := c17; omega))
                  try (have c17b6 : (9223372036854775806 < ((⟨#[122]⟩ : ByteArray) ++ t254).size) = False := eq_false (fun h_ => by have h2_ := c17; omega); simp only [ByteArray.size_append, show (⟨#[122]⟩ : ByteArray).size = 1 from rfl] at c17b6)
                  replace H := Option.bind_eq_some_iff.mp H
                  obtain ⟨⟨t258, t259, t260⟩, A180, H⟩ := H
                  replace H : (if t260 = true then (if t258 = t253 then (if t259 = (wrap64 ((t254.size : Int) + 1)) then (laws_FnNumbers.j1 kj7 l1) else (some false)) else (some false)) else (some false)) = some r := H
                  have A18 := Aside0.mk A180
                  clear A180
                  by_cases c19 : t260 = true
                  · subst c19
                    have H1 : (if t258 = t253 then (if t259 = (wrap64 ((t254.size : Int) + 1)) then (laws_FnNumbers.j1 kj7 l1) else (some false)) else (some false)) = some r := by rw [if_pos rfl] at H; exact H
                    clear H
                    have H := H1
                    clear H1
                    by_cases c20 : t258 = t253
                    · rw [if_pos c20] at H
                      have c20b0 : (t258 == t253) = true := beq_iff_eq.mpr c20
                      have c20b1 : (t258 != t253) = false := bne_eq_false_iff_eq.mpr c20
                      clear c20
                      (first | rw [c20b0] | (simp only [i64_w, i32_w]; rw [c20b0]) | skip)
                      by_cases c21 : t259 = (wrap64 ((t254.size : Int) + 1))
                      · rw [if_pos c21] at H
                        have c21b0 : (t259 == (wrap64 ((t254.size : Int) + 1))) = true := beq_iff_eq.mpr c21
                        have c21b1 : (t259 != (wrap64 ((t254.size : Int) + 1))) = false := bne_eq_false_iff_eq.mpr c21
                        (try (have c21u0_10 := c21b0; rw [show wrap64 ((t254.size : Int) + 1) = ((t254.size : Int) + 1) from by unfold wrap64; omega] at c21u0_10))
                        (try (have c21u1_10 := c21b1; rw [show wrap64 ((t254.size : Int) + 1) = ((t254.size : Int) + 1) from by unfold wrap64; omega] at c21u1_10))
                        clear c21
                        have H' := Aside0.mk H
                        clear H
                        go_wp2_with (first | ((with_reducible refine gate_callee (f := 21) rfl ?_); refine goesL_ (some 61) rfl rfl Try.func21 (by kernel_rfl) rfl #[.string (((⟨#[122]⟩ : ByteArray) ++ t254) ++ (⟨#[121]⟩ : ByteArray)), .int .i64 1] rfl (by (try simp only [List.map_toArray, List.map_cons, List.map_nil]); first | done | rfl | (simp only [List.length_drop, List.length_take]; rfl)) ?_; (with_reducible refine (impl_ReadNum.calls kj7 (((⟨#[122]⟩ : ByteArray) ++ t254) ++ (⟨#[121]⟩ : ByteArray)) 1 t258 t259 true _ A18.out).mono ?_); rintro e w' ⟨rfl, ⟨nd, rfl⟩⟩; refine ⟨_, rfl, ?_⟩))
                        go_meet
                        case rel => exact ⟨_, H', ⟨by have := HJ7.out; first | omega | exact Nat.le_refl _⟩, ⟨by repeat (first | (with_reducible first | exact HB.out | apply below_alloc | apply pw_below_drewN | apply below_drew1) | exact HB.out)⟩⟩
                      · rw [if_neg c21] at H
                        have c21b0 : (t259 == (wrap64 ((t254.size : Int) + 1))) = false := beq_eq_false_iff_ne.mpr c21
                        have c21b1 : (t259 != (wrap64 ((t254.size : Int) + 1))) = true := bne_iff_ne.mpr c21
                        (try (have c21u0_10 := c21b0; rw [show wrap64 ((t254.size : Int) + 1) = ((t254.size : Int) + 1) from by unfold wrap64; omega] at c21u0_10))
                        (try (have c21u1_10 := c21b1; rw [show wrap64 ((t254.size : Int) + 1) = ((t254.size : Int) + 1) from by unfold wrap64; omega] at c21u1_10))
                        obtain rfl := Option.some.inj H
                        go_wp2_with (first | ((with_reducible refine gate_callee (f := 21) rfl ?_); refine goesL_ (some 61) rfl rfl Try.func21 (by kernel_rfl) rfl #[.string (((⟨#[122]⟩ : ByteArray) ++ t254) ++ (⟨#[121]⟩ : ByteArray)), .int .i64 1] rfl (by (try simp only [List.map_toArray, List.map_cons, List.map_nil]); first | done | rfl | (simp only [List.length_drop, List.length_take]; rfl)) ?_; (with_reducible refine (impl_ReadNum.calls kj7 (((⟨#[122]⟩ : ByteArray) ++ t254) ++ (⟨#[121]⟩ : ByteArray)) 1 t258 t259 true _ A18.out).mono ?_); rintro e w' ⟨rfl, ⟨nd, rfl⟩⟩; refine ⟨_, rfl, ?_⟩))
                        go_ret
                        exact ⟨by first | rfl | (simp [errW_none, errW_some] <;> rfl) | (simp [*, errW_none, errW_some] <;> rfl), by repeat (first | (with_reducible first | exact HB.out | apply below_alloc | apply pw_below_drewN | apply below_drew1) | exact HB.out)⟩
                    · rw [if_neg c20] at H
                      have c20b0 : (t258 == t253) = false := beq_eq_false_iff_ne.mpr c20
                      have c20b1 : (t258 != t253) = true := bne_iff_ne.mpr c20
                      (first | rw [c20b0] | (simp only [i64_w, i32_w]; rw [c20b0]) | skip)
                      obtain rfl := Option.some.inj H
                      go_wp2_with (first | ((with_reducible refine gate_callee (f := 21) rfl ?_); refine goesL_ (some 61) rfl rfl Try.func21 (by kernel_rfl) rfl #[.string (((⟨#[122]⟩ : ByteArray) ++ t254) ++ (⟨#[121]⟩ : ByteArray)), .int .i64 1] rfl (by (try simp only [List.map_toArray, List.map_cons, List.map_nil]); first | done | rfl | (simp only [List.length_drop, List.length_take]; rfl)) ?_; (with_reducible refine (impl_ReadNum.calls kj7 (((⟨#[122]⟩ : ByteArray) ++ t254) ++ (⟨#[121]⟩ : ByteArray)) 1 t258 t259 true _ A18.out).mono ?_); rintro e w' ⟨rfl, ⟨nd, rfl⟩⟩; refine ⟨_, rfl, ?_⟩))
                      go_ret
                      exact ⟨by first | rfl | (simp [errW_none, errW_some] <;> rfl) | (simp [*, errW_none, errW_some] <;> rfl), by repeat (first | (with_reducible first | exact HB.out | apply below_alloc | apply pw_below_drewN | apply below_drew1) | exact HB.out)⟩
                  · replace c19 := Bool.eq_false_iff.mpr c19
                    subst c19
                    have H1 : (some false) = some r := by rw [if_neg (show ¬ (false = true) by decide)] at H; exact H
                    clear H
                    have H := H1
                    clear H1
                    obtain rfl := Option.some.inj H
                    go_wp2_with (first | ((with_reducible refine gate_callee (f := 21) rfl ?_); refine goesL_ (some 61) rfl rfl Try.func21 (by kernel_rfl) rfl #[.string (((⟨#[122]⟩ : ByteArray) ++ t254) ++ (⟨#[121]⟩ : ByteArray)), .int .i64 1] rfl (by (try simp only [List.map_toArray, List.map_cons, List.map_nil]); first | done | rfl | (simp only [List.length_drop, List.length_take]; rfl)) ?_; (with_reducible refine (impl_ReadNum.calls kj7 (((⟨#[122]⟩ : ByteArray) ++ t254) ++ (⟨#[121]⟩ : ByteArray)) 1 t258 t259 false _ A18.out).mono ?_); rintro e w' ⟨rfl, ⟨nd, rfl⟩⟩; refine ⟨_, rfl, ?_⟩))
                    go_ret
                    exact ⟨by first | rfl | (simp [errW_none, errW_some] <;> rfl) | (simp [*, errW_none, errW_some] <;> rfl), by repeat (first | (with_reducible first | exact HB.out | apply below_alloc | apply pw_below_drewN | apply below_drew1) | exact HB.out)⟩
                · rw [if_neg c17] at H
                  exact absurd H (by simp)
              · rw [if_neg c16] at H
                exact absurd H (by simp)
            · replace c15 := Bool.eq_false_iff.mpr c15
              subst c15
              have H1 : (laws_FnNumbers.j1 kj7 l1) = some r := by rw [if_neg (show ¬ (false = true) by decide)] at H; exact H
              clear H
              have H := H1
              clear H1
              have H' := Aside0.mk H
              clear H
              go_wp2
              go_meet
              case rel => exact ⟨_, H', ⟨by have := HJ7.out; first | omega | exact Nat.le_refl _⟩, ⟨by repeat (first | (with_reducible first | exact HB.out | apply below_alloc | apply pw_below_drewN | apply below_drew1) | exact HB.out)⟩⟩
          case rest =>
            clear HC14
            try clear c1
            try clear c2
            try clear p2
            try clear c3
            try clear c4
            try clear p6
            try clear c8
            try clear c12
            try clear c12b0
            try clear c12b1
            try clear c12b2
            try clear c13
            try clear c15
            try clear c16
            try clear c16b0
            try clear c16b1
            try clear c16b2
            try clear c17
            try clear c17b0
            try clear c17b1
            try clear c17b2
            try clear c19
            try clear c20
            try clear c20b0
            try clear c20b1
            try clear c21
            try clear c21b0
            try clear c21b1
            try clear p2
            obtain ⟨kq, HA, HJ13, HB⟩ := hcut
            cases kq with
            | zero => exact absurd HA.out (by simp [laws_FnNumbers.j1])
            | succ kj13 =>
              have H := HA.out
              clear HA
              simp only [laws_FnNumbers.j1] at H
              replace H := Option.bind_eq_some_iff.mp H
              obtain ⟨⟨t261, t262⟩, A220, H⟩ := H
              replace H : ((impl_ReadNum.f kj13 t261 t262).bind fun bt263 => ((spec_ReadNum.f kj13 t261 t262).bind fun bt266 => ((spec_DrawFoldSign.f l1).bind fun t269 => ((impl_FoldSign.f t269).bind fun bt270 => ((spec_FoldSign.f t269).bind fun bt272 => ((spec_DrawOpenSign.f l1).bind fun t274 => ((impl_OpenSign.f t274).bind fun bt275 => ((spec_OpenSign.f t274).bind fun bt277 => (if (bt263.2.2 != bt266.2.2) = true then (laws_FnNumbers.j2 kj13 t269 bt270.1 bt270.2 true) else (if bt263.1 = bt266.1 then (if bt263.2.1 = bt266.2.1 then (if (bt270.2 != bt272.2) = true then (laws_FnNumbers.j2 kj13 t269 bt270.1 bt270.2 true) else (if bt270.1 = bt272.1 then (if (bt275.2 != bt277.2) = true then (laws_FnNumbers.j2 kj13 t269 bt270.1 bt270.2 true) else (laws_FnNumbers.j2 kj13 t269 bt270.1 bt270.2 (bt275.1 != bt277.1))) else (laws_FnNumbers.j2 kj13 t269 bt270.1 bt270.2 true))) else (laws_FnNumbers.j2 kj13 t269 bt270.1 bt270.2 true)) else (laws_FnNumbers.j2 kj13 t269 bt270.1 bt270.2 true))))))))))) = some r := H
              have A22 := Aside0.mk A220
              clear A220
              replace H := Option.bind_eq_some_iff.mp H
              obtain ⟨⟨t263, t264, t265⟩, A230, H⟩ := H
              replace H : ((spec_ReadNum.f kj13 t261 t262).bind fun bt266 => ((spec_DrawFoldSign.f l1).bind fun t269 => ((impl_FoldSign.f t269).bind fun bt270 => ((spec_FoldSign.f t269).bind fun bt272 => ((spec_DrawOpenSign.f l1).bind fun t274 => ((impl_OpenSign.f t274).bind fun bt275 => ((spec_OpenSign.f t274).bind fun bt277 => (if (t265 != bt266.2.2) = true then (laws_FnNumbers.j2 kj13 t269 bt270.1 bt270.2 true) else (if t263 = bt266.1 then (if t264 = bt266.2.1 then (if (bt270.2 != bt272.2) = true then (laws_FnNumbers.j2 kj13 t269 bt270.1 bt270.2 true) else (if bt270.1 = bt272.1 then (if (bt275.2 != bt277.2) = true then (laws_FnNumbers.j2 kj13 t269 bt270.1 bt270.2 true) else (laws_FnNumbers.j2 kj13 t269 bt270.1 bt270.2 (bt275.1 != bt277.1))) else (laws_FnNumbers.j2 kj13 t269 bt270.1 bt270.2 true))) else (laws_FnNumbers.j2 kj13 t269 bt270.1 bt270.2 true)) else (laws_FnNumbers.j2 kj13 t269 bt270.1 bt270.2 true)))))))))) = some r := H
              have A23 := Aside0.mk A230
              clear A230
              replace H := Option.bind_eq_some_iff.mp H
              obtain ⟨⟨t266, t267, t268⟩, A240, H⟩ := H
              replace H : ((spec_DrawFoldSign.f l1).bind fun t269 => ((impl_FoldSign.f t269).bind fun bt270 => ((spec_FoldSign.f t269).bind fun bt272 => ((spec_DrawOpenSign.f l1).bind fun t274 => ((impl_OpenSign.f t274).bind fun bt275 => ((spec_OpenSign.f t274).bind fun bt277 => (if (t265 != t268) = true then (laws_FnNumbers.j2 kj13 t269 bt270.1 bt270.2 true) else (if t263 = t266 then (if t264 = t267 then (if (bt270.2 != bt272.2) = true then (laws_FnNumbers.j2 kj13 t269 bt270.1 bt270.2 true) else (if bt270.1 = bt272.1 then (if (bt275.2 != bt277.2) = true then (laws_FnNumbers.j2 kj13 t269 bt270.1 bt270.2 true) else (laws_FnNumbers.j2 kj13 t269 bt270.1 bt270.2 (bt275.1 != bt277.1))) else (laws_FnNumbers.j2 kj13 t269 bt270.1 bt270.2 true))) else (laws_FnNumbers.j2 kj13 t269 bt270.1 bt270.2 true)) else (laws_FnNumbers.j2 kj13 t269 bt270.1 bt270.2 true))))))))) = some r := H
              have A24 := Aside0.mk A240
              clear A240
              replace H := Option.bind_eq_some_iff.mp H
              obtain ⟨t269, A250, H⟩ := H
              replace H : ((impl_FoldSign.f t269).bind fun bt270 => ((spec_FoldSign.f t269).bind fun bt272 => ((spec_DrawOpenSign.f l1).bind fun t274 => ((impl_OpenSign.f t274).bind fun bt275 => ((spec_OpenSign.f t274).bind fun bt277 => (if (t265 != t268) = true then (laws_FnNumbers.j2 kj13 t269 bt270.1 bt270.2 true) else (if t263 = t266 then (if t264 = t267 then (if (bt270.2 != bt272.2) = true then (laws_FnNumbers.j2 kj13 t269 bt270.1 bt270.2 true) else (if bt270.1 = bt272.1 then (if (bt275.2 != bt277.2) = true then (laws_FnNumbers.j2 kj13 t269 bt270.1 bt270.2 true) else (laws_FnNumbers.j2 kj13 t269 bt270.1 bt270.2 (bt275.1 != bt277.1))) else (laws_FnNumbers.j2 kj13 t269 bt270.1 bt270.2 true))) else (laws_FnNumbers.j2 kj13 t269 bt270.1 bt270.2 true)) else (laws_FnNumbers.j2 kj13 t269 bt270.1 bt270.2 true)))))))) = some r := H
              have A25 := Aside0.mk A250
              clear A250
              replace H := Option.bind_eq_some_iff.mp H
              obtain ⟨⟨t270, t271⟩, A260, H⟩ := H
              replace H : ((spec_FoldSign.f t269).bind fun bt272 => ((spec_DrawOpenSign.f l1).bind fun t274 => ((impl_OpenSign.f t274).bind fun bt275 => ((spec_OpenSign.f t274).bind fun bt277 => (if (t265 != t268) = true then (laws_FnNumbers.j2 kj13 t269 t270 t271 true) else (if t263 = t266 then (if t264 = t267 then (if (t271 != bt272.2) = true then (laws_FnNumbers.j2 kj13 t269 t270 t271 true) else (if t270 = bt272.1 then (if (bt275.2 != bt277.2) = true then (laws_FnNumbers.j2 kj13 t269 t270 t271 true) else (laws_FnNumbers.j2 kj13 t269 t270 t271 (bt275.1 != bt277.1))) else (laws_FnNumbers.j2 kj13 t269 t270 t271 true))) else (laws_FnNumbers.j2 kj13 t269 t270 t271 true)) else (laws_FnNumbers.j2 kj13 t269 t270 t271 true))))))) = some r := H
              have A26 := Aside0.mk A260
              clear A260
              replace H := Option.bind_eq_some_iff.mp H
              obtain ⟨⟨t272, t273⟩, A270, H⟩ := H
              replace H : ((spec_DrawOpenSign.f l1).bind fun t274 => ((impl_OpenSign.f t274).bind fun bt275 => ((spec_OpenSign.f t274).bind fun bt277 => (if (t265 != t268) = true then (laws_FnNumbers.j2 kj13 t269 t270 t271 true) else (if t263 = t266 then (if t264 = t267 then (if (t271 != t273) = true then (laws_FnNumbers.j2 kj13 t269 t270 t271 true) else (if t270 = t272 then (if (bt275.2 != bt277.2) = true then (laws_FnNumbers.j2 kj13 t269 t270 t271 true) else (laws_FnNumbers.j2 kj13 t269 t270 t271 (bt275.1 != bt277.1))) else (laws_FnNumbers.j2 kj13 t269 t270 t271 true))) else (laws_FnNumbers.j2 kj13 t269 t270 t271 true)) else (laws_FnNumbers.j2 kj13 t269 t270 t271 true)))))) = some r := H
              have A27 := Aside0.mk A270
              clear A270
              replace H := Option.bind_eq_some_iff.mp H
              obtain ⟨t274, A280, H⟩ := H
              replace H : ((impl_OpenSign.f t274).bind fun bt275 => ((spec_OpenSign.f t274).bind fun bt277 => (if (t265 != t268) = true then (laws_FnNumbers.j2 kj13 t269 t270 t271 true) else (if t263 = t266 then (if t264 = t267 then (if (t271 != t273) = true then (laws_FnNumbers.j2 kj13 t269 t270 t271 true) else (if t270 = t272 then (if (bt275.2 != bt277.2) = true then (laws_FnNumbers.j2 kj13 t269 t270 t271 true) else (laws_FnNumbers.j2 kj13 t269 t270 t271 (bt275.1 != bt277.1))) else (laws_FnNumbers.j2 kj13 t269 t270 t271 true))) else (laws_FnNumbers.j2 kj13 t269 t270 t271 true)) else (laws_FnNumbers.j2 kj13 t269 t270 t271 true))))) = some r := H
              have A28 := Aside0.mk A280
              clear A280
              replace H := Option.bind_eq_some_iff.mp H
              obtain ⟨⟨t275, t276⟩, A290, H⟩ := H
              replace H : ((spec_OpenSign.f t274).bind fun bt277 => (if (t265 != t268) = true then (laws_FnNumbers.j2 kj13 t269 t270 t271 true) else (if t263 = t266 then (if t264 = t267 then (if (t271 != t273) = true then (laws_FnNumbers.j2 kj13 t269 t270 t271 true) else (if t270 = t272 then (if (t276 != bt277.2) = true then (laws_FnNumbers.j2 kj13 t269 t270 t271 true) else (laws_FnNumbers.j2 kj13 t269 t270 t271 (t275 != bt277.1))) else (laws_FnNumbers.j2 kj13 t269 t270 t271 true))) else (laws_FnNumbers.j2 kj13 t269 t270 t271 true)) else (laws_FnNumbers.j2 kj13 t269 t270 t271 true)))) = some r := H
              have A29 := Aside0.mk A290
              clear A290
              replace H := Option.bind_eq_some_iff.mp H
              obtain ⟨⟨t277, t278⟩, A300, H⟩ := H
              replace H : (if (t265 != t268) = true then (laws_FnNumbers.j2 kj13 t269 t270 t271 true) else (if t263 = t266 then (if t264 = t267 then (if (t271 != t273) = true then (laws_FnNumbers.j2 kj13 t269 t270 t271 true) else (if t270 = t272 then (if (t276 != t278) = true then (laws_FnNumbers.j2 kj13 t269 t270 t271 true) else (laws_FnNumbers.j2 kj13 t269 t270 t271 (t275 != t277))) else (laws_FnNumbers.j2 kj13 t269 t270 t271 true))) else (laws_FnNumbers.j2 kj13 t269 t270 t271 true)) else (laws_FnNumbers.j2 kj13 t269 t270 t271 true))) = some r := H
              have A30 := Aside0.mk A300
              clear A300
              have HC31 := Aside0.mk H
              clear H
              go_upto_region 21 with (first | ((with_reducible refine gate_callee (f := 41) rfl ?_); refine goesL_ (some 81) rfl rfl Try.func41 (by kernel_rfl) rfl #[.slice A1 l1.length c1] rfl (by (try simp only [List.map_toArray, List.map_cons, List.map_nil]); first | done | rfl | (simp only [List.length_drop, List.length_take]; rfl)) ?_; (with_reducible refine (spec_DrawReadNum.calls kj13 _ _ l1 t261 t262 _ ?side1 ?side2 A22.out).mono ?_); (case side1 => repeat (first | exact (Kd.C_below HR1.out HB.out) | (with_reducible refine Kd.C_alloc ?_ _) | (with_reducible refine Kd.C_drewN ?_ _) | (with_reducible refine Kd.C_drew ?_))); (case side2 => exact HC1.out); rintro e w32 ⟨rfl, hb⟩; refine ⟨_, rfl, ?_⟩; have n0_ := Aside0.mk (below_step (by repeat (first | (with_reducible first | exact HB.out | apply below_alloc | apply pw_below_drewN | apply below_drew1) | exact HB.out)) hb); clear HB; have HB := n0_; clear n0_; (try clear hb); (try clear hb2); (try clear hk); (try clear hi)) | ((with_reducible refine gate_callee (f := 21) rfl ?_); refine goesL_ (some 87) rfl rfl Try.func21 (by kernel_rfl) rfl #[.string t261, .int .i64 t262] rfl (by (try simp only [List.map_toArray, List.map_cons, List.map_nil]); first | done | rfl | (simp only [List.length_drop, List.length_take]; rfl)) ?_; (with_reducible refine (impl_ReadNum.calls kj13 t261 t262 t263 t264 t265 _ A23.out).mono ?_); rintro e w' ⟨rfl, ⟨nd, rfl⟩⟩; refine ⟨_, rfl, ?_⟩) | ((with_reducible refine gate_callee (f := 20) rfl ?_); refine goesL_ (some 94) rfl rfl Try.func20 (by kernel_rfl) rfl #[.string t261, .int .i64 t262] rfl (by (try simp only [List.map_toArray, List.map_cons, List.map_nil]); first | done | rfl | (simp only [List.length_drop, List.length_take]; rfl)) ?_; (with_reducible refine (spec_ReadNum.calls kj13 t261 t262 t266 t267 t268 _ A24.out).mono ?_); rintro e w33 ⟨rfl, hb⟩; refine ⟨_, rfl, ?_⟩; have n0_ := Aside0.mk (below_step (by repeat (first | (with_reducible first | exact HB.out | apply below_alloc | apply pw_below_drewN | apply below_drew1) | exact HB.out)) hb); clear HB; have HB := n0_; clear n0_; (try clear hb); (try clear hb2); (try clear hk); (try clear hi)) | ((with_reducible refine gate_callee (f := 42) rfl ?_); refine goesL_ (some 99) rfl rfl Try.func42 (by kernel_rfl) rfl #[.slice A1 l1.length c1] rfl (by (try simp only [List.map_toArray, List.map_cons, List.map_nil]); first | done | rfl | (simp only [List.length_drop, List.length_take]; rfl)) ?_; (with_reducible refine (spec_DrawFoldSign.calls _ _ l1 t269 _ ?side1 ?side2 A25.out).mono ?_); (case side1 => repeat (first | exact (Kd.C_below HR1.out HB.out) | (with_reducible refine Kd.C_alloc ?_ _) | (with_reducible refine Kd.C_drewN ?_ _) | (with_reducible refine Kd.C_drew ?_))); (case side2 => exact HC1.out); rintro e w34 ⟨rfl, hb⟩; refine ⟨_, rfl, ?_⟩; have n0_ := Aside0.mk (below_step (by repeat (first | (with_reducible first | exact HB.out | apply below_alloc | apply pw_below_drewN | apply below_drew1) | exact HB.out)) hb); clear HB; have HB := n0_; clear n0_; (try clear hb); (try clear hb2); (try clear hk); (try clear hi)) | ((with_reducible refine gate_callee (f := 43) rfl ?_); refine goesL_ (some 102) rfl rfl Try.func43 (by kernel_rfl) rfl #[.int .i64 t269] rfl (by (try simp only [List.map_toArray, List.map_cons, List.map_nil]); first | done | rfl | (simp only [List.length_drop, List.length_take]; rfl)) ?_; (with_reducible refine (impl_FoldSign.calls t269 t270 t271 _ A26.out).mono ?_); rintro e w' ⟨rfl, ⟨nd, rfl⟩⟩; refine ⟨_, rfl, ?_⟩) | ((with_reducible refine gate_callee (f := 44) rfl ?_); refine goesL_ (some 107) rfl rfl Try.func44 (by kernel_rfl) rfl #[.int .i64 t269] rfl (by (try simp only [List.map_toArray, List.map_cons, List.map_nil]); first | done | rfl | (simp only [List.length_drop, List.length_take]; rfl)) ?_; (with_reducible refine (spec_FoldSign.calls t269 t272 t273 _ A27.out).mono ?_); rintro e w' ⟨rfl, ⟨nd, rfl⟩⟩; refine ⟨_, rfl, ?_⟩) | ((with_reducible refine gate_callee (f := 45) rfl ?_); refine goesL_ (some 111) rfl rfl Try.func45 (by kernel_rfl) rfl #[.slice A1 l1.length c1] rfl (by (try simp only [List.map_toArray, List.map_cons, List.map_nil]); first | done | rfl | (simp only [List.length_drop, List.length_take]; rfl)) ?_; (with_reducible refine (spec_DrawOpenSign.calls _ _ l1 t274 _ ?side1 ?side2 A28.out).mono ?_); (case side1 => repeat (first | exact (Kd.C_below HR1.out (by repeat (first | (with_reducible first | exact HB.out | apply below_alloc | apply pw_below_drewN | apply below_drew1) | exact HB.out))) | (with_reducible refine Kd.C_alloc ?_ _) | (with_reducible refine Kd.C_drewN ?_ _) | (with_reducible refine Kd.C_drew ?_))); (case side2 => exact HC1.out); rintro e w35 ⟨rfl, hb⟩; refine ⟨_, rfl, ?_⟩; have n0_ := Aside0.mk (below_step (by repeat (first | (with_reducible first | exact HB.out | apply below_alloc | apply pw_below_drewN | apply below_drew1) | exact HB.out)) hb); clear HB; have HB := n0_; clear n0_; (try clear hb); (try clear hb2); (try clear hk); (try clear hi)) | ((with_reducible refine gate_callee (f := 46) rfl ?_); refine goesL_ (some 114) rfl rfl Try.func46 (by kernel_rfl) rfl #[.int .i64 t274] rfl (by (try simp only [List.map_toArray, List.map_cons, List.map_nil]); first | done | rfl | (simp only [List.length_drop, List.length_take]; rfl)) ?_; (with_reducible refine (impl_OpenSign.calls t274 t275 t276 _ A29.out).mono ?_); rintro e w' ⟨rfl, ⟨nd, rfl⟩⟩; refine ⟨_, rfl, ?_⟩) | ((with_reducible refine gate_callee (f := 47) rfl ?_); refine goesL_ (some 119) rfl rfl Try.func47 (by kernel_rfl) rfl #[.int .i64 t274] rfl (by (try simp only [List.map_toArray, List.map_cons, List.map_nil]); first | done | rfl | (simp only [List.length_drop, List.length_take]; rfl)) ?_; (with_reducible refine (spec_OpenSign.calls t274 t277 t278 _ A30.out).mono ?_); rintro e w' ⟨rfl, ⟨nd, rfl⟩⟩; refine ⟨_, rfl, ?_⟩))
              (try simp only [Act.put, List.setIfInBounds_toArray, List.set_cons_zero, List.set_cons_succ])
              go_cut [154] (fun v154 wc => ∃ (kq : Nat) (x154_30 : Bool), v154 = .bool x154_30 ∧ Aside0 (laws_FnNumbers.j2 kq t269 t270 t271 x154_30 = some r) ∧ Aside0 (kq ≤ kj13) ∧ Aside0 (Below w.heap.size w wc))
              case first =>
                have H := HC31.out
                clear HC31
                by_cases c36 : (t265 != t268) = true
                · rw [if_pos c36] at H
                  have c36b0 : (t265 != t268) = true := c36
                  (try (have c36b1 : decide (t265 = t268) = false := by simpa using c36))
                  (try (have c36b2 : (t265 == t268) = false := by simpa using c36))
                  (try (have c36b3 : ¬ (t265 = t268) := by simpa using c36))
                  clear c36
                  (first | rw [c36b0] | (simp only [i64_w, i32_w]; rw [c36b0]) | skip)
                  have H' := Aside0.mk H
                  clear H
                  go_wp2
                  go_meet
                  case rel => exact ⟨_, (true), (by first | rfl | (simp; done) | (simp [*]; done)), H', ⟨by have := HJ7.out; have := HJ13.out; first | omega | exact Nat.le_refl _⟩, ⟨by repeat (first | (with_reducible first | exact HB.out | apply below_alloc | apply pw_below_drewN | apply below_drew1) | exact HB.out)⟩⟩
                · rw [if_neg c36] at H
                  have c36b0 : (t265 != t268) = false := by simpa using c36
                  (try (have c36b1 : decide (t265 = t268) = true := by simpa using c36))
                  (try (have c36b2 : (t265 == t268) = true := by simpa using c36))
                  clear c36
                  (first | rw [c36b0] | (simp only [i64_w, i32_w]; rw [c36b0]) | skip)
                  by_cases c37 : t263 = t266
                  · rw [if_pos c37] at H
                    have c37b0 : (t263 == t266) = true := beq_iff_eq.mpr c37
                    have c37b1 : (t263 != t266) = false := bne_eq_false_iff_eq.mpr c37
                    clear c37
                    by_cases c38 : t264 = t267
                    · rw [if_pos c38] at H
                      have c38b0 : (t264 == t267) = true := beq_iff_eq.mpr c38
                      have c38b1 : (t264 != t267) = false := bne_eq_false_iff_eq.mpr c38
                      clear c38
                      by_cases c39 : (t271 != t273) = true
                      · rw [if_pos c39] at H
                        have c39b0 : (t271 != t273) = true := c39
                        (try (have c39b1 : decide (t271 = t273) = false := by simpa using c39))
                        (try (have c39b2 : (t271 == t273) = false := by simpa using c39))
                        (try (have c39b3 : ¬ (t271 = t273) := by simpa using c39))
                        clear c39
                        have H' := Aside0.mk H
                        clear H
                        go_wp2
                        go_meet
                        case rel => exact ⟨_, (true), (by first | rfl | (simp; done) | (simp [*]; done)), H', ⟨by have := HJ7.out; have := HJ13.out; first | omega | exact Nat.le_refl _⟩, ⟨by repeat (first | (with_reducible first | exact HB.out | apply below_alloc | apply pw_below_drewN | apply below_drew1) | exact HB.out)⟩⟩
                      · rw [if_neg c39] at H
                        have c39b0 : (t271 != t273) = false := by simpa using c39
                        (try (have c39b1 : decide (t271 = t273) = true := by simpa using c39))
                        (try (have c39b2 : (t271 == t273) = true := by simpa using c39))
                        clear c39
                        by_cases c40 : t270 = t272
                        · rw [if_pos c40] at H
                          have c40b0 : (t270 == t272) = true := beq_iff_eq.mpr c40
                          have c40b1 : (t270 != t272) = false := bne_eq_false_iff_eq.mpr c40
                          clear c40
                          by_cases c41 : (t276 != t278) = true
                          · rw [if_pos c41] at H
                            have c41b0 : (t276 != t278) = true := c41
                            (try (have c41b1 : decide (t276 = t278) = false := by simpa using c41))
                            (try (have c41b2 : (t276 == t278) = false := by simpa using c41))
                            (try (have c41b3 : ¬ (t276 = t278) := by simpa using c41))
                            clear c41
                            have H' := Aside0.mk H
                            clear H
                            go_wp2
                            go_meet
                            case rel => exact ⟨_, (true), (by first | rfl | (simp; done) | (simp [*]; done)), H', ⟨by have := HJ7.out; have := HJ13.out; first | omega | exact Nat.le_refl _⟩, ⟨by repeat (first | (with_reducible first | exact HB.out | apply below_alloc | apply pw_below_drewN | apply below_drew1) | exact HB.out)⟩⟩
                          · rw [if_neg c41] at H
                            have c41b0 : (t276 != t278) = false := by simpa using c41
                            (try (have c41b1 : decide (t276 = t278) = true := by simpa using c41))
                            (try (have c41b2 : (t276 == t278) = true := by simpa using c41))
                            clear c41
                            have H' := Aside0.mk H
                            clear H
                            go_wp2
                            go_meet
                            case rel => exact ⟨_, ((t275 != t277)), (by first | rfl | (simp; done) | (simp [*]; done)), H', ⟨by have := HJ7.out; have := HJ13.out; first | omega | exact Nat.le_refl _⟩, ⟨by repeat (first | (with_reducible first | exact HB.out | apply below_alloc | apply pw_below_drewN | apply below_drew1) | exact HB.out)⟩⟩
                        · rw [if_neg c40] at H
                          have c40b0 : (t270 == t272) = false := beq_eq_false_iff_ne.mpr c40
                          have c40b1 : (t270 != t272) = true := bne_iff_ne.mpr c40
                          have H' := Aside0.mk H
                          clear H
                          go_wp2
                          go_meet
                          case rel => exact ⟨_, (true), (by first | rfl | (simp; done) | (simp [*]; done)), H', ⟨by have := HJ7.out; have := HJ13.out; first | omega | exact Nat.le_refl _⟩, ⟨by repeat (first | (with_reducible first | exact HB.out | apply below_alloc | apply pw_below_drewN | apply below_drew1) | exact HB.out)⟩⟩
                    · rw [if_neg c38] at H
                      have c38b0 : (t264 == t267) = false := beq_eq_false_iff_ne.mpr c38
                      have c38b1 : (t264 != t267) = true := bne_iff_ne.mpr c38
                      have H' := Aside0.mk H
                      clear H
                      go_wp2
                      go_meet
                      case rel => exact ⟨_, (true), (by first | rfl | (simp; done) | (simp [*]; done)), H', ⟨by have := HJ7.out; have := HJ13.out; first | omega | exact Nat.le_refl _⟩, ⟨by repeat (first | (with_reducible first | exact HB.out | apply below_alloc | apply pw_below_drewN | apply below_drew1) | exact HB.out)⟩⟩
                  · rw [if_neg c37] at H
                    have c37b0 : (t263 == t266) = false := beq_eq_false_iff_ne.mpr c37
                    have c37b1 : (t263 != t266) = true := bne_iff_ne.mpr c37
                    have H' := Aside0.mk H
                    clear H
                    go_wp2
                    go_meet
                    case rel => exact ⟨_, (true), (by first | rfl | (simp; done) | (simp [*]; done)), H', ⟨by have := HJ7.out; have := HJ13.out; first | omega | exact Nat.le_refl _⟩, ⟨by repeat (first | (with_reducible first | exact HB.out | apply below_alloc | apply pw_below_drewN | apply below_drew1) | exact HB.out)⟩⟩
              case rest =>
                clear HC31
                try clear c1
                try clear c2
                try clear p2
                try clear c3
                try clear c4
                try clear p6
                try clear c8
                try clear c12
                try clear c12b0
                try clear c12b1
                try clear c12b2
                try clear c13
                try clear c15
                try clear c16
                try clear c16b0
                try clear c16b1
                try clear c16b2
                try clear c17
                try clear c17b0
                try clear c17b1
                try clear c17b2
                try clear c19
                try clear c20
                try clear c20b0
                try clear c20b1
                try clear c21
                try clear c21b0
                try clear c21b1
                try clear c36
                try clear c36b0
                try clear c36b1
                try clear c36b2
                try clear c37
                try clear c37b0
                try clear c37b1
                try clear c38
                try clear c38b0
                try clear c38b1
                try clear c39
                try clear c39b0
                try clear c39b1
                try clear c39b2
                try clear c40
                try clear c40b0
                try clear c40b1
                try clear c41
                try clear c41b0
                try clear c41b1
                try clear c41b2
                try clear p2
                try clear p6
                obtain ⟨kq, x154_30, rfl, HA, HJ30, HB⟩ := hcut
                cases kq with
                | zero => exact absurd HA.out (by simp [laws_FnNumbers.j2])
                | succ kj30 =>
                  have H := HA.out
                  clear HA
                  simp only [laws_FnNumbers.j2] at H
                  by_cases c42 : x154_30 = true
                  · subst c42
                    have H1 : (some false) = some r := by rw [if_pos rfl] at H; exact H
                    clear H
                    have H := H1
                    clear H1
                    obtain rfl := Option.some.inj H
                    go_wp2
                    go_ret
                    exact ⟨by first | rfl | (simp [errW_none, errW_some] <;> rfl) | (simp [*, errW_none, errW_some] <;> rfl), by repeat (first | (with_reducible first | exact HB.out | apply below_alloc | apply pw_below_drewN | apply below_drew1) | exact HB.out)⟩
                  · replace c42 := Bool.eq_false_iff.mpr c42
                    subst c42
                    have H1 : (if t271 = true then ((impl_OpenSign.f t270).bind fun bt279 => (if bt279.2 = true then (if bt279.1 = t269 then (some (decide (t270 ≥ 0))) else (some false)) else (some false))) else (some true)) = some r := by rw [if_neg (show ¬ (false = true) by decide)] at H; exact H
                    clear H
                    have H := H1
                    clear H1
                    by_cases c43 : t271 = true
                    · subst c43
                      have H1 : ((impl_OpenSign.f t270).bind fun bt279 => (if bt279.2 = true then (if bt279.1 = t269 then (some (decide (t270 ≥ 0))) else (some false)) else (some false))) = some r := by rw [if_pos rfl] at H; exact H
                      clear H
                      have H := H1
                      clear H1
                      replace H := Option.bind_eq_some_iff.mp H
                      obtain ⟨⟨t279, t280⟩, A440, H⟩ := H
                      replace H : (if t280 = true then (if t279 = t269 then (some (decide (t270 ≥ 0))) else (some false)) else (some false)) = some r := H
                      have A44 := Aside0.mk A440
                      clear A440
                      by_cases c45 : t280 = true
                      · subst c45
                        have H1 : (if t279 = t269 then (some (decide (t270 ≥ 0))) else (some false)) = some r := by rw [if_pos rfl] at H; exact H
                        clear H
                        have H := H1
                        clear H1
                        by_cases c46 : t279 = t269
                        · rw [if_pos c46] at H
                          have c46b0 : (t279 == t269) = true := beq_iff_eq.mpr c46
                          have c46b1 : (t279 != t269) = false := bne_eq_false_iff_eq.mpr c46
                          clear c46
                          obtain rfl := Option.some.inj H
                          go_wp2_with (first | ((with_reducible refine gate_callee (f := 46) rfl ?_); refine goesL_ (some 158) rfl rfl Try.func46 (by kernel_rfl) rfl #[.int .i64 t270] rfl (by (try simp only [List.map_toArray, List.map_cons, List.map_nil]); first | done | rfl | (simp only [List.length_drop, List.length_take]; rfl)) ?_; (with_reducible refine (impl_OpenSign.calls t270 t279 true _ A44.out).mono ?_); rintro e w' ⟨rfl, ⟨nd, rfl⟩⟩; refine ⟨_, rfl, ?_⟩))
                          go_ret
                          exact ⟨by first | rfl | (simp [errW_none, errW_some] <;> rfl) | (simp [*, errW_none, errW_some] <;> rfl), by repeat (first | (with_reducible first | exact HB.out | apply below_alloc | apply pw_below_drewN | apply below_drew1) | exact HB.out)⟩
                        · rw [if_neg c46] at H
                          have c46b0 : (t279 == t269) = false := beq_eq_false_iff_ne.mpr c46
                          have c46b1 : (t279 != t269) = true := bne_iff_ne.mpr c46
                          obtain rfl := Option.some.inj H
                          go_wp2_with (first | ((with_reducible refine gate_callee (f := 46) rfl ?_); refine goesL_ (some 158) rfl rfl Try.func46 (by kernel_rfl) rfl #[.int .i64 t270] rfl (by (try simp only [List.map_toArray, List.map_cons, List.map_nil]); first | done | rfl | (simp only [List.length_drop, List.length_take]; rfl)) ?_; (with_reducible refine (impl_OpenSign.calls t270 t279 true _ A44.out).mono ?_); rintro e w' ⟨rfl, ⟨nd, rfl⟩⟩; refine ⟨_, rfl, ?_⟩))
                          go_ret
                          exact ⟨by first | rfl | (simp [errW_none, errW_some] <;> rfl) | (simp [*, errW_none, errW_some] <;> rfl), by repeat (first | (with_reducible first | exact HB.out | apply below_alloc | apply pw_below_drewN | apply below_drew1) | exact HB.out)⟩
                      · replace c45 := Bool.eq_false_iff.mpr c45
                        subst c45
                        have H1 : (some false) = some r := by rw [if_neg (show ¬ (false = true) by decide)] at H; exact H
                        clear H
                        have H := H1
                        clear H1
                        obtain rfl := Option.some.inj H
                        go_wp2_with (first | ((with_reducible refine gate_callee (f := 46) rfl ?_); refine goesL_ (some 158) rfl rfl Try.func46 (by kernel_rfl) rfl #[.int .i64 t270] rfl (by (try simp only [List.map_toArray, List.map_cons, List.map_nil]); first | done | rfl | (simp only [List.length_drop, List.length_take]; rfl)) ?_; (with_reducible refine (impl_OpenSign.calls t270 t279 false _ A44.out).mono ?_); rintro e w' ⟨rfl, ⟨nd, rfl⟩⟩; refine ⟨_, rfl, ?_⟩))
                        go_ret
                        exact ⟨by first | rfl | (simp [errW_none, errW_some] <;> rfl) | (simp [*, errW_none, errW_some] <;> rfl), by repeat (first | (with_reducible first | exact HB.out | apply below_alloc | apply pw_below_drewN | apply below_drew1) | exact HB.out)⟩
                    · replace c43 := Bool.eq_false_iff.mpr c43
                      subst c43
                      have H1 : (some true) = some r := by rw [if_neg (show ¬ (false = true) by decide)] at H; exact H
                      clear H
                      have H := H1
                      clear H1
                      obtain rfl := Option.some.inj H
                      go_wp2
                      go_ret
                      exact ⟨by first | rfl | (simp [errW_none, errW_some] <;> rfl) | (simp [*, errW_none, errW_some] <;> rfl), by repeat (first | (with_reducible first | exact HB.out | apply below_alloc | apply pw_below_drewN | apply below_drew1) | exact HB.out)⟩

/-- THE ONE PURE STATEMENT of laws_FnNumbers: yours. -/
def laws_FnNumbers.Pure : Prop := ∀ (l0 : List Int) (l1 : List Int), l0.length ≤ maxLen → l0.length * 1 ≤ 140737488351232 → (∀ x ∈ l0, (Lit.int .u8 x).wf = true) → l1.length ≤ maxLen → l1.length * 1 ≤ 140737488351232 → (∀ x ∈ l1, (Lit.int .u8 x).wf = true) → ∃ k, laws_FnNumbers.f k l0 l1 = some true
theorem laws_FnNumbers.walk (P : laws_FnNumbers.Pure) (a0 : Option Addr) (len0 cap0 : Nat) (z0 : List Int) (a1 : Option Addr) (len1 cap1 : Nat) (z1 : List Int) (w : World) (w0 : (a0 = none ∧ len0 = 0 ∧ cap0 = 0 ∧ z0 = []) ∨ ∃ x, a0 = some x ∧ len0 ≤ cap0 ∧ cap0 ≤ maxLen ∧ z0.length = cap0 ∧ (∀ i, i < z0.length → w.cell? (x.add i) = some (.int .u8 (z0.getD i 0))) ∧ ∀ n ∈ z0, (Lit.int .u8 n).wf = true) (y0 : len0 * 1 ≤ 140737488351232) (w1 : (a1 = none ∧ len1 = 0 ∧ cap1 = 0 ∧ z1 = []) ∨ ∃ x, a1 = some x ∧ len1 ≤ cap1 ∧ cap1 ≤ maxLen ∧ z1.length = cap1 ∧ (∀ i, i < z1.length → w.cell? (x.add i) = some (.int .u8 (z1.getD i 0))) ∧ ∀ n ∈ z1, (Lit.int .u8 n).wf = true) (y1 : len1 * 1 ≤ 140737488351232) :
    Calls Try.prog 8 #[.slice a0 len0 cap0, .slice a1 len1 cap1] w fun e w' => e = .returned (.bool true) ∧ Below w.heap.size w w' := by
  obtain ⟨l0, rfl, hr0, hm0, hw0, hc0⟩ := ReadsInt.ofRowC w0
  obtain ⟨l1, rfl, hr1, hm1, hw1, hc1⟩ := ReadsInt.ofRowC w1
  obtain ⟨k, h⟩ := P l0 l1 hm0 y0 hw0 hm1 y1 hw1
  refine (laws_FnNumbers.calls k _ _ l0 _ _ l1 true w (Kd.C_of_reads (d := (0 : Int)) (h1 := fun _ => rfl) hr0) hc0 (Kd.C_of_reads (d := (0 : Int)) (h1 := fun _ => rfl) hr1) hc1 h).mono ?_
  rintro e w' ⟨rfl, hd⟩
  exact ⟨rfl, hd⟩

end Go.Proofs.Ytdphgdlkchajoaa.PFnNumbers
