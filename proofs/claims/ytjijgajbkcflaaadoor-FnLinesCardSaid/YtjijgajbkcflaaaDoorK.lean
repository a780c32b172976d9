/- Each single operation of the abstract machine does what the Go operation does (slices made and grown). -/
import Derived.Test.YtjijgajbkcflaaaDoorJ
set_option autoImplicit false
set_option linter.unusedVariables false
set_option linter.unusedSimpArgs false
namespace Go.Proofs.YtjijgajbkcflaaaDoor.Den
open Classical

section
variable {P : Program} {A : Nat → Prop} {w0 : Start} {e : Env} {h : Hp} {w : World}

theorem Mem.fun_eq {h' : Hp} (m : Mem A w0 e h w) (hh : ∀ j, h j = h' j) : Mem A w0 e h' w := by
  have : h = h' := funext hh
  rwa [← this]

theorem unfz0 (n : Nat) : Unfz (0, 0) n := fun o _ h => by simp at h

theorem buildSlice_ok (m : Mem A w0 e h w) {n : Nat} {T : TypeId} {len : Nat} {vs : List (Nat × V)} {xs : Array (Nat × Value)} {eff : Eff} (hs : stBuildSlice P h n T len vs = some eff) (hf : ∀ p ∈ eff.wr, n ≤ p.1 → h p.1 = .none) (hv : RelPs e vs xs.toList) :
    ∃ y w' e', (Instr.buildSlice T len xs).run P w = .ok y w' ∧ Le e e' ∧ RelV e' eff.v y ∧ Mem A w0 e' (updW h eff.wr) w' := by
  unfold stBuildSlice at hs
  split at hs
  · rename_i E hu
    split at hs
    · rename_i t sz z ht hsz hz
      split at hs
      · rename_i hc
        obtain ⟨hc1, hc2, hc3, hc4⟩ := hc
        split at hs
        · rename_i cells hfill
          split at hs
          · rename_i l g hd
            split at hs
            · cases hs
            · rename_i hg
              cases hs
              have hn : h n = .none := hf (n, .arr t l) (by simp) (Nat.le_refl _)
              replace hg : n ∉ g := by simpa using hg
              obtain ⟨i, zv, hi, hzv, rfl, h1, hrun⟩ := zero_spec hz
              have hzs : zv.cells.size = sz := by simpa using hc3
              have hinit : RelCs e (zrow (zv.cells.toList.map absC) (len * sz)) ((Array.range (len * sz)).map (zv.cells[· % zv.cells.size]!)).toList := zrow_rel (absCs_rel e _ h1) (by omega) _
              have hplace : ∀ (i : Nat) (p : Nat × Nat), ((List.range len).map fun i => (i * sz, sz))[i]? = some p → (fun i => some (i * sz, sz) : Nat → Option (Nat × Nat)) i = some p := by
                intro i p hp
                rw [List.getElem?_map] at hp
                cases hq : (List.range len)[i]? with
                | none => rw [hq] at hp; cases hp
                | some j =>
                  rw [hq] at hp
                  have : i = j := by
                    by_cases hlt : i < len
                    · rw [List.getElem?_range hlt] at hq; simpa using hq
                    · rw [List.getElem?_eq_none (by simp; omega)] at hq; cases hq
                  subst this
                  simpa using hp
              obtain ⟨cs', hc1', hc2'⟩ := fill_ok hplace vs xs.toList _ cells _ hv hinit hfill
              obtain ⟨e1, e2, e3⟩ := decN_rel m t len cells l g _ hd hc2'
              have m1 := m.gave g
              have hn1 : updW h (deads g) n = .none := by rw [updW_deads, if_neg hg]; exact hn
              have hsize : cs'.size = len * t.size := by simpa using e2
              have m2 := m1.alloc (w' := w.alloc (.cells cs' E)) (L := .arr w.heap.size 0 t.size len l.length) (o := .arr t l) hn1 (Ext.alloc _ _) (fun b hb => by cases hb; exact Nat.le_refl _)
                (.inr ⟨w.heap.size, 0, len, cs', E, (0, 0), rfl, by omega, heap_alloc_new w _, unfz0 _, by omega, fun i hi => by show RelD (giveImm e w g) t l[i] _; rw [Nat.zero_add]; exact e3 i hi⟩)
              refine ⟨.slice (some ⟨w.heap.size, 0, none⟩) len len, w.alloc (.cells cs' E), _, ?_, (Le.gave m.sep g).trans (Le.at (loc_un m1.hp hn1)), ?_, m2.fun_eq (fun j => by rw [updW_append]; rfl)⟩
              · unfold Instr.buildSlice
                simp only [Sem.run_bind, run_underlying hu, Result.andThen_ok, run_size hsz]
                rw [if_neg (by simpa using hc4)]
                by_cases h0 : len * sz = 0
                · rw [if_pos h0]
                  rw [h0] at hc1'
                  simp only [show Array.range 0 = (#[] : Array Nat) from rfl, List.map_toArray, List.map_nil] at hc1'
                  simp only [Sem.run_bind, Sem.run_pure, Result.andThen_ok, h0, show Array.range 0 = (#[] : Array Nat) from rfl, List.map_toArray, List.map_nil, hc1']
                  rfl
                · rw [if_neg h0]
                  simp only [Sem.run_bind, Sem.run_pure, Result.andThen_ok, hrun, hc1']
                  rfl
              · simp only [RelV, RelC, atLoc, if_true]
                exact ⟨Nat.zero_le _, Nat.le_refl _, ⟨w.heap.size, 0, none⟩, by simp [e1], .inr (by simp)⟩
          · cases hs
        · cases hs
      · cases hs
    · cases hs
  · cases hs

theorem wrap_i64 {n : Int} (h1 : -9223372036854775808 ≤ n) (h2 : n < 9223372036854775808) : IntKind.i64.wrap n = n := by
  simp only [IntKind.wrap, IntKind.bits, IntKind.signed]
  simp
  omega

theorem window_map (zv : Array Value) (sz n i : Nat) (hz : zv.size = sz) (hi : i < n) : ((((Array.range (n * sz)).map (zv[· % zv.size]!)).toList.drop (i * sz)).take sz) = zv.toList := by
  apply List.ext_getElem?
  intro k
  rw [window_get]
  by_cases hk : k < sz
  · rw [if_pos hk]
    have hlt : i * sz + k < n * sz := by
      have : (i + 1) * sz ≤ n * sz := Nat.mul_le_mul_right _ (by omega)
      rw [Nat.add_mul, Nat.one_mul] at this; omega
    have : (i * sz + k) % zv.size = k := by rw [hz, Nat.mul_comm, Nat.mul_add_mod]; exact Nat.mod_eq_of_lt hk
    simp [hlt, this, Array.getElem!_eq_getD, Array.getD_eq_getD_getElem?, show k < zv.size by omega]
  · rw [if_neg hk]
    simp; omega

theorem decD_imm {t : Ty} {cells : List C} {x : t.D} {r : List C} {g : List Nat} (hs : Sep A e w) (hd : decD t cells (fun _ => .none) = some (x, r, g)) {vs : List Value} (hr : RelCs e cells vs) :
    g = [] ∧ ∃ v1 v2, vs = v1 ++ v2 ∧ RelD e.imm t x v1 ∧ RelCs e r v2 := by
  have hA : RelA e w (fun _ => O.none) := fun id t l h => by rcases h with h | h <;> cases h
  have hg : g = [] := by
    have key : ∀ (t : Ty) (cells : List C) (x : t.D) (r : List C) (g : List Nat), decD t cells (fun _ => .none) = some (x, r, g) → g = [] := by
      intro t
      induction t with
      | int k => intro cells x r g hd; cases cells with
        | nil => simp [decD] at hd
        | cons c cs =>
          cases c <;> simp only [decD] at hd <;> try (cases hd; done)
          split at hd <;> cases hd; rfl
      | bool => intro cells x r g hd; cases cells with
        | nil => simp [decD] at hd
        | cons c cs => cases c <;> simp only [decD] at hd <;> cases hd; rfl
      | str => intro cells x r g hd; cases cells with
        | nil => simp [decD] at hd
        | cons c cs => cases c <;> simp only [decD] at hd <;> cases hd; rfl
      | unit => intro cells x r g hd; simp only [decD] at hd; cases hd; rfl
      | pair a b iha ihb =>
        intro cells x r g hd
        simp only [decD] at hd
        cases h1 : decD a cells (fun _ => .none) with
        | none => rw [h1] at hd; cases hd
        | some p =>
          obtain ⟨x1, r1, g1⟩ := p
          rw [h1] at hd; dsimp only at hd
          cases h2 : decD b r1 (fun _ => .none) with
          | none => rw [h2] at hd; cases hd
          | some q =>
            obtain ⟨x2, r2, g2⟩ := q
            rw [h2] at hd; cases hd
            rw [iha _ _ _ _ h1, ihb _ _ _ _ h2]; rfl
      | slice t _ =>
        intro cells x r g hd
        cases cells with
        | nil => simp [decD] at hd
        | cons c cs =>
          simp only [decD] at hd
          cases h1 : asList t c (fun _ => .none) with
          | none => rw [h1] at hd; cases hd
          | some p =>
            obtain ⟨l, g1⟩ := p
            rw [h1] at hd; cases hd
            unfold asList at h1
            split at h1
            · split at h1 <;> cases h1; rfl
            · cases h1; rfl
            · cases h1
            · cases h1
    exact key t _ _ _ _ hd
  subst hg
  obtain ⟨v1, v2, h1, h2, h3⟩ := decD_rel hA hs t cells x r [] vs hd hr
  refine ⟨rfl, v1, v2, h1, RelD.mono (fun b o hb => ?_) _ _ _ h2, h3⟩
  simpa [giveImm] using hb

theorem zeroD_rel {t : Ty} {z : List C} {x : t.D} (hs : Sep A e w) (hz : zeroD t z = some x) {vs : List Value} (hr : RelCs e z vs) : RelD e.imm t x vs := by
  unfold zeroD at hz
  split at hz
  · rename_i x' g hd
    cases hz
    obtain ⟨_, v1, v2, rfl, h2, h3⟩ := decD_imm hs hd hr
    cases h3
    simpa using h2
  · cases hz

theorem makeSlice_ok (m : Mem A w0 e h w) {n : Nat} {T : TypeId} {va vb : V} {xa xb : Value} {eff : Eff} (hs : stMakeSlice P n T va vb = some eff) (hf : ∀ p ∈ eff.wr, n ≤ p.1 → h p.1 = .none) (ha : RelV e va xa) (hb : RelV e vb xb) (ht : ∀ t ∈ eff.tests, t.p) :
    ∃ y w' e', (Instr.makeSlice T xa xb).run P w = .ok y w' ∧ Le e e' ∧ RelV e' eff.v y ∧ Mem A w0 e' (updW h eff.wr) w' := by
  unfold stMakeSlice at hs
  split at hs
  · rename_i E a b hu
    split at hs
    · rename_i t inf z hty hinf hz
      split at hs
      · rename_i x hx
        split at hs
        · rename_i hc
          cases hs
          have hn : h n = .none := hf (n, .arr t (List.replicate a.toNat x)) (by simp) (Nat.le_refl _)
          obtain ⟨c1, c2, c3, c4⟩ := hc
          have t1 : 0 ≤ a := ht (test (0 ≤ a)) (by simp)
          have t2 : a ≤ b := ht (test (a ≤ b)) (by simp)
          have t3 : b ≤ (big : Int) := ht (test (b ≤ (big : Int))) (by simp)
          simp only [RelV, RelC] at ha hb
          subst ha; subst hb
          obtain ⟨i, zv, hi, hzv, rfl, h1, hrun⟩ := zero_spec hz
          have : i = inf := by rw [hi] at hinf; cases hinf; rfl
          subst this
          have hzs : zv.cells.size = t.size := by simpa using c3
          have hsize : (sizeOf E).run P w = .ok t.size w := run_size (by simp [sizeT, hi, c1]) w
          have wa : IntKind.i64.wrap a = a := wrap_i64 (by omega) (by unfold big at t3; omega)
          have wb : IntKind.i64.wrap b = b := wrap_i64 (by omega) (by unfold big at t3; omega)
          have hbytes : ¬ ((i.bytes : Int) * b > 281474976710656) := by
            have h3 : (i.bytes : Int) * b ≤ 128 * (big : Int) := Int.mul_le_mul (by omega) t3 (by omega) (by omega)
            unfold big at h3; omega
          have hx' := zeroD_rel m.sep hx (absCs_rel e _ h1)
          have hrows : ∀ j, j < (List.replicate a.toNat x).length → ∀ hj : j < (List.replicate a.toNat x).length, RelD e.imm t (List.replicate a.toNat x)[j] ((((Array.range (b.toNat * t.size)).map (zv.cells[· % zv.cells.size]!)).toList.drop (0 + j * t.size)).take t.size) := by
            intro j _ hj
            simp only [List.length_replicate] at hj
            rw [Nat.zero_add, window_map zv.cells t.size b.toNat j hzs (by omega), List.getElem_replicate]
            exact hx'
          have m2 := m.alloc (w' := w.alloc (.cells ((Array.range (b.toNat * t.size)).map (zv.cells[· % zv.cells.size]!)) E)) (L := .arr w.heap.size 0 t.size b.toNat a.toNat) (o := .arr t (List.replicate a.toNat x)) hn (Ext.alloc _ _) (fun b hb => by cases hb; exact Nat.le_refl _)
            (.inr ⟨w.heap.size, 0, b.toNat, _, E, (0, 0), by simp, by simp; omega, heap_alloc_new w _, unfz0 _, by simp, fun j hj => hrows j hj hj⟩)
          refine ⟨.slice (some ⟨w.heap.size, 0, none⟩) a.toNat b.toNat, _, _, ?_, Le.at (loc_un m.hp hn), ?_, m2⟩
          · unfold Instr.makeSlice
            simp only [Sem.run_bind, run_underlying hu, Result.andThen_ok, asInt, asIntOf, Sem.run_pure, typeInfo, run_program, hi, wa, wb]
            rw [if_neg (by simp; omega)]
            simp only [Sem.run_bind, run_askRoom, Result.andThen_ok, hsize]
            by_cases h0 : b.toNat * t.size = 0
            · rw [if_pos h0]
              simp only [Sem.run_bind, Sem.run_pure, Result.andThen_ok, h0, show Array.range 0 = (#[] : Array Nat) from rfl, List.map_toArray, List.map_nil]
              rfl
            · rw [if_neg h0]
              simp only [Sem.run_bind, Sem.run_pure, Result.andThen_ok, hrun]
              rfl
          · simp only [RelV, RelC, atLoc, if_true]
            exact ⟨Nat.zero_le _, Nat.le_refl _, ⟨w.heap.size, 0, none⟩, by simp, .inr (by simp)⟩
        · cases hs
      · cases hs
    · cases hs
  · cases hs

end
end Go.Proofs.YtjijgajbkcflaaaDoor.Den
