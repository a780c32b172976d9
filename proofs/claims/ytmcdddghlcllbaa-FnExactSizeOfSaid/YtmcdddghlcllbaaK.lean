/- Each single operation of the abstract machine does what the Go operation does (slices made and grown). -/
import Derived.Test.YtmcdddghlcllbaaJ
set_option autoImplicit false
set_option linter.unusedVariables false
set_option linter.unusedSimpArgs false
namespace Go.Proofs.Ytmcdddghlcllbaa.Den
open Classical

section
variable {P : Program} {A : Nat → Prop} {w0 : Start} {e : Env} {h : Hp} {w : World}

theorem Mem.fun_eq {h' : Hp} (m : Mem A w0 e h w) (hh : ∀ j, h j = h' j) : Mem A w0 e h' w := by
  have : h = h' := funext hh
  rwa [← this]

theorem unfz0 (n : Nat) : Unfz (0, 0) n := fun o _ h => by simp at h

/-- An array of the call's own taken into the pool: nothing changes in memory. -/
theorem Mem.absorb (m : Mem A w0 e h w) {u : Ty} {pl : List (List u.D)} {B : Nat} {l : List u.D} (hp : h POOL = .pool u pl) (hB : h B = .arr u l) :
    ∃ e1, Le e e1 ∧ Mem A w0 e1 (fun i => if i = B then .al u pl.length l.length else if i = POOL then .pool u (pl ++ [l]) else h i) w := by
  obtain ⟨p1, p2⟩ := m.pool hp
  have hBP : B ≠ POOL := fun hh => by rw [hh, hp] at hB; cases hB
  have hoB := m.hp B
  rw [hB] at hoB
  have hv0 := p1 pl.length (Nat.le_refl _)
  let e1 : Env := ⟨e.imm, fun i => if i = B then (match e.loc B with | .arr b o sz cap n => .inn b o sz cap n | L => L) else e.loc i, fun k => if k = pl.length then e.loc B else e.vl k⟩
  have hvne : ∀ k, e.vl k ≠ .un → k ≠ pl.length := fun k hk hh => hk (hh ▸ hv0)
  have hle : Le e e1 := ⟨fun _ _ hb => hb, fun i => by
    show LocLe (e.loc i) (if i = B then _ else _)
    split
    · rename_i hi
      subst hi
      cases e.loc i <;> first | exact .inn .. | exact .refl _
    · exact .refl _, fun k hk => by
    show (if k = pl.length then _ else _) = _
    rw [if_neg (hvne k hk)]⟩
  have hown : ∀ i b, (e1.loc i).own = some b → i ≠ B ∧ (e.loc i).own = some b := fun i b hb => by
    have hb' : (if i = B then (match e.loc B with | .arr b o sz cap n => Loc.inn b o sz cap n | L => L) else e.loc i).own = some b := hb
    split at hb'
    · exfalso
      rcases hoB with ⟨h1, _⟩ | ⟨b', o, cap, cs, E, fz, h1, _⟩
      · rw [h1] at hb'; cases hb'
      · rw [h1] at hb'; cases hb'
    · rename_i hi; exact ⟨hi, hb'⟩
  have hvown : ∀ k b, (e1.vl k).own = some b → (k = pl.length ∧ (e.loc B).own = some b) ∨ (k ≠ pl.length ∧ (e.vl k).own = some b) := fun k b hb => by
    have hb' : (if k = pl.length then e.loc B else e.vl k).own = some b := hb
    split at hb'
    · rename_i hk; exact .inl ⟨hk, hb'⟩
    · rename_i hk; exact .inr ⟨hk, hb'⟩
  refine ⟨e1, hle, fun id => ?_, ⟨m.sep.imm, fun id b hb => m.sep.own id b (hown id b hb).2, fun i j b hi hj => m.sep.inj i j b (hown i b hi).2 (hown j b hj).2, fun k b hb => ?_, fun k j b hk hj => ?_, fun i k b hi hk => ?_, m.sep.tb⟩, m.frm, m.new, m.old, m.keep, fun hq => ?_, fun k hk => ?_, fun k b hb => ?_, fun i v ql hi => ?_, ?_⟩
  · by_cases hi : id = B
    · subst hi
      rw [if_pos rfl]
      have hL : e1.loc id = (match e.loc id with | .arr b o sz cap n => .inn b o sz cap n | L => L) := if_pos rfl
      have hV : e1.vl pl.length = e.loc id := if_pos rfl
      rw [hL]
      rcases hoB with ⟨h1, h2⟩ | ⟨b, o, cap, cs, E, fz, h1, hn, _⟩
      · exact .inl ⟨by rw [h1], by rw [h2]; rfl, by rw [hV, h1]⟩
      · exact .inr ⟨b, o, cap, by rw [h1], by rw [hV, h1], hn⟩
    · rw [if_neg hi]
      have hL : e1.loc id = e.loc id := if_neg hi
      rw [hL]
      by_cases hi2 : id = POOL
      · subst hi2
        rw [if_pos rfl]
        have h0 := m.hp POOL
        rw [hp] at h0
        refine ⟨h0.1, fun k hk => ?_, fun k hk => ?_⟩
        · rw [List.length_append, List.length_singleton] at hk
          show (if k = pl.length then _ else _) = Loc.un
          rw [if_neg (by omega)]
          exact p1 k (by omega)
        · rw [List.length_append, List.length_singleton] at hk
          by_cases hkl : k = pl.length
          · subst hkl
            have hV : e1.vl pl.length = e.loc B := if_pos rfl
            rw [hV, List.getElem_append_right (Nat.le_refl _)]
            simp only [Nat.sub_self, List.getElem_cons_zero]
            exact RelArr.mono hle (fun _ _ => rfl) hoB
          · have hV : e1.vl k = e.vl k := if_neg hkl
            rw [hV, List.getElem_append_left (by omega)]
            exact RelArr.mono hle (fun _ _ => rfl) (p2 k (by omega))
      · rw [if_neg hi2]
        exact RelO.mono hle (fun _ _ => rfl) (fun v ql hv => absurd (m.one id v ql hv) hi2) (m.hp id)
  · rcases hvown k b hb with ⟨_, h1⟩ | ⟨_, h1⟩
    · exact m.sep.own B b h1
    · exact m.sep.vown k b h1
  · rcases hvown k b hk with ⟨h1, h2⟩ | ⟨h1, h2⟩ <;> rcases hvown j b hj with ⟨h3, h4⟩ | ⟨h3, h4⟩
    · rw [h1, h3]
    · exact (m.sep.vdis _ _ _ h2 h4).elim
    · exact (m.sep.vdis _ _ _ h4 h2).elim
    · exact m.sep.vinj _ _ _ h2 h4
  · obtain ⟨h1, h2⟩ := hown i b hi
    rcases hvown k b hk with ⟨_, h4⟩ | ⟨_, h4⟩
    · exact h1 (m.sep.inj _ _ _ h2 h4)
    · exact m.sep.vdis _ _ _ h2 h4
  · rw [if_neg (Ne.symm hBP), if_pos rfl] at hq; cases hq
  · have h1 := m.vkeep k hk
    have h2 : e.vl k ≠ .un := by rw [h1]; exact hk
    show (if k = pl.length then _ else _) = _
    rw [if_neg (hvne k h2)]
    exact h1
  · rcases hvown k b hb with ⟨_, h1⟩ | ⟨_, h1⟩
    · exact RelO.own_lt (m.hp B) h1
    · exact m.vlt k b h1
  · by_cases h1 : i = B
    · rw [if_pos h1] at hi; cases hi
    · rw [if_neg h1] at hi
      by_cases h2 : i = POOL
      · exact h2
      · rw [if_neg h2] at hi; exact m.one i v ql hi
  · exact .inr (.inr ⟨_, _, by rw [if_neg (Ne.symm hBP), if_pos rfl]⟩)

theorem toRef_size (u : Ty) : ∀ t : Ty, (Ty.toRef u t).size = t.size
  | .int _ | .bool | .str | .unit | .ref _ => rfl
  | .slice t => by unfold Ty.toRef; split <;> rfl
  | .pair a b => by unfold Ty.toRef; simp [Ty.size, toRef_size u a, toRef_size u b]

theorem absOf_spec {u : Ty} : ∀ (cells : List C) (B : Nat) (l : List u.D), absOf u h cells = some (B, l) → h B = .arr u l := by
  intro cells
  induction cells with
  | nil => intro B l hd; simp [absOf] at hd
  | cons c r ih =>
    intro B l hd
    cases c <;> (try simp only [absOf] at hd) <;> try (exact ih _ _ hd)
    rename_i id lo hi
    cases lo <;> cases hi <;> (try simp only [absOf] at hd) <;> try (exact ih _ _ hd)
    cases hid : h id <;> rw [hid] at hd <;> try (exact ih _ _ hd)
    rename_i t l'
    dsimp only at hd
    split at hd
    · rename_i he
      cases he
      cases hd
      exact hid
    · exact ih _ _ hd

theorem decN_arr (t : Ty) : ∀ (n : Nat) (cells : List C) (l : List t.D) (g : List Nat), decN t h n cells = some (l, g) → ∀ i ∈ g, ∃ u l, h i = .arr u l
  | 0, [], l, g, hd => by cases hd; intro i hi; cases hi
  | 0, _ :: _, l, g, hd => by simp [decN] at hd
  | n + 1, cells, l, g, hd => by
    rw [decN] at hd
    split at hd
    · rename_i x r g1 h1
      split at hd
      · rename_i l' g2 h2
        cases hd
        intro i hi
        rcases List.mem_append.1 hi with hi | hi
        · exact decD_arr _ _ _ _ _ h1 i hi
        · exact decN_arr t n _ _ _ h2 i hi
      · cases hd
    · cases hd

/-- Elements laid in a block of their own. -/
theorem rows_new (m : Mem A w0 e h w) {n : Nat} (hn : h n = .none) (hnP : n ≠ POOL) {t : Ty} {len : Nat} {cells : List C} {l : List t.D} {g : List Nat} {cs : Array Value} {E : TypeId} (hd : decN t h len cells = some (l, g)) (hg : n ∉ g) (hr : RelCs e cells cs.toList) :
    ∃ e', Le e e' ∧ Mem A w0 e' (updW h (deads g ++ [(n, .arr t l)])) (w.alloc (.cells cs E)) ∧ e'.loc n = .arr w.heap.size 0 t.size len len ∧ cs.size = len * t.size := by
  obtain ⟨e1, e2, e3⟩ := decN_rel m t len cells l g _ hd hr
  have hgP : ∀ i ∈ g, i ≠ POOL := fun i hi => m.noarr (decN_arr t _ _ _ _ hd i hi)
  have m1 := m.gave g hgP
  have hn1 : updW h (deads g) n = .none := by rw [updW_deads, if_neg hg]; exact hn
  have hsize : cs.size = len * t.size := by simpa using e2
  have m2 := m1.alloc (w' := w.alloc (.cells cs E)) (L := .arr w.heap.size 0 t.size len l.length) (o := .arr t l) hn1 (Ext.alloc _ _) (fun b hb => by cases hb; exact Nat.le_refl _)
    (.inr ⟨w.heap.size, 0, len, cs, E, (0, 0), rfl, by omega, heap_alloc_new w _, unfz0 _, by omega, fun i hi => by rw [Nat.zero_add]; exact (e3 i hi).mono (Le.at (loc_un m1.hp hn1))⟩) hnP rfl
  refine ⟨_, (Le.gave m.sep g).trans (Le.at (loc_un m1.hp hn1)), m2.fun_eq (fun j => by rw [updW_append]; rfl), ?_, hsize⟩
  simp only [atLoc, if_true, e1]

theorem newRows_ok (m : Mem A w0 e h w) {n : Nat} (hn : h n = .none) (hnP : n ≠ POOL) {t : Ty} {len : Nat} {cells : List C} {wr : List (Nat × O)} {cs : Array Value} {E : TypeId} (hd : newRows P h n t len cells = some wr) (hr : RelCs e cells cs.toList) :
    ∃ e', Le e e' ∧ Mem A w0 e' (updW h wr) (w.alloc (.cells cs E)) ∧ e'.loc n = .arr w.heap.size 0 t.size len len ∧ cs.size = len * t.size := by
  have plain : (match decN t h len cells with
      | some (l, g) => if g.contains n then Option.none else some (deads g ++ [(n, O.arr t l)])
      | .none => .none) = some wr → ∃ e', Le e e' ∧ Mem A w0 e' (updW h wr) (w.alloc (.cells cs E)) ∧ e'.loc n = .arr w.heap.size 0 t.size len len ∧ cs.size = len * t.size := fun hd => by
    split at hd
    · rename_i l g hdd
      split at hd
      · cases hd
      · rename_i hg
        cases hd
        exact rows_new m hn hnP hdd (by simpa using hg) hr
    · cases hd
  unfold newRows at hd
  split at hd
  · exact plain hd
  split at hd
  · rename_i u pl hpq
    split at hd
    · exact plain hd
    · split at hd
      · split at hd
        · split at hd
          · rename_i l hdd
            cases hd
            obtain ⟨e', h1, h2, h3, h4⟩ := rows_new (E := E) m hn hnP hdd (by simp) hr
            rw [toRef_size] at h3 h4
            exact ⟨e', h1, h2, h3, h4⟩
          · cases hd
        · rename_i B l1 habs
          have hB := absOf_spec _ _ _ habs
          split at hd
          · rename_i l hdd
            split at hd
            · cases hd
            · rename_i hBn
              cases hd
              obtain ⟨e1, hle, m1⟩ := m.absorb hpq hB
              have hn1 : (if n = B then O.al u pl.length l1.length else if n = POOL then O.pool u (pl ++ [l1]) else h n) = .none := by
                rw [if_neg (Ne.symm hBn), if_neg hnP]; exact hn
              obtain ⟨e', h1, h2, h3, h4⟩ := rows_new (E := E) m1 hn1 hnP hdd (by simp) (hr.mono hle)
              rw [toRef_size] at h3 h4
              exact ⟨e', hle.trans h1, h2, h3, h4⟩
          · cases hd
      · cases hd
  · exact plain hd

theorem newRows_mem {n : Nat} {t : Ty} {len : Nat} {cells : List C} {wr : List (Nat × O)} (hd : newRows P h n t len cells = some wr) : ∃ o, (n, o) ∈ wr := by
  unfold newRows at hd
  split at hd
  · split at hd
    · split at hd
      · cases hd
      · cases hd; exact ⟨_, List.mem_append_right _ (List.mem_singleton.2 rfl)⟩
    · cases hd
  split at hd
  · split at hd
    · split at hd
      · split at hd
        · cases hd
        · cases hd; exact ⟨_, List.mem_append_right _ (List.mem_singleton.2 rfl)⟩
      · cases hd
    · split at hd
      · split at hd
        · split at hd
          · cases hd; exact ⟨_, List.mem_singleton.2 rfl⟩
          · cases hd
        · split at hd
          · split at hd
            · cases hd
            · cases hd; exact ⟨_, List.mem_cons_of_mem _ (List.mem_cons_of_mem _ (List.mem_singleton.2 rfl))⟩
          · cases hd
      · cases hd
  · split at hd
    · split at hd
      · cases hd
      · cases hd; exact ⟨_, List.mem_append_right _ (List.mem_singleton.2 rfl)⟩
    · cases hd

theorem buildSlice_ok (m : Mem A w0 e h w) {n : Nat} {T : TypeId} {len : Nat} {vs : List (Nat × V)} {xs : Array (Nat × Value)} {eff : Eff} (hs : stBuildSlice P h n T len vs = some eff) (hf : ∀ p ∈ eff.wr, n ≤ p.1 → p.1 ≠ POOL → h p.1 = .none) (hnP : n ≠ POOL) (hv : RelPs e vs xs.toList) :
    ∃ y w' e', (Instr.buildSlice T len xs).run P w = .ok y w' ∧ Le e e' ∧ RelV e' eff.v y ∧ Mem A w0 e' (updW h eff.wr) w' := by
  unfold stBuildSlice at hs
  split at hs
  · rename_i E hu
    split at hs
    · rename_i t sz z ht hsz hz
      split at hs
      · rename_i hc
        obtain ⟨hc1, hc2, hc3, hc4⟩ := hc
        split at hs
        · rename_i cells hfill
          split at hs
          · rename_i wr hd
            cases hs
            obtain ⟨o0, ho0⟩ := newRows_mem hd
            have hn : h n = .none := hf (n, o0) ho0 (Nat.le_refl _) hnP
            obtain ⟨i, zv, hi, hzv, rfl, h1, hrun⟩ := zero_spec hz
            have hzs : zv.cells.size = sz := by simpa using hc3
            have hinit : RelCs e (zrow (zv.cells.toList.map absC) (len * sz)) ((Array.range (len * sz)).map (zv.cells[· % zv.cells.size]!)).toList := zrow_rel (absCs_rel e _ h1) (by omega) _
            have hplace : ∀ (i : Nat) (p : Nat × Nat), ((List.range len).map fun i => (i * sz, sz))[i]? = some p → (fun i => some (i * sz, sz) : Nat → Option (Nat × Nat)) i = some p := by
              intro i p hp
              rw [List.getElem?_map] at hp
              cases hq : (List.range len)[i]? with
              | none => rw [hq] at hp; cases hp
              | some j =>
                rw [hq] at hp
                have : i = j := by
                  by_cases hlt : i < len
                  · rw [List.getElem?_range hlt] at hq; simpa using hq
                  · rw [List.getElem?_eq_none (by simp; omega)] at hq; cases hq
                subst this
                simpa using hp
            obtain ⟨cs', hc1', hc2'⟩ := fill_ok hplace vs xs.toList _ cells _ hv hinit hfill
            obtain ⟨e', hle, m2, hloc, hsize⟩ := newRows_ok (E := E) m hn hnP hd hc2'
            refine ⟨.slice (some ⟨w.heap.size, 0, none⟩) len len, w.alloc (.cells cs' E), _, ?_, hle, ?_, m2⟩
            · unfold Instr.buildSlice
              simp only [Sem.run_bind, run_underlying hu, Result.andThen_ok, run_size hsz]
              rw [if_neg (by simpa using hc4)]
              by_cases h0 : len * sz = 0
              · rw [if_pos h0]
                rw [h0] at hc1'
                simp only [show Array.range 0 = (#[] : Array Nat) from rfl, List.map_toArray, List.map_nil] at hc1'
                simp only [Sem.run_bind, Sem.run_pure, Result.andThen_ok, h0, show Array.range 0 = (#[] : Array Nat) from rfl, List.map_toArray, List.map_nil, hc1']
                rfl
              · rw [if_neg h0]
                simp only [Sem.run_bind, Sem.run_pure, Result.andThen_ok, hrun, hc1']
                rfl
            · simp only [RelV, RelC, hloc]
              exact ⟨Nat.zero_le _, Nat.le_refl _, ⟨w.heap.size, 0, none⟩, by simp, .inr (by simp)⟩
          · cases hs
        · cases hs
      · cases hs
    · cases hs
  · cases hs

theorem tyOf_noRef (P : Program) : ∀ (d : Nat) (T : TypeId) (t : Ty), tyOf P d T = some t → t.noRef = true
  | 0, T, t, ht => by simp [tyOf] at ht
  | d + 1, T, t, ht => by
    have hch : ∀ l : List (Option Ty), (∀ t, some t ∈ l → t.noRef = true) → ∀ t, tyOf.chain l = some t → t.noRef = true := by
      intro l
      induction l with
      | nil => intro _ t ht; simp [tyOf.chain] at ht; subst ht; rfl
      | cons a r ih =>
        intro ha t ht
        cases a with
        | none => cases r <;> simp [tyOf.chain] at ht
        | some a =>
          cases r with
          | nil => simp [tyOf.chain] at ht; subst ht; exact ha _ (by simp)
          | cons b r =>
            rw [tyOf.chain] at ht
            · split at ht
              · rename_i u hu
                cases ht
                simp only [Ty.noRef, Bool.and_eq_true]
                exact ⟨ha _ (by simp), ih (fun t ht => ha t (by simp at ht ⊢; exact .inr ht)) _ hu⟩
              · cases ht
            · simp
    rw [tyOf] at ht
    split at ht
    · cases ht; rfl
    · cases ht; rfl
    · cases ht; rfl
    · split at ht
      · rename_i t' ht'
        cases ht
        show t'.noRef = true
        exact tyOf_noRef P d _ t' ht'
      · cases ht
    · refine hch _ (fun t ht => ?_) _ ht
      obtain ⟨f, _, hf⟩ := List.mem_map.1 ht
      exact tyOf_noRef P d _ _ hf
    · split at ht
      · refine hch _ (fun t ht => ?_) _ ht
        exact tyOf_noRef P d _ _ (List.eq_of_mem_replicate ht).symm
      · cases ht
    · cases ht

theorem wrap_i64 {n : Int} (h1 : -9223372036854775808 ≤ n) (h2 : n < 9223372036854775808) : IntKind.i64.wrap n = n := by
  simp only [IntKind.wrap, IntKind.bits, IntKind.signed]
  simp
  omega

theorem window_map (zv : Array Value) (sz n i : Nat) (hz : zv.size = sz) (hi : i < n) : ((((Array.range (n * sz)).map (zv[· % zv.size]!)).toList.drop (i * sz)).take sz) = zv.toList := by
  apply List.ext_getElem?
  intro k
  rw [window_get]
  by_cases hk : k < sz
  · rw [if_pos hk]
    have hlt : i * sz + k < n * sz := by
      have : (i + 1) * sz ≤ n * sz := Nat.mul_le_mul_right _ (by omega)
      rw [Nat.add_mul, Nat.one_mul] at this; omega
    have : (i * sz + k) % zv.size = k := by rw [hz, Nat.mul_comm, Nat.mul_add_mod]; exact Nat.mod_eq_of_lt hk
    simp [hlt, this, Array.getElem!_eq_getD, Array.getD_eq_getD_getElem?, show k < zv.size by omega]
  · rw [if_neg hk]
    simp; omega

theorem decD_imm {t : Ty} {cells : List C} {x : t.D} {r : List C} {g : List Nat} (hs : Sep A e w) (hnr : t.noRef = true) (hd : decD t cells (fun _ => .none) = some (x, r, g)) {vs : List Value} (hr : RelCs e cells vs) :
    g = [] ∧ ∃ v1 v2, vs = v1 ++ v2 ∧ RelD e.imm t x v1 ∧ RelCs e r v2 := by
  have hA : RelA e w (fun _ => O.none) := fun id t l h => by rcases h with h | h <;> cases h
  have hg : g = [] := by
    have key : ∀ (t : Ty) (cells : List C) (x : t.D) (r : List C) (g : List Nat), decD t cells (fun _ => .none) = some (x, r, g) → g = [] := by
      intro t
      induction t with
      | int k => intro cells x r g hd; cases cells with
        | nil => simp [decD] at hd
        | cons c cs =>
          cases c <;> simp only [decD] at hd <;> try (cases hd; done)
          split at hd <;> cases hd; rfl
      | bool => intro cells x r g hd; cases cells with
        | nil => simp [decD] at hd
        | cons c cs => cases c <;> simp only [decD] at hd <;> cases hd; rfl
      | str => intro cells x r g hd; cases cells with
        | nil => simp [decD] at hd
        | cons c cs => cases c <;> simp only [decD] at hd <;> cases hd; rfl
      | unit => intro cells x r g hd; simp only [decD] at hd; cases hd; rfl
      | pair a b iha ihb =>
        intro cells x r g hd
        simp only [decD] at hd
        cases h1 : decD a cells (fun _ => .none) with
        | none => rw [h1] at hd; cases hd
        | some p =>
          obtain ⟨x1, r1, g1⟩ := p
          rw [h1] at hd; dsimp only at hd
          cases h2 : decD b r1 (fun _ => .none) with
          | none => rw [h2] at hd; cases hd
          | some q =>
            obtain ⟨x2, r2, g2⟩ := q
            rw [h2] at hd; cases hd
            rw [iha _ _ _ _ h1, ihb _ _ _ _ h2]; rfl
      | slice t _ =>
        intro cells x r g hd
        cases cells with
        | nil => simp [decD] at hd
        | cons c cs =>
          simp only [decD] at hd
          cases h1 : asList t c (fun _ => .none) with
          | none => rw [h1] at hd; cases hd
          | some p =>
            obtain ⟨l, g1⟩ := p
            rw [h1] at hd; cases hd
            unfold asList at h1
            split at h1
            · split at h1 <;> cases h1; rfl
            · cases h1; rfl
            · cases h1
            · cases h1
      | ref t _ =>
        intro cells x r g hd
        cases cells with
        | nil => simp [decD] at hd
        | cons c cs =>
          cases c <;> (try simp only [decD] at hd) <;> try (cases hd; done)
          · split at hd <;> cases hd; rfl
          · rename_i id lo hi
            cases lo <;> cases hi <;> (try simp only [decD] at hd) <;> cases hd
          · cases hd; rfl
    exact key t _ _ _ _ hd
  subst hg
  obtain ⟨v1, v2, h1, h2, h3⟩ := decD_rel hA hs t cells x r [] vs hnr hd hr
  refine ⟨rfl, v1, v2, h1, RelD.mono (fun b o hb => ?_) _ _ _ h2, h3⟩
  simpa [giveImm] using hb

theorem zeroD_rel {t : Ty} {z : List C} {x : t.D} (hs : Sep A e w) (hnr : t.noRef = true) (hz : zeroD t z = some x) {vs : List Value} (hr : RelCs e z vs) : RelD e.imm t x vs := by
  unfold zeroD at hz
  split at hz
  · rename_i x' g hd
    cases hz
    obtain ⟨_, v1, v2, rfl, h2, h3⟩ := decD_imm hs hnr hd hr
    cases h3
    simpa using h2
  · cases hz

theorem makeSlice_ok (m : Mem A w0 e h w) {n : Nat} {T : TypeId} {va vb : V} {xa xb : Value} {eff : Eff} (hs : stMakeSlice P n T va vb = some eff) (hf : ∀ p ∈ eff.wr, n ≤ p.1 → p.1 ≠ POOL → h p.1 = .none) (hnP : n ≠ POOL) (ha : RelV e va xa) (hb : RelV e vb xb) (ht : ∀ t ∈ eff.tests, t.p) :
    ∃ y w' e', (Instr.makeSlice T xa xb).run P w = .ok y w' ∧ Le e e' ∧ RelV e' eff.v y ∧ Mem A w0 e' (updW h eff.wr) w' := by
  unfold stMakeSlice at hs
  split at hs
  · rename_i E a b hu
    split at hs
    · rename_i t inf z hty hinf hz
      split at hs
      · rename_i x hx
        split at hs
        · rename_i hc
          cases hs
          have hn : h n = .none := hf (n, .arr t (List.replicate a.toNat x)) (by simp) (Nat.le_refl _) hnP
          obtain ⟨c1, c2, c3, c4⟩ := hc
          have t1 : 0 ≤ a := ht (test (0 ≤ a)) (by simp)
          have t2 : a ≤ b := ht (test (a ≤ b)) (by simp)
          have t3 : b ≤ (big : Int) := ht (test (b ≤ (big : Int))) (by simp)
          simp only [RelV, RelC] at ha hb
          subst ha; subst hb
          obtain ⟨i, zv, hi, hzv, rfl, h1, hrun⟩ := zero_spec hz
          have : i = inf := by rw [hi] at hinf; cases hinf; rfl
          subst this
          have hzs : zv.cells.size = t.size := by simpa using c3
          have hsize : (sizeOf E).run P w = .ok t.size w := run_size (by simp [sizeT, hi, c1]) w
          have wa : IntKind.i64.wrap a = a := wrap_i64 (by omega) (by unfold big at t3; omega)
          have wb : IntKind.i64.wrap b = b := wrap_i64 (by omega) (by unfold big at t3; omega)
          have hbytes : ¬ ((i.bytes : Int) * b > 281474976710656) := by
            have h3 : (i.bytes : Int) * b ≤ 128 * (big : Int) := Int.mul_le_mul (by omega) t3 (by omega) (by omega)
            unfold big at h3; omega
          have hnr := tyOf_noRef P _ _ _ hty
          have hx' := zeroD_rel m.sep hnr hx (absCs_rel e _ h1)
          have hrows : ∀ j, j < (List.replicate a.toNat x).length → ∀ hj : j < (List.replicate a.toNat x).length, RelD e.imm t (List.replicate a.toNat x)[j] ((((Array.range (b.toNat * t.size)).map (zv.cells[· % zv.cells.size]!)).toList.drop (0 + j * t.size)).take t.size) := by
            intro j _ hj
            simp only [List.length_replicate] at hj
            rw [Nat.zero_add, window_map zv.cells t.size b.toNat j hzs (by omega), List.getElem_replicate]
            exact hx'
          have m2 := m.alloc (w' := w.alloc (.cells ((Array.range (b.toNat * t.size)).map (zv.cells[· % zv.cells.size]!)) E)) (L := .arr w.heap.size 0 t.size b.toNat a.toNat) (o := .arr t (List.replicate a.toNat x)) hn (Ext.alloc _ _) (fun b hb => by cases hb; exact Nat.le_refl _)
            (.inr ⟨w.heap.size, 0, b.toNat, _, E, (0, 0), by simp, by simp; omega, heap_alloc_new w _, unfz0 _, by simp, fun j hj => RelCs_encD (e := atLoc e n _) t _ _ (hrows j hj hj)⟩) hnP rfl
          refine ⟨.slice (some ⟨w.heap.size, 0, none⟩) a.toNat b.toNat, _, _, ?_, Le.at (loc_un m.hp hn), ?_, m2⟩
          · unfold Instr.makeSlice
            simp only [Sem.run_bind, run_underlying hu, Result.andThen_ok, asInt, asIntOf, Sem.run_pure, typeInfo, run_program, hi, wa, wb]
            rw [if_neg (by simp; omega)]
            simp only [Sem.run_bind, run_askRoom, Result.andThen_ok, hsize]
            by_cases h0 : b.toNat * t.size = 0
            · rw [if_pos h0]
              simp only [Sem.run_bind, Sem.run_pure, Result.andThen_ok, h0, show Array.range 0 = (#[] : Array Nat) from rfl, List.map_toArray, List.map_nil]
              rfl
            · rw [if_neg h0]
              simp only [Sem.run_bind, Sem.run_pure, Result.andThen_ok, hrun]
              rfl
          · simp only [RelV, RelC, atLoc, if_true]
            exact ⟨Nat.zero_le _, Nat.le_refl _, ⟨w.heap.size, 0, none⟩, by simp, .inr (by simp)⟩
        · cases hs
      · cases hs
    · cases hs
  · cases hs

end
end Go.Proofs.Ytmcdddghlcllbaa.Den
