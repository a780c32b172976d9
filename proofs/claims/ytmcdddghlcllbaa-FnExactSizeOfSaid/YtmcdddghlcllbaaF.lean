/- Each single operation of the abstract machine does what the Go operation does (loads, stores, fields, indexes, slices, new objects). -/
import Derived.Test.YtmcdddghlcllbaaE
set_option autoImplicit false
set_option linter.unusedVariables false
set_option linter.unusedSimpArgs false
namespace Go.Proofs.Ytmcdddghlcllbaa.Den
open Classical

theorem run_isAgg {P : Program} {T : TypeId} {b : Bool} (h : isAggT P T = some b) (w : World) : (isAgg T).run P w = .ok b w := by
  unfold isAggT at h
  cases hu : P.underlying T with
  | none => rw [hu] at h; cases h
  | some d =>
    rw [hu] at h
    unfold isAgg
    rw [Sem.run_bind, run_underlying hu]
    cases d <;> first | (cases h; rfl)

theorem run_size {P : Program} {T : TypeId} {n : Nat} (h : sizeT P T = some n) (w : World) : (sizeOf T).run P w = .ok n w := by
  unfold sizeT at h
  cases hi : P.info? T with
  | none => rw [hi] at h; cases h
  | some i => rw [hi] at h; cases h; simp [sizeOf, typeInfo, hi]

theorem cell_at {w : World} {b : Nat} {cs : Array Value} {E : TypeId} {fz : Nat × Nat} (h : w.heap[b]? = some (.cells cs E fz)) (i : Nat) : w.cell? ⟨b, i, none⟩ = cs[i]? := by
  simp [World.cell?, h]

theorem addr_add (b o n : Nat) : (⟨b, o, none⟩ : Addr).add n = ⟨b, o + n, none⟩ := by unfold Addr.add; split <;> simp_all

theorem loadVar_ok {P : Program} {e : Env} {w : World} {b o off : Nat} {cells : List C} {vs : List Value} {T : TypeId} {v : V}
    (hc : ∀ j u, vs[j]? = some u → w.cell? ⟨b, o + j, none⟩ = some u) (hr : RelCs e cells vs) (ht : takeCells P T cells off = some v) :
    ∃ x, (loadVar T ⟨b, o + off, none⟩).run P w = .ok x w ∧ RelV e v x := by
  unfold takeCells at ht
  cases ha : isAggT P T with
  | none => rw [ha] at ht; cases ht
  | some ag =>
    rw [ha] at ht
    cases ag with
    | true =>
      cases hs : sizeT P T with
      | none => rw [hs] at ht; cases ht
      | some n =>
        rw [hs] at ht; dsimp only at ht
        split at ht
        · rename_i hle
          cases ht
          have hl : ((vs.drop off).take n).length = n := by
            have := hr.length; simp; omega
          refine ⟨.agg ((vs.drop off).take n).toArray, ?_, _, rfl, by simpa using (hr.drop off).take n⟩
          unfold loadVar
          simp only [Sem.run_bind, run_isAgg ha, Result.andThen_ok, if_true, run_size hs]
          have := run_loadCells_list (P := P) w ⟨b, o + off, none⟩ ((vs.drop off).take n) (fun j u hu => by
            rw [addr_add, Nat.add_assoc]
            refine hc _ _ ?_
            rw [List.getElem?_take] at hu
            split at hu
            · simpa using hu
            · cases hu)
          rw [hl] at this
          simp [run_size hs, this]
        · cases ht
    | false =>
      dsimp only at ht
      cases hx : cells[off]? with
      | none => rw [hx] at ht; cases ht
      | some c =>
        rw [hx] at ht; cases ht
        obtain ⟨u, hu, hru⟩ := hr.get off c hx
        refine ⟨u, ?_, hru⟩
        unfold loadVar
        simp [run_isAgg ha, hc _ _ hu]

theorem part_ok {P : Program} {e : Env} {w : World} {off : Nat} {cells : List C} {cs : Array Value} {T : TypeId} {v : V}
    (hr : RelCs e cells cs.toList) (ht : takeCells P T cells off = some v) : ∃ x, (part T cs off).run P w = .ok x w ∧ RelV e v x := by
  unfold takeCells at ht
  cases ha : isAggT P T with
  | none => rw [ha] at ht; cases ht
  | some ag =>
    rw [ha] at ht
    cases ag with
    | true =>
      cases hs : sizeT P T with
      | none => rw [hs] at ht; cases ht
      | some n =>
        rw [hs] at ht; dsimp only at ht
        split at ht
        · rename_i hle
          cases ht
          refine ⟨.agg (cs.extract off (off + n)), ?_, _, rfl, ?_⟩
          · unfold part
            simp [run_isAgg ha, run_size hs]
          · have := (hr.drop off).take n
            simpa [Array.toList_extract, List.take_drop] using this
        · cases ht
    | false =>
      dsimp only at ht
      cases hx : cells[off]? with
      | none => rw [hx] at ht; cases ht
      | some c =>
        rw [hx] at ht; cases ht
        obtain ⟨u, hu, hru⟩ := hr.get off c hx
        refine ⟨u, ?_, hru⟩
        unfold part
        have hu' : cs[off]? = some u := by simpa using hu
        simp [run_isAgg ha, hu']

/-- What an operation has come to. -/
def Did (A : Nat → Prop) (w0 : Start) (e : Env) (h : Hp) (r : Result Next) (v : V) (wr : List (Nat × O)) : Prop :=
  ∃ x w' e', (r = .ok (.value x) w' ∨ (r = .ok .skip w' ∧ x = undef)) ∧ Le e e' ∧ RelV e' v x ∧ Mem A w0 e' (updW h wr) w'

section
variable {P : Program} {A : Nat → Prop} {w0 : Start} {e : Env} {h : Hp} {w : World}

theorem Did.pure (m : Mem A w0 e h w) {x : Value} {v : V} {r : Result Next} (hr : r = .ok (.value x) w) (hv : RelV e v x) : Did A w0 e h r v [] :=
  ⟨x, w, e, .inl hr, Le.refl e, hv, m⟩

theorem ok_eff {v : V} {eff : Eff} (h : ok v = some eff) : eff = ⟨[], v, []⟩ := by cases h; rfl
theorem okC_eff {c : C} {eff : Eff} (h : okC c = some eff) : eff = ⟨[], .one c, []⟩ := by cases h; rfl

theorem bind_some {α β : Type} {x : Option α} {f : α → Option β} {b : β} (h : x.bind f = some b) : ∃ a, x = some a ∧ f a = some b := Option.bind_eq_some_iff.1 h

theorem load_ok (m : Mem A w0 e h w) {T : TypeId} {v : V} {x : Value} {eff : Eff} (hs : stLoad P h T v = some eff) (hv : RelV e v x) :
    ∃ y, (Instr.loadAt T x).run P w = .ok y w ∧ RelV e eff.v y ∧ eff.wr = [] := by
  unfold stLoad at hs
  split at hs
  · rename_i id off
    have ho := m.hp id
    cases hid : h id <;> rw [hid] at hs ho <;> try (cases hs; done)
    rename_i cells
    dsimp only at hs
    obtain ⟨v', hv', he⟩ := bind_some hs
    rw [ok_eff he]
    obtain ⟨b, cs, E, fz, hl, hb, hu, hr⟩ := ho
    simp only [RelV, RelC, hl] at hv
    subst hv
    obtain ⟨y, hy, hry⟩ := loadVar_ok (P := P) (w := w) (b := b) (o := 0) (off := off) (fun j u hj => by rw [Nat.zero_add, cell_at hb]; simpa using hj) hr hv'
    refine ⟨y, ?_, hry, rfl⟩
    simp only [Nat.zero_add] at hy
    simp [Instr.loadAt, Instr.sureAddr, hy]
  · rename_i id i off
    have ho := m.hp id
    cases hid : h id <;> rw [hid] at hs ho <;> try (cases hs; done)
    rename_i t l
    dsimp only at hs
    obtain ⟨v', hv', he⟩ := bind_some hs
    rw [ok_eff he]
    rcases ho with ⟨hl, hn⟩ | ⟨b, o, cap, cs, E, fz, hl, hn, hb, hu, hs', hr⟩
    · simp only [RelV, RelC, hl] at hv
    · simp only [RelV, RelC, hl] at hv
      obtain ⟨hi, rfl⟩ := hv
      have hrow := hr i hi
      have hrd : rdT t l i = l[i] := by simp [rdT, List.getD, List.getElem?_eq_getElem hi]
      rw [hrd] at hv'
      obtain ⟨y, hy, hry⟩ := loadVar_ok (P := P) (w := w) (b := b) (o := o + i * t.size) (off := off) (fun j u hj => by
        rw [cell_at hb]
        rw [List.getElem?_take] at hj
        split at hj
        · simpa using hj
        · cases hj) hrow hv'
      refine ⟨y, ?_, hry, rfl⟩
      simp [Instr.loadAt, Instr.sureAddr, hy]
  · rename_i t y off
    obtain ⟨v', hv', he⟩ := bind_some hs
    rw [ok_eff he]
    obtain ⟨b, o, cs, E, fz, rfl, hb, hr⟩ := hv
    have hb' := m.sep.imm _ _ hb
    obtain ⟨z, hz, hrz⟩ := loadVar_ok (P := P) (w := w) (b := b) (o := o) (off := off) (fun j u hj => by
        rw [cell_at hb']
        rw [List.getElem?_take] at hj
        split at hj
        · simpa using hj
        · cases hj) (RelCs_encD t _ _ hr) hv'
    refine ⟨z, ?_, hrz, rfl⟩
    simp [Instr.loadAt, Instr.sureAddr, hz]
  · rename_i t y i off
    cases hpq : h POOL <;> rw [hpq] at hs <;> try (cases hs; done)
    rename_i u pl
    dsimp only at hs
    split at hs
    case isFalse => cases hs
    rename_i hut
    subst hut
    obtain ⟨v', hv', he⟩ := bind_some hs
    rw [ok_eff he]
    obtain ⟨k, b, o, cap, cs, E, fz, hk, rfl, hl, hn, hb, hu, hs', hr, hi, rfl, hrl⟩ := rep_spec m hpq hv
    rw [hrl] at hv'
    have hrow := hr i hi
    have hrd : rdT u pl[k] i = pl[k][i] := by simp [rdT, List.getD, List.getElem?_eq_getElem hi]
    rw [hrd] at hv'
    obtain ⟨z, hz, hrz⟩ := loadVar_ok (P := P) (w := w) (b := b) (o := o + i * u.size) (off := off) (fun j u hj => by
        rw [cell_at hb]
        rw [List.getElem?_take] at hj
        split at hj
        · simpa using hj
        · cases hj) hrow hv'
    refine ⟨z, ?_, hrz, rfl⟩
    simp [Instr.loadAt, Instr.sureAddr, hz]
  · cases hs

/-! ### Stores -/

theorem setCells_heap (b : Nat) : ∀ (vs : List Value) (o : Nat) (w : World) (cs : Array Value) (E : TypeId) (fz : Nat × Nat), w.heap[b]? = some (.cells cs E fz) → o + vs.length ≤ cs.size →
    (w.setCells b o vs).heap[b]? = some (.cells (cs.toList.take o ++ vs ++ cs.toList.drop (o + vs.length)).toArray E fz)
  | [], o, w, cs, E, fz, h, hl => by
    simp [World.setCells, h]
  | v :: r, o, w, cs, E, fz, h, hl => by
    have hlt : o < cs.size := by simp at hl; omega
    have h1 : (w.setCell ⟨b, o, none⟩ v).heap[b]? = some (.cells (cs.setIfInBounds o v) E fz) := by
      simp [World.setCell, Array.getElem?_modify, h]
    have ih := setCells_heap b r (o + 1) (w.setCell ⟨b, o, none⟩ v) (cs.setIfInBounds o v) E fz h1 (by simp at hl ⊢; omega)
    simp only [World.setCells]
    rw [ih]
    congr 2
    apply Array.ext'
    simp only [Array.toList_setIfInBounds, List.length_cons]
    have e1 : (cs.toList.set o v).take (o + 1) = cs.toList.take o ++ [v] := by
      rw [List.take_set, List.set_eq_take_append_cons_drop, if_pos (by simp; omega)]
      simp [List.take_take, List.drop_take]
    have e2 : (cs.toList.set o v).drop (o + 1 + r.length) = cs.toList.drop (o + (r.length + 1)) := by
      rw [List.drop_set_of_lt (by omega)]; congr 1; omega
    rw [e1, e2]
    simp

theorem setCells_other (b : Nat) : ∀ (vs : List Value) (o : Nat) (w : World) (k : Nat), k ≠ b → (w.setCells b o vs).heap[k]? = w.heap[k]?
  | [], _, _, _, _ => rfl
  | v :: r, o, w, k, hk => by
    simp only [World.setCells]
    rw [setCells_other b r _ _ k hk]
    simp only [World.setCell, Array.getElem?_modify]
    rw [if_neg (by omega)]

theorem setCells_size (b : Nat) : ∀ (vs : List Value) (o : Nat) (w : World), (w.setCells b o vs).heap.size = w.heap.size
  | [], _, _ => rfl
  | v :: r, o, w => by simp only [World.setCells]; rw [setCells_size b r]; simp [World.setCell]

theorem setCells_rest (b : Nat) : ∀ (vs : List Value) (o : Nat) (w : World), (w.setCells b o vs).os = w.os ∧ (w.setCells b o vs).tape = w.tape ∧ (w.setCells b o vs).output = w.output
  | [], _, _ => ⟨rfl, rfl, rfl⟩
  | v :: r, o, w => by simp only [World.setCells]; exact setCells_rest b r _ _

theorem storeCells_ok {b o : Nat} {vs : List Value} {cs : Array Value} {E : TypeId} {fz : Nat × Nat} (hb : w.heap[b]? = some (.cells cs E fz)) (hu : Unfz fz cs.size) (hl : o + vs.length ≤ cs.size) (h1 : ∀ v ∈ vs, v.oneCell' = true) :
    (storeCells ⟨b, o, none⟩ vs).run P w = .ok () (w.setCells b o vs) := by
  have := run_storeCells_cells (P := P) b o vs 0 w (fun j hj => by rw [cell_at hb]; simp; omega) (fun j hj => by
    simp only [World.frozen?, hb]
    have := hu (o + 0 + j) (by omega)
    simpa using this) h1
  simpa using this

theorem cells_of_V {v : V} {x : Value} {new : List C} (hv : RelV e v x) (hc : v.cells = some new) : RelCs e new x.cells.toList := by
  cases v with
  | one c =>
    cases hc
    have h1 := oneCell_of_RelC _ _ _ hv
    have : x.cells = #[x] := by cases x <;> first | rfl | (simp [Value.oneCell'] at h1)
    rw [this]
    exact .cons hv .nil
  | agg l => cases hc; obtain ⟨cs, rfl, hr⟩ := hv; exact hr
  | tup l => cases hc
  | any => cases hc

theorem putCells_rel {cells new : List C} {cs nv : List Value} (hr : RelCs e cells cs) (hn : RelCs e new nv) (off : Nat) (hl : off + new.length ≤ cells.length) :
    RelCs e (putCells cells off new) (cs.take off ++ nv ++ cs.drop (off + nv.length)) := by
  unfold putCells
  rw [hn.length]
  exact RelCs_append (RelCs_append (hr.take off) hn) (hr.drop _)

theorem Unfz.size {fz : Nat × Nat} {n m : Nat} (h : Unfz fz n) (e : m = n) : Unfz fz m := e ▸ h

theorem splice_get (cs nv : List Value) (p k : Nat) (hl : p + nv.length ≤ cs.length) :
    (cs.take p ++ nv ++ cs.drop (p + nv.length))[k]? = if p ≤ k ∧ k < p + nv.length then nv[k - p]? else cs[k]? := by
  by_cases h1 : k < p
  · rw [List.getElem?_append_left (by simp; omega), List.getElem?_append_left (by simp; omega), List.getElem?_take_of_lt h1, if_neg (by omega)]
  · by_cases h2 : k < p + nv.length
    · rw [List.getElem?_append_left (by simp; omega), List.getElem?_append_right (by simp; omega), if_pos ⟨by omega, h2⟩]
      simp [Nat.min_eq_left (by omega : p ≤ cs.length)]
    · rw [List.getElem?_append_right (by simp; omega), if_neg (by omega), List.getElem?_drop]
      congr 1
      simp; omega

theorem window_get {α : Type} (X : List α) (s z k : Nat) : ((X.drop s).take z)[k]? = if k < z then X[s + k]? else none := by
  rw [List.getElem?_take]; simp

theorem splice_in (cs nv : List Value) (s z off : Nat) (hl : s + z ≤ cs.length) (ho : off + nv.length ≤ z) :
    ((cs.take (s + off) ++ nv ++ cs.drop (s + off + nv.length)).drop s).take z = ((cs.drop s).take z).take off ++ nv ++ ((cs.drop s).take z).drop (off + nv.length) := by
  apply List.ext_getElem?
  intro k
  rw [window_get, splice_get _ _ _ _ (by omega), splice_get _ _ _ _ (by simp; omega), window_get]
  by_cases h1 : k < z
  · rw [if_pos h1, if_pos h1]
    by_cases h2 : off ≤ k ∧ k < off + nv.length
    · rw [if_pos h2, if_pos (by omega)]; congr 1; omega
    · rw [if_neg h2, if_neg (by omega)]
  · rw [if_neg h1, if_neg h1, if_neg (by omega)]

theorem splice_out (cs nv : List Value) (p s z : Nat) (hl : p + nv.length ≤ cs.length) (ho : s + z ≤ p ∨ p + nv.length ≤ s) :
    ((cs.take p ++ nv ++ cs.drop (p + nv.length)).drop s).take z = (cs.drop s).take z := by
  apply List.ext_getElem?
  intro k
  rw [window_get, splice_get _ _ _ _ hl, window_get]
  by_cases h1 : k < z
  · rw [if_pos h1, if_pos h1, if_neg (by omega)]
  · rw [if_neg h1, if_neg h1]

theorem store_ok (m : Mem A w0 e h w) {T : TypeId} {va vv : V} {xa xv : Value} {eff : Eff} (hs : stStore P h T va vv = some eff) (ha : RelV e va xa) (hv : RelV e vv xv) :
    ∃ w' e', (Instr.storeAt T xa xv).run P w = .ok () w' ∧ Le e e' ∧ eff.v = undefV ∧ Mem A w0 e' (updW h eff.wr) w' := by
  unfold stStore at hs
  cases hc : vv.cells with
  | none => rw [hc] at hs; cases hs
  | some new =>
    cases hz : sizeT P T with
    | none => rw [hc, hz] at hs; cases hs
    | some n =>
      rw [hc, hz] at hs; dsimp only at hs
      split at hs
      · rename_i hn
        have hnew := cells_of_V hv hc
        have hsz : xv.cells.size = n := by have := hnew.length; simp at this; omega
        have hrun : ∀ b o w', (storeCells ⟨b, o, none⟩ xv.cells.toList).run P w = .ok () w' → (Instr.storeAt T (.pointer (some ⟨b, o, none⟩)) xv).run P w = .ok () w' := by
          intro b o w' hst
          simp [Instr.storeAt, Instr.sureAddr, storeVar, run_size hz, hsz, hst]
        split at hs
        · rename_i id off
          have ho := m.hp id
          cases hid : h id <;> rw [hid] at hs ho <;> try (cases hs; done)
          rename_i cells
          dsimp only at hs
          split at hs
          · rename_i hle
            cases hs
            obtain ⟨b, cs, E, fz, hl, hb, hu, hr⟩ := ho
            simp only [RelV, RelC, hl] at ha
            subst ha
            have hlen := hr.length
            simp only [Array.length_toList] at hlen
            have hst := storeCells_ok (P := P) hb hu (o := off) (vs := xv.cells.toList) (by simp; omega) hnew.one
            refine ⟨_, e, hrun _ _ _ hst, Le.refl e, rfl, ?_⟩
            obtain ⟨r1, r2, r3⟩ := setCells_rest b xv.cells.toList off w
            refine m.set (b := b) (by rw [hl]; rfl) r1 r2 r3 (setCells_size ..) (fun k hk => setCells_other _ _ _ _ _ hk) ?_
            refine ⟨b, _, E, fz, hl, setCells_heap b _ _ _ _ _ _ hb (by simp; omega), ?_, ?_⟩
            · refine hu.size ?_
              simp; omega
            · have := putCells_rel hr hnew off (by omega)
              simpa using this
          · cases hs
        · rename_i id i off
          have ho := m.hp id
          cases hid : h id <;> rw [hid] at hs ho <;> try (cases hs; done)
          rename_i t l
          dsimp only at hs
          split at hs
          · rename_i hle
            split at hs
            · rename_i x' g hd
              split at hs
              · cases hs
              rename_i hg
              cases hs
              replace hg : id ∉ g := by simpa using hg
              rcases ho with ⟨hl, hn'⟩ | ⟨b, o, cap, cs, E, fz, hl, hcap, hb, hu, hs', hr⟩
              · simp only [RelV, RelC, hl] at ha
              · simp only [RelV, RelC, hl] at ha
                obtain ⟨hi, rfl⟩ := ha
                have hrow := hr i hi
                have hrd : rdT t l i = l[i] := by simp [rdT, List.getD, List.getElem?_eq_getElem hi]
                rw [hrd] at hd
                have hput := putCells_rel hrow hnew off (by rw [encD_length]; omega)
                obtain ⟨v1, v2, hvv, hx, hr2⟩ := decD_relC m.hp m.sep t _ x' [] g _ hd hput
                cases hr2
                rw [List.append_nil] at hvv
                have hvv0 := hvv
                subst hvv
                have hin : i * t.size + t.size ≤ cap * t.size := by
                  have : (i + 1) * t.size ≤ cap * t.size := Nat.mul_le_mul_right _ (by omega)
                  rw [Nat.add_mul, Nat.one_mul] at this; exact this
                have hst := storeCells_ok (P := P) hb hu (o := o + i * t.size + off) (vs := xv.cells.toList) (by simp; omega) hnew.one
                have m2 := m.gave g (fun i hi => m.noarr (decD_arr _ _ _ _ _ hd i hi))
                have hs3 : (cs.toList.drop (o + i * t.size)).take t.size = (cs.toList.drop (o + i * t.size)).take t.size := rfl
                refine ⟨_, gave e w g, hrun _ _ _ hst, Le.gave m.sep g, rfl, ?_⟩
                obtain ⟨r1, r2, r3⟩ := setCells_rest b xv.cells.toList (o + i * t.size + off) w
                have hloc : (gave e w g).loc id = .arr b o t.size cap l.length := by simp [gave, hg, hl]
                have m3 := m2.set (n := id) (b := b) (o := .arr t (l.set i x')) (by rw [hloc]; rfl) r1 r2 r3 (setCells_size ..) (fun k hk => setCells_other _ _ _ _ _ hk) (by
                  rw [hloc]
                  refine .inr ⟨b, o, cap, _, E, fz, by simp, by simpa using hcap, setCells_heap b _ _ _ _ _ _ hb (by simp; omega), ?_, ?_, ?_⟩
                  · refine hu.size ?_
                    simp; omega
                  · simp; omega
                  · intro j hj
                    simp only [List.length_set] at hj
                    by_cases hji : j = i
                    · subst hji
                      rw [List.getElem_set_self]
                      refine cast (congrArg (RelCs (gave e w g) (encD t x')) ?_) hx
                      rw [← hvv0]
                      exact (splice_in _ _ _ _ _ (by simp; omega) (by simp; omega)).symm
                    · rw [List.getElem_set_ne (fun h => hji h.symm)]
                      refine cast (congrArg (RelCs (gave e w g) (encD t l[j])) ?_) ((hr j hj).mono (Le.gave m.sep g))
                      refine (splice_out _ _ _ _ _ (by simp; omega) ?_).symm
                      rcases Nat.lt_or_gt_of_ne hji with hlt | hgt
                      · left
                        have : (j + 1) * t.size ≤ i * t.size := Nat.mul_le_mul_right _ (by omega)
                        rw [Nat.add_mul, Nat.one_mul] at this; omega
                      · right
                        have : (i + 1) * t.size ≤ j * t.size := Nat.mul_le_mul_right _ (by omega)
                        rw [Nat.add_mul, Nat.one_mul] at this; simp; omega)
                refine cast (congrArg (fun z => Mem A w0 _ z _) ?_) m3
                funext j
                show _ = updW (fun q => if q = id then .arr t (l.set i x') else h q) (deads g) j
                simp only [updW_deads]
                by_cases hj : j = id
                · subst hj; simp [hg]
                · simp [hj]
            · cases hs
          · cases hs
        · rename_i t y i off
          cases hpq : h POOL <;> rw [hpq] at hs <;> try (cases hs; done)
          rename_i u pl
          dsimp only at hs
          split at hs
          case isFalse => cases hs
          rename_i hle
          obtain ⟨hut, hle⟩ := hle
          subst hut
          split at hs
          case h_2 => cases hs
          rename_i x' hd
          cases hs
          obtain ⟨k, b, o, cap, cs, E, fz, hk, rfl, hl, hcap, hb, hu, hs', hr, hi, hxa, hrl⟩ := rep_spec m hpq ha
          subst hxa
          rw [hrl] at hd ⊢
          have hrow := hr i hi
          have hrd : rdT u pl[k] i = pl[k][i] := by simp [rdT, List.getD, List.getElem?_eq_getElem hi]
          rw [hrd] at hd
          have hput := putCells_rel hrow hnew off (by rw [encD_length]; omega)
          obtain ⟨v1, v2, hvv, hx0, hr2⟩ := decD_relC m.hp m.sep u _ x' [] [] _ hd hput
          cases hr2
          rw [List.append_nil] at hvv
          have hvv0 := hvv
          subst hvv
          rw [gave_nil] at hx0
          have hin : i * u.size + u.size ≤ cap * u.size := by
            have : (i + 1) * u.size ≤ cap * u.size := Nat.mul_le_mul_right _ (by omega)
            rw [Nat.add_mul, Nat.one_mul] at this; exact this
          have hst := storeCells_ok (P := P) hb hu (o := o + i * u.size + off) (vs := xv.cells.toList) (by simp; omega) hnew.one
          refine ⟨_, e, hrun _ _ _ hst, Le.refl e, rfl, ?_⟩
          obtain ⟨r1, r2, r3⟩ := setCells_rest b xv.cells.toList (o + i * u.size + off) w
          exact m.vset (k := k) (b := b) (l' := pl[k].set i x') hpq hk (by rw [hl]; rfl) r1 r2 r3 (setCells_size ..) (fun k hk => setCells_other _ _ _ _ _ hk) (by
            rw [hl]
            refine .inr ⟨b, o, cap, _, E, fz, by simp, by simpa using hcap, setCells_heap b _ _ _ _ _ _ hb (by simp; omega), ?_, ?_, ?_⟩
            · refine hu.size ?_
              simp; omega
            · simp; omega
            · intro j hj
              simp only [List.length_set] at hj
              by_cases hji : j = i
              · subst hji
                rw [List.getElem_set_self]
                refine cast (congrArg (RelCs e (encD u x')) ?_) hx0
                rw [← hvv0]
                exact (splice_in _ _ _ _ _ (by simp; omega) (by simp; omega)).symm
              · rw [List.getElem_set_ne (fun h => hji h.symm)]
                refine cast (congrArg (RelCs e (encD u pl[k][j])) ?_) (hr j hj)
                refine (splice_out _ _ _ _ _ (by simp; omega) ?_).symm
                rcases Nat.lt_or_gt_of_ne hji with hlt | hgt
                · left
                  have : (j + 1) * u.size ≤ i * u.size := Nat.mul_le_mul_right _ (by omega)
                  rw [Nat.add_mul, Nat.one_mul] at this; omega
                · right
                  have : (i + 1) * u.size ≤ j * u.size := Nat.mul_le_mul_right _ (by omega)
                  rw [Nat.add_mul, Nat.one_mul] at this; simp; omega)
        · cases hs
      · cases hs
end
end Go.Proofs.Ytmcdddghlcllbaa.Den
