/- Functions of Go's library that change a row in place, by the library's own contracts: slices.Sort and slices.Compact over whole numbers, as contracts of the abstract machine. -/
import Derived.Test.YtmcdddghlcllbaaY
import Derived.Shelf.Sort.Plain
import Derived.Shelf.Slices.CompactI
import Derived.Shelf.Slices.In.SortNone
import Derived.Lib.RowBridge
set_option autoImplicit false
set_option linter.unusedVariables false
set_option linter.unusedSimpArgs false
namespace Go.Proofs.Ytmcdddghlcllbaa.Den
open Go.Sort

def sorted (l : List Int) : List Int := l.mergeSort fun x y => decide (x ≤ y)

def sortFc (fid : Nat) : Fc := ⟨fid, [.c (.arr (.int .i64))], [(0, .c (.arr (.int .i64)))], [], fun _ x => if x.1.length ≤ big then some (sorted x.1, ()) else .none⟩
def compactFc (fid : Nat) : Fc := ⟨fid, [.c (.arr (.int .i64))], [], [.c (.arr (.int .i64))], fun _ x => if x.1.length ≤ big then some (Lib.compact x.1, ()) else .none⟩

section
variable {P : Program}

theorem rows_int {imm : Nat → Option Obj} {l : List Int} {cs : List Value} {o : Nat} (h : Rows0 imm (.int .i64) l cs o) : ∀ i (hi : i < l.length), cs[o + i]? = some (.int .i64 l[i]) := by
  intro i hi
  have := h i hi
  simp only [RelD, Ty.size, Nat.mul_one] at this
  have h0 := congrArg (fun z => z[0]?) this
  simpa using h0

theorem int_rows {imm : Nat → Option Obj} {l : List Int} {cs : List Value} {o : Nat} (h : ∀ i (hi : i < l.length), cs[o + i]? = some (.int .i64 l[i])) : Rows0 imm (.int .i64) l cs o := by
  intro i hi
  simp only [RelD, Ty.size, Nat.mul_one]
  have := h i hi
  have hlt := (List.getElem?_eq_some_iff.1 this)
  obtain ⟨h1, h2⟩ := hlt
  rw [List.drop_eq_getElem_cons h1, h2]
  simp

/-- A row of a block, written anew. -/
theorem putRow_at {w : World} {b o : Nat} {cs : Array Value} {E : TypeId} {fz : Nat × Nat} (hb : w.heap[b]? = some (.cells cs E fz)) (n : Nat) (d : List Int) (os : Array Obj) :
    (grow (putRow (Value.int .i64) (Sort.ahead w n) b o d.toArray) os).heap[b]? = some (.cells (Go.Sort.putCells (Value.int .i64) o d.toArray cs) E fz) ∧
    (∀ j, j ≠ b → j < w.heap.size → (grow (putRow (Value.int .i64) (Sort.ahead w n) b o d.toArray) os).heap[j]? = w.heap[j]?) ∧
    w.heap.size ≤ (grow (putRow (Value.int .i64) (Sort.ahead w n) b o d.toArray) os).heap.size := by
  have hlt : b < w.heap.size := (Array.getElem?_eq_some_iff.1 hb).1
  have hsz : (putRow (Value.int .i64) (Sort.ahead w n) b o d.toArray).heap.size = w.heap.size := by simp [putRow, mapBlock, Sort.ahead]
  refine ⟨?_, fun j hj hjl => ?_, by simp [hsz]⟩
  · rw [heap_grow_old _ _ (by rw [hsz]; exact hlt)]
    simp only [putRow, mapBlock, Sort.ahead, Array.getElem?_modify, hb, if_pos, Option.map_some, onCells]
  · rw [heap_grow_old _ _ (by rw [hsz]; exact hjl)]
    simp only [putRow, mapBlock, Sort.ahead, Array.getElem?_modify]
    rw [if_neg (fun h => hj h.symm)]

theorem putCells_get {o : Nat} {d : List Int} {cs : Array Value} {i : Nat} (hi : i < d.length) (ho : o + i < cs.size) : (Go.Sort.putCells (Value.int .i64) o d.toArray cs).toList[o + i]? = some (.int .i64 d[i]) := by
  simp only [Go.Sort.putCells, Array.getElem?_toList, Array.getElem?_mapIdx, Array.getElem?_eq_getElem ho, Option.map_some]
  rw [if_pos ⟨Nat.le_add_right _ _, by simpa using hi⟩]
  simp [hi]

theorem putCells_size {o : Nat} {d : Array Int} {cs : Array Value} : (Go.Sort.putCells (Value.int .i64) o d cs).size = cs.size := by simp [Go.Sort.putCells]

/-- What a call finds that is handed one row of numbers. -/
theorem row_arg {e : Env} {w : World} {l : List Int} {vs : List Value} (hv : RelVs e (encSs [.c (.arr (.int .i64))] (l, ()) 0).1 vs) (hh : RelH e w (hpf (encSs [.c (.arr (.int .i64))] (l, ()) 0).2)) :
    (∀ j, j ≠ 0 → e.loc j = .un) ∧ ((e.loc 0 = .nil ∧ l = [] ∧ vs = [.slice none 0 0]) ∨ ∃ b o cap cs E fz a, e.loc 0 = .arr b o 1 cap l.length ∧ l.length ≤ cap ∧ w.heap[b]? = some (.cells cs E fz) ∧ Unfz fz cs.size ∧ o + cap ≤ cs.size ∧ Rows0 e.imm (.int .i64) l cs.toList o ∧
      vs = [.slice (some a) l.length cap] ∧ (cap = 0 ∨ a = ⟨b, o, none⟩)) := by
  refine ⟨fun j hj => ?_, ?_⟩
  · have := hh j
    have hn : hpf (encSs [.c (.arr (.int .i64))] (l, ()) 0).2 j = .none := by
      have h1 : (encSs [.c (.arr (.int .i64))] (l, ()) 0).2[j]? = none := List.getElem?_eq_none (by simp [encSs, encS, encC]; omega)
      exact hpf_none h1 rfl
    rw [hn] at this
    exact this
  · have h0 := hh 0
    have hn : hpf (encSs [.c (.arr (.int .i64))] (l, ()) 0).2 0 = .arr (.int .i64) l := rfl
    rw [hn] at h0
    cases hv with
    | cons hx hr =>
      cases hr
      simp only [encS, encC, RelV, RelC] at hx
      rcases h0 with ⟨h0, h1⟩ | ⟨b, o, cap, cs, E, fz, h0, h1, h2, h3, h4, h5⟩
      · rw [h0] at hx
        exact .inl ⟨h0, h1, by rw [hx.2.2]⟩
      · rw [h0] at hx
        obtain ⟨_, _, a, rfl, ha⟩ := hx
        refine .inr ⟨b, o, cap, cs, E, fz, a, h0, h1, h2, h3, by simpa [Ty.size] using h4, rows0_of rfl h5, by simp, ?_⟩
        simpa using ha

theorem holds_row {w : World} {b o cap : Nat} {cs : Array Value} {E : TypeId} {fz : Nat × Nat} {l : List Int} {imm : Nat → Option Obj} (hb : w.heap[b]? = some (.cells cs E fz)) (hu : Unfz fz cs.size) (hs : o + cap ≤ cs.size) (hl : l.length ≤ cap) (hr : Rows0 imm (.int .i64) l cs.toList o) :
    Holds (Value.int .i64) w b o l.toArray := by
  intro j hj
  have hj' : j < l.length := by simpa using hj
  have h1 := rows_int hr j hj'
  refine ⟨?_, ?_⟩
  · simp only [World.cell?, hb]
    simp only [Array.getElem?_toList] at h1
    rw [h1]
    simp [hj']
  · have h2 := hu (o + j) (by omega)
    simp only [World.frozen?, hb]
    simpa using h2

theorem sort_ok {ρ : Go.Shelf.Ren} (L : Lays.n189 P ρ) (hname : ∃ fn, P.funcs[ρ.f 189]? = some fn ∧ (fn.name == "runtime.NumGoroutine") = false ∧ fn.body.isNone = false) : ∀ k, FcOK P (sortFc (ρ.f 189)) k := fun k => {
  fn := hname
  calls := fun x y hy w e vs hvs hh hvo hsep => by
    obtain ⟨l, _⟩ := x
    have hy0 : (if l.length ≤ big then some (sorted l, ()) else .none : Option (List Int × Unit)) = some y := hy
    have hbig : big = 1099511627776 := rfl
    split at hy0
    case isFalse => cases hy0
    rename_i hlen
    cases hy0
    obtain ⟨hun, hrow⟩ := row_arg (l := l) hvs hh
    have hsl : (sorted l).length = l.length := by simp [sorted]
    -- what is left
    have fin : ∀ w' : World, RelO e w' (e.loc 0) (.arr (.int .i64) (sorted l)) → Frm (Own e w) w w' → Sep (Own e w) e w' → Left (sortFc (ρ.f 189)) e w (sorted l, ()) (.returned (.tuple #[])) w' := by
      intro w' h1 h2 h3
      refine ⟨.tuple #[], e, rfl, ⟨#[], rfl, .nil⟩, fun id => ?_, h3, h2, fun _ _ h => h, fun _ _ h => .inl h, ?_, .un (fun k => vl_un hvo rfl k), fun k hk => (hk (vl_un hvo rfl k)).elim⟩
      · by_cases hid : id = 0
        · subst hid; exact h1
        · have hn : hpf (encSs ((sortFc (ρ.f 189)).outs.map (·.2) ++ (sortFc (ρ.f 189)).res) (sorted l, ()) 0).2 id = .none := by
            have h1 : (encSs ((sortFc (ρ.f 189)).outs.map (·.2) ++ (sortFc (ρ.f 189)).res) (sorted l, ()) 0).2[id]? = none := List.getElem?_eq_none (by show 1 ≤ id; omega)
            exact hpf_none h1 rfl
          rw [hn]; exact hun id hid
      · intro p hp
        simp [outHeads, argHeads, sortFc, heads] at hp
        rw [hp]
    rcases hrow with ⟨hl, rfl, rfl⟩ | ⟨b, o, cap, cs, E, fz, a, hl, hcap, hb, hu, hs, hr, rfl, ha⟩
    · refine (calls_of_every_depth fun D => AnyS.slices_Sort_int_none_in L D none 0 w).mono ?_
      rintro r w' ⟨rfl, rfl⟩
      exact fin w' (.inl ⟨hl, by simp [sorted]⟩) (Frm.refl _ _) hsep
    · by_cases hz : l = []
      · subst hz
        refine (calls_of_every_depth fun D => AnyS.slices_Sort_int_none_in L D (some a) cap w).mono ?_
        rintro r w' ⟨rfl, rfl⟩
        exact fin w' (.inr ⟨b, o, cap, cs, E, fz, hl.trans (by simp [sorted, Ty.size]), by simp [sorted], hb, hu, by simpa [Ty.size] using hs, by rw [show sorted [] = [] by simp [sorted]]; exact rowsC_of hr⟩) (Frm.refl _ _) hsep
      · have hpos : 0 < l.length := List.length_pos_iff.2 hz
        have ha' : a = ⟨b, o, none⟩ := ha.resolve_left (by omega)
        subst ha'
        have hown : (e.loc 0).own = some b := by rw [hl]; rfl
        have hA := (hsep.own 0 b hown)
        refine (Any.slices_Sort_int L b o cap l w (holds_row hb hu hs hcap hr) (Array.getElem?_eq_some_iff.1 hb).1 (by omega)).mono ?_
        rintro r w' ⟨rfl, n, os, rfl⟩
        obtain ⟨p1, p2, p3⟩ := putRow_at hb n (sorted l) os
        refine fin _ (.inr ⟨b, o, cap, _, E, fz, by rw [hl, hsl]; rfl, by rw [hsl]; exact hcap, p1, by rw [putCells_size]; exact hu, by rw [putCells_size]; simpa [Ty.size] using hs, rowsC_of (int_rows fun i hi => putCells_get hi (by rw [hsl] at hi; omega))⟩) ⟨rfl, rfl, rfl, p3, fun j hj => ?_⟩ ⟨fun j q hq => ?_, fun id j hj => hsep.own id j hj, hsep.inj, hsep.vown, hsep.vinj, hsep.vdis, hsep.tb⟩
        · refine p2 j (fun h => hj (h ▸ .inr (.inl ⟨0, hown⟩))) ?_
          exact Classical.byContradiction fun h => hj (.inl (by omega))
        · have hq' := hsep.imm j q hq
          refine (p2 j (fun h => ?_) (Array.getElem?_eq_some_iff.1 hq').1).trans hq'
          subst h
          rw [hA.2] at hq; cases hq }

theorem compact_length_le (l : List Int) : (Lib.compact l).length ≤ l.length := Lib.compact_length_le l

theorem compact_ok {ρ : Go.Shelf.Ren} (L : Lays2.n20 P ρ) (hname : ∃ fn, P.funcs[ρ.f 20]? = some fn ∧ (fn.name == "runtime.NumGoroutine") = false ∧ fn.body.isNone = false) : ∀ k, FcOK P (compactFc (ρ.f 20)) k := fun k => {
  fn := hname
  calls := fun x y hy w e vs hvs hh hvo hsep => by
    obtain ⟨l, _⟩ := x
    have hy0 : (if l.length ≤ big then some (Lib.compact l, ()) else .none : Option (List Int × Unit)) = some y := hy
    have hbig : big = 1099511627776 := rfl
    split at hy0
    case isFalse => cases hy0
    rename_i hlen
    cases hy0
    obtain ⟨hun, hrow⟩ := row_arg (l := l) hvs hh
    have hsl := Lib.compact_length_le l
    -- what is left
    have fin : ∀ (w' : World) (v : Value) (L0 : Loc), (∀ b, L0.own = some b → (e.loc 0).own = some b) → RelC ⟨e.imm, fun j => if j = 0 then L0 else .un, fun _ => .un⟩ (.sl 0 .none .none) v → RelO ⟨e.imm, fun j => if j = 0 then L0 else .un, fun _ => .un⟩ w' L0 (.arr (.int .i64) (Lib.compact l)) → Frm (Own e w) w w' → (∀ b q, e.imm b = some q → w'.heap[b]? = some q) →
        Left (compactFc (ρ.f 20)) e w (Lib.compact l, ()) (.returned v) w' := by
      intro w' v L0 h0 h1 h2 h3 h4
      refine ⟨v, ⟨e.imm, fun j => if j = 0 then L0 else .un, fun _ => .un⟩, rfl, h1, fun id => ?_, ⟨h4, fun id b hb => ?_, fun i j b hi hj => ?_, (fun k b hb => by cases hb), (fun k j b hb => by cases hb), (fun i k b _ hb => by cases hb), hsep.tb⟩, h3, fun _ _ h => h, fun _ _ h => .inl h, ?_, .un (fun _ => rfl), fun k hk => (hk (vl_un hvo rfl k)).elim⟩
      · by_cases hid : id = 0
        · subst hid; exact h2
        · have hn : hpf (encSs ((compactFc (ρ.f 20)).outs.map (·.2) ++ (compactFc (ρ.f 20)).res) (Lib.compact l, ()) 0).2 id = .none := by
            have h1 : (encSs ((compactFc (ρ.f 20)).outs.map (·.2) ++ (compactFc (ρ.f 20)).res) (Lib.compact l, ()) 0).2[id]? = none := List.getElem?_eq_none (by show 1 ≤ id; omega)
            exact hpf_none h1 rfl
          rw [hn]
          show (if id = 0 then L0 else Loc.un) = .un
          rw [if_neg hid]
      · simp only at hb
        split at hb
        · exact hsep.own 0 b (h0 b hb)
        · cases hb
      · simp only at hi hj
        split at hi
        · split at hj
          · omega
          · cases hj
        · cases hi
      · intro p hp
        simp [outHeads, argHeads, compactFc, heads] at hp
    rcases hrow with ⟨hl, rfl, rfl⟩ | ⟨b, o, cap, cs, E, fz, a, hl, hcap, hb, hu, hs, hr, rfl, ha⟩
    · refine (Any.slices_Compact_int_empty L none 0 w).mono ?_
      rintro r w' ⟨rfl, rfl⟩
      exact fin w' _ .nil (fun b hb => by cases hb) ⟨rfl, rfl, rfl⟩ (.inl ⟨rfl, rfl⟩) (Frm.refl _ _) hsep.imm
    · have hown : (e.loc 0).own = some b := by rw [hl]; rfl
      by_cases hz : l = []
      · subst hz
        refine (Any.slices_Compact_int_empty L (some a) cap w).mono ?_
        rintro r w' ⟨rfl, rfl⟩
        exact fin w' _ (.arr b o 1 cap 0) (fun b' hb' => by rw [hl]; exact hb') ⟨Nat.le_refl _, Nat.le_refl _, a, rfl, by simpa using ha⟩ (.inr ⟨b, o, cap, cs, E, fz, rfl, hcap, hb, hu, by simpa [Ty.size] using hs, fun i hi => by cases hi⟩) (Frm.refl _ _) hsep.imm
      · have hpos : 0 < l.length := List.length_pos_iff.2 hz
        have ha' : a = ⟨b, o, none⟩ := ha.resolve_left (by omega)
        subst ha'
        have hA := (hsep.own 0 b hown)
        refine (Any.slices_Compact_int L b o cap l w (holds_row hb hu hs hcap hr) (by omega) hcap).mono ?_
        rintro r w' ⟨rfl, n, rfl⟩
        obtain ⟨p1, p2, p3⟩ := putRow_at hb n (Lib.compact l ++ List.replicate (l.length - (Lib.compact l).length) 0) #[]
        simp only [grow_empty] at p1 p2 p3
        refine fin _ _ (.arr b o 1 cap (Lib.compact l).length) (fun b' hb' => by rw [hl]; exact hb') ⟨Nat.zero_le _, Nat.le_refl _, ⟨b, o, none⟩, by simp, .inr (by simp)⟩ (.inr ⟨b, o, cap, _, E, fz, rfl, by omega, p1, by rw [putCells_size]; exact hu, by rw [putCells_size]; simpa [Ty.size] using hs, rowsC_of (int_rows fun i hi => ?_)⟩) ⟨rfl, rfl, rfl, p3, fun j hj => ?_⟩ (fun j q hq => ?_)
        · have := putCells_get (o := o) (d := Lib.compact l ++ List.replicate (l.length - (Lib.compact l).length) 0) (cs := cs) (i := i) (by simp; omega) (by omega)
          rw [this, List.getElem_append_left hi]
        · refine p2 j (fun h => hj (h ▸ .inr (.inl ⟨0, hown⟩))) ?_
          exact Classical.byContradiction fun h => hj (.inl (by omega))
        · have hq' := hsep.imm j q hq
          refine (p2 j (fun h => ?_) (Array.getElem?_eq_some_iff.1 hq').1).trans hq'
          subst h
          rw [hA.2] at hq; cases hq }
end
end Go.Proofs.Ytmcdddghlcllbaa.Den
