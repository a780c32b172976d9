/- Each single operation of the abstract machine does what the Go operation does (constants, new variables, composite values). -/
import Derived.Test.YtmcdddghlcllbaaI
set_option autoImplicit false
set_option linter.unusedVariables false
set_option linter.unusedSimpArgs false
namespace Go.Proofs.Ytmcdddghlcllbaa.Den
open Classical

section
variable {P : Program} {A : Nat → Prop} {w0 : Start} {e : Env} {h : Hp} {w : World}

theorem absC_rel (e : Env) (v : Value) (h1 : v.oneCell' = true) : RelC e (absC v) v := by
  unfold absC
  split <;> first | rfl | exact h1

theorem absCs_rel (e : Env) : ∀ (l : List Value), (∀ v ∈ l, v.oneCell' = true) → RelCs e (l.map absC) l
  | [], _ => .nil
  | v :: r, h => .cons (absC_rel e v (h v (by simp))) (absCs_rel e r (fun x hx => h x (by simp [hx])))

theorem absV_rel (e : Env) (v : Value) : RelV e (absV v) v := by
  unfold absV
  split
  · rename_i cs
    split
    · rename_i hc
      exact ⟨cs, rfl, absCs_rel e _ (fun v hv => (Array.all_eq_true_iff_forall_mem.1 hc) v (by simpa using hv))⟩
    · trivial
  · exact ⟨_, rfl, .nil⟩
  · trivial
  · rename_i h1 h2 h3
    refine absC_rel e v ?_
    cases v with
    | agg cs => exact (h1 _ rfl).elim
    | tuple vs => exact (h3 _ rfl).elim
    | _ => rfl

theorem zero_spec {T : TypeId} {z : List C} (hz : zeroCells P T = some z) : ∃ i v, P.info? T = some i ∧ i.zero = some v ∧ z = v.cells.toList.map absC ∧ (∀ x ∈ v.cells.toList, x.oneCell' = true) ∧ ∀ w, (zeroValue T).run P w = .ok v w := by
  unfold zeroCells at hz
  split at hz
  · rename_i i hi
    split at hz
    · rename_i v hv
      split at hz
      · rename_i hc
        cases hz
        exact ⟨i, v, hi, hv, rfl, fun x hx => (Array.all_eq_true_iff_forall_mem.1 hc) x (by simpa using hx), fun w => by simp [zeroValue, typeInfo, hi, hv]⟩
      · cases hz
    · cases hz
  · cases hz

/-- A new block of cells. -/
theorem newBox (m : Mem A w0 e h w) {n : Nat} (hn : h n = .none) (hnP : n ≠ POOL) {cells : List C} {cs : Array Value} (hr : RelCs e cells cs.toList) (T : TypeId) :
    Mem A w0 (atLoc e n (.box w.heap.size)) (updW h [(n, .box cells)]) (w.alloc (.cells cs T)) :=
  m.alloc (L := .box w.heap.size) (o := .box cells) hn (Ext.alloc _ _) (fun b hb => by cases hb; exact Nat.le_refl _) ⟨w.heap.size, cs, T, (0, 0), rfl, heap_alloc_new w _, fun o _ h => by simp at h, hr.mono (Le.at (loc_un m.hp hn))⟩ hnP rfl

theorem alloc_ok (m : Mem A w0 e h w) {n : Nat} (hn : h n = .none) (hnP : n ≠ POOL) {T : TypeId} {z : List C} (hz : zeroCells P T = some z) :
    ∃ x w' e', (Instr.alloc T true (.tuple #[])).run P w = .ok x w' ∧ Le e e' ∧ RelV e' (.one (.ptr n 0)) x ∧ Mem A w0 e' (updW h [(n, .box z)]) w' := by
  obtain ⟨i, v, hi, hv, rfl, h1, hrun⟩ := zero_spec hz
  refine ⟨.pointer (some ⟨w.heap.size, 0, none⟩), w.alloc (.cells v.cells T), atLoc e n (.box w.heap.size), ?_, Le.at (loc_un m.hp hn), by simp [RelV, RelC, atLoc], newBox m hn hnP (absCs_rel e _ h1) T⟩
  first | (simp [Instr.alloc, hrun, newVar, newRow]; done) | (simp [Instr.alloc, hrun, newVar, newRow]; rfl)

theorem box_ok (m : Mem A w0 e h w) {n : Nat} (hn : h n = .none) (hnP : n ≠ POOL) {T : TypeId} {v : V} {x : Value} {cs : List C} (hv : RelV e v x) (hc : v.cells = some cs) :
    ∃ y w' e', (Instr.box T x).run P w = .ok y w' ∧ Le e e' ∧ RelV e' (.one (.ptr n 0)) y ∧ Mem A w0 e' (updW h [(n, .box cs)]) w' := by
  refine ⟨.pointer (some ⟨w.heap.size, 0, none⟩), w.alloc (.cells x.cells T), atLoc e n (.box w.heap.size), ?_, Le.at (loc_un m.hp hn), by simp [RelV, RelC, atLoc], newBox m hn hnP (cells_of_V hv hc) T⟩
  first | (simp [Instr.box, newVar, newRow]; done) | (simp [Instr.box, newVar, newRow]; rfl)

/-! ### Composite values -/

theorem foldl_set (off : Nat) : ∀ (l : List Value) (k : Nat) (cs : Array Value), off + k + l.length ≤ cs.size →
    ((l.zipIdx k).foldl (fun cs (p : Value × Nat) => cs.setIfInBounds (off + p.2) p.1) cs).toList = cs.toList.take (off + k) ++ l ++ cs.toList.drop (off + k + l.length)
  | [], k, cs, h => by simp
  | v :: r, k, cs, h => by
    simp only [List.zipIdx_cons, List.foldl_cons]
    rw [foldl_set off r (k + 1) _ (by simp at h ⊢; omega)]
    simp only [Array.toList_setIfInBounds, List.length_cons]
    simp only [List.length_cons] at h
    have hlt : off + k < cs.toList.length := by simp; omega
    have e1 : (cs.toList.set (off + k) v).take (off + (k + 1)) = cs.toList.take (off + k) ++ [v] := by
      rw [List.take_set, List.set_eq_take_append_cons_drop, if_pos (by simp; omega)]
      rw [show off + (k + 1) = off + k + 1 by omega]
      simp [List.take_take, List.drop_take]
    have e2 : (cs.toList.set (off + k) v).drop (off + (k + 1) + r.length) = cs.toList.drop (off + k + (r.length + 1)) := by
      rw [List.drop_set_of_lt (by omega)]; congr 1; omega
    rw [e1, e2]
    simp

inductive RelPs (e : Env) : List (Nat × V) → List (Nat × Value) → Prop where
  | nil : RelPs e [] []
  | cons {i : Nat} {v : V} {x : Value} {l : List (Nat × V)} {r : List (Nat × Value)} : RelV e v x → RelPs e l r → RelPs e ((i, v) :: l) ((i, x) :: r)

theorem fill_ok {place : Nat → Option (Nat × Nat)} {places : List (Nat × Nat)} (hp : ∀ i p, places[i]? = some p → place i = some p) : ∀ (vs : List (Nat × V)) (xs : List (Nat × Value)) (cells cells' : List C) (cs : Array Value),
    RelPs e vs xs → RelCs e cells cs.toList → fillC places cells vs = some cells' → ∃ cs', Instr.fill place cs xs = some cs' ∧ RelCs e cells' cs'.toList
  | [], _, cells, cells', cs, .nil, hr, hf => by simp [fillC] at hf; subst hf; exact ⟨cs, rfl, hr⟩
  | (i, v) :: l, _, cells, cells', cs, .cons (x := x) (r := r) hv hl, hr, hf => by
    rw [fillC] at hf
    split at hf
    · rename_i off sz new hpl hc
      split at hf
      · rename_i hle
        have hnew := cells_of_V hv hc
        have hlen := hr.length
        have hlen2 := hnew.length
        simp only [Array.length_toList] at hlen hlen2
        have hput := putCells_rel hr hnew off (by omega)
        have hfold : (x.cells.zipIdx.foldl (fun cs (p : Value × Nat) => cs.setIfInBounds (off + p.2) p.1) cs).toList = cs.toList.take off ++ x.cells.toList ++ cs.toList.drop (off + x.cells.toList.length) := by
          have := foldl_set off x.cells.toList 0 cs (by simp; omega)
          simp only [Nat.add_zero] at this
          rw [← this]
          congr 1
          rw [← Array.foldl_toList, Array.toList_zipIdx]
        obtain ⟨cs', h1, h2⟩ := fill_ok hp l r _ cells' (x.cells.zipIdx.foldl (fun cs (p : Value × Nat) => cs.setIfInBounds (off + p.2) p.1) cs) hl (by rw [hfold]; exact hput) hf
        refine ⟨cs', ?_, h2⟩
        rw [Instr.fill, hp i _ hpl]
        simp only
        rw [if_neg (by simp; omega)]
        exact h1
      · cases hf
    · cases hf

theorem mapM_places {fs : List Field} : ∀ {pl : List (Nat × Nat)}, placesOf P fs = some pl → ∀ w, (fs.mapM (fun f => do pure (f.offset, ← sizeOf f.type) : Field → Sem (Nat × Nat))).run P w = .ok pl w := by
  induction fs with
  | nil => intro pl h w; cases h; rfl
  | cons f r ih =>
    intro pl h w
    rw [placesOf] at h
    split at h
    · rename_i n l hn hl
      cases h
      rw [List.mapM_cons]
      simp only [Sem.run_bind, run_size hn, Result.andThen_ok, Sem.run_pure, ih hl]
    · cases h

theorem build_ok {T : TypeId} {vs : List (Nat × V)} {xs : Array (Nat × Value)} {eff : Eff} (hs : stBuild P T vs = some eff) (hv : RelPs e vs xs.toList) :
    ∃ y, (Instr.build T xs).run P w = .ok y w ∧ RelV e eff.v y ∧ eff.wr = [] := by
  unfold stBuild at hs
  split at hs
  · rename_i z fs hz hu
    split at hs
    · rename_i pl hpl
      obtain ⟨cells, hf, hs⟩ := bind_some hs
      rw [ok_eff hs]
      obtain ⟨i, v, hi, hzv, rfl, h1, hrun⟩ := zero_spec hz
      have hmap := mapM_places hpl w
      have hmap' : (fs.mapM (fun f => do pure (f.offset, ← sizeOf f.type) : Field → Sem (Nat × Nat))).run P w = .ok pl.toArray w := by
        rw [Array.mapM_eq_mapM_toList, Sem.run_map, hmap]; rfl
      obtain ⟨cs', hc1, hc2⟩ := fill_ok (place := (pl.toArray[·]?)) (places := pl) (fun i p hp => by simpa using hp) vs xs.toList _ cells v.cells hv (absCs_rel e _ h1) hf
      refine ⟨.agg cs', ?_, ⟨cs', rfl, hc2⟩, rfl⟩
      simp only [Instr.build, Sem.run_bind, hrun, Result.andThen_ok, run_underlying hu, hmap', hc1]
      rfl
    · cases hs
  · rename_i z n E hz hu
    split at hs
    · rename_i sz hsz
      obtain ⟨cells, hf, hs⟩ := bind_some hs
      rw [ok_eff hs]
      obtain ⟨i, v, hi, hzv, rfl, h1, hrun⟩ := zero_spec hz
      obtain ⟨cs', hc1, hc2⟩ := fill_ok (place := fun i => some (i * sz, sz)) (fun i p hp => by
        rw [List.getElem?_map] at hp
        cases hq : (List.range n)[i]? with
        | none => rw [hq] at hp; cases hp
        | some j =>
          rw [hq] at hp
          have : i = j := by
            rw [List.getElem?_range] at hq
            · simpa using hq
            · by_cases hlt : i < n
              · exact hlt
              · rw [List.getElem?_eq_none (by simp; omega)] at hq; cases hq
          subst this
          simpa using hp) vs xs.toList _ cells v.cells hv (absCs_rel e _ h1) hf
      refine ⟨.agg cs', ?_, ⟨cs', rfl, hc2⟩, rfl⟩
      simp [Instr.build, hrun, run_underlying hu, run_size hsz, hc1]
    · cases hs
  · cases hs

theorem zrow_rel {z : List C} {zv : Array Value} (hr : RelCs e z zv.toList) (hpos : 0 < zv.size) : ∀ n, RelCs e (zrow z n) ((Array.range n).map (zv[· % zv.size]!)).toList := by
  intro n
  have key : ∀ l : List Nat, RelCs e (l.map fun j => z.getD (j % z.length) .top) (l.map fun j => zv[j % zv.size]!) := by
    intro l
    induction l with
    | nil => exact .nil
    | cons j r ih =>
      refine .cons ?_ ih
      have hl := hr.length
      simp only [Array.length_toList] at hl
      have hj : j % z.length < z.length := Nat.mod_lt _ (by omega)
      obtain ⟨v, hv, hrv⟩ := hr.get (j % z.length) _ (List.getElem?_eq_getElem hj)
      have h1 : z.getD (j % z.length) .top = z[j % z.length] := by simp [List.getD, List.getElem?_eq_getElem hj]
      have h2 : zv[j % zv.size]! = v := by
        rw [← hl]
        have hv' : zv[j % z.length]? = some v := by simpa using hv
        simp [Array.getElem!_eq_getD, Array.getD_eq_getD_getElem?, hv']
      show RelC e (z.getD (j % z.length) .top) (zv[j % zv.size]!)
      rw [h1, h2]; exact hrv
  have := key (List.range n)
  simpa [zrow, Array.toList_map, Array.toList_range] using this

theorem decN_rel (m : Mem A w0 e h w) (t : Ty) : ∀ (n : Nat) (cells : List C) (l : List t.D) (g : List Nat) (vs : List Value), decN t h n cells = some (l, g) → RelCs e cells vs →
    l.length = n ∧ vs.length = n * t.size ∧ ∀ i (hi : i < l.length), RelCs (gave e w g) (encD t l[i]) ((vs.drop (i * t.size)).take t.size)
  | 0, [], l, g, vs, h, hr => by cases h; cases hr; exact ⟨rfl, by simp, fun i hi => by simp at hi⟩
  | 0, _ :: _, l, g, vs, h, hr => by simp [decN] at h
  | n + 1, cells, l, g, vs, hd, hr => by
    rw [decN] at hd
    split at hd
    · rename_i x r g1 h1
      split at hd
      · rename_i l' g2 h2
        cases hd
        obtain ⟨v1, v2, rfl, hx, hr2⟩ := decD_relC m.hp m.sep t cells x r g1 vs h1 hr
        obtain ⟨e1, e2, e3⟩ := decN_rel m t n r l' g2 v2 h2 hr2
        have hl1 : v1.length = t.size := by rw [← hx.length, encD_length]
        refine ⟨by simp [e1], by simp [hl1, e2, Nat.add_mul]; omega, fun i hi => ?_⟩
        cases i with
        | zero =>
          simp only [Nat.zero_mul, List.drop_zero, List.getElem_cons_zero]
          rw [List.take_append_of_le_length (by omega), List.take_of_length_le (by omega)]
          exact hx.mono (Le.gave_gave m.sep (by simp +contextual))
        | succ i =>
          simp only [List.getElem_cons_succ]
          rw [List.drop_append, List.drop_of_length_le (by rw [hl1, Nat.add_mul]; omega), List.nil_append, hl1]
          rw [show (i + 1) * t.size - t.size = i * t.size by rw [Nat.add_mul]; omega]
          exact (e3 i (by simpa using hi)).mono (Le.gave_gave m.sep (by simp +contextual))
      · cases hd
    · cases hd

end
end Go.Proofs.Ytmcdddghlcllbaa.Den
