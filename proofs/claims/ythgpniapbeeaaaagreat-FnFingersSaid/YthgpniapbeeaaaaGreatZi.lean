/- slices.SortFunc over records of a name and two numbers, told apart by their names: the library's own contract, as a contract of the abstract machine. -/
import Derived.Test.YthgpniapbeeaaaaGreatZb
import Derived.Shelf.SlSortCmp.NoneTotal
set_option autoImplicit false
set_option linter.unusedVariables false
set_option linter.unusedSimpArgs false
namespace Go.Proofs.YthgpniapbeeaaaaGreat.Den
open Go.Sort Go.Shelf Go.RowKit

abbrev TNam : Ty := .pair .str (.pair (.int .i64) (.int .i64))

/-- cmp.Compare of texts. -/
def cmpS (x y : ByteArray) : Int := if Op.bytesLess x.toList y.toList = true then -1 else if (!x.toList == y.toList) = true then 1 else 0
def cmpN (x y : TNam.D) : Int := cmpS x.1 y.1
def encN (x : TNam.D) : List Value := [.string x.1, .int .i64 x.2.1, .int .i64 x.2.2]

instance : Inhabited TNam.D := ⟨(ByteArray.empty, (0, 0))⟩

theorem lt_cmpN (x y : TNam.D) : ltOf cmpN x y = Op.bytesLess x.1.toList y.1.toList := by
  unfold ltOf cmpN cmpS
  cases h : Op.bytesLess x.1.toList y.1.toList with
  | true => simp
  | false =>
    cases h2 : (!x.1.toList == y.1.toList) <;> simp

theorem swoN : SWO (ltOf cmpN) where
  irrefl x := by rw [lt_cmpN, bytesLess_eq]; simp [List.lt_irrefl]
  trans x y z h1 h2 := by
    rw [lt_cmpN, bytesLess_eq] at *
    simp only [decide_eq_true_eq] at *
    exact List.lt_trans h1 h2
  ntrans x y z h1 h2 := by
    rw [lt_cmpN, bytesLess_eq] at *
    simp only [decide_eq_false_iff_not, List.not_lt] at *
    exact List.le_trans h2 h1

def sortedN (l : List TNam.D) : List TNam.D := (pdq (ltOf cmpN) l.toArray 0 l.length (Lib.bitLen l.length) true true).toList
def sortNFc (fid g : Nat) : Fc := ⟨fid, [.c (.arr TNam), .fn g []], [(0, .c (.arr TNam))], [], fun _ x => if x.1.length ≤ big then some (sortedN x.1, ()) else .none⟩

theorem sortedN_spec (l : List TNam.D) : (sortedN l).Perm l ∧ SortedIn (ltOf cmpN) 0 l.length (sortedN l).toArray := by
  have h := pdq_sorts (ltOf cmpN) swoN l.toArray 0 l.length (Lib.bitLen l.length) true true (Nat.zero_le _) (by simp) (Or.inl rfl)
  obtain ⟨⟨h1, _, h3⟩, h4⟩ := h
  refine ⟨?_, by simpa [sortedN] using h4⟩
  have hs : (pdq (ltOf cmpN) l.toArray 0 l.length (Lib.bitLen l.length) true true).size = l.length := by simpa using h1
  have e1 : ∀ a : Array TNam.D, a.size = l.length → (a.extract 0 l.length).toList = a.toList := by
    intro a ha
    rw [← ha]; simp
  rw [e1 _ hs, e1 _ (by simp)] at h3
  exact h3

theorem sortedN_len (l : List TNam.D) : (sortedN l).length = l.length := (sortedN_spec l).1.length_eq

section
variable {P : Program}

theorem relD_encN (imm : Nat → Option Obj) (x : TNam.D) : RelD imm TNam x (encN x) := ⟨[.string x.1], [.int .i64 x.2.1, .int .i64 x.2.2], rfl, rfl, [.int .i64 x.2.1], [.int .i64 x.2.2], rfl, rfl, rfl⟩

theorem encN_relD {imm : Nat → Option Obj} {x : TNam.D} {vs : List Value} (h : RelD imm TNam x vs) : vs = encN x := by
  obtain ⟨u, v, rfl, rfl, u2, v2, rfl, rfl, rfl⟩ := h
  rfl

theorem flatN_get (d : List TNam.D) {t : Nat} (ht : t < d.length * 3) : (flatK encN 3 d.toArray)[t]! = (encN (d.getD (t / 3) default))[t % 3]! := by
  rw [get_flatK encN 3 d.toArray t (by simpa using ht)]
  congr 2
  have : t / 3 < d.length := by omega
  simp [List.getD, this]

theorem rowsN_out {imm : Nat → Option Obj} {l : List TNam.D} {cs : List Value} {o : Nat} (h : Rows0 imm TNam l cs o) {t : Nat} (ht : t < l.length * 3) : cs[o + t]? = some ((flatK encN 3 l.toArray)[t]!) := by
  have hi : t / 3 < l.length := by omega
  have h1 := encN_relD (h (t / 3) hi)
  have hm : t % 3 < 3 := Nat.mod_lt _ (by decide)
  have h2 : ((cs.drop (o + t / 3 * 3)).take 3)[t % 3]? = (encN l[t / 3])[t % 3]? := by
    have e : Ty.size TNam = 3 := rfl
    rw [e] at h1
    rw [h1]
  rw [List.getElem?_take, if_pos hm, List.getElem?_drop, show o + t / 3 * 3 + t % 3 = o + t by omega] at h2
  rw [h2, flatN_get l ht]
  have e3 : l.getD (t / 3) default = l[t / 3] := by simp [List.getD, hi]
  rw [e3]
  have hl : t % 3 < (encN l[t / 3]).length := hm
  rw [List.getElem?_eq_getElem hl]
  simp [hl]

theorem rowsN_in {imm : Nat → Option Obj} {l : List TNam.D} {cs : List Value} {o : Nat} (h : ∀ t, t < l.length * 3 → cs[o + t]? = some ((flatK encN 3 l.toArray)[t]!)) : Rows0 imm TNam l cs o := by
  intro i hi
  have e : (cs.drop (o + i * 3)).take 3 = encN l[i] := by
    apply List.ext_getElem?
    intro r
    rcases Nat.lt_or_ge r 3 with hr | hr
    · rw [List.getElem?_take, if_pos hr, List.getElem?_drop, show o + i * 3 + r = o + (i * 3 + r) by omega, h _ (by omega), flatN_get l (by omega)]
      have e3 : l.getD ((i * 3 + r) / 3) default = l[i] := by
        rw [show (i * 3 + r) / 3 = i by omega]
        simp [List.getD, hi]
      rw [e3, show (i * 3 + r) % 3 = r by omega]
      have hl : r < (encN l[i]).length := hr
      rw [List.getElem?_eq_getElem hl]
      simp [hl]
    · rw [List.getElem?_eq_none (by simp; omega), List.getElem?_eq_none (by simpa [encN] using hr)]
  show RelD imm TNam l[i] ((cs.drop (o + i * Ty.size TNam)).take (Ty.size TNam))
  have e2 : Ty.size TNam = 3 := rfl
  rw [e2, e]
  exact relD_encN imm _

/-- A row of a block, written anew. -/
theorem putRowV_at {w : World} {b o : Nat} {cs : Array Value} {E : TypeId} {fz : Nat × Nat} (hb : w.heap[b]? = some (.cells cs E fz)) (n : Nat) (d : Array Value) (os : Array Obj) :
    (grow (putRow id (Sort.ahead w n) b o d) os).heap[b]? = some (.cells (Go.Sort.putCells id o d cs) E fz) ∧
    (∀ j, j ≠ b → j < w.heap.size → (grow (putRow id (Sort.ahead w n) b o d) os).heap[j]? = w.heap[j]?) ∧
    w.heap.size ≤ (grow (putRow id (Sort.ahead w n) b o d) os).heap.size := by
  have hlt : b < w.heap.size := (Array.getElem?_eq_some_iff.1 hb).1
  have hsz : (putRow id (Sort.ahead w n) b o d).heap.size = w.heap.size := by simp [putRow, mapBlock, Sort.ahead]
  refine ⟨?_, fun j hj hjl => ?_, by simp [hsz]⟩
  · rw [heap_grow_old _ _ (by rw [hsz]; exact hlt)]
    simp only [putRow, mapBlock, Sort.ahead, Array.getElem?_modify, hb, if_pos, Option.map_some, onCells]
  · rw [heap_grow_old _ _ (by rw [hsz]; exact hjl)]
    simp only [putRow, mapBlock, Sort.ahead, Array.getElem?_modify]
    rw [if_neg (fun h => hj h.symm)]

theorem putCellsV_get {o : Nat} {d cs : Array Value} {i : Nat} (hi : i < d.size) (ho : o + i < cs.size) : (Go.Sort.putCells id o d cs).toList[o + i]? = some d[i]! := by
  simp only [Go.Sort.putCells, Array.getElem?_toList, Array.getElem?_mapIdx, Array.getElem?_eq_getElem ho, Option.map_some]
  rw [if_pos ⟨Nat.le_add_right _ _, by omega⟩]
  simp

theorem putCellsV_size {o : Nat} {d : Array Value} {cs : Array Value} : (Go.Sort.putCells id o d cs).size = cs.size := by simp [Go.Sort.putCells]

/-- What a call finds that is handed one row of records, and a function. -/
theorem rowN_arg {e : Env} {w : World} {l : List TNam.D} {g : Nat} {vs : List Value} (hv : RelVs e (encSs [.c (.arr TNam), .fn g []] (l, ((), ())) 0).1 vs) (hh : RelH e w (hpf (encSs [.c (.arr TNam), .fn g []] (l, ((), ())) 0).2)) :
    (∀ j, j ≠ 0 → e.loc j = .un) ∧ ((e.loc 0 = .nil ∧ l = [] ∧ vs = [.slice none 0 0, .func (.func g) #[] #[]]) ∨ ∃ b o cap cs E fz a, e.loc 0 = .arr b o 3 cap l.length ∧ l.length ≤ cap ∧ w.heap[b]? = some (.cells cs E fz) ∧ Unfz fz cs.size ∧ o + cap * 3 ≤ cs.size ∧ Rows0 e.imm TNam l cs.toList o ∧
      vs = [.slice (some a) l.length cap, .func (.func g) #[] #[]] ∧ (cap = 0 ∨ a = ⟨b, o, none⟩)) := by
  refine ⟨fun j hj => ?_, ?_⟩
  · have := hh j
    have hn : hpf (encSs [.c (.arr TNam), .fn g []] (l, ((), ())) 0).2 j = .none := by
      have h1 : (encSs [.c (.arr TNam), .fn g []] (l, ((), ())) 0).2[j]? = none := List.getElem?_eq_none (by simp [encSs, encS, encC, encPs]; omega)
      exact hpf_none h1 rfl
    rw [hn] at this
    exact this
  · have h0 := hh 0
    have hn : hpf (encSs [.c (.arr TNam), .fn g []] (l, ((), ())) 0).2 0 = .arr TNam l := rfl
    rw [hn] at h0
    cases hv with
    | cons hx hr =>
      cases hr with
      | cons hf hr =>
      cases hr
      simp only [encS, encC, encPs, RelV, RelC] at hx hf
      subst hf
      rcases h0 with ⟨h0, h1⟩ | ⟨b, o, cap, cs, E, fz, h0, h1, h2, h3, h4, h5⟩
      · rw [h0] at hx
        exact .inl ⟨h0, h1, by rw [hx.2.2]⟩
      · rw [h0] at hx
        obtain ⟨_, _, a, rfl, ha⟩ := hx
        refine .inr ⟨b, o, cap, cs, E, fz, a, h0, h1, h2, h3, h4, rows0_of rfl h5, by simp, ?_⟩
        simpa using ha

theorem holds_rowN {w : World} {b o cap : Nat} {cs : Array Value} {E : TypeId} {fz : Nat × Nat} {l : List TNam.D} {imm : Nat → Option Obj} (hb : w.heap[b]? = some (.cells cs E fz)) (hu : Unfz fz cs.size) (hs : o + cap * 3 ≤ cs.size) (hl : l.length ≤ cap) (hr : Rows0 imm TNam l cs.toList o) :
    HoldsK encN 3 w b o l.toArray := by
  intro j hj
  have hj' : j < l.length * 3 := by simpa using hj
  have h1 := rowsN_out hr hj'
  have hm : l.length * 3 ≤ cap * 3 := Nat.mul_le_mul_right 3 hl
  refine ⟨?_, ?_⟩
  · simp only [World.cell?, hb]
    simp only [Array.getElem?_toList] at h1
    rw [h1]
    rfl
  · have h2 := hu (o + j) (by omega)
    simp only [World.frozen?, hb]
    simpa using h2

theorem sortN_ok {ρ : Go.Shelf.Ren} (L : SlLaysF0.n6 P ρ) (aE : ∀ w, (isAgg (ρ.t 24)).run P w = .ok true w) (zE : ∀ w, (Go.sizeOf (ρ.t 24)).run P w = .ok 3 w) {g : Nat} (eg : ∀ args w, (callFunc g args).run P w = .ok (.enter g args) w)
    (hcmp : ∀ (x y : TNam.D) (W : World), Calls P g #[.agg (encN x).toArray, .agg (encN y).toArray] W fun e w' => e = .returned (.int .i64 (cmpN x y)) ∧ ∃ q os', w' = grow (W.drewN q) os')
    (hname : ∃ fn, P.funcs[ρ.f 6]? = some fn ∧ (fn.name == "runtime.NumGoroutine") = false ∧ fn.body.isNone = false) : ∀ k, FcOK P (sortNFc (ρ.f 6) g) k := fun k => {
  fn := hname
  calls := fun x y hy w e vs hvs hh hvo hsep => by
    obtain ⟨l, u1, u2⟩ := x
    cases u1; cases u2
    have hy0 : (if l.length ≤ big then some (sortedN l, ()) else .none : Option (List TNam.D × Unit)) = some y := hy
    have hbig : big = 1099511627776 := rfl
    split at hy0
    case isFalse => cases hy0
    rename_i hlen
    cases hy0
    obtain ⟨hun, hrow⟩ := rowN_arg (l := l) hvs hh
    have hsl := sortedN_len l
    -- what is left
    have fin : ∀ w' : World, RelO e w' (e.loc 0) (.arr TNam (sortedN l)) → Frm (Own e w) w w' → Sep (Own e w) e w' → Left (sortNFc (ρ.f 6) g) e w (sortedN l, ()) (.returned (.tuple #[])) w' := by
      intro w' h1 h2 h3
      refine ⟨.tuple #[], e, rfl, ⟨#[], rfl, .nil⟩, fun id => ?_, h3, h2, fun _ _ h => h, fun _ _ h => .inl h, ?_, .un (fun k => vl_un hvo rfl k), fun k hk => (hk (vl_un hvo rfl k)).elim⟩
      · by_cases hid : id = 0
        · subst hid; exact h1
        · have hn : hpf (encSs ((sortNFc (ρ.f 6) g).outs.map (·.2) ++ (sortNFc (ρ.f 6) g).res) (sortedN l, ()) 0).2 id = .none := by
            have h1 : (encSs ((sortNFc (ρ.f 6) g).outs.map (·.2) ++ (sortNFc (ρ.f 6) g).res) (sortedN l, ()) 0).2[id]? = none := List.getElem?_eq_none (by show 1 ≤ id; omega)
            exact hpf_none h1 rfl
          rw [hn]; exact hun id hid
      · intro p hp
        simp [outHeads, argHeads, sortNFc, heads] at hp
        rw [hp]
    rcases hrow with ⟨hl, rfl, rfl⟩ | ⟨b, o, cap, cs, E, fz, a, hl, hcap, hb, hu, hs, hr, rfl, ha⟩
    · refine (AnyF.slices_SortFunc_none L none 0 _ w).mono ?_
      rintro r w' ⟨rfl, rfl⟩
      exact fin w' (.inl ⟨hl, List.eq_nil_of_length_eq_zero (sortedN_len [])⟩) (Frm.refl _ _) hsep
    · by_cases hz : l = []
      · subst hz
        refine (AnyF.slices_SortFunc_none L (some a) cap _ w).mono ?_
        rintro r w' ⟨rfl, rfl⟩
        have e0 : sortedN [] = [] := List.eq_nil_of_length_eq_zero (sortedN_len [])
        exact fin w' (.inr ⟨b, o, cap, cs, E, fz, hl.trans (by rw [e0]; rfl), by rw [e0]; exact Nat.zero_le _, hb, hu, hs, by rw [e0]; exact rowsC_of hr⟩) (Frm.refl _ _) hsep
      · have hpos : 0 < l.length := List.length_pos_iff.2 hz
        have ha' : a = ⟨b, o, none⟩ := ha.resolve_left (by omega)
        subst ha'
        have hown : (e.loc 0).own = some b := by rw [hl]; rfl
        have hA := (hsep.own 0 b hown)
        have hC := AnyQ.slices_SortFunc_eq L 3 aE zE encN (fun _ => rfl) (fun x v hv => by simp [encN] at hv; rcases hv with rfl | rfl | rfl <;> rfl) cmpN swoN g #[] b o cap l.toArray w eg (fun m os dk _ x y => hcmp x y _) (holds_rowN hb hu hs hcap hr) (Array.getElem?_eq_some_iff.1 hb).1 (by simp; omega)
        simp only [List.size_toArray] at hC
        refine Calls.mono hC ?_
        rintro r w' ⟨rfl, n, os, rfl⟩
        obtain ⟨p1, p2, p3⟩ := putRowV_at hb n (flatK encN 3 (sortedN l).toArray) os
        have e1 : sortWorldK encN 3 w b o n (pdq (ltOf cmpN) l.toArray 0 l.length (Lib.bitLen l.length) true true) os = grow (putRow id (Sort.ahead w n) b o (flatK encN 3 (sortedN l).toArray)) os := by
          unfold sortWorldK putRowK sortedN
          simp
        rw [e1]
        have hmul : l.length * 3 ≤ cap * 3 := Nat.mul_le_mul_right 3 hcap
        refine fin _ (.inr ⟨b, o, cap, _, E, fz, by rw [hl, hsl]; rfl, by rw [hsl]; exact hcap, p1, by rw [putCellsV_size]; exact hu, by rw [putCellsV_size]; exact hs, rowsC_of (rowsN_in fun t ht => putCellsV_get (by simpa using ht) (by rw [hsl] at ht; omega))⟩) ⟨rfl, rfl, rfl, p3, fun j hj => ?_⟩ ⟨fun j q hq => ?_, fun id j hj => hsep.own id j hj, hsep.inj, hsep.vown, hsep.vinj, hsep.vdis, hsep.tb⟩
        · refine p2 j (fun h => hj (h ▸ .inr (.inl ⟨0, hown⟩))) ?_
          exact Classical.byContradiction fun h => hj (.inl (by omega))
        · have hq' := hsep.imm j q hq
          refine (p2 j (fun h => ?_) (Array.getElem?_eq_some_iff.1 hq').1).trans hq'
          subst h
          rw [hA.2] at hq; cases hq }
end
end Go.Proofs.YthgpniapbeeaaaaGreat.Den
