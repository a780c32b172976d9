/- Laws about the abstract machine's memory: reading and writing cells, giving objects away, new objects. -/
import Derived.Test.YtjijgajbkcflaaaDoorD
import Derived.Laws.IdiomCopy
set_option autoImplicit false
set_option linter.unusedVariables false
set_option linter.unusedSimpArgs false
namespace Go.Proofs.YtjijgajbkcflaaaDoor.Den
open Classical

def updW : Hp → List (Nat × O) → Hp
  | h, [] => h
  | h, (i, o) :: r => updW (fun j => if j = i then o else h j) r

theorem updW_append (h : Hp) : ∀ (a b : List (Nat × O)), updW h (a ++ b) = updW (updW h a) b
  | [], _ => rfl
  | (i, o) :: r, b => updW_append _ r b

theorem updW_deads (h : Hp) (g : List Nat) (i : Nat) : updW h (deads g) i = if i ∈ g then .dead else h i := by
  induction g generalizing h with
  | nil => simp [deads, updW]
  | cons a g ih =>
    show updW (fun j => if j = a then .dead else h j) (deads g) i = _
    rw [ih]
    by_cases h1 : i ∈ g
    · simp [h1]
    · by_cases h2 : i = a <;> simp [h1, h2]

/-! ## Parts of a slice -/

theorem cutL_length {α : Type} (lo hi : Option Nat) (l : List α) (h1 : lo.getD 0 ≤ hi.getD l.length) (h2 : hi.getD l.length ≤ l.length) :
    (cutL lo hi l).length = hi.getD l.length - lo.getD 0 := by
  cases lo <;> cases hi <;> simp [cutL] at * <;> omega

theorem cutL_get {α : Type} (lo hi : Option Nat) (l : List α) (h1 : lo.getD 0 ≤ hi.getD l.length) (h2 : hi.getD l.length ≤ l.length) (i : Nat) (hi' : i < (cutL lo hi l).length) :
    ∃ h, (cutL lo hi l)[i] = l[lo.getD 0 + i]'h := by
  have hl := cutL_length lo hi l h1 h2
  refine ⟨by omega, ?_⟩
  cases lo <;> cases hi <;> simp [cutL]

theorem lenL_eq {n : Nat} (lo hi : Option Nat) : lenL n lo hi = hi.getD n - lo.getD 0 := by
  cases lo <;> cases hi <;> simp [lenL]

/-! ## Giving objects away: their blocks are written no more -/

noncomputable def giveImm (e : Env) (w : World) (g : List Nat) : Nat → Option Obj := fun b => if ∃ i ∈ g, (e.loc i).own = some b then w.heap[b]? else e.imm b

theorem giveImm_le {A : Nat → Prop} {e : Env} {w : World} (hs : Sep A e w) (g : List Nat) : ∀ b o, e.imm b = some o → giveImm e w g b = some o := by
  intro b o h
  unfold giveImm
  split
  · rename_i hx
    obtain ⟨i, _, hi⟩ := hx
    have := (hs.own i b hi).2
    rw [h] at this; cases this
  · exact h

theorem giveImm_mono {A : Nat → Prop} {e : Env} {w : World} (hs : Sep A e w) {g g' : List Nat} (hg : ∀ i ∈ g, i ∈ g') : ∀ b o, giveImm e w g b = some o → giveImm e w g' b = some o := by
  intro b o h
  unfold giveImm at *
  by_cases h1 : ∃ i ∈ g, (e.loc i).own = some b
  · rw [if_pos h1] at h
    obtain ⟨i, hi, hb⟩ := h1
    rw [if_pos ⟨i, hg i hi, hb⟩]; exact h
  · rw [if_neg h1] at h
    split
    · exact hs.imm _ _ h
    · exact h

theorem castL_length {t u : Ty} (e : t = u) (l : List t.D) : (castL e l).length = l.length := by subst e; rfl

/-- The arrays of a memory are as told (of other objects nothing is said). -/
def RelA (e : Env) (w : World) (h : Hp) : Prop := ∀ id t l, h id = .arr t l ∨ h id = .fro t l → RelO e w (e.loc id) (h id)

theorem RelH.arrs {e : Env} {w : World} {h : Hp} (hh : RelH e w h) : RelA e w h := fun id _ _ _ => hh id

theorem asList_rel {A : Nat → Prop} {e : Env} {w : World} {h : Hp} (hh : RelA e w h) (hs : Sep A e w) {t : Ty} {c : C} {l : List t.D} {g : List Nat} (ha : asList t c h = some (l, g)) {v : Value} (hc : RelC e c v) :
    RelD (giveImm e w g) (.slice t) l [v] := by
  unfold asList at ha
  split at ha
  · split at ha
    · rename_i t' l' he
      cases he; cases ha
      exact RelD.mono (giveImm_le hs []) _ _ _ hc
    · cases ha
  · cases ha
    cases hc
    exact ⟨none, 0, rfl, Nat.zero_le _, .inl rfl⟩
  · rename_i id lo hi
    cases hid : h id with
    | arr t' l' =>
      have ho := hh id t' l' (.inl hid)
      rw [hid] at ha ho
      dsimp only at ha
      split at ha
      · rename_i he
        cases he; cases ha
        simp only [castL, RelC] at *
        rcases ho with ⟨hl, hn⟩ | ⟨b, o, cap, cs, E, fz, hl, hn, hb, hu, hs', hr⟩
        · rw [hl] at hc
          obtain ⟨h1, h2, rfl⟩ := hc
          subst hn
          have hcut : cutL lo hi ([] : List t.D) = [] := by cases lo <;> cases hi <;> simp [cutL]
          rw [hcut]
          exact ⟨none, 0, rfl, Nat.zero_le _, .inl rfl⟩
        · rw [hl] at hc
          obtain ⟨h1, h2, a, rfl, ha⟩ := hc
          have hlen := cutL_length lo hi l' h1 h2
          refine ⟨some a, _, by rw [hlen], by rw [hlen]; omega, ?_⟩
          by_cases hz : cap - lo.getD 0 = 0
          · left
            exact List.eq_nil_of_length_eq_zero (by rw [hlen]; omega)
          · right
            have ha' := ha.resolve_left hz
            subst ha'
            refine ⟨b, _, cs, E, fz, rfl, ?_, fun i hi' => ?_⟩
            · unfold giveImm
              rw [if_pos ⟨id, by simp, by rw [hl]; rfl⟩]; exact hb
            · obtain ⟨hx, hy⟩ := cutL_get lo hi l' h1 h2 i hi'
              rw [hy]
              have := hr (lo.getD 0 + i) hx
              rw [Nat.add_mul, ← Nat.add_assoc] at this
              exact RelD.mono (giveImm_le hs _) _ _ _ this
      · cases ha
    | fro t' l' =>
      have ho := hh id t' l' (.inr hid)
      rw [hid] at ha ho
      dsimp only at ha
      split at ha
      · rename_i he
        cases he; cases ha
        simp only [castL, RelC] at *
        rcases ho with ⟨hl, hn⟩ | ⟨b, o, cap, cs, E, fz, hl, hn, hb, hr⟩
        · rw [hl] at hc
          obtain ⟨h1, h2, rfl⟩ := hc
          subst hn
          have hcut : cutL lo hi ([] : List t.D) = [] := by cases lo <;> cases hi <;> simp [cutL]
          rw [hcut]
          exact ⟨none, 0, rfl, Nat.zero_le _, .inl rfl⟩
        · rw [hl] at hc
          obtain ⟨h1, h2, a, rfl, ha⟩ := hc
          have hlen := cutL_length lo hi l' h1 h2
          refine ⟨some a, _, by rw [hlen], by rw [hlen]; omega, ?_⟩
          by_cases hz : cap - lo.getD 0 = 0
          · left
            exact List.eq_nil_of_length_eq_zero (by rw [hlen]; omega)
          · right
            have ha' := ha.resolve_left hz
            subst ha'
            refine ⟨b, _, cs, E, fz, rfl, giveImm_le hs _ _ _ hb, fun i hi' => ?_⟩
            obtain ⟨hx, hy⟩ := cutL_get lo hi l' h1 h2 i hi'
            rw [hy]
            have := hr (lo.getD 0 + i) hx
            rw [Nat.add_mul, ← Nat.add_assoc] at this
            exact RelD.mono (giveImm_le hs _) _ _ _ this
      · cases ha
    | none => rw [hid] at ha; cases ha
    | dead => rw [hid] at ha; cases ha
    | box _ => rw [hid] at ha; cases ha
    | map _ _ _ => rw [hid] at ha; cases ha
  · cases ha

theorem RelD.give {A : Nat → Prop} {e : Env} {w : World} (hs : Sep A e w) {g g' : List Nat} (hg : ∀ i ∈ g, i ∈ g') {t : Ty} {x : t.D} {vs : List Value} (h : RelD (giveImm e w g) t x vs) : RelD (giveImm e w g') t x vs :=
  RelD.mono (giveImm_mono hs hg) _ _ _ h

theorem decD_rel {A : Nat → Prop} {e : Env} {w : World} {h : Hp} (hh : RelA e w h) (hs : Sep A e w) : ∀ (t : Ty) (cells : List C) (x : t.D) (r : List C) (g : List Nat) (vs : List Value),
    decD t cells h = some (x, r, g) → RelCs e cells vs → ∃ v1 v2, vs = v1 ++ v2 ∧ RelD (giveImm e w g) t x v1 ∧ RelCs e r v2
  | .int k, cells, x, r, g, vs, hd, hc => by
    cases hc with
    | nil => simp [decD] at hd
    | cons a b =>
      rename_i c v cs vs
      cases c <;> simp only [decD] at hd <;> try (cases hd; done)
      rename_i k' n
      split at hd
      · cases hd; rename_i hk; subst hk
        exact ⟨[v], vs, rfl, by cases a; rfl, b⟩
      · cases hd
  | .bool, cells, x, r, g, vs, hd, hc => by
    cases hc with
    | nil => simp [decD] at hd
    | cons a b =>
      rename_i c v cs vs
      cases c <;> simp only [decD] at hd <;> try (cases hd; done)
      cases hd
      exact ⟨[v], vs, rfl, by cases a; rfl, b⟩
  | .str, cells, x, r, g, vs, hd, hc => by
    cases hc with
    | nil => simp [decD] at hd
    | cons a b =>
      rename_i c v cs vs
      cases c <;> simp only [decD] at hd <;> try (cases hd; done)
      cases hd
      exact ⟨[v], vs, rfl, by cases a; rfl, b⟩
  | .unit, cells, x, r, g, vs, hd, hc => by
    simp only [decD] at hd; cases hd
    exact ⟨[], vs, rfl, rfl, hc⟩
  | .pair s t, cells, x, r, g, vs, hd, hc => by
    simp only [decD] at hd
    cases h1 : decD s cells h with
    | none => rw [h1] at hd; cases hd
    | some p =>
      obtain ⟨x1, r1, g1⟩ := p
      rw [h1] at hd; dsimp only at hd
      cases h2 : decD t r1 h with
      | none => rw [h2] at hd; cases hd
      | some q =>
        obtain ⟨x2, r2, g2⟩ := q
        rw [h2] at hd; cases hd
        obtain ⟨u1, u2, rfl, ha, hb⟩ := decD_rel hh hs s cells x1 r1 g1 vs h1 hc
        obtain ⟨v1, v2, rfl, hc', hd'⟩ := decD_rel hh hs t r1 x2 r g2 u2 h2 hb
        exact ⟨u1 ++ v1, v2, by simp, ⟨u1, v1, rfl, ha.give hs (by simp +contextual), hc'.give hs (by simp +contextual)⟩, hd'⟩
  | .slice t, cells, x, r, g, vs, hd, hc => by
    cases hc with
    | nil => simp [decD] at hd
    | cons a b =>
      rename_i c v cs vs
      simp only [decD] at hd
      cases h1 : asList t c h with
      | none => rw [h1] at hd; cases hd
      | some p =>
        obtain ⟨l, g1⟩ := p
        rw [h1] at hd; cases hd
        exact ⟨[v], vs, rfl, asList_rel hh hs h1 a, b⟩

/-- The environment in which objects have been given away. -/
noncomputable def gave (e : Env) (w : World) (g : List Nat) : Env := ⟨giveImm e w g, fun i => if i ∈ g then .dead else e.loc i⟩

theorem Le.gave {A : Nat → Prop} {e : Env} {w : World} (hs : Sep A e w) (g : List Nat) : Le e (gave e w g) :=
  ⟨giveImm_le hs g, fun i => by simp only [Den.gave]; split; exact .dead _; exact .refl _⟩

theorem Mem.gave {A : Nat → Prop} {w0 : Start} {e : Env} {h : Hp} {w : World} (m : Mem A w0 e h w) (g : List Nat) : Mem A w0 (gave e w g) (updW h (deads g)) w where
  hp := fun id => by
    rw [updW_deads]
    simp only [Den.gave]
    by_cases hi : id ∈ g
    · rw [if_pos hi, if_pos hi]; rfl
    · rw [if_neg hi, if_neg hi]
      exact RelO.mono (Le.gave m.sep g) (fun _ _ => rfl) (m.hp id)
  sep := {
    tb := m.sep.tb.mono (giveImm_le m.sep g)
    imm := fun b o hb => by
      simp only [Den.gave, giveImm] at hb
      split at hb
      · exact hb
      · exact m.sep.imm _ _ hb
    own := fun id b hb => by
      simp only [Den.gave] at hb
      split at hb
      · cases hb
      · rename_i hi
        refine ⟨(m.sep.own id b hb).1, ?_⟩
        simp only [Den.gave, giveImm]
        rw [if_neg]
        · exact (m.sep.own id b hb).2
        · rintro ⟨j, hj, hjb⟩
          exact hi (m.sep.inj _ _ _ hb hjb ▸ hj)
    inj := fun i j b hi hj => by
      simp only [Den.gave] at hi hj
      split at hi
      · cases hi
      · split at hj
        · cases hj
        · exact m.sep.inj _ _ _ hi hj }
  frm := m.frm
  new := m.new
  old := fun b o hb => by
    simp only [Den.gave, giveImm] at hb
    split at hb
    · rename_i hx
      obtain ⟨i, _, hi⟩ := hx
      exact .inr (m.sep.own i b hi).1
    · exact m.old b o hb
  keep := fun b o hb => giveImm_le m.sep g b o (m.keep b o hb)

/-! ## A new object -/

def atLoc (e : Env) (n : Nat) (L : Loc) : Env := ⟨e.imm, fun i => if i = n then L else e.loc i⟩

theorem Le.at {e : Env} {n : Nat} {L : Loc} (h : e.loc n = .un) : Le e (atLoc e n L) :=
  ⟨fun _ _ h => h, fun i => by simp only [atLoc]; split; (rename_i hi; subst hi; rw [h]; exact .un _); exact .refl _⟩

theorem loc_un {e : Env} {w : World} {h : Hp} {n : Nat} (hh : RelH e w h) (hn : h n = .none) : e.loc n = .un := by have := hh n; rw [hn] at this; exact this

theorem Frm.refl (A : Nat → Prop) (w : World) : Frm A w w := ⟨rfl, rfl, rfl, Nat.le_refl _, fun _ _ => rfl⟩
theorem Frm.trans {A : Nat → Prop} {a b c : World} (h : Frm A a b) (k : Frm A b c) : Frm A a c :=
  ⟨k.os.trans h.os, k.tape.trans h.tape, k.output.trans h.output, Nat.le_trans h.size k.size, fun b hb => (k.block b hb).trans (h.block b hb)⟩

/-- A world that keeps all blocks, as after draws and new blocks. -/
structure Ext (w w' : World) : Prop where
  os : w'.os = w.os
  tape : w'.tape = w.tape
  output : w'.output = w.output
  size : w.heap.size ≤ w'.heap.size
  block : ∀ b, b < w.heap.size → w'.heap[b]? = w.heap[b]?

theorem Ext.refl (w : World) : Ext w w := ⟨rfl, rfl, rfl, Nat.le_refl _, fun _ _ => rfl⟩
theorem Ext.trans {a b c : World} (h : Ext a b) (k : Ext b c) : Ext a c :=
  ⟨k.os.trans h.os, k.tape.trans h.tape, k.output.trans h.output, Nat.le_trans h.size k.size, fun i hi => (k.block i (Nat.lt_of_lt_of_le hi h.size)).trans (h.block i hi)⟩
theorem Ext.alloc (w : World) (o : Obj) : Ext w (w.alloc o) := ⟨rfl, rfl, rfl, by simp, fun k hk => heap_alloc_old w o k hk⟩
theorem Ext.drew (w : World) : Ext w w.drew := ⟨rfl, rfl, rfl, Nat.le_refl _, fun _ _ => rfl⟩

theorem block_lt {w : World} {b : Nat} {o : Obj} (h : w.heap[b]? = some o) : b < w.heap.size := (Array.getElem?_eq_some_iff.1 h).1

theorem Mem.ext {A : Nat → Prop} {w0 : Start} {e : Env} {h : Hp} {w w' : World} (m : Mem A w0 e h w) (x : Ext w w') : Mem A w0 e h w' where
  hp := fun id => RelO.mono (Le.refl e) (fun b hb => x.block b (RelO.own_lt (m.hp id) hb)) (m.hp id)
  sep := ⟨fun b o hb => by have := m.sep.imm b o hb; rw [x.block b (block_lt this)]; exact this, m.sep.own, m.sep.inj, m.sep.tb⟩
  frm := m.frm.trans ⟨x.os, x.tape, x.output, x.size, fun b hb => by
    by_cases hlt : b < w.heap.size
    · exact x.block b hlt
    · exact (hb (m.new b (by omega))).elim⟩
  new := fun b hb => m.new b (Nat.le_trans x.size hb)
  old := m.old
  keep := m.keep

/-- A new object in a block that was not there. -/
theorem Mem.alloc {A : Nat → Prop} {w0 : Start} {e : Env} {h : Hp} {w w' : World} {n : Nat} {L : Loc} {o : O} (m : Mem A w0 e h w) (hn : h n = .none) (x : Ext w w')
    (hL : ∀ b, L.own = some b → w.heap.size ≤ b) (ho : RelO (atLoc e n L) w' L o) : Mem A w0 (atLoc e n L) (fun j => if j = n then o else h j) w' := by
  have m' := m.ext x
  have hun := loc_un m.hp hn
  refine ⟨fun id => ?_, ⟨m'.sep.imm, fun id b hb => ?_, fun i j b hi hj => ?_, m'.sep.tb⟩, m'.frm, m'.new, m'.old, m'.keep⟩
  · by_cases hi : id = n
    · subst hi; simp only [atLoc, if_true]; exact ho
    · simp only [atLoc, if_neg hi]
      exact RelO.mono (Le.at hun) (fun _ _ => rfl) (m'.hp id)
  · simp only [atLoc] at hb
    split at hb
    · have hle := hL b hb
      refine ⟨m.new b hle, ?_⟩
      cases hc : e.imm b with
      | none => exact hc
      | some o' => have := m.sep.imm b o' hc; have := block_lt this; omega
    · exact m'.sep.own id b hb
  · simp only [atLoc] at hi hj
    split at hi
    · split at hj
      · rename_i h1 h2; rw [h1, h2]
      · have h1 := hL b hi
        have h2 := RelO.own_lt (m.hp j) hj
        omega
    · split at hj
      · have h1 := hL b hj
        have h2 := RelO.own_lt (m.hp i) hi
        omega
      · exact m'.sep.inj _ _ _ hi hj

/-- An object changed in its own block. -/
theorem Mem.set {A : Nat → Prop} {w0 : Start} {e : Env} {h : Hp} {w w' : World} {n b : Nat} {o : O} (m : Mem A w0 e h w) (hb : (e.loc n).own = some b)
    (x1 : w'.os = w.os) (x2 : w'.tape = w.tape) (x3 : w'.output = w.output) (x4 : w'.heap.size = w.heap.size) (x5 : ∀ k, k ≠ b → w'.heap[k]? = w.heap[k]?)
    (ho : RelO e w' (e.loc n) o) : Mem A w0 e (fun j => if j = n then o else h j) w' := by
  refine ⟨fun id => ?_, ⟨fun c q hc => ?_, m.sep.own, m.sep.inj, m.sep.tb⟩, m.frm.trans ⟨x1, x2, x3, by omega, fun c hc => x5 c (fun hcb => hc (hcb ▸ (m.sep.own n b hb).1))⟩, fun c hc => m.new c (by omega), m.old, m.keep⟩
  · by_cases hi : id = n
    · subst hi; simp only [if_true]; exact ho
    · rw [if_neg hi]
      exact RelO.mono (Le.refl e) (fun c hc => x5 c (fun hcb => hi (m.sep.inj _ _ _ hc (hcb ▸ hb)))) (m.hp id)
  · rw [x5 c (fun hcb => by have := (m.sep.own n b hb).2; rw [← hcb, hc] at this; cases this)]
    exact m.sep.imm _ _ hc

end Go.Proofs.YtjijgajbkcflaaaDoor.Den
