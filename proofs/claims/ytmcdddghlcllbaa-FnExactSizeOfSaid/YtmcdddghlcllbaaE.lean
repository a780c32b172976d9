/- Laws about the abstract machine's memory: reading and writing cells, giving objects away, new objects. -/
import Derived.Test.YtmcdddghlcllbaaD
import Derived.Laws.IdiomCopy
set_option autoImplicit false
set_option linter.unusedVariables false
set_option linter.unusedSimpArgs false
namespace Go.Proofs.Ytmcdddghlcllbaa.Den
open Classical

def updW : Hp → List (Nat × O) → Hp
  | h, [] => h
  | h, (i, o) :: r => updW (fun j => if j = i then o else h j) r

theorem updW_append (h : Hp) : ∀ (a b : List (Nat × O)), updW h (a ++ b) = updW (updW h a) b
  | [], _ => rfl
  | (i, o) :: r, b => updW_append _ r b

theorem updW_deads (h : Hp) (g : List Nat) (i : Nat) : updW h (deads g) i = if i ∈ g then .dead else h i := by
  induction g generalizing h with
  | nil => simp [deads, updW]
  | cons a g ih =>
    show updW (fun j => if j = a then .dead else h j) (deads g) i = _
    rw [ih]
    by_cases h1 : i ∈ g
    · simp [h1]
    · by_cases h2 : i = a <;> simp [h1, h2]

/-! ## Parts of a slice -/

theorem cutL_length {α : Type} (lo hi : Option Nat) (l : List α) (h1 : lo.getD 0 ≤ hi.getD l.length) (h2 : hi.getD l.length ≤ l.length) :
    (cutL lo hi l).length = hi.getD l.length - lo.getD 0 := by
  cases lo <;> cases hi <;> simp [cutL] at * <;> omega

theorem cutL_get {α : Type} (lo hi : Option Nat) (l : List α) (h1 : lo.getD 0 ≤ hi.getD l.length) (h2 : hi.getD l.length ≤ l.length) (i : Nat) (hi' : i < (cutL lo hi l).length) :
    ∃ h, (cutL lo hi l)[i] = l[lo.getD 0 + i]'h := by
  have hl := cutL_length lo hi l h1 h2
  refine ⟨by omega, ?_⟩
  cases lo <;> cases hi <;> simp [cutL]

theorem lenL_eq {n : Nat} (lo hi : Option Nat) : lenL n lo hi = hi.getD n - lo.getD 0 := by
  cases lo <;> cases hi <;> simp [lenL]

/-! ## Giving objects away: their blocks are written no more -/

noncomputable def giveImm (e : Env) (w : World) (g : List Nat) : Nat → Option Obj := fun b => if ∃ i ∈ g, (e.loc i).own = some b then w.heap[b]? else e.imm b

theorem giveImm_le {A : Nat → Prop} {e : Env} {w : World} (hs : Sep A e w) (g : List Nat) : ∀ b o, e.imm b = some o → giveImm e w g b = some o := by
  intro b o h
  unfold giveImm
  split
  · rename_i hx
    obtain ⟨i, _, hi⟩ := hx
    have := (hs.own i b hi).2
    rw [h] at this; cases this
  · exact h

theorem giveImm_mono {A : Nat → Prop} {e : Env} {w : World} (hs : Sep A e w) {g g' : List Nat} (hg : ∀ i ∈ g, i ∈ g') : ∀ b o, giveImm e w g b = some o → giveImm e w g' b = some o := by
  intro b o h
  unfold giveImm at *
  by_cases h1 : ∃ i ∈ g, (e.loc i).own = some b
  · rw [if_pos h1] at h
    obtain ⟨i, hi, hb⟩ := h1
    rw [if_pos ⟨i, hg i hi, hb⟩]; exact h
  · rw [if_neg h1] at h
    split
    · exact hs.imm _ _ h
    · exact h

theorem castL_length {t u : Ty} (e : t = u) (l : List t.D) : (castL e l).length = l.length := by subst e; rfl

/-- The arrays of a memory are as told (of other objects nothing is said). -/
def RelA (e : Env) (w : World) (h : Hp) : Prop := ∀ id t l, h id = .arr t l ∨ h id = .fro t l → RelO e w (e.loc id) (h id)

theorem RelH.arrs {e : Env} {w : World} {h : Hp} (hh : RelH e w h) : RelA e w h := fun id _ _ _ => hh id

theorem asList_rel {A : Nat → Prop} {e : Env} {w : World} {h : Hp} (hh : RelA e w h) (hs : Sep A e w) {t : Ty} {c : C} {l : List t.D} {g : List Nat} (ha : asList t c h = some (l, g)) {v : Value} (hc : RelC e c v) :
    RelD (giveImm e w g) (.slice t) l [v] := by
  unfold asList at ha
  split at ha
  · split at ha
    · rename_i t' l' he
      cases he; cases ha
      exact RelD.mono (giveImm_le hs []) _ _ _ hc
    · cases ha
  · cases ha
    cases hc
    exact ⟨none, 0, rfl, Nat.zero_le _, .inl rfl⟩
  · rename_i id lo hi
    cases hid : h id with
    | arr t' l' =>
      have ho := hh id t' l' (.inl hid)
      rw [hid] at ha ho
      dsimp only at ha
      split at ha
      · rename_i he
        cases he
        split at ha
        case isFalse => cases ha
        rename_i hnr
        cases ha
        simp only [castL, RelC] at *
        rcases ho with ⟨hl, hn⟩ | ⟨b, o, cap, cs, E, fz, hl, hn, hb, hu, hs', hr0⟩
        · rw [hl] at hc
          obtain ⟨h1, h2, rfl⟩ := hc
          subst hn
          have hcut : cutL lo hi ([] : List t.D) = [] := by cases lo <;> cases hi <;> simp [cutL]
          rw [hcut]
          exact ⟨none, 0, rfl, Nat.zero_le _, .inl rfl⟩
        · have hr := RowsC.plain hnr hr0
          rw [hl] at hc
          obtain ⟨h1, h2, a, rfl, ha⟩ := hc
          have hlen := cutL_length lo hi l' h1 h2
          refine ⟨some a, _, by rw [hlen], by rw [hlen]; omega, ?_⟩
          by_cases hz : cap - lo.getD 0 = 0
          · left
            exact List.eq_nil_of_length_eq_zero (by rw [hlen]; omega)
          · right
            have ha' := ha.resolve_left hz
            subst ha'
            refine ⟨b, _, cs, E, fz, rfl, ?_, fun i hi' => ?_⟩
            · unfold giveImm
              rw [if_pos ⟨id, by simp, by rw [hl]; rfl⟩]; exact hb
            · obtain ⟨hx, hy⟩ := cutL_get lo hi l' h1 h2 i hi'
              rw [hy]
              have := hr (lo.getD 0 + i) hx
              rw [Nat.add_mul, ← Nat.add_assoc] at this
              exact RelD.mono (giveImm_le hs _) _ _ _ this
      · cases ha
    | fro t' l' =>
      have ho := hh id t' l' (.inr hid)
      rw [hid] at ha ho
      dsimp only at ha
      split at ha
      · rename_i he
        cases he; cases ha
        simp only [castL, RelC] at *
        rcases ho with ⟨hl, hn⟩ | ⟨b, o, cap, cs, E, fz, hl, hn, hb, hr⟩
        · rw [hl] at hc
          obtain ⟨h1, h2, rfl⟩ := hc
          subst hn
          have hcut : cutL lo hi ([] : List t.D) = [] := by cases lo <;> cases hi <;> simp [cutL]
          rw [hcut]
          exact ⟨none, 0, rfl, Nat.zero_le _, .inl rfl⟩
        · rw [hl] at hc
          obtain ⟨h1, h2, a, rfl, ha⟩ := hc
          have hlen := cutL_length lo hi l' h1 h2
          refine ⟨some a, _, by rw [hlen], by rw [hlen]; omega, ?_⟩
          by_cases hz : cap - lo.getD 0 = 0
          · left
            exact List.eq_nil_of_length_eq_zero (by rw [hlen]; omega)
          · right
            have ha' := ha.resolve_left hz
            subst ha'
            refine ⟨b, _, cs, E, fz, rfl, giveImm_le hs _ _ _ hb, fun i hi' => ?_⟩
            obtain ⟨hx, hy⟩ := cutL_get lo hi l' h1 h2 i hi'
            rw [hy]
            have := hr (lo.getD 0 + i) hx
            rw [Nat.add_mul, ← Nat.add_assoc] at this
            exact RelD.mono (giveImm_le hs _) _ _ _ this
      · cases ha
    | none => rw [hid] at ha; cases ha
    | dead => rw [hid] at ha; cases ha
    | box _ => rw [hid] at ha; cases ha
    | map _ _ _ => rw [hid] at ha; cases ha
    | pool _ _ => rw [hid] at ha; cases ha
    | al _ _ _ => rw [hid] at ha; cases ha
    | gone => rw [hid] at ha; cases ha
  · cases ha

theorem RelD.give {A : Nat → Prop} {e : Env} {w : World} (hs : Sep A e w) {g g' : List Nat} (hg : ∀ i ∈ g, i ∈ g') {t : Ty} {x : t.D} {vs : List Value} (h : RelD (giveImm e w g) t x vs) : RelD (giveImm e w g') t x vs :=
  RelD.mono (giveImm_mono hs hg) _ _ _ h

theorem decD_rel {A : Nat → Prop} {e : Env} {w : World} {h : Hp} (hh : RelA e w h) (hs : Sep A e w) : ∀ (t : Ty) (cells : List C) (x : t.D) (r : List C) (g : List Nat) (vs : List Value),
    t.noRef = true → decD t cells h = some (x, r, g) → RelCs e cells vs → ∃ v1 v2, vs = v1 ++ v2 ∧ RelD (giveImm e w g) t x v1 ∧ RelCs e r v2
  | .int k, cells, x, r, g, vs, hnr, hd, hc => by
    cases hc with
    | nil => simp [decD] at hd
    | cons a b =>
      rename_i c v cs vs
      cases c <;> simp only [decD] at hd <;> try (cases hd; done)
      rename_i k' n
      split at hd
      · cases hd; rename_i hk; subst hk
        exact ⟨[v], vs, rfl, by cases a; rfl, b⟩
      · cases hd
  | .bool, cells, x, r, g, vs, hnr, hd, hc => by
    cases hc with
    | nil => simp [decD] at hd
    | cons a b =>
      rename_i c v cs vs
      cases c <;> simp only [decD] at hd <;> try (cases hd; done)
      cases hd
      exact ⟨[v], vs, rfl, by cases a; rfl, b⟩
  | .str, cells, x, r, g, vs, hnr, hd, hc => by
    cases hc with
    | nil => simp [decD] at hd
    | cons a b =>
      rename_i c v cs vs
      cases c <;> simp only [decD] at hd <;> try (cases hd; done)
      cases hd
      exact ⟨[v], vs, rfl, by cases a; rfl, b⟩
  | .unit, cells, x, r, g, vs, hnr, hd, hc => by
    simp only [decD] at hd; cases hd
    exact ⟨[], vs, rfl, rfl, hc⟩
  | .pair s t, cells, x, r, g, vs, hnr, hd, hc => by
    simp only [Ty.noRef, Bool.and_eq_true] at hnr
    simp only [decD] at hd
    cases h1 : decD s cells h with
    | none => rw [h1] at hd; cases hd
    | some p =>
      obtain ⟨x1, r1, g1⟩ := p
      rw [h1] at hd; dsimp only at hd
      cases h2 : decD t r1 h with
      | none => rw [h2] at hd; cases hd
      | some q =>
        obtain ⟨x2, r2, g2⟩ := q
        rw [h2] at hd; cases hd
        obtain ⟨u1, u2, rfl, ha, hb⟩ := decD_rel hh hs s cells x1 r1 g1 vs hnr.1 h1 hc
        obtain ⟨v1, v2, rfl, hc', hd'⟩ := decD_rel hh hs t r1 x2 r g2 u2 hnr.2 h2 hb
        exact ⟨u1 ++ v1, v2, by simp, ⟨u1, v1, rfl, ha.give hs (by simp +contextual), hc'.give hs (by simp +contextual)⟩, hd'⟩
  | .slice t, cells, x, r, g, vs, hnr, hd, hc => by
    cases hc with
    | nil => simp [decD] at hd
    | cons a b =>
      rename_i c v cs vs
      simp only [decD] at hd
      cases h1 : asList t c h with
      | none => rw [h1] at hd; cases hd
      | some p =>
        obtain ⟨l, g1⟩ := p
        rw [h1] at hd; cases hd
        exact ⟨[v], vs, rfl, asList_rel hh hs h1 a, b⟩
  | .ref t, cells, x, r, g, vs, hnr, hd, hc => by simp [Ty.noRef] at hnr

/-- The environment in which objects have been given away. -/
noncomputable def gave (e : Env) (w : World) (g : List Nat) : Env := ⟨giveImm e w g, fun i => if i ∈ g then .dead else e.loc i, e.vl⟩

theorem Le.gave {A : Nat → Prop} {e : Env} {w : World} (hs : Sep A e w) (g : List Nat) : Le e (gave e w g) :=
  ⟨giveImm_le hs g, fun i => by simp only [Den.gave]; split; exact .dead _; exact .refl _, fun _ _ => rfl⟩

theorem Le.gave_gave {A : Nat → Prop} {e : Env} {w : World} (hs : Sep A e w) {g g' : List Nat} (hg : ∀ i ∈ g, i ∈ g') : Le (Den.gave e w g) (Den.gave e w g') :=
  ⟨giveImm_mono hs hg, fun i => by
    simp only [Den.gave]
    by_cases h1 : i ∈ g
    · rw [if_pos h1, if_pos (hg i h1)]; exact .refl _
    · rw [if_neg h1]
      split
      · exact .dead _
      · exact .refl _, fun _ _ => rfl⟩

/-- A datum out of cells, with places in the pool among them. -/
theorem decD_relC {A : Nat → Prop} {e : Env} {w : World} {h : Hp} (hh : RelH e w h) (hs : Sep A e w) : ∀ (t : Ty) (cells : List C) (x : t.D) (r : List C) (g : List Nat) (vs : List Value),
    decD t cells h = some (x, r, g) → RelCs e cells vs → ∃ v1 v2, vs = v1 ++ v2 ∧ RelCs (Den.gave e w g) (encD t x) v1 ∧ RelCs e r v2
  | .int k, cells, x, r, g, vs, hd, hc => by
    obtain ⟨v1, v2, h1, h2, h3⟩ := decD_rel hh.arrs hs (.int k) cells x r g vs rfl hd hc
    exact ⟨v1, v2, h1, RelCs_encD _ _ _ h2, h3⟩
  | .bool, cells, x, r, g, vs, hd, hc => by
    obtain ⟨v1, v2, h1, h2, h3⟩ := decD_rel hh.arrs hs .bool cells x r g vs rfl hd hc
    exact ⟨v1, v2, h1, RelCs_encD _ _ _ h2, h3⟩
  | .str, cells, x, r, g, vs, hd, hc => by
    obtain ⟨v1, v2, h1, h2, h3⟩ := decD_rel hh.arrs hs .str cells x r g vs rfl hd hc
    exact ⟨v1, v2, h1, RelCs_encD _ _ _ h2, h3⟩
  | .unit, cells, x, r, g, vs, hd, hc => by
    obtain ⟨v1, v2, h1, h2, h3⟩ := decD_rel hh.arrs hs .unit cells x r g vs rfl hd hc
    exact ⟨v1, v2, h1, RelCs_encD _ _ _ h2, h3⟩
  | .pair s t, cells, x, r, g, vs, hd, hc => by
    simp only [decD] at hd
    cases h1 : decD s cells h with
    | none => rw [h1] at hd; cases hd
    | some p =>
      obtain ⟨x1, r1, g1⟩ := p
      rw [h1] at hd; dsimp only at hd
      cases h2 : decD t r1 h with
      | none => rw [h2] at hd; cases hd
      | some q =>
        obtain ⟨x2, r2, g2⟩ := q
        rw [h2] at hd; cases hd
        obtain ⟨u1, u2, rfl, ha, hb⟩ := decD_relC hh hs s cells x1 r1 g1 vs h1 hc
        obtain ⟨v1, v2, rfl, hc', hd'⟩ := decD_relC hh hs t r1 x2 r g2 u2 h2 hb
        exact ⟨u1 ++ v1, v2, by simp, RelCs_append (ha.mono (Le.gave_gave hs (by simp +contextual))) (hc'.mono (Le.gave_gave hs (by simp +contextual))), hd'⟩
  | .slice t, cells, x, r, g, vs, hd, hc => by
    cases hc with
    | nil => simp [decD] at hd
    | cons a b =>
      rename_i c v cs vs
      simp only [decD] at hd
      cases h1 : asList t c h with
      | none => rw [h1] at hd; cases hd
      | some p =>
        obtain ⟨l, g1⟩ := p
        rw [h1] at hd; cases hd
        exact ⟨[v], vs, rfl, RelCs_encD (e := Den.gave e w g) (.slice t) _ _ (asList_rel hh.arrs hs h1 a), b⟩
  | .ref t, cells, x, r, g, vs, hd, hc => by
    cases hc with
    | nil => simp [decD] at hd
    | cons a b =>
      rename_i c v cs vs
      cases c <;> (try simp only [decD] at hd) <;> try (cases hd; done)
      · rename_i t' x'
        split at hd
        · rename_i ht
          cases hd
          subst ht
          exact ⟨[v], vs, rfl, .cons (RelC.mono (Le.gave hs []) _ _ a) .nil, b⟩
        · cases hd
      · rename_i id lo hi
        cases lo <;> cases hi <;> (try simp only [decD] at hd) <;> try (cases hd; done)
        have ho := hh id
        cases hid : h id <;> rw [hid] at hd ho <;> try (cases hd; done)
        rename_i t' k n
        dsimp only at hd
        split at hd
        · rename_i ht
          subst ht
          cases hd
          refine ⟨[v], vs, rfl, .cons (RelC.mono (Le.gave hs []) _ _ ?_) .nil, b⟩
          rcases ho with ⟨h1, h2, h3⟩ | ⟨b', o, cap, h1, h2, _⟩
          · simp only [RelC, h1] at a
            simp only [RelC, h3]
            exact a.2.2
          · simp only [RelC, h1] at a
            simp only [RelC, h2]
            exact ⟨trivial, a⟩
        · cases hd
      · cases hd
        cases a
        exact ⟨[.slice none 0 0], vs, rfl, .cons ⟨none, 0, rfl⟩ .nil, b⟩

theorem gave_nil (e : Env) (w : World) : Den.gave e w [] = e := by
  have h1 : giveImm e w [] = e.imm := by
    funext b
    unfold giveImm
    exact if_neg (by rintro ⟨i, hi, _⟩; cases hi)
  have h2 : (fun i => if i ∈ ([] : List Nat) then Loc.dead else e.loc i) = e.loc := by
    funext i
    exact if_neg (by simp)
  unfold Den.gave
  rw [h1, h2]

theorem asList_arr {h : Hp} {t : Ty} {c : C} {l : List t.D} {g : List Nat} (ha : asList t c h = some (l, g)) : ∀ i ∈ g, ∃ u l, h i = .arr u l := by
  unfold asList at ha
  split at ha
  · split at ha
    · cases ha; intro i hi; cases hi
    · cases ha
  · cases ha; intro i hi; cases hi
  · rename_i id lo hi
    split at ha
    · rename_i t' l' hid
      split at ha
      · split at ha
        · cases ha
          intro i hi
          rw [List.mem_singleton.1 hi]
          exact ⟨_, _, hid⟩
        · cases ha
      · cases ha
    · split at ha
      · cases ha; intro i hi; cases hi
      · cases ha
    · cases ha
  · cases ha

/-- What is given away are arrays. -/
theorem decD_arr {h : Hp} : ∀ (t : Ty) (cells : List C) (x : t.D) (r : List C) (g : List Nat), decD t cells h = some (x, r, g) → ∀ i ∈ g, ∃ u l, h i = .arr u l
  | .int k, cells, x, r, g, hd => by
    cases cells with
    | nil => simp [decD] at hd
    | cons c cs =>
      cases c <;> simp only [decD] at hd <;> try (cases hd; done)
      split at hd
      · cases hd; intro i hi; cases hi
      · cases hd
  | .bool, cells, x, r, g, hd => by
    cases cells with
    | nil => simp [decD] at hd
    | cons c cs =>
      cases c <;> simp only [decD] at hd <;> try (cases hd; done)
      cases hd; intro i hi; cases hi
  | .str, cells, x, r, g, hd => by
    cases cells with
    | nil => simp [decD] at hd
    | cons c cs =>
      cases c <;> simp only [decD] at hd <;> try (cases hd; done)
      cases hd; intro i hi; cases hi
  | .unit, cells, x, r, g, hd => by simp only [decD] at hd; cases hd; intro i hi; cases hi
  | .pair s t, cells, x, r, g, hd => by
    simp only [decD] at hd
    cases h1 : decD s cells h with
    | none => rw [h1] at hd; cases hd
    | some p =>
      obtain ⟨x1, r1, g1⟩ := p
      rw [h1] at hd; dsimp only at hd
      cases h2 : decD t r1 h with
      | none => rw [h2] at hd; cases hd
      | some q =>
        obtain ⟨x2, r2, g2⟩ := q
        rw [h2] at hd; cases hd
        intro i hi
        rcases List.mem_append.1 hi with hi | hi
        · exact decD_arr s _ _ _ _ h1 i hi
        · exact decD_arr t _ _ _ _ h2 i hi
  | .slice t, cells, x, r, g, hd => by
    cases cells with
    | nil => simp [decD] at hd
    | cons c cs =>
      simp only [decD] at hd
      cases h1 : asList t c h with
      | none => rw [h1] at hd; cases hd
      | some p =>
        obtain ⟨l, g1⟩ := p
        rw [h1] at hd; cases hd
        exact asList_arr h1
  | .ref t, cells, x, r, g, hd => by
    cases cells with
    | nil => simp [decD] at hd
    | cons c cs =>
      cases c <;> (try simp only [decD] at hd) <;> try (cases hd; done)
      · split at hd
        · cases hd; intro i hi; cases hi
        · cases hd
      · rename_i id lo hi
        cases lo <;> cases hi <;> (try simp only [decD] at hd) <;> try (cases hd; done)
        cases hid : h id <;> rw [hid] at hd <;> try (cases hd; done)
        dsimp only at hd
        split at hd
        · cases hd; intro i hi; cases hi
        · cases hd
      · cases hd; intro i hi; cases hi

theorem Mem.noarr {A : Nat → Prop} {w0 : Start} {e : Env} {h : Hp} {w : World} (m : Mem A w0 e h w) {i : Nat} (hi : ∃ u l, h i = .arr u l) : i ≠ POOL := fun hh => by
  obtain ⟨u, l, hi⟩ := hi
  rw [hh] at hi
  rcases m.pk with h1 | h1 | ⟨v, pl, h1⟩ <;> rw [hi] at h1 <;> cases h1

theorem Mem.gave {A : Nat → Prop} {w0 : Start} {e : Env} {h : Hp} {w : World} (m : Mem A w0 e h w) (g : List Nat) (hgP : ∀ i ∈ g, i ≠ POOL) : Mem A w0 (gave e w g) (updW h (deads g)) w where
  hp := fun id => by
    rw [updW_deads]
    simp only [Den.gave]
    by_cases hi : id ∈ g
    · rw [if_pos hi, if_pos hi]; rfl
    · rw [if_neg hi, if_neg hi]
      exact RelO.mono (Le.gave m.sep g) (fun _ _ => rfl) (fun _ _ _ => ⟨rfl, fun _ _ _ => rfl⟩) (m.hp id)
  sep := {
    tb := m.sep.tb.mono (giveImm_le m.sep g)
    imm := fun b o hb => by
      simp only [Den.gave, giveImm] at hb
      split at hb
      · exact hb
      · exact m.sep.imm _ _ hb
    own := fun id b hb => by
      simp only [Den.gave] at hb
      split at hb
      · cases hb
      · rename_i hi
        refine ⟨(m.sep.own id b hb).1, ?_⟩
        simp only [Den.gave, giveImm]
        rw [if_neg]
        · exact (m.sep.own id b hb).2
        · rintro ⟨j, hj, hjb⟩
          exact hi (m.sep.inj _ _ _ hb hjb ▸ hj)
    inj := fun i j b hi hj => by
      simp only [Den.gave] at hi hj
      split at hi
      · cases hi
      · split at hj
        · cases hj
        · exact m.sep.inj _ _ _ hi hj
    vown := fun k b hb => by
      refine ⟨(m.sep.vown k b hb).1, ?_⟩
      simp only [Den.gave, giveImm]
      rw [if_neg]
      · exact (m.sep.vown k b hb).2
      · rintro ⟨j, hj, hjb⟩
        exact m.sep.vdis _ _ _ hjb hb
    vinj := m.sep.vinj
    vdis := fun i k b hi hk => by
      simp only [Den.gave] at hi
      split at hi
      · cases hi
      · exact m.sep.vdis _ _ _ hi hk }
  np := fun hp => by
    rw [updW_deads] at hp
    split at hp
    · cases hp
    · exact m.np hp
  vkeep := m.vkeep
  vlt := m.vlt
  one := fun i u pl hi => by
    rw [updW_deads] at hi
    split at hi
    · cases hi
    · exact m.one i u pl hi
  pk := by
    rw [updW_deads, if_neg fun hh => hgP POOL hh rfl]
    exact m.pk
  frm := m.frm
  new := m.new
  old := fun b o hb => by
    simp only [Den.gave, giveImm] at hb
    split at hb
    · rename_i hx
      obtain ⟨i, _, hi⟩ := hx
      exact .inr (m.sep.own i b hi).1
    · exact m.old b o hb
  keep := fun b o hb => giveImm_le m.sep g b o (m.keep b o hb)

/-! ## A new object -/

def atLoc (e : Env) (n : Nat) (L : Loc) : Env := ⟨e.imm, fun i => if i = n then L else e.loc i, e.vl⟩

theorem Le.at {e : Env} {n : Nat} {L : Loc} (h : e.loc n = .un) : Le e (atLoc e n L) :=
  ⟨fun _ _ h => h, fun i => by simp only [atLoc]; split; (rename_i hi; subst hi; rw [h]; exact .un _); exact .refl _, fun _ _ => rfl⟩

theorem loc_un {e : Env} {w : World} {h : Hp} {n : Nat} (hh : RelH e w h) (hn : h n = .none) : e.loc n = .un := by have := hh n; rw [hn] at this; exact this

theorem Frm.refl (A : Nat → Prop) (w : World) : Frm A w w := ⟨rfl, rfl, rfl, Nat.le_refl _, fun _ _ => rfl⟩
theorem Frm.trans {A : Nat → Prop} {a b c : World} (h : Frm A a b) (k : Frm A b c) : Frm A a c :=
  ⟨k.os.trans h.os, k.tape.trans h.tape, k.output.trans h.output, Nat.le_trans h.size k.size, fun b hb => (k.block b hb).trans (h.block b hb)⟩

/-- A world that keeps all blocks, as after draws and new blocks. -/
structure Ext (w w' : World) : Prop where
  os : w'.os = w.os
  tape : w'.tape = w.tape
  output : w'.output = w.output
  size : w.heap.size ≤ w'.heap.size
  block : ∀ b, b < w.heap.size → w'.heap[b]? = w.heap[b]?

theorem Ext.refl (w : World) : Ext w w := ⟨rfl, rfl, rfl, Nat.le_refl _, fun _ _ => rfl⟩
theorem Ext.trans {a b c : World} (h : Ext a b) (k : Ext b c) : Ext a c :=
  ⟨k.os.trans h.os, k.tape.trans h.tape, k.output.trans h.output, Nat.le_trans h.size k.size, fun i hi => (k.block i (Nat.lt_of_lt_of_le hi h.size)).trans (h.block i hi)⟩
theorem Ext.alloc (w : World) (o : Obj) : Ext w (w.alloc o) := ⟨rfl, rfl, rfl, by simp, fun k hk => heap_alloc_old w o k hk⟩
theorem Ext.drew (w : World) : Ext w w.drew := ⟨rfl, rfl, rfl, Nat.le_refl _, fun _ _ => rfl⟩

theorem block_lt {w : World} {b : Nat} {o : Obj} (h : w.heap[b]? = some o) : b < w.heap.size := (Array.getElem?_eq_some_iff.1 h).1

theorem Mem.ext {A : Nat → Prop} {w0 : Start} {e : Env} {h : Hp} {w w' : World} (m : Mem A w0 e h w) (x : Ext w w') : Mem A w0 e h w' where
  hp := fun id => RelO.mono (Le.refl e) (fun b hb => x.block b (RelO.own_lt (m.hp id) hb)) (fun _ _ _ => ⟨rfl, fun k b hb => x.block b (m.vlt k b hb)⟩) (m.hp id)
  sep := ⟨fun b o hb => by have := m.sep.imm b o hb; rw [x.block b (block_lt this)]; exact this, m.sep.own, m.sep.inj, m.sep.vown, m.sep.vinj, m.sep.vdis, m.sep.tb⟩
  np := m.np
  vkeep := m.vkeep
  vlt := fun k b hb => Nat.lt_of_lt_of_le (m.vlt k b hb) x.size
  one := m.one
  pk := m.pk
  frm := m.frm.trans ⟨x.os, x.tape, x.output, x.size, fun b hb => by
    by_cases hlt : b < w.heap.size
    · exact x.block b hlt
    · exact (hb (m.new b (by omega))).elim⟩
  new := fun b hb => m.new b (Nat.le_trans x.size hb)
  old := m.old
  keep := m.keep

/-- A new object in a block that was not there. -/
theorem Mem.alloc {A : Nat → Prop} {w0 : Start} {e : Env} {h : Hp} {w w' : World} {n : Nat} {L : Loc} {o : O} (m : Mem A w0 e h w) (hn : h n = .none) (x : Ext w w')
    (hL : ∀ b, L.own = some b → w.heap.size ≤ b) (ho : RelO (atLoc e n L) w' L o) (hnP : n ≠ POOL) (hop : o.isPool = false) : Mem A w0 (atLoc e n L) (fun j => if j = n then o else h j) w' := by
  have m' := m.ext x
  have hun := loc_un m.hp hn
  refine ⟨fun id => ?_, ⟨m'.sep.imm, fun id b hb => ?_, fun i j b hi hj => ?_, m'.sep.vown, m'.sep.vinj, fun i k b hi hk => ?_, m'.sep.tb⟩, m'.frm, m'.new, m'.old, m'.keep, fun hp => m.np (by rwa [if_neg (Ne.symm hnP)] at hp), m'.vkeep, m'.vlt, fun i u pl hi => by
    by_cases hin : i = n
    · rw [if_pos hin] at hi; rw [hi] at hop; cases hop
    · rw [if_neg hin] at hi; exact m.one i u pl hi, by rw [if_neg (Ne.symm hnP)]; exact m.pk⟩
  · by_cases hi : id = n
    · subst hi; simp only [atLoc, if_true]; exact ho
    · simp only [atLoc, if_neg hi]
      exact RelO.mono (Le.at hun) (fun _ _ => rfl) (fun _ _ _ => ⟨rfl, fun _ _ _ => rfl⟩) (m'.hp id)
  · simp only [atLoc] at hb
    split at hb
    · have hle := hL b hb
      refine ⟨m.new b hle, ?_⟩
      cases hc : e.imm b with
      | none => exact hc
      | some o' => have := m.sep.imm b o' hc; have := block_lt this; omega
    · exact m'.sep.own id b hb
  · simp only [atLoc] at hi hj
    split at hi
    · split at hj
      · rename_i h1 h2; rw [h1, h2]
      · have h1 := hL b hi
        have h2 := RelO.own_lt (m.hp j) hj
        omega
    · split at hj
      · have h1 := hL b hj
        have h2 := RelO.own_lt (m.hp i) hi
        omega
      · exact m'.sep.inj _ _ _ hi hj
  · simp only [atLoc] at hi hk
    split at hi
    · have h1 := hL b hi
      have h2 := m.vlt k b hk
      omega
    · exact m'.sep.vdis _ _ _ hi hk

/-- An object changed in its own block. -/
theorem Mem.set {A : Nat → Prop} {w0 : Start} {e : Env} {h : Hp} {w w' : World} {n b : Nat} {o : O} (m : Mem A w0 e h w) (hb : (e.loc n).own = some b)
    (x1 : w'.os = w.os) (x2 : w'.tape = w.tape) (x3 : w'.output = w.output) (x4 : w'.heap.size = w.heap.size) (x5 : ∀ k, k ≠ b → w'.heap[k]? = w.heap[k]?)
    (ho : RelO e w' (e.loc n) o) : Mem A w0 e (fun j => if j = n then o else h j) w' := by
  have hnp : ∀ k, (if k = n then o else h k) = .none → k ≠ n := fun k hk hkn => by
    rw [if_pos hkn] at hk
    rw [hk] at ho
    have h0 : e.loc n = .un := ho
    rw [h0] at hb; cases hb
  refine ⟨fun id => ?_, ⟨fun c q hc => ?_, m.sep.own, m.sep.inj, m.sep.vown, m.sep.vinj, m.sep.vdis, m.sep.tb⟩, m.frm.trans ⟨x1, x2, x3, by omega, fun c hc => x5 c (fun hcb => hc (hcb ▸ (m.sep.own n b hb).1))⟩, fun c hc => m.new c (by omega), m.old, m.keep, fun hp => m.np (by have := hnp _ hp; rwa [if_neg this] at hp), m.vkeep, fun k c hc => by rw [x4]; exact m.vlt k c hc, fun i u pl hi => by
    by_cases hin : i = n
    · rw [if_pos hin] at hi
      rw [hi] at ho
      rw [ho.1] at hb; cases hb
    · rw [if_neg hin] at hi; exact m.one i u pl hi, by
    by_cases hin : POOL = n
    · subst hin
      exfalso
      have h0 := m.hp POOL
      rcases m.pk with h1 | h1 | ⟨v, pl, h1⟩ <;> rw [h1] at h0
      · have h2 : e.loc POOL = .un := h0
        rw [h2] at hb; cases hb
      · have h2 : e.loc POOL = .un := h0
        rw [h2] at hb; cases hb
      · rw [h0.1] at hb; cases hb
    · rw [if_neg hin]; exact m.pk⟩
  · by_cases hi : id = n
    · subst hi; simp only [if_true]; exact ho
    · rw [if_neg hi]
      exact RelO.mono (Le.refl e) (fun c hc => x5 c (fun hcb => hi (m.sep.inj _ _ _ hc (hcb ▸ hb)))) (fun _ _ _ => ⟨rfl, fun k c hc => x5 c (fun hcb => m.sep.vdis n k c (hcb ▸ hb) hc)⟩) (m.hp id)
  · rw [x5 c (fun hcb => by have := (m.sep.own n b hb).2; rw [← hcb, hc] at this; cases this)]
    exact m.sep.imm _ _ hc

/-- One of the pool's arrays changed in its own block. -/
theorem Mem.vset {A : Nat → Prop} {w0 : Start} {e : Env} {h : Hp} {w w' : World} {u : Ty} {pl : List (List u.D)} {l' : List u.D} {k b : Nat} (m : Mem A w0 e h w) (hp : h POOL = .pool u pl) (hk : k < pl.length) (hb : (e.vl k).own = some b)
    (x1 : w'.os = w.os) (x2 : w'.tape = w.tape) (x3 : w'.output = w.output) (x4 : w'.heap.size = w.heap.size) (x5 : ∀ k, k ≠ b → w'.heap[k]? = w.heap[k]?)
    (ho : RelArr e w' (e.vl k) u l') : Mem A w0 e (fun j => if j = POOL then .pool u (pl.set k l') else h j) w' := by
  obtain ⟨p1, p2⟩ := m.pool hp
  refine ⟨fun id => ?_, ⟨fun c q hc => ?_, m.sep.own, m.sep.inj, m.sep.vown, m.sep.vinj, m.sep.vdis, m.sep.tb⟩, m.frm.trans ⟨x1, x2, x3, by omega, fun c hc => x5 c (fun hcb => hc (hcb ▸ (m.sep.vown k b hb).1))⟩, fun c hc => m.new c (by omega), m.old, m.keep, fun hq => (by rw [if_pos rfl] at hq; cases hq), m.vkeep, fun k c hc => (by rw [x4]; exact m.vlt k c hc), fun i v ql hi => ?_, .inr (.inr ⟨_, _, if_pos rfl⟩)⟩
  · by_cases hi : id = POOL
    · subst hi
      rw [if_pos rfl]
      have h0 := m.hp POOL
      rw [hp] at h0
      refine ⟨h0.1, fun j hj => p1 j (by simpa using hj), fun j hj => ?_⟩
      rw [List.length_set] at hj
      by_cases hjk : j = k
      · subst hjk; rw [List.getElem_set_self]; exact ho
      · rw [List.getElem_set_ne (fun hh => hjk hh.symm)]
        exact RelArr.mono (Le.refl e) (fun c hc => x5 c (fun hcb => hjk (m.sep.vinj _ _ _ (hcb ▸ hc) hb))) (p2 j hj)
    · rw [if_neg hi]
      exact RelO.mono (Le.refl e) (fun c hc => x5 c (fun hcb => m.sep.vdis _ _ _ (hcb ▸ hc) hb)) (fun v ql hv => absurd (m.one id v ql hv) hi) (m.hp id)
  · rw [x5 c (fun hcb => by have := (m.sep.vown k b hb).2; rw [← hcb, hc] at this; cases this)]
    exact m.sep.imm _ _ hc
  · by_cases hi2 : i = POOL
    · exact hi2
    · rw [if_neg hi2] at hi; exact m.one i v ql hi

/-- What a place in one of the pool's arrays is. -/
theorem rep_spec {A : Nat → Prop} {w0 : Start} {e : Env} {h : Hp} {w : World} {u : Ty} {pl : List (List u.D)} {x i off : Nat} {v : Value} (m : Mem A w0 e h w) (hp : h POOL = .pool u pl) (hv : RelC e (.rep u x i off) v) :
    ∃ k b o cap cs E fz, ∃ hk : k < pl.length, x = k + 1 ∧ e.vl k = .arr b o u.size cap pl[k].length ∧ pl[k].length ≤ cap ∧ w.heap[b]? = some (.cells cs E fz) ∧ Unfz fz cs.size ∧ o + cap * u.size ≤ cs.size ∧ RowsC e u pl[k] cs.toList o ∧
      i < pl[k].length ∧ v = .pointer (some ⟨b, o + i * u.size + off, none⟩) ∧ refL pl x = pl[k] := by
  obtain ⟨p1, p2⟩ := m.pool hp
  cases x with
  | zero => exact hv.elim
  | succ k =>
    by_cases hk : k < pl.length
    · rcases p2 k hk with ⟨hl, _⟩ | ⟨b, o, cap, cs, E, fz, hl, hn, hb, hu, hs, hr⟩
      · simp [RelC, hl] at hv
      · simp only [RelC, hl] at hv
        obtain ⟨_, hi, rfl⟩ := hv
        exact ⟨k, b, o, cap, cs, E, fz, hk, rfl, hl, hn, hb, hu, hs, hr, hi, rfl, by simp [refL, List.getD, List.getElem?_eq_getElem hk]⟩
    · simp [RelC, p1 k (by omega)] at hv

/-- What a place in the pool is. -/
theorem ref_spec {A : Nat → Prop} {w0 : Start} {e : Env} {h : Hp} {w : World} {u : Ty} {pl : List (List u.D)} {x : Nat} {v : Value} (m : Mem A w0 e h w) (hp : h POOL = .pool u pl) (hv : RelC e (.ref u x) v) :
    (refL pl x = [] ∧ ∃ a c, v = .slice a 0 c) ∨ ∃ k b o cap, ∃ hk : k < pl.length, x = k + 1 ∧ e.vl k = .arr b o u.size cap pl[k].length ∧ SlAt b o u.size cap pl[k].length .none .none v ∧ refL pl x = pl[k] := by
  obtain ⟨p1, p2⟩ := m.pool hp
  cases x with
  | zero => exact .inl ⟨rfl, hv⟩
  | succ k =>
    by_cases hk : k < pl.length
    · have hrl : refL pl (k + 1) = pl[k] := by simp [refL, List.getD, List.getElem?_eq_getElem hk]
      rcases p2 k hk with ⟨hl, hn⟩ | ⟨b, o, cap, cs, E, fz, hl, hn, hb, hu, hs, hr⟩
      · simp only [RelC, hl] at hv
        exact .inl ⟨by rw [hrl, hn], none, 0, hv⟩
      · simp only [RelC, hl] at hv
        exact .inr ⟨k, b, o, cap, hk, rfl, hl, hv.2, hrl⟩
    · simp [RelC, p1 k (by omega)] at hv

end Go.Proofs.Ytmcdddghlcllbaa.Den
