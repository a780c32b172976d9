/- A call of a function that keeps its contract, as the caller sees it; what a loop's head keeps. -/
import Derived.Test.YtmcdddghlcllbaaO
set_option autoImplicit false
set_option linter.unusedVariables false
set_option linter.unusedSimpArgs false
namespace Go.Proofs.Ytmcdddghlcllbaa.Den
open Classical

def hpf (l : List O) : Hp := look l

theorem poolOf_cases : ∀ l : List O, poolOf l = .none ∨ poolOf l = .gone ∨ ∃ u pl, poolOf l = .pool u pl
  | [] => .inl rfl
  | o :: r => by
    cases o <;> first | exact poolOf_cases r | exact .inr (.inr ⟨_, _, rfl⟩) | exact .inr (.inl rfl)

theorem poolOf_mem : ∀ {l : List O} {o : O}, poolOf l = o → o ≠ .none → ∃ j : Nat, l[j]? = some o
  | [], o, h, hn => absurd h.symm hn
  | a :: r, o, h, hn => by
    cases a <;> first
      | exact ⟨0, by rw [← h]; rfl⟩
      | (obtain ⟨j, hj⟩ := poolOf_mem (l := r) h hn; exact ⟨j + 1, by simpa using hj⟩)

theorem poolOf_ne : ∀ {l : List O} {j : Nat} {u : Ty} {pl : List (List u.D)}, l[j]? = some (.pool u pl) → poolOf l ≠ .none
  | [], j, u, pl, h => by simp at h
  | a :: r, j, u, pl, h => by
    cases j with
    | zero => simp at h; subst h; exact fun hh => by cases hh
    | succ j =>
      have := poolOf_ne (l := r) (j := j) (by simpa using h)
      cases a <;> first | exact this | exact fun hh => by cases hh

theorem hide_pool (o : O) : ∀ u pl, o.hide ≠ .pool u pl := fun u pl => by cases o <;> exact fun hh => by cases hh

/-- Of the pool's places: none without a pool; all blocks are there. -/
def VlOk (e : Env) (w : World) (h : Hp) : Prop := (h POOL = .none → ∀ k, e.vl k = .un) ∧ ∀ k b, (e.vl k).own = some b → b < w.heap.size

/-- The blocks that a call may write: those of its own, and those of the objects that it was handed. -/
def Own (e : Env) (w : World) : Nat → Prop := fun b => w.heap.size ≤ b ∨ (∃ j, (e.loc j).own = some b) ∨ ∃ k, (e.vl k).own = some b

theorem nodup_of_B : ∀ l : List Nat, nodupB l = true → l.Nodup
  | [], _ => .nil
  | x :: r, h => by
    simp only [nodupB, Bool.and_eq_true, Bool.not_eq_true'] at h
    refine List.nodup_cons.2 ⟨?_, nodup_of_B r h.2⟩
    have := h.1; simpa using this

theorem srcIds_cons (s : Src) (l : List Src) : srcIds (s :: l) = (match s.id? with | some i => [i] | .none => []) ++ srcIds l := by
  unfold srcIds
  cases h : s.id? <;> simp [List.filterMap_cons, h]

theorem mem_srcIds {S : List Src} {j id : Nat} {lo hi : Option Nat} (h : S[j]? = some (.of id lo hi)) : id ∈ srcIds S := by
  unfold srcIds
  exact List.mem_filterMap.2 ⟨_, List.mem_of_getElem? h, rfl⟩

theorem src_inj : ∀ {S : List Src} {i j id : Nat} {lo hi lo' hi' : Option Nat}, (srcIds S).Nodup → S[i]? = some (.of id lo hi) → S[j]? = some (.of id lo' hi') → i = j
  | [], i, j, id, lo, hi, lo', hi', hn, h1, h2 => by simp at h1
  | s :: S, 0, 0, id, lo, hi, lo', hi', hn, h1, h2 => rfl
  | s :: S, 0, j + 1, id, lo, hi, lo', hi', hn, h1, h2 => by
    simp at h1 h2; subst h1
    rw [srcIds_cons] at hn
    have := mem_srcIds h2
    simp only [Src.id?, List.singleton_append, List.nodup_cons] at hn
    exact (hn.1 this).elim
  | s :: S, i + 1, 0, id, lo, hi, lo', hi', hn, h1, h2 => by
    simp at h1 h2; subst h2
    rw [srcIds_cons] at hn
    have := mem_srcIds h1
    simp only [Src.id?, List.singleton_append, List.nodup_cons] at hn
    exact (hn.1 this).elim
  | s :: S, i + 1, j + 1, id, lo, hi, lo', hi', hn, h1, h2 => by
    simp at h1 h2
    rw [srcIds_cons] at hn
    rw [src_inj (List.nodup_append.1 hn).2.1 h1 h2]

section
variable {P : Program} {A : Nat → Prop} {w0 : Start} {e : Env} {h : Hp} {w : World}

theorem srcOk_spec {src : List Src} {lent : List Nat} (h : srcOk src lent = true) : (srcIds src).Nodup ∧ ∀ i ∈ srcIds src, i ∉ lent := by
  simp only [srcOk, Bool.and_eq_true, List.all_eq_true] at h
  refine ⟨nodup_of_B _ h.1.1, fun i hi => ?_⟩
  have := h.1.2 i hi
  simpa using this

theorem srcOk_len {src : List Src} {lent : List Nat} (h : srcOk src lent = true) : src.length < POOL := by
  simp only [srcOk, Bool.and_eq_true] at h
  exact of_decide_eq_true h.2

theorem take_sep (m : Mem A w0 e h w) {S : List Src} {lent : List Nat} (hok : srcOk S lent = true) (B : Nat → Prop) (hB : ∀ j b, ((takeE e w S lent).loc j).own = some b → B b) (hBv : ∀ k b, ((takeE e w S lent).vl k).own = some b → B b) : Sep B (takeE e w S lent) w := by
  obtain ⟨hn, hl⟩ := srcOk_spec hok
  have hvl : ∀ k b, ((takeE e w S lent).vl k).own = some b → (e.vl k).own = some b := fun k b hb => by
    simp only [takeE] at hb
    split at hb
    · exact hb
    · cases hb
  refine ⟨fun b o hb => ?_, fun j b hb => ⟨hB j b hb, ?_⟩, fun i j b hi hj => ?_, fun k b hb => ⟨hBv k b hb, ?_⟩, fun i j b hi hj => m.sep.vinj _ _ _ (hvl i b hi) (hvl j b hj), fun i k b hi hk => ?_, m.sep.tb.mono (giveImm_le m.sep lent)⟩
  rotate_right
  · obtain ⟨id, lo, hi', hs, hown⟩ := own_locOf hi
    exact m.sep.vdis _ _ _ hown (hvl k b hk)
  rotate_right
  · simp only [takeE, giveImm]
    rw [if_neg]
    · exact (m.sep.vown k b (hvl k b hb)).2
    · rintro ⟨i, _, hib⟩
      exact m.sep.vdis _ _ _ hib (hvl k b hb)
  · simp only [takeE, giveImm] at hb
    split at hb
    · exact hb
    · exact m.sep.imm _ _ hb
  · obtain ⟨id, lo, hi, hs, hown⟩ := own_locOf hb
    simp only [takeE, giveImm]
    rw [if_neg]
    · exact (m.sep.own id b hown).2
    · rintro ⟨i, hi', hib⟩
      have := m.sep.inj _ _ _ hib hown
      subst this
      exact hl _ (mem_srcIds hs) hi'
  · obtain ⟨id, lo, hi', hs, hown⟩ := own_locOf hi
    obtain ⟨id2, lo2, hi2, hs2, hown2⟩ := own_locOf hj
    have := m.sep.inj _ _ _ hown hown2
    subst this
    exact src_inj hn hs hs2

theorem take_own (m : Mem A w0 e h w) {S : List Src} {lent : List Nat} {j b : Nat} (hb : ((takeE e w S lent).loc j).own = some b) : A b ∧ b < w.heap.size ∧ ∃ id ∈ srcIds S, (e.loc id).own = some b := by
  obtain ⟨id, lo, hi, hs, hown⟩ := own_locOf hb
  exact ⟨(m.sep.own id b hown).1, RelO.own_lt (m.hp id) hown, id, mem_srcIds hs, hown⟩

theorem take_hp {S : List Src} {lent : List Nat} {os : List O} (t : Took e w S lent 0 S os) (hlen : S.length < POOL) : RelH (takeE e w S lent) w (hpf os) := by
  intro j
  by_cases hjP : j = POOL
  · subst hjP
    have h2 : S[POOL]? = none := List.getElem?_eq_none (by omega)
    have hL : (takeE e w S lent).loc POOL = .un := by simp only [takeE, h2]; rfl
    rw [hL]
    show RelO _ _ _ (look os POOL)
    simp only [look, if_true]
    rcases poolOf_cases os with h | h | ⟨u, pl, h⟩
    · rw [h]; rfl
    · rw [h]; rfl
    · rw [h]
      obtain ⟨j, hj⟩ := poolOf_mem h (fun hh => by cases hh)
      exact ⟨rfl, (t.obj j _ hj).2⟩
  · show RelO _ _ _ (look os j)
    simp only [look, if_neg hjP]
    by_cases hj : j < os.length
    · have := t.obj j os[j] (List.getElem?_eq_getElem hj)
      have e1 : os.getD j .none = os[j] := by simp [List.getD, List.getElem?_eq_getElem hj]
      rw [e1]
      have e2 : (takeE e w S lent).loc j = locOf e S[j]? := rfl
      rw [e2]
      cases ho : os[j] <;> rw [ho] at this <;> first | exact this | exact this.1
    · have h1 : os[j]? = none := List.getElem?_eq_none (by omega)
      have h2 : S[j]? = none := List.getElem?_eq_none (by rw [t.len]; omega)
      simp only [List.getD, h1, takeE, h2]; rfl

theorem take_vlok {S : List Src} {lent : List Nat} {os : List O} (m : Mem A w0 e h w) (t : Took e w S lent 0 S os) : VlOk (takeE e w S lent) w (hpf os) := by
  refine ⟨fun hp k => ?_, fun k b hb => ?_⟩
  · have hp' : poolOf os = .none := by
      have : look os POOL = .none := hp
      simpa [look] using this
    show (if POOL ∈ srcIds S then e.vl k else .un) = _
    rw [if_neg]
    intro hP
    obtain ⟨s, hs, hid⟩ := List.mem_filterMap.1 hP
    cases s with
    | nil => cases hid
    | of id lo hi =>
      cases hid
      obtain ⟨j, hj⟩ := List.getElem?_of_mem hs
      obtain ⟨u, pl, hpl⟩ := t.pool j lo hi hj
      exact poolOf_ne hpl hp'
  · have hb' : (if POOL ∈ srcIds S then e.vl k else .un).own = some b := hb
    split at hb'
    · exact m.vlt k b hb'
    · cases hb'

theorem Sub.self (S : List Src) : Sub S 0 S := fun j s h => by simpa using h

/-- What is taken out of memory is a memory of its own. -/
theorem take_all (m : Mem A w0 e h w) {s : List Sh} {c : List V} {d : Dec (Sh.DL s)} {xs : List Value} (hd : decSs h s c = some d) (hc : RelVs e c xs) (hR : needP s d.src = true) (hok : srcOk d.src d.lent = true) :
    RelVs (takeE e w d.src d.lent) (encSs s d.x 0).1 xs ∧ RelH (takeE e w d.src d.lent) w (hpf (encSs s d.x 0).2) ∧ VlOk (takeE e w d.src d.lent) w (hpf (encSs s d.x 0).2) := by
  obtain ⟨h1, h2⟩ := decSs_took (S := d.src) (lent := d.lent) m s c d 0 xs hd hc (Sub.self _) (fun _ hi => hi) (fun hh => by
    simp only [needP, hh, Bool.not_true, Bool.false_or] at hR
    simpa using hR)
  exact ⟨h1, take_hp h2 (srcOk_len hok), take_vlok m h2⟩

theorem take_vown (m : Mem A w0 e h w) {S : List Src} {lent : List Nat} {k b : Nat} (hb : ((takeE e w S lent).vl k).own = some b) : POOL ∈ srcIds S ∧ (e.vl k).own = some b := by
  have hb' : (if POOL ∈ srcIds S then e.vl k else .un).own = some b := hb
  split at hb'
  · rename_i hP; exact ⟨hP, hb'⟩
  · cases hb'

theorem take_mem (m : Mem A w0 e h w) {s : List Sh} {c : List V} {d : Dec (Sh.DL s)} {xs : List Value} (hd : decSs h s c = some d) (hc : RelVs e c xs) (hok : srcOk d.src d.lent = true) (hR : needP s d.src = true) (hk : ∀ k, w0.vl k ≠ .un → POOL ∈ srcIds d.src) :
    RelVs (takeE e w d.src d.lent) (encSs s d.x 0).1 xs ∧ Mem A w0 (takeE e w d.src d.lent) (hpf (encSs s d.x 0).2) w := by
  obtain ⟨h1, h2, h3⟩ := take_all m hd hc hR hok
  refine ⟨h1, h2, take_sep m hok A (fun j b hb => (take_own m hb).1) (fun k b hb => (m.sep.vown k b (take_vown m hb).2).1), m.frm, m.new, fun b o hb => ?_, fun b o hb => giveImm_le m.sep d.lent b o (m.keep b o hb), h3.1, fun k hk' => ?_, h3.2, fun i u pl hi => ?_, ?_⟩
  · simp only [takeE, giveImm] at hb
    split at hb
    · rename_i hx
      obtain ⟨i, _, hi⟩ := hx
      exact .inr (m.sep.own i b hi).1
    · exact m.old b o hb
  · show (if POOL ∈ srcIds d.src then e.vl k else .un) = _
    rw [if_pos (hk k hk')]
    exact m.vkeep k hk'
  · have hi' : look (encSs s d.x 0).2 i = .pool u pl := hi
    unfold look at hi'
    split at hi'
    · assumption
    · exact absurd hi' (hide_pool _ u pl)
  · have : look (encSs s d.x 0).2 POOL = poolOf (encSs s d.x 0).2 := by simp [look]
    show look (encSs s d.x 0).2 POOL = _ ∨ look (encSs s d.x 0).2 POOL = _ ∨ ∃ u pl, look (encSs s d.x 0).2 POOL = _
    rw [this]
    exact poolOf_cases _

/-! ## Contracts -/

def argHeads (fc : Fc) : List Nat := fc.outs.map fun p => (heads fc.args 0).getD p.1 0
def outHeads (fc : Fc) : List Nat := heads (fc.outs.map (·.2)) 0

/-- What a call has left behind. -/
def Left (fc : Fc) (e : Env) (w : World) (y : Sh.DL (fc.outs.map (·.2) ++ fc.res)) (r : Ending) (w' : World) : Prop :=
  ∃ v e', r = .returned v ∧ RelV e' (resV ((encSs (fc.outs.map (·.2) ++ fc.res) y 0).1.drop fc.outs.length)) v ∧ RelH e' w' (hpf (encSs (fc.outs.map (·.2) ++ fc.res) y 0).2) ∧
    Sep (Own e w) e' w' ∧ Frm (Own e w) w w' ∧ (∀ b o, e.imm b = some o → e'.imm b = some o) ∧ (∀ b o, e'.imm b = some o → e.imm b = some o ∨ Own e w b) ∧ (∀ p ∈ (outHeads fc).zip (argHeads fc), e'.loc p.1 = e.loc p.2) ∧
    VlOk e' w' (hpf (encSs (fc.outs.map (·.2) ++ fc.res) y 0).2) ∧ ∀ k, e.vl k ≠ .un → e'.vl k = e.vl k

structure FcOK (P : Program) (fc : Fc) (k : Nat) : Prop where
  fn : ∃ fn, P.funcs[fc.fid]? = some fn ∧ (fn.name == "runtime.NumGoroutine") = false ∧ fn.body.isNone = false
  calls : ∀ x y, fc.f k x = some y → ∀ (w : World) (e : Env) (vs : List Value), RelVs e (encSs fc.args x 0).1 vs → RelH e w (hpf (encSs fc.args x 0).2) → VlOk e w (hpf (encSs fc.args x 0).2) → Sep (Own e w) e w → Calls P fc.fid vs.toArray w (Left fc e w y)

/-! ## New numbers -/

theorem renC_rel {e' e2 : Env} {ρ : Nat → Nat} (hi : ∀ b o, e'.imm b = some o → e2.imm b = some o) (hρ : ∀ j, e'.loc j ≠ .un → e2.loc (ρ j) = e'.loc j) (hvl : ∀ k, e'.vl k ≠ .un → e2.vl k = e'.vl k) : ∀ (c : C) (x : Value), RelC e' c x → RelC e2 (renC ρ c) x
  | .top, _, r => r
  | .int _ _, _, r => r
  | .bool _, _, r => r
  | .str _, _, r => r
  | .list t l, x, r => RelD.mono hi (.slice t) l [x] r
  | .ptr id off, x, r => by
    have hne : e'.loc id ≠ .un := fun hh => by simp [RelC, hh] at r
    simp only [RelC, renC, hρ id hne] at r ⊢; exact r
  | .ep id i off, x, r => by
    have hne : e'.loc id ≠ .un := fun hh => by simp [RelC, hh] at r
    simp only [RelC, renC, hρ id hne] at r ⊢; exact r
  | .cptr t y off, x, ⟨b, o, cs, E, fz, hx, hb, hr⟩ => ⟨b, o, cs, E, fz, hx, hi _ _ hb, RelD.mono hi t _ _ hr⟩
  | .sl id lo h2, x, r => by
    have hne : e'.loc id ≠ .un := fun hh => by simp [RelC, hh] at r
    simp only [RelC, renC, hρ id hne] at r ⊢; exact r
  | .ref t 0, _, r => r
  | .ref t (k + 1), x, r => RelC_ref (x := k + 1) hvl r
  | .rep t 0 _ _, _, r => r.elim
  | .rep t (k + 1) i off, x, r => by
    have hne : e'.vl k ≠ .un := fun hh => by simp [RelC, hh] at r
    simp only [RelC, renC, hvl k hne] at r ⊢; exact r
  | .nils, _, r => r
  | .nilp, _, r => r
  | .nili, _, r => r
  | .fn _, _, r => r
  | .cl f c, _, ⟨g, caps, v, hx, rf, rc⟩ => ⟨g, caps, v, hx, renC_rel hi hρ hvl f _ rf, renC_rel hi hρ hvl c _ rc⟩
  | .map id, x, r => by
    have hne : e'.loc id ≠ .un := fun hh => by simp [RelC, hh] at r
    simp only [RelC, renC, hρ id hne] at r ⊢; exact r

theorem renCs_rel {e' e2 : Env} {ρ : Nat → Nat} (hi : ∀ b o, e'.imm b = some o → e2.imm b = some o) (hρ : ∀ j, e'.loc j ≠ .un → e2.loc (ρ j) = e'.loc j) (hvl : ∀ k, e'.vl k ≠ .un → e2.vl k = e'.vl k) {l : List C} {xs : List Value} (r : RelCs e' l xs) : RelCs e2 (l.map (renC ρ)) xs := by
  induction r with
  | nil => exact .nil
  | cons a _ ih => exact .cons (renC_rel hi hρ hvl _ _ a) ih

theorem renT_rel {e' e2 : Env} {ρ : Nat → Nat} (hi : ∀ b o, e'.imm b = some o → e2.imm b = some o) (hρ : ∀ j, e'.loc j ≠ .un → e2.loc (ρ j) = e'.loc j) (hvl : ∀ k, e'.vl k ≠ .un → e2.vl k = e'.vl k) {l : List (Bool × List C)} {xs : List Value} (r : RelTs e' l xs) : RelTs e2 (l.map fun p => (p.1, p.2.map (renC ρ))) xs := by
  induction r with
  | nil => exact .nil
  | cons a _ ih =>
    refine .cons ?_ ih
    unfold RelT at *
    split
    · rename_i hp
      rw [if_pos (by simpa using hp)] at a
      obtain ⟨cs, hv, hr⟩ := a
      exact ⟨cs, hv, renCs_rel hi hρ hvl hr⟩
    · rename_i hp
      rw [if_neg (by simpa using hp)] at a
      obtain ⟨c, hc, hr⟩ := a
      exact ⟨renC ρ c, by simp [hc], renC_rel hi hρ hvl _ _ hr⟩

theorem renV_rel {e' e2 : Env} {ρ : Nat → Nat} (hi : ∀ b o, e'.imm b = some o → e2.imm b = some o) (hρ : ∀ j, e'.loc j ≠ .un → e2.loc (ρ j) = e'.loc j) (hvl : ∀ k, e'.vl k ≠ .un → e2.vl k = e'.vl k) : ∀ (v : V) (x : Value), RelV e' v x → RelV e2 (renV ρ v) x
  | .one c, x, r => renC_rel hi hρ hvl c x r
  | .agg l, x, ⟨cs, hx, r⟩ => ⟨cs, hx, renCs_rel hi hρ hvl r⟩
  | .tup l, x, ⟨vs, hx, r⟩ => ⟨vs, hx, renT_rel hi hρ hvl r⟩
  | .any, _, _ => trivial

theorem renO_rel {e' e2 : Env} {ρ : Nat → Nat} {w : World} {L : Loc} (hi : ∀ b o, e'.imm b = some o → e2.imm b = some o) (hρ : ∀ j, e'.loc j ≠ .un → e2.loc (ρ j) = e'.loc j) (hvl : ∀ k, e'.vl k ≠ .un → e2.vl k = e'.vl k) {o : O} (hop : o.isPool = false) (r : RelO e' w L o) : RelO e2 w L (renO ρ o) := by
  cases o with
  | pool u pl => cases hop
  | gone => exact r
  | al t k n =>
    rcases r with ⟨h1, h2, h3⟩ | ⟨b, o, cap, h1, h2, h4⟩
    · exact .inl ⟨h1, h2, by rw [hvl k (by rw [h3]; exact fun hh => by cases hh)]; exact h3⟩
    · exact .inr ⟨b, o, cap, h1, by rw [hvl k (by rw [h2]; exact fun hh => by cases hh)]; exact h2, h4⟩
  | none => exact r
  | dead => exact r
  | box cells => obtain ⟨b, cs, E, fz, h1, h2, h3, h4⟩ := r; exact ⟨b, cs, E, fz, h1, h2, h3, renCs_rel hi hρ hvl h4⟩
  | arr t l =>
    rcases r with r | ⟨b, o, cap, cs, E, fz, h1, h2, h3, h4, h5, h6⟩
    · exact .inl r
    · exact .inr ⟨b, o, cap, cs, E, fz, h1, h2, h3, h4, h5, fun i hi' => encD_vl hi hvl _ _ _ (h6 i hi')⟩
  | fro t l =>
    rcases r with r | ⟨b, o, cap, cs, E, fz, h1, h2, h3, h4⟩
    · exact .inl r
    · exact .inr ⟨b, o, cap, cs, E, fz, h1, h2, hi _ _ h3, h4.mono hi⟩
  | map k v l =>
    obtain ⟨b, es, ck, h1, h2, h3⟩ := r
    refine ⟨b, es, ck, h1, h2, ?_⟩
    have key : ∀ (l : List (k.D × v.D)) es, RelM e' k v l es → RelM e2 k v l es := by
      intro l es hq
      induction hq with
      | nil => exact .nil
      | cons a b _ ih => exact .cons (RelKV.mono hi _ _ _ a) (RelKV.mono hi _ _ _ b) ih
    exact key _ _ h3

end
end Go.Proofs.Ytmcdddghlcllbaa.Den
