/- A call of a function that keeps its contract, as the caller sees it; what a loop's head keeps. -/
import Derived.Test.YtjijgajbkcflaaaDoorO
set_option autoImplicit false
set_option linter.unusedVariables false
set_option linter.unusedSimpArgs false
namespace Go.Proofs.YtjijgajbkcflaaaDoor.Den
open Classical

def hpf (l : List O) : Hp := fun i => l.getD i .none

/-- The blocks that a call may write: those of its own, and those of the objects that it was handed. -/
def Own (e : Env) (w : World) : Nat → Prop := fun b => w.heap.size ≤ b ∨ ∃ j, (e.loc j).own = some b

theorem nodup_of_B : ∀ l : List Nat, nodupB l = true → l.Nodup
  | [], _ => .nil
  | x :: r, h => by
    simp only [nodupB, Bool.and_eq_true, Bool.not_eq_true'] at h
    refine List.nodup_cons.2 ⟨?_, nodup_of_B r h.2⟩
    have := h.1; simpa using this

theorem srcIds_cons (s : Src) (l : List Src) : srcIds (s :: l) = (match s.id? with | some i => [i] | .none => []) ++ srcIds l := by
  unfold srcIds
  cases h : s.id? <;> simp [List.filterMap_cons, h]

theorem mem_srcIds {S : List Src} {j id : Nat} {lo hi : Option Nat} (h : S[j]? = some (.of id lo hi)) : id ∈ srcIds S := by
  unfold srcIds
  exact List.mem_filterMap.2 ⟨_, List.mem_of_getElem? h, rfl⟩

theorem src_inj : ∀ {S : List Src} {i j id : Nat} {lo hi lo' hi' : Option Nat}, (srcIds S).Nodup → S[i]? = some (.of id lo hi) → S[j]? = some (.of id lo' hi') → i = j
  | [], i, j, id, lo, hi, lo', hi', hn, h1, h2 => by simp at h1
  | s :: S, 0, 0, id, lo, hi, lo', hi', hn, h1, h2 => rfl
  | s :: S, 0, j + 1, id, lo, hi, lo', hi', hn, h1, h2 => by
    simp at h1 h2; subst h1
    rw [srcIds_cons] at hn
    have := mem_srcIds h2
    simp only [Src.id?, List.singleton_append, List.nodup_cons] at hn
    exact (hn.1 this).elim
  | s :: S, i + 1, 0, id, lo, hi, lo', hi', hn, h1, h2 => by
    simp at h1 h2; subst h2
    rw [srcIds_cons] at hn
    have := mem_srcIds h1
    simp only [Src.id?, List.singleton_append, List.nodup_cons] at hn
    exact (hn.1 this).elim
  | s :: S, i + 1, j + 1, id, lo, hi, lo', hi', hn, h1, h2 => by
    simp at h1 h2
    rw [srcIds_cons] at hn
    rw [src_inj (List.nodup_append.1 hn).2.1 h1 h2]

section
variable {P : Program} {A : Nat → Prop} {w0 : Start} {e : Env} {h : Hp} {w : World}

theorem srcOk_spec {src : List Src} {lent : List Nat} (h : srcOk src lent = true) : (srcIds src).Nodup ∧ ∀ i ∈ srcIds src, i ∉ lent := by
  simp only [srcOk, Bool.and_eq_true, List.all_eq_true] at h
  refine ⟨nodup_of_B _ h.1, fun i hi => ?_⟩
  have := h.2 i hi
  simpa using this

theorem take_sep (m : Mem A w0 e h w) {S : List Src} {lent : List Nat} (hok : srcOk S lent = true) (B : Nat → Prop) (hB : ∀ j b, ((takeE e w S lent).loc j).own = some b → B b) : Sep B (takeE e w S lent) w := by
  obtain ⟨hn, hl⟩ := srcOk_spec hok
  refine ⟨fun b o hb => ?_, fun j b hb => ⟨hB j b hb, ?_⟩, fun i j b hi hj => ?_, m.sep.tb.mono (giveImm_le m.sep lent)⟩
  · simp only [takeE, giveImm] at hb
    split at hb
    · exact hb
    · exact m.sep.imm _ _ hb
  · obtain ⟨id, lo, hi, hs, hown⟩ := own_locOf hb
    simp only [takeE, giveImm]
    rw [if_neg]
    · exact (m.sep.own id b hown).2
    · rintro ⟨i, hi', hib⟩
      have := m.sep.inj _ _ _ hib hown
      subst this
      exact hl _ (mem_srcIds hs) hi'
  · obtain ⟨id, lo, hi', hs, hown⟩ := own_locOf hi
    obtain ⟨id2, lo2, hi2, hs2, hown2⟩ := own_locOf hj
    have := m.sep.inj _ _ _ hown hown2
    subst this
    exact src_inj hn hs hs2

theorem take_own (m : Mem A w0 e h w) {S : List Src} {lent : List Nat} {j b : Nat} (hb : ((takeE e w S lent).loc j).own = some b) : A b ∧ b < w.heap.size ∧ ∃ id ∈ srcIds S, (e.loc id).own = some b := by
  obtain ⟨id, lo, hi, hs, hown⟩ := own_locOf hb
  exact ⟨(m.sep.own id b hown).1, RelO.own_lt (m.hp id) hown, id, mem_srcIds hs, hown⟩

theorem take_hp {S : List Src} {lent : List Nat} {os : List O} (t : Took e w S lent 0 S os) : RelH (takeE e w S lent) w (hpf os) := by
  intro j
  by_cases hj : j < os.length
  · have := t.obj j os[j] (List.getElem?_eq_getElem hj)
    simpa [hpf, takeE, List.getD, List.getElem?_eq_getElem hj] using this
  · have h1 : os[j]? = none := List.getElem?_eq_none (by omega)
    have h2 : S[j]? = none := List.getElem?_eq_none (by rw [t.len]; omega)
    simp only [hpf, List.getD, h1, takeE, h2]; rfl

theorem Sub.self (S : List Src) : Sub S 0 S := fun j s h => by simpa using h

/-- What is taken out of memory is a memory of its own. -/
theorem take_all (m : Mem A w0 e h w) {s : List Sh} {c : List V} {d : Dec (Sh.DL s)} {xs : List Value} (hd : decSs h s c = some d) (hc : RelVs e c xs) :
    RelVs (takeE e w d.src d.lent) (encSs s d.x 0).1 xs ∧ RelH (takeE e w d.src d.lent) w (hpf (encSs s d.x 0).2) := by
  obtain ⟨h1, h2⟩ := decSs_took (S := d.src) (lent := d.lent) m s c d 0 xs hd hc (Sub.self _) (fun _ hi => hi)
  exact ⟨h1, take_hp h2⟩

theorem take_mem (m : Mem A w0 e h w) {s : List Sh} {c : List V} {d : Dec (Sh.DL s)} {xs : List Value} (hd : decSs h s c = some d) (hc : RelVs e c xs) (hok : srcOk d.src d.lent = true) :
    RelVs (takeE e w d.src d.lent) (encSs s d.x 0).1 xs ∧ Mem A w0 (takeE e w d.src d.lent) (hpf (encSs s d.x 0).2) w := by
  obtain ⟨h1, h2⟩ := take_all m hd hc
  refine ⟨h1, h2, take_sep m hok A (fun j b hb => (take_own m hb).1), m.frm, m.new, fun b o hb => ?_, fun b o hb => giveImm_le m.sep d.lent b o (m.keep b o hb)⟩
  simp only [takeE, giveImm] at hb
  split at hb
  · rename_i hx
    obtain ⟨i, _, hi⟩ := hx
    exact .inr (m.sep.own i b hi).1
  · exact m.old b o hb

/-! ## Contracts -/

def argHeads (fc : Fc) : List Nat := fc.outs.map fun p => (heads fc.args 0).getD p.1 0
def outHeads (fc : Fc) : List Nat := heads (fc.outs.map (·.2)) 0

/-- What a call has left behind. -/
def Left (fc : Fc) (e : Env) (w : World) (y : Sh.DL (fc.outs.map (·.2) ++ fc.res)) (r : Ending) (w' : World) : Prop :=
  ∃ v e', r = .returned v ∧ RelV e' (resV ((encSs (fc.outs.map (·.2) ++ fc.res) y 0).1.drop fc.outs.length)) v ∧ RelH e' w' (hpf (encSs (fc.outs.map (·.2) ++ fc.res) y 0).2) ∧
    Sep (Own e w) e' w' ∧ Frm (Own e w) w w' ∧ (∀ b o, e.imm b = some o → e'.imm b = some o) ∧ (∀ b o, e'.imm b = some o → e.imm b = some o ∨ Own e w b) ∧ ∀ p ∈ (outHeads fc).zip (argHeads fc), e'.loc p.1 = e.loc p.2

structure FcOK (P : Program) (fc : Fc) (k : Nat) : Prop where
  fn : ∃ fn, P.funcs[fc.fid]? = some fn ∧ (fn.name == "runtime.NumGoroutine") = false ∧ fn.body.isNone = false
  calls : ∀ x y, fc.f k x = some y → ∀ (w : World) (e : Env) (vs : List Value), RelVs e (encSs fc.args x 0).1 vs → RelH e w (hpf (encSs fc.args x 0).2) → Sep (Own e w) e w → Calls P fc.fid vs.toArray w (Left fc e w y)

/-! ## New numbers -/

theorem renC_rel {e' e2 : Env} {ρ : Nat → Nat} (hi : ∀ b o, e'.imm b = some o → e2.imm b = some o) (hρ : ∀ j, e'.loc j ≠ .un → e2.loc (ρ j) = e'.loc j) : ∀ (c : C) (x : Value), RelC e' c x → RelC e2 (renC ρ c) x
  | .top, _, r => r
  | .int _ _, _, r => r
  | .bool _, _, r => r
  | .str _, _, r => r
  | .list t l, x, r => RelD.mono hi (.slice t) l [x] r
  | .ptr id off, x, r => by
    have hne : e'.loc id ≠ .un := fun hh => by simp [RelC, hh] at r
    simp only [RelC, renC, hρ id hne] at r ⊢; exact r
  | .ep id i off, x, r => by
    have hne : e'.loc id ≠ .un := fun hh => by simp [RelC, hh] at r
    simp only [RelC, renC, hρ id hne] at r ⊢; exact r
  | .cptr t y off, x, ⟨b, o, cs, E, fz, hx, hb, hr⟩ => ⟨b, o, cs, E, fz, hx, hi _ _ hb, RelD.mono hi t _ _ hr⟩
  | .sl id lo h2, x, r => by
    have hne : e'.loc id ≠ .un := fun hh => by simp [RelC, hh] at r
    simp only [RelC, renC, hρ id hne] at r ⊢; exact r
  | .nils, _, r => r
  | .nilp, _, r => r
  | .nili, _, r => r
  | .fn _, _, r => r
  | .cl f c, _, ⟨g, caps, v, hx, rf, rc⟩ => ⟨g, caps, v, hx, renC_rel hi hρ f _ rf, renC_rel hi hρ c _ rc⟩
  | .map id, x, r => by
    have hne : e'.loc id ≠ .un := fun hh => by simp [RelC, hh] at r
    simp only [RelC, renC, hρ id hne] at r ⊢; exact r

theorem renCs_rel {e' e2 : Env} {ρ : Nat → Nat} (hi : ∀ b o, e'.imm b = some o → e2.imm b = some o) (hρ : ∀ j, e'.loc j ≠ .un → e2.loc (ρ j) = e'.loc j) {l : List C} {xs : List Value} (r : RelCs e' l xs) : RelCs e2 (l.map (renC ρ)) xs := by
  induction r with
  | nil => exact .nil
  | cons a _ ih => exact .cons (renC_rel hi hρ _ _ a) ih

theorem renT_rel {e' e2 : Env} {ρ : Nat → Nat} (hi : ∀ b o, e'.imm b = some o → e2.imm b = some o) (hρ : ∀ j, e'.loc j ≠ .un → e2.loc (ρ j) = e'.loc j) {l : List (Bool × List C)} {xs : List Value} (r : RelTs e' l xs) : RelTs e2 (l.map fun p => (p.1, p.2.map (renC ρ))) xs := by
  induction r with
  | nil => exact .nil
  | cons a _ ih =>
    refine .cons ?_ ih
    unfold RelT at *
    split
    · rename_i hp
      rw [if_pos (by simpa using hp)] at a
      obtain ⟨cs, hv, hr⟩ := a
      exact ⟨cs, hv, renCs_rel hi hρ hr⟩
    · rename_i hp
      rw [if_neg (by simpa using hp)] at a
      obtain ⟨c, hc, hr⟩ := a
      exact ⟨renC ρ c, by simp [hc], renC_rel hi hρ _ _ hr⟩

theorem renV_rel {e' e2 : Env} {ρ : Nat → Nat} (hi : ∀ b o, e'.imm b = some o → e2.imm b = some o) (hρ : ∀ j, e'.loc j ≠ .un → e2.loc (ρ j) = e'.loc j) : ∀ (v : V) (x : Value), RelV e' v x → RelV e2 (renV ρ v) x
  | .one c, x, r => renC_rel hi hρ c x r
  | .agg l, x, ⟨cs, hx, r⟩ => ⟨cs, hx, renCs_rel hi hρ r⟩
  | .tup l, x, ⟨vs, hx, r⟩ => ⟨vs, hx, renT_rel hi hρ r⟩
  | .any, _, _ => trivial

theorem renO_rel {e' e2 : Env} {ρ : Nat → Nat} {w : World} {L : Loc} (hi : ∀ b o, e'.imm b = some o → e2.imm b = some o) (hρ : ∀ j, e'.loc j ≠ .un → e2.loc (ρ j) = e'.loc j) {o : O} (r : RelO e' w L o) : RelO e2 w L (renO ρ o) := by
  cases o with
  | none => exact r
  | dead => exact r
  | box cells => obtain ⟨b, cs, E, fz, h1, h2, h3, h4⟩ := r; exact ⟨b, cs, E, fz, h1, h2, h3, renCs_rel hi hρ h4⟩
  | arr t l =>
    rcases r with r | ⟨b, o, cap, cs, E, fz, h1, h2, h3, h4, h5, h6⟩
    · exact .inl r
    · exact .inr ⟨b, o, cap, cs, E, fz, h1, h2, h3, h4, h5, h6.mono hi⟩
  | fro t l =>
    rcases r with r | ⟨b, o, cap, cs, E, fz, h1, h2, h3, h4⟩
    · exact .inl r
    · exact .inr ⟨b, o, cap, cs, E, fz, h1, h2, hi _ _ h3, h4.mono hi⟩
  | map k v l =>
    obtain ⟨b, es, ck, h1, h2, h3⟩ := r
    refine ⟨b, es, ck, h1, h2, ?_⟩
    have key : ∀ (l : List (k.D × v.D)) es, RelM e' k v l es → RelM e2 k v l es := by
      intro l es hq
      induction hq with
      | nil => exact .nil
      | cons a b _ ih => exact .cons (RelKV.mono hi _ _ _ a) (RelKV.mono hi _ _ _ b) ih
    exact key _ _ h3

end
end Go.Proofs.YtjijgajbkcflaaaDoor.Den
