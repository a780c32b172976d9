/- What is handed to a call, or kept at a loop's head: the part of memory that goes with it, numbered anew. -/
import Derived.Test.YtjijgajbkcflaaaDoorN
set_option autoImplicit false
set_option linter.unusedVariables false
set_option linter.unusedSimpArgs false
namespace Go.Proofs.YtjijgajbkcflaaaDoor.Den
open Classical

def locOf (e : Env) : Option Src → Loc
  | some .nil => .nil
  | some (.of id lo hi) => match e.loc id with
    | .arr b o sz cap n => .arr b (o + lo.getD 0 * sz) sz (cap - lo.getD 0) (hi.getD n - lo.getD 0)
    | L => L
  | .none => .un

/-- The environment of what has been taken out of another one. -/
noncomputable def takeE (e : Env) (w : World) (S : List Src) (lent : List Nat) : Env := ⟨giveImm e w lent, fun j => locOf e S[j]?⟩

section
variable {P : Program} {A : Nat → Prop} {w0 : Start} {e : Env} {h : Hp} {w : World}

theorem own_locOf {s : Option Src} {b : Nat} (hb : (locOf e s).own = some b) : ∃ id lo hi, s = some (.of id lo hi) ∧ (e.loc id).own = some b := by
  cases s with
  | none => cases hb
  | some s =>
    cases s with
    | nil => cases hb
    | of id lo hi =>
      refine ⟨id, lo, hi, rfl, ?_⟩
      simp only [locOf] at hb
      split at hb
      · rename_i hl; rw [hl]; exact hb
      · exact hb

/-- A datum that lies in memory nobody writes, seen as cells of a new environment. -/
theorem RelC_plain {e e' : Env} (hi : ∀ b o, e.imm b = some o → e'.imm b = some o) (t : Ty) (x : t.D) (vs : List Value) (h : RelD e.imm t x vs) : RelCs e' (encD t x) vs :=
  RelCs_encD t x vs (RelD.mono hi _ _ _ h)

structure Took (e : Env) (w : World) (S : List Src) (lent : List Nat) (n : Nat) (src : List Src) (os : List O) : Prop where
  len : src.length = os.length
  obj : ∀ (j : Nat) (o : O), os[j]? = some o → RelO (takeE e w S lent) w (locOf e src[j]?) o

theorem Took.nil {S : List Src} {lent : List Nat} {n : Nat} : Took e w S lent n [] [] := ⟨rfl, fun j o h => by simp at h⟩

theorem Took.append {S : List Src} {lent : List Nat} {n n' : Nat} {s1 s2 : List Src} {o1 o2 : List O} (h1 : Took e w S lent n s1 o1) (h2 : Took e w S lent n' s2 o2) : Took e w S lent n (s1 ++ s2) (o1 ++ o2) := by
  refine ⟨by simp [h1.len, h2.len], fun j o hj => ?_⟩
  by_cases hlt : j < o1.length
  · rw [List.getElem?_append_left hlt] at hj
    rw [List.getElem?_append_left (by rw [h1.len]; exact hlt)]
    exact h1.obj j o hj
  · rw [List.getElem?_append_right (by omega)] at hj
    rw [List.getElem?_append_right (by rw [h1.len]; omega), h1.len]
    exact h2.obj _ o hj

def Sub (S : List Src) (n : Nat) (src : List Src) : Prop := ∀ (j : Nat) (s : Src), src[j]? = some s → S[n + j]? = some s

theorem Sub.left {S : List Src} {n : Nat} {a b : List Src} (h : Sub S n (a ++ b)) : Sub S n a := fun j s hj => h j s (by
  rw [List.getElem?_append_left (List.getElem?_eq_some_iff.1 hj).1]; exact hj)
theorem Sub.right {S : List Src} {n : Nat} {a b : List Src} (h : Sub S n (a ++ b)) : Sub S (n + a.length) b := fun j s hj => by
  have := h (a.length + j) s (by rw [List.getElem?_append_right (by omega)]; simpa using hj)
  rwa [← Nat.add_assoc] at this

theorem takeE_loc {S : List Src} {lent : List Nat} {n : Nat} {s : Src} (h : S[n]? = some s) : (takeE e w S lent).loc n = locOf e (some s) := by simp [takeE, h]

theorem decC_took (m : Mem A w0 e h w) {S : List Src} {lent : List Nat} : ∀ (s : CSh) (c : C) (d : Dec s.D) (n : Nat) (x : Value), decC h s c = some d → RelC e c x → Sub S n d.src → (∀ i ∈ d.lent, i ∈ lent) →
    RelC (takeE e w S lent) (encC s d.x n).1 x ∧ Took e w S lent n d.src (encC s d.x n).2
  | .int k, c, d, n, x, hd, hc, hS, hl => by
    cases c <;> simp only [decC] at hd <;> try (cases hd; done)
    split at hd
    · rename_i hk; subst hk; cases hd; exact ⟨hc, .nil⟩
    · cases hd
  | .bool, c, d, n, x, hd, hc, hS, hl => by
    cases c <;> simp only [decC] at hd <;> try (cases hd; done)
    cases hd; exact ⟨hc, .nil⟩
  | .str, c, d, n, x, hd, hc, hS, hl => by
    cases c <;> simp only [decC] at hd <;> try (cases hd; done)
    cases hd; exact ⟨hc, .nil⟩
  | .list t, c, d, n, x, hd, hc, hS, hl => by
    have key : ∀ l g, asList t c h = some (l, g) → d = ⟨l, [], g⟩ → RelC (takeE e w S lent) (.list t l) x := by
      intro l g ha hd
      subst hd
      exact (asList_rel m.hp.arrs m.sep ha hc).give m.sep hl
    cases c <;> simp only [decC] at hd <;>
    · split at hd
      · rename_i l g ha
        cases hd
        exact ⟨key l g ha rfl, .nil⟩
      · cases hd
  | .arr t, c, d, n, x, hd, hc, hS, hl => by
    cases c <;> simp only [decC] at hd <;> try (cases hd; done)
    · rename_i id lo hi
      have ho := m.hp id
      cases hid : h id <;> rw [hid] at hd ho <;> try (cases hd; done)
      rename_i t' l
      dsimp only at hd
      split at hd
      · rename_i he
        cases he; cases hd
        simp only [castL] at *
        have hS0 := hS 0 _ rfl
        simp only [Nat.add_zero] at hS0
        have hloc := takeE_loc (e := e) (w := w) (lent := lent) hS0
        simp only [RelC, encC] at hc ⊢
        rw [hloc]
        rcases ho with ⟨hl', rfl⟩ | ⟨b, o, cap, cs, E, fz, hl', hn, hb, hu, hs', hr⟩
        · rw [hl'] at hc
          have hcut : cutL lo hi ([] : List t.D) = [] := by cases lo <;> cases hi <;> simp [cutL]
          refine ⟨?_, ⟨rfl, fun j o hj => ?_⟩⟩
          · simp only [locOf, hl']
            exact ⟨rfl, rfl, hc.2.2⟩
          · cases j with
            | zero => simp at hj; subst hj; exact .inl ⟨by simp [locOf, hl'], hcut⟩
            | succ j => simp at hj
        · rw [hl'] at hc
          obtain ⟨h1, h2, a, rfl, ha⟩ := hc
          have hlen := cutL_length lo hi l h1 h2
          refine ⟨?_, ⟨rfl, fun j o' hj => ?_⟩⟩
          · simp only [locOf, hl']
            refine ⟨Nat.zero_le _, Nat.le_refl _, a, by simp, ?_⟩
            rcases ha with ha | ha
            · exact .inl (by simp; omega)
            · exact .inr (by subst ha; simp)
          · cases j with
            | zero =>
              simp at hj; subst hj
              refine .inr ⟨b, o + lo.getD 0 * t.size, cap - lo.getD 0, cs, E, fz, by simp [locOf, hl', hlen], by omega, hb, hu, ?_, ?_⟩
              · have : lo.getD 0 * t.size + (cap - lo.getD 0) * t.size = cap * t.size := by rw [← Nat.add_mul]; congr 1; omega
                omega
              · refine rows_iff.2 (RowsL.mono (giveImm_le m.sep lent) ?_)
                have := (rows_iff.1 hr).cut h1 h2
                rwa [List.drop_drop] at this
            | succ j => simp at hj
      · cases hd
    · cases hd
      have hS0 := hS 0 _ rfl
      simp only [Nat.add_zero] at hS0
      have hloc := takeE_loc (e := e) (w := w) (lent := lent) hS0
      simp only [RelC, encC] at hc ⊢
      rw [hloc]
      refine ⟨⟨rfl, rfl, hc⟩, ⟨rfl, fun j o hj => ?_⟩⟩
      cases j with
      | zero => simp at hj; subst hj; exact .inl ⟨rfl, rfl⟩
      | succ j => simp at hj
  | .map k v, c, d, n, x, hd, hc, hS, hl => by
    cases c <;> simp only [decC] at hd <;> try (cases hd; done)
    rename_i id
    have ho := m.hp id
    cases hid : h id <;> rw [hid] at hd ho <;> try (cases hd; done)
    rename_i k' v' l
    dsimp only at hd
    split at hd
    · rename_i he
      obtain ⟨e1, e2⟩ := he
      cases e1; cases e2; cases hd
      have hS0 := hS 0 _ rfl
      simp only [Nat.add_zero] at hS0
      have hloc := takeE_loc (e := e) (w := w) (lent := lent) hS0
      obtain ⟨b, es, ck, hl', hb, hr⟩ := ho
      simp only [RelC, encC] at hc ⊢
      rw [hloc]
      rw [hl'] at hc
      refine ⟨by simp [locOf, hl']; exact hc, ⟨rfl, fun j o hj => ?_⟩⟩
      cases j with
      | zero =>
        simp at hj; subst hj
        refine ⟨b, es, ck, by simp [locOf, hl'], hb, ?_⟩
        have key : ∀ (l : List (k.D × v.D)) es, RelM e k v l es → RelM (takeE e w S lent) k v l es := by
          intro l es hq
          induction hq with
          | nil => exact .nil
          | cons a b _ ih => exact .cons (RelKV.mono (giveImm_le m.sep lent) _ _ _ a) (RelKV.mono (giveImm_le m.sep lent) _ _ _ b) ih
        exact key _ _ hr
      | succ j => simp at hj
    · cases hd
  | .nili, c, d, n, x, hd, hc, hS, hl => by
    cases c <;> simp only [decC] at hd <;> try (cases hd; done)
    cases hd
    exact ⟨hc, .nil⟩
  | .cp t, c, d, n, x, hd, hc, hS, hl => by
    cases c <;> simp only [decC] at hd <;> try (cases hd; done)
    rename_i t' y off
    cases off with
    | succ o => simp at hd
    | zero =>
      simp only at hd
      split at hd
      · rename_i he
        cases he
        cases hd
        obtain ⟨b, o, cs, E, fz, hx, hb, hr⟩ := hc
        exact ⟨⟨b, o, cs, E, fz, hx, giveImm_le m.sep lent _ _ hb, RelD.mono (giveImm_le m.sep lent) _ _ _ hr⟩, .nil⟩
      · cases hd

theorem decCs_took (m : Mem A w0 e h w) {S : List Src} {lent : List Nat} : ∀ (s : List CSh) (c : List C) (d : Dec (CSh.DL s)) (n : Nat) (xs : List Value), decCs h s c = some d → RelCs e c xs → Sub S n d.src → (∀ i ∈ d.lent, i ∈ lent) →
    RelCs (takeE e w S lent) (encCs s d.x n).1 xs ∧ Took e w S lent n d.src (encCs s d.x n).2
  | [], [], d, n, xs, hd, hc, hS, hl => by cases hd; cases hc; exact ⟨.nil, .nil⟩
  | [], _ :: _, d, n, xs, hd, hc, hS, hl => by simp [decCs] at hd
  | _ :: _, [], d, n, xs, hd, hc, hS, hl => by simp [decCs] at hd
  | s :: r, c :: cs, d, n, _, hd, .cons (v := v) (r := vs) h1 h2, hS, hl => by
    simp only [decCs] at hd
    cases ha : decC h s c with
    | none => rw [ha] at hd; cases hd
    | some a =>
      rw [ha] at hd; dsimp only at hd
      cases hb : decCs h r cs with
      | none => rw [hb] at hd; cases hd
      | some b =>
        rw [hb] at hd; cases hd
        obtain ⟨p1, p2⟩ := decC_took m s c a n v ha h1 hS.left (fun i hi => hl i (by simp [hi]))
        have hlen := p2.len
        obtain ⟨q1, q2⟩ := decCs_took m r cs b (n + a.src.length) vs hb h2 hS.right (fun i hi => hl i (by simp [hi]))
        simp only [encCs]
        rw [hlen] at q1 q2
        exact ⟨.cons p1 q1, p2.append q2⟩

theorem decP_took (m : Mem A w0 e h w) {S : List Src} {lent : List Nat} : ∀ (s : PSh) (c : C) (d : Dec s.D) (n : Nat) (x : Value), decP h s c = some d → RelC e c x → Sub S n d.src → (∀ i ∈ d.lent, i ∈ lent) →
    RelC (takeE e w S lent) (encP s d.x n).1 x ∧ Took e w S lent n d.src (encP s d.x n).2
  | .cptr t, c, d, n, x, hd, hc, hS, hl => by
    cases c <;> simp only [decP] at hd <;> try (cases hd; done)
    · rename_i id off
      cases off with
      | succ o => simp at hd
      | zero =>
        simp only at hd
        have ho := m.hp id
        cases hid : h id <;> rw [hid] at hd ho <;> try (cases hd; done)
        rename_i cells
        dsimp only at hd
        split at hd
        · rename_i y g hy
          cases hd
          obtain ⟨b, cs, E, fz, hl', hb, hu, hr⟩ := ho
          simp only [RelC, hl'] at hc
          subst hc
          obtain ⟨v1, v2, hv, hx, h2⟩ := decD_rel m.hp.arrs m.sep t cells _ [] g _ hy hr
          cases h2
          simp only [List.append_nil] at hv
          subst hv
          refine ⟨⟨b, 0, cs, E, fz, rfl, ?_, ?_⟩, .nil⟩
          · show giveImm e w lent b = _
            unfold giveImm
            rw [if_pos ⟨id, hl id (by simp), by rw [hl']; rfl⟩]; exact hb
          · have := RelD.len _ _ _ hx
            rw [List.drop_zero, List.take_of_length_le (by omega)]
            exact hx.give m.sep (fun i hi => hl i (by simp [hi]))
        · cases hd
    · rename_i t' y off
      cases off with
      | succ o => simp at hd
      | zero =>
        simp only at hd
        split at hd
        · rename_i he
          cases he; cases hd
          obtain ⟨b, q, cs, E, fz, rfl, hb, hr⟩ := hc
          exact ⟨⟨b, q, cs, E, fz, rfl, giveImm_le m.sep lent _ _ hb, RelD.mono (giveImm_le m.sep lent) _ _ _ hr⟩, .nil⟩
        · cases hd
  | .box cs, c, d, n, x, hd, hc, hS, hl => by
    cases c <;> simp only [decP] at hd <;> try (cases hd; done)
    rename_i id off
    cases off with
    | succ o => simp at hd
    | zero =>
      simp only at hd
      have ho := m.hp id
      cases hid : h id <;> rw [hid] at hd ho <;> try (cases hd; done)
      rename_i cells
      dsimp only at hd
      split at hd
      · rename_i a ha
        cases hd
        obtain ⟨b, vs, E, fz, hl', hb, hu, hr⟩ := ho
        simp only [RelC, hl'] at hc
        subst hc
        have hS0 := hS 0 _ rfl
        simp only [Nat.add_zero] at hS0
        have hloc := takeE_loc (e := e) (w := w) (lent := lent) hS0
        have hS1 : Sub S (n + 1) a.src := by
          have := Sub.right (a := [Src.of id .none .none]) (b := a.src) (by simpa using hS)
          simpa using this
        obtain ⟨p1, p2⟩ := decCs_took m cs cells a (n + 1) vs.toList ha hr hS1 hl
        refine ⟨by simp only [encP, RelC, hloc, locOf, hl'], ⟨by simp [encP, p2.len], fun j o hj => ?_⟩⟩
        cases j with
        | zero =>
          simp [encP] at hj; subst hj
          exact ⟨b, vs, E, fz, by simp [locOf, hl'], hb, hu, p1⟩
        | succ j =>
          have := p2.obj j o (by simpa [encP] using hj)
          simpa using this
      · cases hd

inductive RelParts (e : Env) : List C → List Value → Prop where
  | nil : RelParts e [] []
  | snoc {l : List C} {r : List Value} {c : C} {v : Value} : RelParts e l r → RelC e c v → RelParts e (l ++ [c]) (r ++ [v])

theorem RelCs_snoc {l : List C} {r : List Value} {c : C} {v : Value} (h : RelCs e l r) (hc : RelC e c v) : RelCs e (l ++ [c]) (r ++ [v]) := RelCs_append h (.cons hc .nil)

/-- A function value, taken apart. -/
theorem parts_rel : ∀ (c : C) (g : Nat) (l : List C) (x : Value), c.parts = some (g, l) → RelC e c x → ∃ caps : Array Value, x = .func (.func g) #[] caps ∧ RelCs e l caps.toList
  | .fn f, g, l, x, hp, hc => by simp [C.parts] at hp; obtain ⟨rfl, rfl⟩ := hp; cases hc; exact ⟨#[], rfl, .nil⟩
  | .cl f c, g, l, x, hp, hc => by
    simp only [C.parts] at hp
    split at hp
    · rename_i g' l' hp'
      cases hp
      obtain ⟨g0, caps, v, rfl, hf, hv⟩ := hc
      obtain ⟨caps', hx, hr⟩ := parts_rel f g l' _ hp' hf
      cases hx
      exact ⟨caps.push v, rfl, by simpa using RelCs_snoc hr hv⟩
    · cases hp
  | .top, _, _, _, hp, _ => by simp [C.parts] at hp
  | .int _ _, _, _, _, hp, _ => by simp [C.parts] at hp
  | .bool _, _, _, _, hp, _ => by simp [C.parts] at hp
  | .str _, _, _, _, hp, _ => by simp [C.parts] at hp
  | .list _ _, _, _, _, hp, _ => by simp [C.parts] at hp
  | .ptr _ _, _, _, _, hp, _ => by simp [C.parts] at hp
  | .ep _ _ _, _, _, _, hp, _ => by simp [C.parts] at hp
  | .cptr _ _ _, _, _, _, hp, _ => by simp [C.parts] at hp
  | .sl _ _ _, _, _, _, hp, _ => by simp [C.parts] at hp
  | .nils, _, _, _, hp, _ => by simp [C.parts] at hp
  | .nilp, _, _, _, hp, _ => by simp [C.parts] at hp
  | .nili, _, _, _, hp, _ => by simp [C.parts] at hp
  | .map _, _, _, _, hp, _ => by simp [C.parts] at hp

theorem decPs_took (m : Mem A w0 e h w) {S : List Src} {lent : List Nat} (g : Nat) : ∀ (s : List PSh) (c : List C) (d : Dec (PSh.DL s)) (n : Nat) (xs : List Value) (f : C) (caps : Array Value), decPs h s c = some d → RelCs e c xs → Sub S n d.src → (∀ i ∈ d.lent, i ∈ lent) →
    RelC (takeE e w S lent) f (.func (.func g) #[] caps) →
    RelC (takeE e w S lent) (encPs f s d.x n).1 (.func (.func g) #[] (caps ++ xs.toArray)) ∧ Took e w S lent n d.src (encPs f s d.x n).2
  | [], [], d, n, xs, f, caps, hd, hc, hS, hl, hf => by cases hd; cases hc; exact ⟨by simpa [encPs] using hf, .nil⟩
  | [], _ :: _, d, n, xs, f, caps, hd, hc, hS, hl, hf => by simp [decPs] at hd
  | _ :: _, [], d, n, xs, f, caps, hd, hc, hS, hl, hf => by simp [decPs] at hd
  | s :: r, c :: cs, d, n, _, f, caps, hd, .cons (v := v) (r := vs) h1 h2, hS, hl, hf => by
    simp only [decPs] at hd
    cases ha : decP h s c with
    | none => rw [ha] at hd; cases hd
    | some a =>
      rw [ha] at hd; dsimp only at hd
      cases hb : decPs h r cs with
      | none => rw [hb] at hd; cases hd
      | some b =>
        rw [hb] at hd; cases hd
        obtain ⟨p1, p2⟩ := decP_took m s c a n v ha h1 hS.left (fun i hi => hl i (by simp [hi]))
        have hlen := p2.len
        obtain ⟨q1, q2⟩ := decPs_took m g r cs b (n + a.src.length) vs (.cl f (encP s a.x n).1) (caps.push v) hb h2 hS.right (fun i hi => hl i (by simp [hi])) ⟨g, caps, v, rfl, hf, p1⟩
        simp only [encPs]
        rw [hlen] at q1 q2
        refine ⟨?_, p2.append q2⟩
        have e1 : caps.push v ++ vs.toArray = caps ++ (v :: vs).toArray := by apply Array.ext'; simp
        rwa [e1] at q1

theorem decS_took (m : Mem A w0 e h w) {S : List Src} {lent : List Nat} : ∀ (s : Sh) (c : V) (d : Dec s.D) (n : Nat) (x : Value), decS h s c = some d → RelV e c x → Sub S n d.src → (∀ i ∈ d.lent, i ∈ lent) →
    RelV (takeE e w S lent) (encS s d.x n).1 x ∧ Took e w S lent n d.src (encS s d.x n).2
  | .c s, c, d, n, x, hd, hc, hS, hl => by
    cases c <;> simp only [decS] at hd <;> try (cases hd; done)
    exact decC_took m s _ d n x hd hc hS hl
  | .agg t, c, d, n, x, hd, hc, hS, hl => by
    cases c <;> simp only [decS] at hd <;> try (cases hd; done)
    split at hd
    · rename_i y g hy
      cases hd
      obtain ⟨cs, rfl, hr⟩ := hc
      obtain ⟨v1, v2, hv, hx, h2⟩ := decD_rel m.hp.arrs m.sep t _ _ [] g _ hy hr
      cases h2
      rw [List.append_nil] at hv
      subst hv
      exact ⟨⟨cs, rfl, RelCs_encD t _ _ (hx.give m.sep hl)⟩, .nil⟩
    · cases hd
  | .p s, c, d, n, x, hd, hc, hS, hl => by
    cases c <;> simp only [decS] at hd <;> try (cases hd; done)
    exact decP_took m s _ d n x hd hc hS hl
  | .fn f caps, c, d, n, x, hd, hc, hS, hl => by
    cases c <;> simp only [decS] at hd <;> try (cases hd; done)
    rename_i c
    split at hd
    · rename_i g l hp
      split at hd
      · rename_i hg
        subst hg
        obtain ⟨vs, rfl, hr⟩ := parts_rel c g l x hp hc
        obtain ⟨q1, q2⟩ := decPs_took m g caps l d n vs.toList (.fn g) #[] hd hr hS hl rfl
        have e1 : (#[] : Array Value) ++ vs.toList.toArray = vs := by apply Array.ext'; simp
        rw [e1] at q1
        exact ⟨q1, q2⟩
      · cases hd
    · cases hd
  | .any, c, d, n, x, hd, hc, hS, hl => by simp only [decS] at hd; cases hd; exact ⟨trivial, .nil⟩

theorem decSs_took (m : Mem A w0 e h w) {S : List Src} {lent : List Nat} : ∀ (s : List Sh) (c : List V) (d : Dec (Sh.DL s)) (n : Nat) (xs : List Value), decSs h s c = some d → RelVs e c xs → Sub S n d.src → (∀ i ∈ d.lent, i ∈ lent) →
    RelVs (takeE e w S lent) (encSs s d.x n).1 xs ∧ Took e w S lent n d.src (encSs s d.x n).2
  | [], [], d, n, xs, hd, hc, hS, hl => by cases hd; cases hc; exact ⟨.nil, .nil⟩
  | [], _ :: _, d, n, xs, hd, hc, hS, hl => by simp [decSs] at hd
  | _ :: _, [], d, n, xs, hd, hc, hS, hl => by simp [decSs] at hd
  | s :: r, c :: cs, d, n, _, hd, .cons (v := v) (r := vs) h1 h2, hS, hl => by
    simp only [decSs] at hd
    cases ha : decS h s c with
    | none => rw [ha] at hd; cases hd
    | some a =>
      rw [ha] at hd; dsimp only at hd
      cases hb : decSs h r cs with
      | none => rw [hb] at hd; cases hd
      | some b =>
        rw [hb] at hd; cases hd
        obtain ⟨p1, p2⟩ := decS_took m s c a n v ha h1 hS.left (fun i hi => hl i (by simp [hi]))
        have hlen := p2.len
        obtain ⟨q1, q2⟩ := decSs_took m r cs b (n + a.src.length) vs hb h2 hS.right (fun i hi => hl i (by simp [hi]))
        simp only [encSs]
        rw [hlen] at q1 q2
        exact ⟨.cons p1 q1, p2.append q2⟩
end
end Go.Proofs.YtjijgajbkcflaaaDoor.Den
