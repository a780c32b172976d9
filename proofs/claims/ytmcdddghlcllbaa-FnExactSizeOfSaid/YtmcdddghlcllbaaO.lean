/- What is handed to a call, or kept at a loop's head: the part of memory that goes with it, numbered anew. -/
import Derived.Test.YtmcdddghlcllbaaN
set_option autoImplicit false
set_option linter.unusedVariables false
set_option linter.unusedSimpArgs false
namespace Go.Proofs.Ytmcdddghlcllbaa.Den
open Classical

def locOf (e : Env) : Option Src → Loc
  | some .nil => .nil
  | some (.of id lo hi) => match e.loc id with
    | .arr b o sz cap n => .arr b (o + lo.getD 0 * sz) sz (cap - lo.getD 0) (hi.getD n - lo.getD 0)
    | L => L
  | .none => .un

/-- The environment of what has been taken out of another one. -/
noncomputable def takeE (e : Env) (w : World) (S : List Src) (lent : List Nat) : Env := ⟨giveImm e w lent, fun j => locOf e S[j]?, fun k => if POOL ∈ srcIds S then e.vl k else .un⟩

section
variable {P : Program} {A : Nat → Prop} {w0 : Start} {e : Env} {h : Hp} {w : World}

theorem own_locOf {s : Option Src} {b : Nat} (hb : (locOf e s).own = some b) : ∃ id lo hi, s = some (.of id lo hi) ∧ (e.loc id).own = some b := by
  cases s with
  | none => cases hb
  | some s =>
    cases s with
    | nil => cases hb
    | of id lo hi =>
      refine ⟨id, lo, hi, rfl, ?_⟩
      simp only [locOf] at hb
      split at hb
      · rename_i hl; rw [hl]; exact hb
      · exact hb

/-- A datum that lies in memory nobody writes, seen as cells of a new environment. -/
theorem RelC_plain {e e' : Env} (hi : ∀ b o, e.imm b = some o → e'.imm b = some o) (t : Ty) (x : t.D) (vs : List Value) (h : RelD e.imm t x vs) : RelCs e' (encD t x) vs :=
  RelCs_encD t x vs (RelD.mono hi _ _ _ h)

theorem RelCs.split {e : Env} {a b : List C} {vs : List Value} (h : RelCs e (a ++ b) vs) : ∃ u v, vs = u ++ v ∧ RelCs e a u ∧ RelCs e b v := by
  refine ⟨vs.take a.length, vs.drop a.length, (List.take_append_drop _ _).symm, ?_, ?_⟩
  · have := h.take a.length
    rwa [List.take_left'] at this
    rfl
  · have := h.drop a.length
    rwa [List.drop_left'] at this
    rfl

theorem RelC_ref {e e' : Env} {t : Ty} {x : Nat} {v : Value} (hv : ∀ k, e.vl k ≠ .un → e'.vl k = e.vl k) (r : RelC e (.ref t x) v) : RelC e' (.ref t x) v := by
  cases x with
  | zero => exact r
  | succ k =>
    have hne : e.vl k ≠ .un := fun hh => by simp [RelC, hh] at r
    simp only [RelC, hv k hne] at r ⊢; exact r

/-- The cells of a datum in an environment with the same pool. -/
theorem encD_vl {e e' : Env} (hi : ∀ b o, e.imm b = some o → e'.imm b = some o) (hv : ∀ k, e.vl k ≠ .un → e'.vl k = e.vl k) : ∀ (t : Ty) (x : t.D) (vs : List Value), RelCs e (encD t x) vs → RelCs e' (encD t x) vs
  | .int _, _, _, r => by cases r with | cons a b => cases b; exact .cons a .nil
  | .bool, _, _, r => by cases r with | cons a b => cases b; exact .cons a .nil
  | .str, _, _, r => by cases r with | cons a b => cases b; exact .cons a .nil
  | .unit, _, _, r => by cases r; exact .nil
  | .pair a b, x, vs, r => by
    obtain ⟨u, v, rfl, h1, h2⟩ := RelCs.split r
    exact RelCs_append (encD_vl hi hv a _ _ h1) (encD_vl hi hv b _ _ h2)
  | .slice t, l, vs, r => by cases r with | cons a b => cases b; exact .cons (RelD.mono hi (.slice t) l _ a) .nil
  | .ref t, x, vs, r => by cases r with | cons a b => cases b; exact .cons (RelC_ref hv a) .nil

/-- .. and in any, where no place in a pool is among them. -/
theorem encD_noRef {e e' : Env} (hi : ∀ b o, e.imm b = some o → e'.imm b = some o) {t : Ty} {x : t.D} {vs : List Value} (hn : t.noRef = true) (r : RelCs e (encD t x) vs) : RelCs e' (encD t x) vs :=
  RelCs_encD t _ _ (RelD.mono hi _ _ _ (RelD_of_RelCs t _ _ hn r))

theorem take_vl {S : List Src} {lent : List Nat} (hP : POOL ∈ srcIds S) (k : Nat) : (takeE e w S lent).vl k = e.vl k := if_pos hP

theorem conv_size : ∀ t : Ty, t.unref.size = t.size
  | .int _ | .bool | .str | .unit | .ref _ | .slice _ => rfl
  | .pair a b => by simp [Ty.unref, Ty.size, conv_size a, conv_size b]

theorem conv_rel {u : Ty} {e e' : Env} (hi : ∀ b o, e.imm b = some o → e'.imm b = some o) : ∀ (t : Ty) (x : t.unref.D) (y : t.D) (vs : List Value), convD t x = some y → Ty.refsOf u t = true → RelCs e (encD t.unref x) vs → RelCs e' (encD t y) vs
  | .int _, x, y, vs, h, _, r => by cases h; cases r with | cons a b => cases b; exact .cons a .nil
  | .bool, x, y, vs, h, _, r => by cases h; cases r with | cons a b => cases b; exact .cons a .nil
  | .str, x, y, vs, h, _, r => by cases h; cases r with | cons a b => cases b; exact .cons a .nil
  | .unit, x, y, vs, h, _, r => by cases h; cases r; exact .nil
  | .pair a b, x, y, vs, h, hr, r => by
    simp only [Ty.refsOf, Bool.and_eq_true] at hr
    obtain ⟨u', v, rfl, h1, h2⟩ := RelCs.split r
    simp only [convD] at h
    cases hp : convD a x.1 with
    | none => rw [hp] at h; cases h
    | some p =>
      cases hq : convD b x.2 with
      | none => rw [hp, hq] at h; cases h
      | some q =>
        rw [hp, hq] at h; cases h
        exact RelCs_append (conv_rel hi a _ _ _ hp hr.1 h1) (conv_rel hi b _ _ _ hq hr.2 h2)
  | .slice t, l, y, vs, h, _, r => by
    cases h
    cases r with | cons a b => cases b; exact .cons (RelD.mono hi (.slice t) l _ a) .nil
  | .ref t, l, y, vs, h, _, r => by
    cases r with
    | cons a b =>
      cases b
      cases l with
      | nil =>
        cases h
        obtain ⟨ad, c, hv, _⟩ := a
        cases hv
        exact .cons ⟨ad, c, rfl⟩ .nil
      | cons p q => simp [convD] at h

theorem convL_spec : ∀ (t : Ty) (l : List t.unref.D) (l' : List t.D), convL t l = some l' → l'.length = l.length ∧ ∀ i (hi : i < l'.length) (hi' : i < l.length), convD t l[i] = some l'[i]
  | t, [], l', h => by cases h; exact ⟨rfl, fun i hi => by simp at hi⟩
  | t, x :: r, l', h => by
    simp only [convL] at h
    cases hp : convD t x with
    | none => rw [hp] at h; cases h
    | some y =>
      cases hq : convL t r with
      | none => rw [hp, hq] at h; cases h
      | some q =>
        rw [hp, hq] at h; cases h
        obtain ⟨h1, h2⟩ := convL_spec t r q hq
        refine ⟨by simp [h1], fun i hi hi' => ?_⟩
        cases i with
        | zero => exact hp
        | succ i => exact h2 i (by simpa using hi) (by simpa using hi')

theorem Mem.ne_pool (m : Mem A w0 e h w) {i : Nat} (h1 : h i ≠ .none) (h2 : h i ≠ .gone) (h3 : ∀ u pl, h i ≠ .pool u pl) : i ≠ POOL := fun hh => by
  subst hh
  rcases m.pk with k | k | ⟨u, pl, k⟩
  · exact h1 k
  · exact h2 k
  · exact h3 u pl k

structure Took (e : Env) (w : World) (S : List Src) (lent : List Nat) (n : Nat) (src : List Src) (os : List O) : Prop where
  len : src.length = os.length
  obj : ∀ (j : Nat) (o : O), os[j]? = some o → RelO (takeE e w S lent) w (locOf e src[j]?) o
  pool : ∀ (j : Nat) (lo hi : Option Nat), src[j]? = some (.of POOL lo hi) → ∃ u pl, os[j]? = some (.pool u pl)

theorem Took.nil {S : List Src} {lent : List Nat} {n : Nat} : Took e w S lent n [] [] := ⟨rfl, fun j o h => by simp at h, fun j lo hi h => by simp at h⟩

theorem Took.append {S : List Src} {lent : List Nat} {n n' : Nat} {s1 s2 : List Src} {o1 o2 : List O} (h1 : Took e w S lent n s1 o1) (h2 : Took e w S lent n' s2 o2) : Took e w S lent n (s1 ++ s2) (o1 ++ o2) := by
  refine ⟨by simp [h1.len, h2.len], fun j o hj => ?_, fun j lo hi hj => ?_⟩
  rotate_left
  · by_cases hlt : j < s1.length
    · rw [List.getElem?_append_left hlt] at hj
      rw [List.getElem?_append_left (by rw [← h1.len]; exact hlt)]
      exact h1.pool j lo hi hj
    · rw [List.getElem?_append_right (by omega)] at hj
      rw [List.getElem?_append_right (by rw [← h1.len]; omega), ← h1.len]
      exact h2.pool _ lo hi hj
  by_cases hlt : j < o1.length
  · rw [List.getElem?_append_left hlt] at hj
    rw [List.getElem?_append_left (by rw [h1.len]; exact hlt)]
    exact h1.obj j o hj
  · rw [List.getElem?_append_right (by omega)] at hj
    rw [List.getElem?_append_right (by rw [h1.len]; omega), h1.len]
    exact h2.obj _ o hj

def Sub (S : List Src) (n : Nat) (src : List Src) : Prop := ∀ (j : Nat) (s : Src), src[j]? = some s → S[n + j]? = some s

theorem Sub.left {S : List Src} {n : Nat} {a b : List Src} (h : Sub S n (a ++ b)) : Sub S n a := fun j s hj => h j s (by
  rw [List.getElem?_append_left (List.getElem?_eq_some_iff.1 hj).1]; exact hj)
theorem Sub.right {S : List Src} {n : Nat} {a b : List Src} (h : Sub S n (a ++ b)) : Sub S (n + a.length) b := fun j s hj => by
  have := h (a.length + j) s (by rw [List.getElem?_append_right (by omega)]; simpa using hj)
  rwa [← Nat.add_assoc] at this

theorem takeE_loc {S : List Src} {lent : List Nat} {n : Nat} {s : Src} (h : S[n]? = some s) : (takeE e w S lent).loc n = locOf e (some s) := by simp [takeE, h]

theorem Sub.mem {S : List Src} {n : Nat} {src : List Src} (h : Sub S n src) {j id : Nat} {lo hi : Option Nat} (hj : src[j]? = some (.of id lo hi)) : id ∈ srcIds S := by
  unfold srcIds
  exact List.mem_filterMap.2 ⟨_, List.mem_of_getElem? (h _ _ hj), rfl⟩

theorem decC_took (m : Mem A w0 e h w) {S : List Src} {lent : List Nat} : ∀ (s : CSh) (c : C) (d : Dec s.D) (n : Nat) (x : Value), decC h s c = some d → RelC e c x → Sub S n d.src → (∀ i ∈ d.lent, i ∈ lent) → (s.hasRef = true → POOL ∈ srcIds S) →
    RelC (takeE e w S lent) (encC s d.x n).1 x ∧ Took e w S lent n d.src (encC s d.x n).2
  | .int k, c, d, n, x, hd, hc, hS, hl, hR => by
    cases c <;> simp only [decC] at hd <;> try (cases hd; done)
    split at hd
    · rename_i hk; subst hk; cases hd; exact ⟨hc, .nil⟩
    · cases hd
  | .bool, c, d, n, x, hd, hc, hS, hl, hR => by
    cases c <;> simp only [decC] at hd <;> try (cases hd; done)
    cases hd; exact ⟨hc, .nil⟩
  | .str, c, d, n, x, hd, hc, hS, hl, hR => by
    cases c <;> simp only [decC] at hd <;> try (cases hd; done)
    cases hd; exact ⟨hc, .nil⟩
  | .list t, c, d, n, x, hd, hc, hS, hl, hR => by
    have key : ∀ l g, asList t c h = some (l, g) → d = ⟨l, [], g⟩ → RelC (takeE e w S lent) (.list t l) x := by
      intro l g ha hd
      subst hd
      exact (asList_rel m.hp.arrs m.sep ha hc).give m.sep hl
    cases c <;> simp only [decC] at hd <;>
    · split at hd
      · rename_i l g ha
        cases hd
        exact ⟨key l g ha rfl, .nil⟩
      · cases hd
  | .arr t, c, d, n, x, hd, hc, hS, hl, hR => by
    cases c <;> simp only [decC] at hd <;> try (cases hd; done)
    · rename_i id lo hi
      have ho := m.hp id
      cases hid : h id <;> rw [hid] at hd ho <;> try (cases hd; done)
      rename_i t' l
      dsimp only at hd
      split at hd
      · rename_i he
        cases he; cases hd
        simp only [castL] at *
        have hS0 := hS 0 _ rfl
        simp only [Nat.add_zero] at hS0
        have hloc := takeE_loc (e := e) (w := w) (lent := lent) hS0
        have hnP := m.noarr ⟨_, _, hid⟩
        have hrow : ∀ (y : t.D) (vs : List Value), RelCs e (encD t y) vs → RelCs (takeE e w S lent) (encD t y) vs := fun y vs hr => by
          by_cases hn : t.noRef = true
          · exact encD_noRef (giveImm_le m.sep lent) hn hr
          · exact encD_vl (giveImm_le m.sep lent) (fun k _ => take_vl (hR (by simp [CSh.hasRef, hn])) k) t y vs hr
        simp only [RelC, encC] at hc ⊢
        rw [hloc]
        rcases ho with ⟨hl', rfl⟩ | ⟨b, o, cap, cs, E, fz, hl', hn, hb, hu, hs', hr⟩
        · rw [hl'] at hc
          have hcut : cutL lo hi ([] : List t.D) = [] := by cases lo <;> cases hi <;> simp [cutL]
          refine ⟨?_, ⟨rfl, fun j o hj => ?_, fun j lo' hi' hj => by
            cases j with
            | zero => simp at hj; exact (hnP hj.1).elim
            | succ j => simp at hj⟩⟩
          · simp only [locOf, hl']
            exact ⟨rfl, rfl, hc.2.2⟩
          · cases j with
            | zero => simp at hj; subst hj; exact .inl ⟨by simp [locOf, hl'], hcut⟩
            | succ j => simp at hj
        · rw [hl'] at hc
          obtain ⟨h1, h2, a, rfl, ha⟩ := hc
          have hlen := cutL_length lo hi l h1 h2
          refine ⟨?_, ⟨rfl, fun j o' hj => ?_, fun j lo' hi' hj => by
            cases j with
            | zero => simp at hj; exact (hnP hj.1).elim
            | succ j => simp at hj⟩⟩
          · simp only [locOf, hl']
            refine ⟨Nat.zero_le _, Nat.le_refl _, a, by simp, ?_⟩
            rcases ha with ha | ha
            · exact .inl (by simp; omega)
            · exact .inr (by subst ha; simp)
          · cases j with
            | zero =>
              simp at hj; subst hj
              refine .inr ⟨b, o + lo.getD 0 * t.size, cap - lo.getD 0, cs, E, fz, by simp [locOf, hl', hlen], by omega, hb, hu, ?_, ?_⟩
              · have : lo.getD 0 * t.size + (cap - lo.getD 0) * t.size = cap * t.size := by rw [← Nat.add_mul]; congr 1; omega
                omega
              · refine rows_iff.2 (fun i hi => hrow _ _ ?_)
                have := (rows_iff.1 hr).cut h1 h2
                rw [List.drop_drop] at this
                exact this i hi
            | succ j => simp at hj
      · cases hd
    · cases hd
      have hS0 := hS 0 _ rfl
      simp only [Nat.add_zero] at hS0
      have hloc := takeE_loc (e := e) (w := w) (lent := lent) hS0
      simp only [RelC, encC] at hc ⊢
      rw [hloc]
      refine ⟨⟨rfl, rfl, hc⟩, ⟨rfl, fun j o hj => ?_, fun j lo' hi' hj => by cases j <;> simp at hj⟩⟩
      cases j with
      | zero => simp at hj; subst hj; exact .inl ⟨rfl, rfl⟩
      | succ j => simp at hj
  | .map k v, c, d, n, x, hd, hc, hS, hl, hR => by
    cases c <;> simp only [decC] at hd <;> try (cases hd; done)
    rename_i id
    have ho := m.hp id
    cases hid : h id <;> rw [hid] at hd ho <;> try (cases hd; done)
    rename_i k' v' l
    dsimp only at hd
    split at hd
    · rename_i he
      obtain ⟨e1, e2⟩ := he
      cases e1; cases e2; cases hd
      have hS0 := hS 0 _ rfl
      simp only [Nat.add_zero] at hS0
      have hloc := takeE_loc (e := e) (w := w) (lent := lent) hS0
      obtain ⟨b, es, ck, hl', hb, hr⟩ := ho
      simp only [RelC, encC] at hc ⊢
      rw [hloc]
      rw [hl'] at hc
      have hnP : id ≠ POOL := m.ne_pool (by rw [hid]; exact fun hh => by cases hh) (by rw [hid]; exact fun hh => by cases hh) (fun u pl => by rw [hid]; exact fun hh => by cases hh)
      refine ⟨by simp [locOf, hl']; exact hc, ⟨rfl, fun j o hj => ?_, fun j lo' hi' hj => by
            cases j with
            | zero => simp at hj; exact (hnP hj.1).elim
            | succ j => simp at hj⟩⟩
      cases j with
      | zero =>
        simp at hj; subst hj
        refine ⟨b, es, ck, by simp [locOf, hl'], hb, ?_⟩
        have key : ∀ (l : List (k.D × v.D)) es, RelM e k v l es → RelM (takeE e w S lent) k v l es := by
          intro l es hq
          induction hq with
          | nil => exact .nil
          | cons a b _ ih => exact .cons (RelKV.mono (giveImm_le m.sep lent) _ _ _ a) (RelKV.mono (giveImm_le m.sep lent) _ _ _ b) ih
        exact key _ _ hr
      | succ j => simp at hj
    · cases hd
  | .nili, c, d, n, x, hd, hc, hS, hl, hR => by
    cases c <;> simp only [decC] at hd <;> try (cases hd; done)
    cases hd
    exact ⟨hc, .nil⟩
  | .cp t, c, d, n, x, hd, hc, hS, hl, hR => by
    cases c <;> simp only [decC] at hd <;> try (cases hd; done)
    rename_i t' y off
    cases off with
    | succ o => simp at hd
    | zero =>
      simp only at hd
      split at hd
      · rename_i he
        cases he
        cases hd
        obtain ⟨b, o, cs, E, fz, hx, hb, hr⟩ := hc
        exact ⟨⟨b, o, cs, E, fz, hx, giveImm_le m.sep lent _ _ hb, RelD.mono (giveImm_le m.sep lent) _ _ _ hr⟩, .nil⟩
      · cases hd
  | .ref t, c, d, n, x, hd, hc, hS, hl, hR => by
    have hd' : (match decD (.ref t) [c] h with
      | some (y, _, _) => some (⟨y, [], []⟩ : Dec Nat)
      | .none => .none) = some d := by
      cases c <;> exact hd
    cases h1 : decD (.ref t) [c] h with
    | none => rw [h1] at hd'; cases hd'
    | some p =>
      obtain ⟨y, r, g⟩ := p
      rw [h1] at hd'; cases hd'
      obtain ⟨v1, v2, hv, h2, h3⟩ := decD_relC m.hp m.sep (.ref t) [c] y r g [x] h1 (.cons hc .nil)
      cases h2 with
      | cons a b =>
        cases b
        rename_i v
        have hvx : v = x := by
          simp at hv
          exact hv.1.symm
        subst hvx
        exact ⟨RelC_ref (e := gave e w g) (fun k _ => take_vl (e := e) (hR rfl) k) a, .nil⟩
  | .arrp t u, c, d, n, x, hd, hc, hS, hl, hR => by
    have hPl : h POOL = .none → e.loc POOL = .un := fun hp => loc_un m.hp hp
    cases c <;> (try simp only [decC] at hd) <;> try (cases hd; done)
    · rename_i id lo hi
      cases lo <;> cases hi <;> (try simp only [decC] at hd) <;> try (cases hd; done)
      have ho := m.hp id
      cases hid : h id <;> rw [hid] at hd ho <;> try (cases hd; done)
      rename_i t' l
      have hnP := m.noarr ⟨_, _, hid⟩
      dsimp only at hd
      split at hd
      · rename_i he
        cases he
        cases hpq : h POOL <;> rw [hpq] at hd <;> try (cases hd; done)
        rename_i u' pl
        dsimp only at hd
        split at hd
        case isFalse => cases hd
        rename_i hc2
        obtain ⟨hu', href⟩ := hc2
        cases hu'
        cases hd
        have hP : POOL ∈ srcIds S := hS.mem (j := 1) rfl
        have hS0 := hS 0 _ rfl
        simp only [Nat.add_zero] at hS0
        have hloc := takeE_loc (e := e) (w := w) (lent := lent) hS0
        have hle := giveImm_le m.sep lent
        have hrow : ∀ (q : Ty) (y : q.D) (vs : List Value), RelCs e (encD q y) vs → RelCs (takeE e w S lent) (encD q y) vs := fun q y vs hr => encD_vl hle (fun k _ => take_vl hP k) q y vs hr
        have harr : ∀ (L : Loc) (q : Ty) (y : List q.D), RelArr e w L q y → RelArr (takeE e w S lent) w L q y := fun L q y hr => by
          rcases hr with hr | ⟨b, o, cap, cs, E, fz, q1, q2, q3, q4, q5, q6⟩
          · exact .inl hr
          · exact .inr ⟨b, o, cap, cs, E, fz, q1, q2, q3, q4, q5, fun i hi => hrow _ _ _ (q6 i hi)⟩
        have hL0 : locOf e (some (.of id .none .none)) = e.loc id := by
          simp only [locOf]
          split
          · rename_i hq; rw [hq]; simp
          · rfl
        have h0 := m.hp POOL
        rw [hpq] at h0
        refine ⟨?_, ⟨rfl, fun j o hj => ?_, fun j lo' hi' hj => ?_⟩⟩
        · simp only [RelC, encC] at hc ⊢
          rw [hloc, hL0]
          exact hc
        · cases j with
          | zero =>
            simp [encC] at hj; subst hj
            show RelArr _ _ _ _ _
            rw [show (locOf e ([Src.of id none none, Src.of POOL none none][0]?)) = e.loc id from hL0]
            exact harr _ _ _ ho
          | succ j =>
            cases j with
            | zero =>
              simp [encC] at hj; subst hj
              refine ⟨?_, fun k hk => ?_, fun k hk => ?_⟩
              · show locOf e (some (.of POOL none none)) = _
                simp only [locOf, h0.1]
              · rw [take_vl hP]; exact h0.2.1 k hk
              · rw [take_vl hP]; exact harr _ _ _ (h0.2.2 k hk)
            | succ j => simp [encC] at hj
        · cases j with
          | zero => simp at hj; exact (hnP hj.1).elim
          | succ j =>
            cases j with
            | zero => exact ⟨u, pl, rfl⟩
            | succ j => simp at hj
      · split at hd
        case isFalse => cases hd
        rename_i he
        cases hpq : h POOL <;> rw [hpq] at hd <;> try (cases hd; done)
        dsimp only at hd
        split at hd
        case isFalse => cases hd
        rename_i href
        split at hd
        case h_2 => cases hd
        rename_i l' hl'
        cases hd
        subst he
        simp only [castL] at hl'
        obtain ⟨hlen, hcv⟩ := convL_spec t l l' hl'
        have hP : POOL ∈ srcIds S := hS.mem (j := 1) rfl
        have hS0 := hS 0 _ rfl
        simp only [Nat.add_zero] at hS0
        have hloc := takeE_loc (e := e) (w := w) (lent := lent) hS0
        have hle := giveImm_le m.sep lent
        have hL0 : locOf e (some (.of id .none .none)) = e.loc id := by
          simp only [locOf]
          split
          · rename_i hq; rw [hq]; simp
          · rfl
        refine ⟨?_, ⟨rfl, fun j o hj => ?_, fun j lo' hi' hj => ?_⟩⟩
        · simp only [RelC, encC] at hc ⊢
          rw [hloc, hL0]
          exact hc
        · cases j with
          | zero =>
            simp [encC] at hj; subst hj
            show RelArr _ _ _ _ _
            rw [show (locOf e ([Src.of id none none, Src.of POOL none none][0]?)) = e.loc id from hL0]
            rcases ho with ⟨q1, q2⟩ | ⟨b, o, cap, cs, E, fz, q1, q2, q3, q4, q5, q6⟩
            · exact .inl ⟨q1, List.eq_nil_of_length_eq_zero (by rw [hlen, q2]; rfl)⟩
            · refine .inr ⟨b, o, cap, cs, E, fz, by rw [q1, conv_size, hlen], by rw [hlen]; exact q2, q3, q4, by rw [← conv_size]; exact q5, fun i hi => ?_⟩
              have hi2 : i < l.length := by omega
              have := q6 i hi2
              rw [conv_size] at this
              exact conv_rel (u := u) hle t _ _ _ (hcv i hi hi2) href this
          | succ j =>
            cases j with
            | zero =>
              simp [encC] at hj; subst hj
              refine ⟨?_, fun k hk => ?_, fun k hk => by simp at hk⟩
              · show locOf e (some (.of POOL none none)) = _
                simp only [locOf, hPl hpq]
              · rw [take_vl hP]; exact m.np hpq k
            | succ j => simp [encC] at hj
        · cases j with
          | zero => simp at hj; exact (hnP hj.1).elim
          | succ j =>
            cases j with
            | zero => exact ⟨u, [], rfl⟩
            | succ j => simp at hj
    · cases hpq : h POOL <;> rw [hpq] at hd <;> try (cases hd; done)
      cases hd
      have hP : POOL ∈ srcIds S := hS.mem (j := 1) rfl
      have hS0 := hS 0 _ rfl
      simp only [Nat.add_zero] at hS0
      have hloc := takeE_loc (e := e) (w := w) (lent := lent) hS0
      refine ⟨?_, ⟨rfl, fun j o hj => ?_, fun j lo' hi' hj => ?_⟩⟩
      · simp only [RelC, encC] at hc ⊢
        rw [hloc]
        exact ⟨rfl, rfl, hc⟩
      · cases j with
        | zero => simp [encC] at hj; subst hj; exact .inl ⟨rfl, rfl⟩
        | succ j =>
          cases j with
          | zero =>
            simp [encC] at hj; subst hj
            refine ⟨?_, fun k hk => ?_, fun k hk => by simp at hk⟩
            · show locOf e (some (.of POOL none none)) = _
              simp only [locOf, hPl hpq]
            · rw [take_vl hP]; exact m.np hpq k
          | succ j => simp [encC] at hj
      · cases j with
        | zero => simp at hj
        | succ j =>
          cases j with
          | zero => exact ⟨u, [], rfl⟩
          | succ j => simp at hj

theorem decCs_took (m : Mem A w0 e h w) {S : List Src} {lent : List Nat} : ∀ (s : List CSh) (c : List C) (d : Dec (CSh.DL s)) (n : Nat) (xs : List Value), decCs h s c = some d → RelCs e c xs → Sub S n d.src → (∀ i ∈ d.lent, i ∈ lent) → (s.any CSh.hasRef = true → POOL ∈ srcIds S) →
    RelCs (takeE e w S lent) (encCs s d.x n).1 xs ∧ Took e w S lent n d.src (encCs s d.x n).2
  | [], [], d, n, xs, hd, hc, hS, hl, hR => by cases hd; cases hc; exact ⟨.nil, .nil⟩
  | [], _ :: _, d, n, xs, hd, hc, hS, hl, hR => by simp [decCs] at hd
  | _ :: _, [], d, n, xs, hd, hc, hS, hl, hR => by simp [decCs] at hd
  | s :: r, c :: cs, d, n, _, hd, .cons (v := v) (r := vs) h1 h2, hS, hl, hR => by
    simp only [decCs] at hd
    cases ha : decC h s c with
    | none => rw [ha] at hd; cases hd
    | some a =>
      rw [ha] at hd; dsimp only at hd
      cases hb : decCs h r cs with
      | none => rw [hb] at hd; cases hd
      | some b =>
        rw [hb] at hd; cases hd
        obtain ⟨p1, p2⟩ := decC_took m s c a n v ha h1 hS.left (fun i hi => hl i (by simp [hi])) (fun hh => hR (by simp [hh]))
        have hlen := p2.len
        obtain ⟨q1, q2⟩ := decCs_took m r cs b (n + a.src.length) vs hb h2 hS.right (fun i hi => hl i (by simp [hi])) (fun hh => hR (by simp only [List.any_cons, hh, Bool.or_true]))
        simp only [encCs]
        rw [hlen] at q1 q2
        exact ⟨.cons p1 q1, p2.append q2⟩

theorem decP_took (m : Mem A w0 e h w) {S : List Src} {lent : List Nat} : ∀ (s : PSh) (c : C) (d : Dec s.D) (n : Nat) (x : Value), decP h s c = some d → RelC e c x → Sub S n d.src → (∀ i ∈ d.lent, i ∈ lent) → (s.hasRef = true → POOL ∈ srcIds S) →
    RelC (takeE e w S lent) (encP s d.x n).1 x ∧ Took e w S lent n d.src (encP s d.x n).2
  | .cptr t, c, d, n, x, hd, hc, hS, hl, hR => by
    cases c <;> simp only [decP] at hd <;> try (cases hd; done)
    · rename_i id off
      cases off with
      | succ o => simp at hd
      | zero =>
        simp only at hd
        have ho := m.hp id
        cases hid : h id <;> rw [hid] at hd ho <;> try (cases hd; done)
        rename_i cells
        dsimp only at hd
        split at hd
        case isFalse => cases hd
        rename_i hnr
        split at hd
        · rename_i y g hy
          cases hd
          obtain ⟨b, cs, E, fz, hl', hb, hu, hr⟩ := ho
          simp only [RelC, hl'] at hc
          subst hc
          obtain ⟨v1, v2, hv, hx, h2⟩ := decD_rel m.hp.arrs m.sep t cells _ [] g _ hnr hy hr
          cases h2
          simp only [List.append_nil] at hv
          subst hv
          refine ⟨⟨b, 0, cs, E, fz, rfl, ?_, ?_⟩, .nil⟩
          · show giveImm e w lent b = _
            unfold giveImm
            rw [if_pos ⟨id, hl id (by simp), by rw [hl']; rfl⟩]; exact hb
          · have := RelD.len _ _ _ hx
            rw [List.drop_zero, List.take_of_length_le (by omega)]
            exact hx.give m.sep (fun i hi => hl i (by simp [hi]))
        · cases hd
    · rename_i t' y off
      cases off with
      | succ o => simp at hd
      | zero =>
        simp only at hd
        split at hd
        · rename_i he
          cases he; cases hd
          obtain ⟨b, q, cs, E, fz, rfl, hb, hr⟩ := hc
          exact ⟨⟨b, q, cs, E, fz, rfl, giveImm_le m.sep lent _ _ hb, RelD.mono (giveImm_le m.sep lent) _ _ _ hr⟩, .nil⟩
        · cases hd
  | .box cs, c, d, n, x, hd, hc, hS, hl, hR => by
    cases c <;> simp only [decP] at hd <;> try (cases hd; done)
    rename_i id off
    cases off with
    | succ o => simp at hd
    | zero =>
      simp only at hd
      have ho := m.hp id
      cases hid : h id <;> rw [hid] at hd ho <;> try (cases hd; done)
      rename_i cells
      dsimp only at hd
      split at hd
      · rename_i a ha
        cases hd
        obtain ⟨b, vs, E, fz, hl', hb, hu, hr⟩ := ho
        simp only [RelC, hl'] at hc
        subst hc
        have hS0 := hS 0 _ rfl
        simp only [Nat.add_zero] at hS0
        have hloc := takeE_loc (e := e) (w := w) (lent := lent) hS0
        have hS1 : Sub S (n + 1) a.src := by
          have := Sub.right (a := [Src.of id .none .none]) (b := a.src) (by simpa using hS)
          simpa using this
        obtain ⟨p1, p2⟩ := decCs_took m cs cells a (n + 1) vs.toList ha hr hS1 hl hR
        have hnP : id ≠ POOL := m.ne_pool (by rw [hid]; exact fun hh => by cases hh) (by rw [hid]; exact fun hh => by cases hh) (fun u pl => by rw [hid]; exact fun hh => by cases hh)
        refine ⟨by simp only [encP, RelC, hloc, locOf, hl'], ⟨by simp [encP, p2.len], fun j o hj => ?_, fun j lo' hi' hj => ?_⟩⟩
        rotate_left
        · cases j with
          | zero => simp at hj; exact (hnP hj.1).elim
          | succ j => exact p2.pool j lo' hi' (by simpa using hj)
        cases j with
        | zero =>
          simp [encP] at hj; subst hj
          exact ⟨b, vs, E, fz, by simp [locOf, hl'], hb, hu, p1⟩
        | succ j =>
          have := p2.obj j o (by simpa [encP] using hj)
          simpa using this
      · cases hd

inductive RelParts (e : Env) : List C → List Value → Prop where
  | nil : RelParts e [] []
  | snoc {l : List C} {r : List Value} {c : C} {v : Value} : RelParts e l r → RelC e c v → RelParts e (l ++ [c]) (r ++ [v])

theorem RelCs_snoc {l : List C} {r : List Value} {c : C} {v : Value} (h : RelCs e l r) (hc : RelC e c v) : RelCs e (l ++ [c]) (r ++ [v]) := RelCs_append h (.cons hc .nil)

/-- A function value, taken apart. -/
theorem parts_rel : ∀ (c : C) (g : Nat) (l : List C) (x : Value), c.parts = some (g, l) → RelC e c x → ∃ caps : Array Value, x = .func (.func g) #[] caps ∧ RelCs e l caps.toList
  | .fn f, g, l, x, hp, hc => by simp [C.parts] at hp; obtain ⟨rfl, rfl⟩ := hp; cases hc; exact ⟨#[], rfl, .nil⟩
  | .cl f c, g, l, x, hp, hc => by
    simp only [C.parts] at hp
    split at hp
    · rename_i g' l' hp'
      cases hp
      obtain ⟨g0, caps, v, rfl, hf, hv⟩ := hc
      obtain ⟨caps', hx, hr⟩ := parts_rel f g l' _ hp' hf
      cases hx
      exact ⟨caps.push v, rfl, by simpa using RelCs_snoc hr hv⟩
    · cases hp
  | .top, _, _, _, hp, _ => by simp [C.parts] at hp
  | .int _ _, _, _, _, hp, _ => by simp [C.parts] at hp
  | .bool _, _, _, _, hp, _ => by simp [C.parts] at hp
  | .str _, _, _, _, hp, _ => by simp [C.parts] at hp
  | .list _ _, _, _, _, hp, _ => by simp [C.parts] at hp
  | .ptr _ _, _, _, _, hp, _ => by simp [C.parts] at hp
  | .ep _ _ _, _, _, _, hp, _ => by simp [C.parts] at hp
  | .cptr _ _ _, _, _, _, hp, _ => by simp [C.parts] at hp
  | .sl _ _ _, _, _, _, hp, _ => by simp [C.parts] at hp
  | .nils, _, _, _, hp, _ => by simp [C.parts] at hp
  | .nilp, _, _, _, hp, _ => by simp [C.parts] at hp
  | .nili, _, _, _, hp, _ => by simp [C.parts] at hp
  | .map _, _, _, _, hp, _ => by simp [C.parts] at hp
  | .ref _ _, _, _, _, hp, _ => by simp [C.parts] at hp
  | .rep _ _ _ _, _, _, _, hp, _ => by simp [C.parts] at hp

theorem decPs_took (m : Mem A w0 e h w) {S : List Src} {lent : List Nat} (g : Nat) : ∀ (s : List PSh) (c : List C) (d : Dec (PSh.DL s)) (n : Nat) (xs : List Value) (f : C) (caps : Array Value), decPs h s c = some d → RelCs e c xs → Sub S n d.src → (∀ i ∈ d.lent, i ∈ lent) → (s.any PSh.hasRef = true → POOL ∈ srcIds S) →
    RelC (takeE e w S lent) f (.func (.func g) #[] caps) →
    RelC (takeE e w S lent) (encPs f s d.x n).1 (.func (.func g) #[] (caps ++ xs.toArray)) ∧ Took e w S lent n d.src (encPs f s d.x n).2
  | [], [], d, n, xs, f, caps, hd, hc, hS, hl, hR, hf => by cases hd; cases hc; exact ⟨by simpa [encPs] using hf, .nil⟩
  | [], _ :: _, d, n, xs, f, caps, hd, hc, hS, hl, hR, hf => by simp [decPs] at hd
  | _ :: _, [], d, n, xs, f, caps, hd, hc, hS, hl, hR, hf => by simp [decPs] at hd
  | s :: r, c :: cs, d, n, _, f, caps, hd, .cons (v := v) (r := vs) h1 h2, hS, hl, hR, hf => by
    simp only [decPs] at hd
    cases ha : decP h s c with
    | none => rw [ha] at hd; cases hd
    | some a =>
      rw [ha] at hd; dsimp only at hd
      cases hb : decPs h r cs with
      | none => rw [hb] at hd; cases hd
      | some b =>
        rw [hb] at hd; cases hd
        obtain ⟨p1, p2⟩ := decP_took m s c a n v ha h1 hS.left (fun i hi => hl i (by simp [hi])) (fun hh => hR (by simp [hh]))
        have hlen := p2.len
        obtain ⟨q1, q2⟩ := decPs_took m g r cs b (n + a.src.length) vs (.cl f (encP s a.x n).1) (caps.push v) hb h2 hS.right (fun i hi => hl i (by simp [hi])) (fun hh => hR (by simp only [List.any_cons, hh, Bool.or_true])) ⟨g, caps, v, rfl, hf, p1⟩
        simp only [encPs]
        rw [hlen] at q1 q2
        refine ⟨?_, p2.append q2⟩
        have e1 : caps.push v ++ vs.toArray = caps ++ (v :: vs).toArray := by apply Array.ext'; simp
        rwa [e1] at q1

theorem decS_took (m : Mem A w0 e h w) {S : List Src} {lent : List Nat} : ∀ (s : Sh) (c : V) (d : Dec s.D) (n : Nat) (x : Value), decS h s c = some d → RelV e c x → Sub S n d.src → (∀ i ∈ d.lent, i ∈ lent) → (s.hasRef = true → POOL ∈ srcIds S) →
    RelV (takeE e w S lent) (encS s d.x n).1 x ∧ Took e w S lent n d.src (encS s d.x n).2
  | .c s, c, d, n, x, hd, hc, hS, hl, hR => by
    cases c <;> simp only [decS] at hd <;> try (cases hd; done)
    exact decC_took m s _ d n x hd hc hS hl hR
  | .agg t, c, d, n, x, hd, hc, hS, hl, hR => by
    cases c <;> simp only [decS] at hd <;> try (cases hd; done)
    split at hd
    case isFalse => cases hd
    rename_i hnr
    split at hd
    · rename_i y g hy
      cases hd
      obtain ⟨cs, rfl, hr⟩ := hc
      obtain ⟨v1, v2, hv, hx, h2⟩ := decD_rel m.hp.arrs m.sep t _ _ [] g _ hnr hy hr
      cases h2
      rw [List.append_nil] at hv
      subst hv
      exact ⟨⟨cs, rfl, RelCs_encD t _ _ (hx.give m.sep hl)⟩, .nil⟩
    · cases hd
  | .aggc cs, c, d, n, x, hd, hc, hS, hl, hR => by
    cases c <;> simp only [decS] at hd <;> try (cases hd; done)
    obtain ⟨vs, rfl, hr⟩ := hc
    obtain ⟨p1, p2⟩ := decCs_took m cs _ d n vs.toList hd hr hS hl hR
    exact ⟨⟨vs, rfl, p1⟩, p2⟩
  | .p s, c, d, n, x, hd, hc, hS, hl, hR => by
    cases c <;> simp only [decS] at hd <;> try (cases hd; done)
    exact decP_took m s _ d n x hd hc hS hl hR
  | .fn f caps, c, d, n, x, hd, hc, hS, hl, hR => by
    cases c <;> simp only [decS] at hd <;> try (cases hd; done)
    rename_i c
    split at hd
    · rename_i g l hp
      split at hd
      · rename_i hg
        subst hg
        obtain ⟨vs, rfl, hr⟩ := parts_rel c g l x hp hc
        obtain ⟨q1, q2⟩ := decPs_took m g caps l d n vs.toList (.fn g) #[] hd hr hS hl hR rfl
        have e1 : (#[] : Array Value) ++ vs.toList.toArray = vs := by apply Array.ext'; simp
        rw [e1] at q1
        exact ⟨q1, q2⟩
      · cases hd
    · cases hd
  | .any, c, d, n, x, hd, hc, hS, hl, hR => by simp only [decS] at hd; cases hd; exact ⟨trivial, .nil⟩

theorem decSs_took (m : Mem A w0 e h w) {S : List Src} {lent : List Nat} : ∀ (s : List Sh) (c : List V) (d : Dec (Sh.DL s)) (n : Nat) (xs : List Value), decSs h s c = some d → RelVs e c xs → Sub S n d.src → (∀ i ∈ d.lent, i ∈ lent) → (s.any Sh.hasRef = true → POOL ∈ srcIds S) →
    RelVs (takeE e w S lent) (encSs s d.x n).1 xs ∧ Took e w S lent n d.src (encSs s d.x n).2
  | [], [], d, n, xs, hd, hc, hS, hl, hR => by cases hd; cases hc; exact ⟨.nil, .nil⟩
  | [], _ :: _, d, n, xs, hd, hc, hS, hl, hR => by simp [decSs] at hd
  | _ :: _, [], d, n, xs, hd, hc, hS, hl, hR => by simp [decSs] at hd
  | s :: r, c :: cs, d, n, _, hd, .cons (v := v) (r := vs) h1 h2, hS, hl, hR => by
    simp only [decSs] at hd
    cases ha : decS h s c with
    | none => rw [ha] at hd; cases hd
    | some a =>
      rw [ha] at hd; dsimp only at hd
      cases hb : decSs h r cs with
      | none => rw [hb] at hd; cases hd
      | some b =>
        rw [hb] at hd; cases hd
        obtain ⟨p1, p2⟩ := decS_took m s c a n v ha h1 hS.left (fun i hi => hl i (by simp [hi])) (fun hh => hR (by simp [hh]))
        have hlen := p2.len
        obtain ⟨q1, q2⟩ := decSs_took m r cs b (n + a.src.length) vs hb h2 hS.right (fun i hi => hl i (by simp [hi])) (fun hh => hR (by simp only [List.any_cons, hh, Bool.or_true]))
        simp only [encSs]
        rw [hlen] at q1 q2
        exact ⟨.cons p1 q1, p2.append q2⟩
end
end Go.Proofs.Ytmcdddghlcllbaa.Den
