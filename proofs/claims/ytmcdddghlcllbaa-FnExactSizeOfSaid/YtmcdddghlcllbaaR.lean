/- A call of a function that keeps its contract: what the caller finds behind it. -/
import Derived.Test.YtmcdddghlcllbaaQ
set_option autoImplicit false
set_option linter.unusedVariables false
set_option linter.unusedSimpArgs false
namespace Go.Proofs.Ytmcdddghlcllbaa.Den
open Classical

/-- The caller's environment behind a call. -/
noncomputable def backE (e e' : Env) (h : Hp) (plain hasP : Bool) (n len : Nat) (ids hs : List Nat) (src : List Src) (lent : List Nat) : Env where
  imm := if plain = true then e.imm else e'.imm
  vl := if hasP = true then e'.vl else e.vl
  loc := fun id =>
    if id ∈ ids then e.loc id
    else if id ∈ srcIds src ∧ id ≠ POOL then .dead
    else if id ∈ lent ∧ plain = false then (match h id, e.loc id with
      | .arr _ _, .arr b o sz cap n => .fro b o sz cap n
      | .arr _ _, .nil => .nil
      | _, _ => .dead)
    else if id < n then e.loc id
    else if id - n ∈ hs then e.loc id
    else if id - n < len then e'.loc (id - n) else e.loc id

theorem nodup_idx : ∀ {l : List Nat} {i j a : Nat}, l.Nodup → l[i]? = some a → l[j]? = some a → i = j
  | [], i, j, a, h, h1, h2 => by simp at h1
  | x :: r, 0, 0, a, h, h1, h2 => rfl
  | x :: r, 0, j + 1, a, h, h1, h2 => by
    simp at h1 h2; subst h1
    exact ((List.nodup_cons.1 h).1 (List.mem_of_getElem? h2)).elim
  | x :: r, i + 1, 0, a, h, h1, h2 => by
    simp at h1 h2; subst h2
    exact ((List.nodup_cons.1 h).1 (List.mem_of_getElem? h1)).elim
  | x :: r, i + 1, j + 1, a, h, h1, h2 => by
    simp at h1 h2
    rw [nodup_idx (List.nodup_cons.1 h).2 h1 h2]

theorem encC_kind : ∀ (s : CSh) (x : s.D) (n : Nat), ∀ o ∈ (encC s x n).2, o ≠ .gone
  | .int _, _, _, o, h => by cases h
  | .bool, _, _, o, h => by cases h
  | .str, _, _, o, h => by cases h
  | .list _, _, _, o, h => by cases h
  | .cp _, _, _, o, h => by cases h
  | .nili, _, _, o, h => by cases h
  | .ref _, _, _, o, h => by cases h
  | .arr _, _, _, o, h => by simp [encC] at h; subst h; exact fun hh => by cases hh
  | .map _ _, _, _, o, h => by simp [encC] at h; subst h; exact fun hh => by cases hh
  | .arrp _ _, _, _, o, h => by simp [encC] at h; rcases h with rfl | rfl <;> exact fun hh => by cases hh

theorem encCs_kind : ∀ (s : List CSh) (x : CSh.DL s) (n : Nat), ∀ o ∈ (encCs s x n).2, o ≠ .gone
  | [], _, _, o, h => by cases h
  | s :: r, x, n, o, h => by
    simp only [encCs, List.mem_append] at h
    rcases h with h | h
    · exact encC_kind s _ _ o h
    · exact encCs_kind r _ _ o h

theorem encP_kind : ∀ (s : PSh) (x : s.D) (n : Nat), ∀ o ∈ (encP s x n).2, o ≠ .gone
  | .cptr _, _, _, o, h => by cases h
  | .box cs, x, n, o, h => by
    simp only [encP, List.mem_cons] at h
    rcases h with rfl | h
    · exact fun hh => by cases hh
    · exact encCs_kind cs _ _ o h

theorem encPs_kind : ∀ (f : C) (s : List PSh) (x : PSh.DL s) (n : Nat), ∀ o ∈ (encPs f s x n).2, o ≠ .gone
  | _, [], _, _, o, h => by cases h
  | f, s :: r, x, n, o, h => by
    simp only [encPs, List.mem_append] at h
    rcases h with h | h
    · exact encP_kind s _ _ o h
    · exact encPs_kind _ r _ _ o h

theorem encSs_kind : ∀ (s : List Sh) (x : Sh.DL s) (n : Nat), ∀ o ∈ (encSs s x n).2, o ≠ .gone
  | [], _, _, o, h => by cases h
  | s :: r, x, n, o, h => by
    simp only [encSs, List.mem_append] at h
    rcases h with h | h
    · cases s with
      | c s => exact encC_kind s _ _ o h
      | agg t => cases h
      | aggc cs => exact encCs_kind cs _ _ o h
      | p s => exact encP_kind s _ _ o h
      | fn f caps => exact encPs_kind _ caps _ _ o h
      | any => cases h
    · exact encSs_kind r _ _ o h

theorem isPool_spec {o : O} (h : o.isPool = true) (hg : o ≠ .gone) : ∃ u pl, o = .pool u pl := by
  cases o <;> first | exact ⟨_, _, rfl⟩ | (cases h; done) | exact absurd rfl hg

theorem poolOf_at : ∀ {os : List O} {j : Nat} {u : Ty} {pl : List (List u.D)}, os.countP O.isPool ≤ 1 → os[j]? = some (.pool u pl) → poolOf os = .pool u pl
  | [], j, u, pl, _, h => by simp at h
  | o :: r, 0, u, pl, _, h => by simp at h; subst h; rfl
  | o :: r, j + 1, u, pl, hc, h => by
    have hj : r[j]? = some (.pool u pl) := by simpa using h
    have h1 : 1 ≤ r.countP O.isPool := List.countP_pos_iff.2 ⟨_, List.mem_of_getElem? hj, rfl⟩
    have ho : o.isPool = false := by
      cases hb : o.isPool with
      | false => rfl
      | true => rw [List.countP_cons, if_pos hb] at hc; omega
    have hc' : r.countP O.isPool ≤ 1 := by rw [List.countP_cons] at hc; omega
    have := poolOf_at hc' hj
    cases o <;> first | exact this | cases ho

theorem poolOf_none {os : List O} (h : os.any O.isPool = false) : poolOf os = .none := by
  induction os with
  | nil => rfl
  | cons o r ih =>
    simp only [List.any_cons, Bool.or_eq_false_iff] at h
    have := ih h.2
    cases o <;> first | exact this | (exfalso; have h1 := h.1; cases h1)

theorem asList_noRef {h : Hp} {t : Ty} {c : C} {l : List t.D} {g : List Nat} (ha : asList t c h = some (l, g)) : ∀ i ∈ g, ∀ u q, h i = .arr u q → u.noRef = true := by
  unfold asList at ha
  split at ha
  · split at ha
    · cases ha; intro i hi; cases hi
    · cases ha
  · cases ha; intro i hi; cases hi
  · rename_i id lo hi
    split at ha
    · rename_i t' l' hid
      split at ha
      · rename_i he
        split at ha
        · rename_i hnr
          cases ha
          intro i hi u q hu
          rw [List.mem_singleton.1 hi, hid] at hu
          cases hu
          rw [he]; exact hnr
        · cases ha
      · cases ha
    · split at ha
      · cases ha; intro i hi; cases hi
      · cases ha
    · cases ha
  · cases ha

def NoRefs (h : Hp) (g : List Nat) : Prop := ∀ i ∈ g, ∀ u q, h i = .arr u q → u.noRef = true
theorem NoRefs.nil {h : Hp} : NoRefs h [] := fun i hi => by cases hi
theorem NoRefs.app {h : Hp} {a b : List Nat} (x : NoRefs h a) (y : NoRefs h b) : NoRefs h (a ++ b) := fun i hi => by
  rcases List.mem_append.1 hi with hi | hi
  · exact x i hi
  · exact y i hi

theorem decD_noRefs {h : Hp} : ∀ (t : Ty) (cells : List C) (x : t.D) (r : List C) (g : List Nat), decD t cells h = some (x, r, g) → NoRefs h g
  | .int k, cells, x, r, g, hd => by
    cases cells with
    | nil => simp [decD] at hd
    | cons c cs =>
      cases c <;> simp only [decD] at hd <;> try (cases hd; done)
      split at hd
      · cases hd; exact .nil
      · cases hd
  | .bool, cells, x, r, g, hd => by
    cases cells with
    | nil => simp [decD] at hd
    | cons c cs => cases c <;> simp only [decD] at hd <;> (cases hd; try exact .nil)
  | .str, cells, x, r, g, hd => by
    cases cells with
    | nil => simp [decD] at hd
    | cons c cs => cases c <;> simp only [decD] at hd <;> (cases hd; try exact .nil)
  | .unit, cells, x, r, g, hd => by simp only [decD] at hd; cases hd; exact .nil
  | .pair s t, cells, x, r, g, hd => by
    simp only [decD] at hd
    cases h1 : decD s cells h with
    | none => rw [h1] at hd; cases hd
    | some p =>
      obtain ⟨x1, r1, g1⟩ := p
      rw [h1] at hd; dsimp only at hd
      cases h2 : decD t r1 h with
      | none => rw [h2] at hd; cases hd
      | some q =>
        obtain ⟨x2, r2, g2⟩ := q
        rw [h2] at hd; cases hd
        exact (decD_noRefs s _ _ _ _ h1).app (decD_noRefs t _ _ _ _ h2)
  | .slice t, cells, x, r, g, hd => by
    cases cells with
    | nil => simp [decD] at hd
    | cons c cs =>
      simp only [decD] at hd
      cases h1 : asList t c h with
      | none => rw [h1] at hd; cases hd
      | some p =>
        obtain ⟨l, g1⟩ := p
        rw [h1] at hd; cases hd
        exact asList_noRef h1
  | .ref t, cells, x, r, g, hd => by
    cases cells with
    | nil => simp [decD] at hd
    | cons c cs =>
      cases c <;> (try simp only [decD] at hd) <;> try (cases hd; done)
      · split at hd
        · cases hd; exact .nil
        · cases hd
      · rename_i id lo hi
        cases lo <;> cases hi <;> (try simp only [decD] at hd) <;> try (cases hd; done)
        cases hid : h id <;> rw [hid] at hd <;> try (cases hd; done)
        dsimp only at hd
        split at hd
        · cases hd; exact .nil
        · cases hd
      · cases hd; exact .nil

theorem decC_noRefs {h : Hp} : ∀ (s : CSh) (c : C) (d : Dec s.D), decC h s c = some d → NoRefs h d.lent := by
  intro s c d hd
  cases s with
  | list t =>
    cases c <;> simp only [decC] at hd <;>
    · split at hd
      · rename_i l g ha
        cases hd
        exact asList_noRef ha
      · cases hd
  | ref t =>
    have hd' : (match decD (.ref t) [c] h with
      | some (y, _, _) => some (⟨y, [], []⟩ : Dec Nat)
      | .none => .none) = some d := by
      cases c <;> exact hd
    split at hd'
    · cases hd'; exact .nil
    · cases hd'
  | arr t =>
    cases c <;> simp only [decC] at hd <;> try (cases hd; done)
    · rename_i id lo hi
      cases hid : h id <;> rw [hid] at hd <;> try (cases hd; done)
      dsimp only at hd
      split at hd
      · cases hd; exact .nil
      · cases hd
    · cases hd; exact .nil
  | map k v =>
    cases c <;> simp only [decC] at hd <;> try (cases hd; done)
    rename_i id
    cases hid : h id <;> rw [hid] at hd <;> try (cases hd; done)
    dsimp only at hd
    split at hd
    · cases hd; exact .nil
    · cases hd
  | arrp t u =>
    cases c <;> (try simp only [decC] at hd) <;> try (cases hd; done)
    · rename_i id lo hi
      cases lo <;> cases hi <;> (try simp only [decC] at hd) <;> try (cases hd; done)
      cases hid : h id <;> rw [hid] at hd <;> try (cases hd; done)
      dsimp only at hd
      split at hd
      · cases hpq : h POOL <;> rw [hpq] at hd <;> try (cases hd; done)
        dsimp only at hd
        split at hd
        · cases hd; exact .nil
        · cases hd
      · split at hd
        · cases hpq : h POOL <;> rw [hpq] at hd <;> try (cases hd; done)
          dsimp only at hd
          split at hd
          · split at hd
            · cases hd; exact .nil
            · cases hd
          · cases hd
        · cases hd
    · cases hpq : h POOL <;> rw [hpq] at hd <;> try (cases hd; done)
      cases hd; exact .nil
  | int k =>
    cases c <;> simp only [decC] at hd <;> try (cases hd; done)
    split at hd
    · cases hd; exact .nil
    · cases hd
  | bool => cases c <;> simp only [decC] at hd <;> (cases hd; try exact .nil)
  | str => cases c <;> simp only [decC] at hd <;> (cases hd; try exact .nil)
  | nili => cases c <;> simp only [decC] at hd <;> (cases hd; try exact .nil)
  | cp t =>
    cases c <;> simp only [decC] at hd <;> try (cases hd; done)
    rename_i t' y off
    cases off with
    | succ o => simp at hd
    | zero =>
      simp only at hd
      split at hd
      · cases hd; exact .nil
      · cases hd

theorem decCs_noRefs {h : Hp} : ∀ (s : List CSh) (c : List C) (d : Dec (CSh.DL s)), decCs h s c = some d → NoRefs h d.lent
  | [], [], d, hd => by cases hd; exact .nil
  | [], _ :: _, d, hd => by simp [decCs] at hd
  | _ :: _, [], d, hd => by simp [decCs] at hd
  | s :: r, c :: cs, d, hd => by
    simp only [decCs] at hd
    cases ha : decC h s c with
    | none => rw [ha] at hd; cases hd
    | some a =>
      rw [ha] at hd; dsimp only at hd
      cases hb : decCs h r cs with
      | none => rw [hb] at hd; cases hd
      | some b => rw [hb] at hd; cases hd; exact (decC_noRefs s c a ha).app (decCs_noRefs r cs b hb)

theorem decP_noRefs {h : Hp} : ∀ (s : PSh) (c : C) (d : Dec s.D), decP h s c = some d → NoRefs h d.lent
  | .cptr t, c, d, hd => by
    cases c <;> simp only [decP] at hd <;> try (cases hd; done)
    · rename_i id off
      cases off with
      | succ o => simp at hd
      | zero =>
        simp only at hd
        cases hid : h id <;> rw [hid] at hd <;> try (cases hd; done)
        dsimp only at hd
        split at hd
        case isFalse => cases hd
        split at hd
        · rename_i y g hy
          cases hd
          intro i hi u q hu
          rcases List.mem_cons.1 hi with rfl | hi
          · rw [hid] at hu; cases hu
          · exact decD_noRefs t _ _ _ _ hy i hi u q hu
        · cases hd
    · rename_i t' y off
      cases off with
      | succ o => simp at hd
      | zero =>
        simp only at hd
        split at hd
        · cases hd; exact .nil
        · cases hd
  | .box cs, c, d, hd => by
    cases c <;> simp only [decP] at hd <;> try (cases hd; done)
    rename_i id off
    cases off with
    | succ o => simp at hd
    | zero =>
      simp only at hd
      cases hid : h id <;> rw [hid] at hd <;> try (cases hd; done)
      dsimp only at hd
      split at hd
      · rename_i a ha
        cases hd
        exact decCs_noRefs cs _ a ha
      · cases hd

theorem decPs_noRefs {h : Hp} : ∀ (s : List PSh) (c : List C) (d : Dec (PSh.DL s)), decPs h s c = some d → NoRefs h d.lent
  | [], [], d, hd => by cases hd; exact .nil
  | [], _ :: _, d, hd => by simp [decPs] at hd
  | _ :: _, [], d, hd => by simp [decPs] at hd
  | s :: r, c :: cs, d, hd => by
    simp only [decPs] at hd
    cases ha : decP h s c with
    | none => rw [ha] at hd; cases hd
    | some a =>
      rw [ha] at hd; dsimp only at hd
      cases hb : decPs h r cs with
      | none => rw [hb] at hd; cases hd
      | some b => rw [hb] at hd; cases hd; exact (decP_noRefs s c a ha).app (decPs_noRefs r cs b hb)

theorem decS_noRefs {h : Hp} : ∀ (s : Sh) (c : V) (d : Dec s.D), decS h s c = some d → NoRefs h d.lent
  | .c s, c, d, hd => by
    cases c <;> simp only [decS] at hd <;> try (cases hd; done)
    exact decC_noRefs s _ d hd
  | .agg t, c, d, hd => by
    cases c <;> simp only [decS] at hd <;> try (cases hd; done)
    split at hd
    case isFalse => cases hd
    split at hd
    · rename_i y g hy
      cases hd
      exact decD_noRefs t _ _ _ _ hy
    · cases hd
  | .aggc cs, c, d, hd => by
    cases c <;> simp only [decS] at hd <;> try (cases hd; done)
    exact decCs_noRefs cs _ d hd
  | .p s, c, d, hd => by
    cases c <;> simp only [decS] at hd <;> try (cases hd; done)
    exact decP_noRefs s _ d hd
  | .fn f caps, c, d, hd => by
    cases c <;> simp only [decS] at hd <;> try (cases hd; done)
    split at hd
    · split at hd
      · exact decPs_noRefs caps _ d hd
      · cases hd
    · cases hd
  | .any, c, d, hd => by simp only [decS] at hd; cases hd; exact .nil

theorem decSs_noRefs {h : Hp} : ∀ (s : List Sh) (c : List V) (d : Dec (Sh.DL s)), decSs h s c = some d → NoRefs h d.lent
  | [], [], d, hd => by cases hd; exact .nil
  | [], _ :: _, d, hd => by simp [decSs] at hd
  | _ :: _, [], d, hd => by simp [decSs] at hd
  | s :: r, c :: cs, d, hd => by
    simp only [decSs] at hd
    cases ha : decS h s c with
    | none => rw [ha] at hd; cases hd
    | some a =>
      rw [ha] at hd; dsimp only at hd
      cases hb : decSs h r cs with
      | none => rw [hb] at hd; cases hd
      | some b => rw [hb] at hd; cases hd; exact (decS_noRefs s c a ha).app (decSs_noRefs r cs b hb)

theorem one_pool {os : List O} (hc : os.countP O.isPool ≤ 1) {i j : Nat} {u v : Ty} {pl : List (List u.D)} {ql : List (List v.D)} (hi : os[i]? = some (.pool u pl)) (hj : os[j]? = some (.pool v ql)) : i = j := by
  induction os generalizing i j with
  | nil => simp at hi
  | cons o r ih =>
    rw [List.countP_cons] at hc
    cases i with
    | zero =>
      cases j with
      | zero => rfl
      | succ j =>
        simp at hi hj; subst hi
        have h1 : 1 ≤ r.countP O.isPool := List.countP_pos_iff.2 ⟨_, List.mem_of_getElem? hj, rfl⟩
        simp only [O.isPool, if_true] at hc; omega
    | succ i =>
      cases j with
      | zero =>
        simp at hi hj; subst hj
        have h1 : 1 ≤ r.countP O.isPool := List.countP_pos_iff.2 ⟨_, List.mem_of_getElem? hi, rfl⟩
        simp only [O.isPool, if_true] at hc; omega
      | succ j => exact congrArg (· + 1) (ih (by omega) (by simpa using hi) (by simpa using hj))

section
variable {P : Program} {A : Nat → Prop} {w0 : Start} {e : Env} {h : Hp} {w : World}

theorem call_back (m : Mem A w0 e h w) {fc : Fc} {vs : List V} {xs : List Value} {d : Dec (Sh.DL fc.args)} {ids : List Nat} {n : Nat} (hd : decSs h fc.args vs = some d) (hv : RelVs e vs xs) (hids : headIds fc.args d.src fc.outs = some ids)
    (hok : callOk fc d.src d.lent ids n = true) {y : Sh.DL (fc.outs.map (·.2) ++ fc.res)} (hfresh : ∀ p ∈ (callEnd fc h n ids d.src d.lent y).2, n ≤ p.1 → p.1 ≠ POOL → h p.1 = .none) (hpok : poolOk h n d.src (encSs (fc.outs.map (·.2) ++ fc.res) y 0).2 (heads (fc.outs.map (·.2)) 0) = true) {r : Ending} {w' : World} (hl : Left fc (takeE e w d.src d.lent) w y r w') :
    ∃ x e2, r = .returned x ∧ Le e e2 ∧ RelV e2 (callEnd fc h n ids d.src d.lent y).1 x ∧ Mem A w0 e2 (updW h (callEnd fc h n ids d.src d.lent y).2) w' := by
  obtain ⟨v, e', rfl, hrv, hrh, hsep, hfrm, himm, hold, hhead, hvok, hvleft⟩ := hl
  simp only [callOk, Bool.and_eq_true, List.all_eq_true, decide_eq_true_eq, Bool.or_eq_true, beq_iff_eq] at hok
  obtain ⟨⟨⟨⟨⟨⟨⟨hsok, hneed⟩, hnid⟩, hnhd⟩, hltS⟩, hltL⟩, hidn⟩, hpos⟩ := hok
  simp only [poolOk, Bool.and_eq_true, decide_eq_true_eq] at hpok
  obtain ⟨⟨⟨hhs, hnlen⟩, hcount⟩, hpk⟩ := hpok
  have hnP : n < POOL := by omega
  have hlentR : ∀ id ∈ d.lent, ∀ t l, h id = .arr t l → t.noRef = true := decSs_noRefs _ _ _ hd
  obtain ⟨hnd, hdisj⟩ := srcOk_spec hsok
  have hnid' := nodup_of_B _ hnid
  have hnhd' := nodup_of_B _ hnhd
  obtain ⟨hil, hspec⟩ := headIds_spec hids
  have hmem : ∀ i ∈ ids, i ∈ srcIds d.src := fun i hi => by
    obtain ⟨t, ht, hti⟩ := List.getElem_of_mem hi
    obtain ⟨q, _, hq2⟩ := hspec t i (by rw [List.getElem?_eq_getElem ht, hti])
    exact mem_srcIds hq2
  let os := (encSs (fc.outs.map (·.2) ++ fc.res) y 0).2
  let hs := heads (fc.outs.map (·.2)) 0
  have hsl : hs.length = fc.outs.length := by simp [hs, heads_length]
  let ρ := renOf (hs.zip ids) n
  -- the objects that come back
  have hpair : ∀ p i, (p, i) ∈ hs.zip ids → e'.loc p = e.loc i ∧ p < os.length ∧ i ∈ ids := by
    intro p i hpi
    obtain ⟨t, ht, hti⟩ := List.getElem_of_mem hpi
    simp only [List.getElem_zip, Prod.mk.injEq] at hti
    simp only [List.length_zip] at ht
    have h1 : hs[t]? = some p := by rw [List.getElem?_eq_getElem (by omega), hti.1]
    have h2 : ids[t]? = some i := by rw [List.getElem?_eq_getElem (by omega), hti.2]
    obtain ⟨q, hq1, hq2⟩ := hspec t i h2
    refine ⟨?_, ?_, List.mem_of_getElem? h2⟩
    · have hz : (p, (heads fc.args 0).getD q.1 0) ∈ (outHeads fc).zip (argHeads fc) := by
        refine List.mem_of_getElem? (i := t) ?_
        rw [List.getElem?_zip_eq_some]
        exact ⟨h1, by simp [argHeads, hq1]⟩
      rw [hhead _ hz]
      simp only [takeE, hq2, locOf]
      cases hL : e.loc i <;> simp
    · obtain ⟨x0, hx0⟩ := encSs_append (fc.outs.map (·.2)) fc.res y 0
      have := heads_lt (fc.outs.map (·.2)) 0 (fun q hq => by
        obtain ⟨q', hq', rfl⟩ := List.mem_map.1 hq
        exact hpos q' hq') x0 0 p (List.mem_of_getElem? h1)
      show p < (encSs (fc.outs.map (·.2) ++ fc.res) y 0).2.length
      omega
  have hheadpair : ∀ p, p ∈ hs → ∃ i, (p, i) ∈ hs.zip ids := by
    intro p hp
    obtain ⟨t, ht, htp⟩ := List.getElem_of_mem hp
    refine ⟨ids[t]'(by omega), List.mem_of_getElem? (i := t) ?_⟩
    rw [List.getElem?_zip_eq_some]
    exact ⟨by rw [List.getElem?_eq_getElem ht, htp], List.getElem?_eq_getElem _⟩
  have hidpair : ∀ i, i ∈ ids → ∃ p, (p, i) ∈ hs.zip ids := by
    intro i hi
    obtain ⟨t, ht, hti⟩ := List.getElem_of_mem hi
    refine ⟨hs[t]'(by omega), List.mem_of_getElem? (i := t) ?_⟩
    rw [List.getElem?_zip_eq_some]
    exact ⟨List.getElem?_eq_getElem _, by rw [List.getElem?_eq_getElem ht, hti]⟩
  have hpmem : ∀ p i, (p, i) ∈ hs.zip ids → p ∈ hs := fun p i hpi => (List.of_mem_zip hpi).1
  have hzinj : ∀ p i j, (p, i) ∈ hs.zip ids → (p, j) ∈ hs.zip ids → i = j := by
    intro p i j h1 h2
    obtain ⟨t, ht, hti⟩ := List.getElem_of_mem h1
    obtain ⟨u, hu, huj⟩ := List.getElem_of_mem h2
    simp only [List.getElem_zip, Prod.mk.injEq] at hti huj
    simp only [List.length_zip] at ht hu
    have : t = u := nodup_idx (a := p) hnhd' (by rw [← hti.1]; exact List.getElem?_eq_getElem _) (by rw [← huj.1]; exact List.getElem?_eq_getElem _)
    subst this
    exact hti.2.symm.trans huj.2
  have hzinj2 : ∀ p q i, (p, i) ∈ hs.zip ids → (q, i) ∈ hs.zip ids → p = q := by
    intro p q i h1 h2
    obtain ⟨t, ht, hti⟩ := List.getElem_of_mem h1
    obtain ⟨u, hu, huj⟩ := List.getElem_of_mem h2
    simp only [List.getElem_zip, Prod.mk.injEq] at hti huj
    simp only [List.length_zip] at ht hu
    have : t = u := nodup_idx (a := i) hnid' (by rw [← hti.2]; exact List.getElem?_eq_getElem _) (by rw [← huj.2]; exact List.getElem?_eq_getElem _)
    subst this
    exact hti.1.symm.trans huj.1
  -- the numbers
  have hρhead : ∀ p i, (p, i) ∈ hs.zip ids → ρ p = i := by
    intro p i hpi
    rcases renOf_spec (hs.zip ids) n p with ⟨j, h1, h2⟩ | ⟨h1, _⟩
    · exact h2.trans (hzinj _ _ _ h1 hpi)
    · exact (h1 i hpi).elim
  have hρnew : ∀ j, j ∉ hs → ρ j = n + j := by
    intro j hj
    rcases renOf_spec (hs.zip ids) n j with ⟨i, h1, _⟩ | ⟨_, h2⟩
    · exact (hj (hpmem _ _ h1)).elim
    · exact h2
  have hρinj : ∀ i j, ρ i = ρ j → i = j := by
    intro i j hij
    by_cases hi : i ∈ hs
    · obtain ⟨a, ha⟩ := hheadpair i hi
      have h1 := hρhead _ _ ha
      have ha' := (hpair _ _ ha).2.2
      by_cases hj : j ∈ hs
      · obtain ⟨b, hb⟩ := hheadpair j hj
        have h2 := hρhead _ _ hb
        rw [h1, h2] at hij
        subst hij
        exact hzinj2 _ _ _ ha hb
      · have h2 := hρnew j hj
        have := hidn a ha'
        omega
    · have h1 := hρnew i hi
      by_cases hj : j ∈ hs
      · obtain ⟨b, hb⟩ := hheadpair j hj
        have h2 := hρhead _ _ hb
        have := hidn b (hpair _ _ hb).2.2
        omega
      · have h2 := hρnew j hj
        omega
  have hosl : n + os.length < POOL := hnlen
  have hρlt : ∀ j, j < os.length → ρ j < POOL := by
    intro j hj
    by_cases hjs : j ∈ hs
    · obtain ⟨a, ha⟩ := hheadpair j hjs
      rw [hρhead _ _ ha]
      have := hidn a (hpair _ _ ha).2.2
      omega
    · rw [hρnew j hjs]; omega
  let F : Nat × O → Nat × O := fun p => match p.2 with
    | .pool u l => (POOL, .pool u l)
    | o => (ρ p.1, renO ρ o)
  have hFn : ∀ p : Nat × O, p.2.isPool = false → F p = (ρ p.1, renO ρ p.2) := by
    rintro ⟨i, o⟩ hp
    cases o <;> first | rfl | cases hp
  have hFp : ∀ (i : Nat) (u : Ty) (pl : List (List u.D)), F (i, .pool u pl) = (POOL, .pool u pl) := fun _ _ _ => rfl
  have hng : ∀ o ∈ os, o ≠ .gone := encSs_kind _ y 0
  let W := (numbered 0 os).map F
  let base := updW (updW h (deads ((srcIds d.src).filter fun i => !ids.contains i && i != POOL))) (if isPlain fc = true then [] else froze h d.lent)
  have hwr : (callEnd fc h n ids d.src d.lent y).2 = deads ((srcIds d.src).filter fun i => !ids.contains i && i != POOL) ++ (if isPlain fc = true then [] else froze h d.lent) ++ W := rfl
  have hnew : ∀ id, updW h (callEnd fc h n ids d.src d.lent y).2 id = updW base W id := by
    intro id; rw [hwr, updW_append, updW_append]
  have hFid : ∀ j o, os[j]? = some o → (F (j, o)).1 = if o.isPool = true then POOL else ρ j := by
    intro j o hj
    by_cases hp : o.isPool = true
    · rw [if_pos hp]
      obtain ⟨u, pl, rfl⟩ := isPool_spec hp (hng o (List.mem_of_getElem? hj))
      rfl
    · rw [if_neg hp, hFn _ (by simpa using hp)]
  have hW1 : ∀ j o, os[j]? = some o → o.isPool = false → updW base W (ρ j) = renO ρ o := by
    intro j o hj hop
    obtain ⟨l1, l2, h1, h2⟩ := numbered_split (k := 0) hj
    have : W = l1.map F ++ (ρ j, renO ρ o) :: l2.map F := by
      show (numbered 0 os).map F = _
      rw [h1, List.map_append, List.map_cons, hFn (0 + j, o) hop, Nat.zero_add]
    rw [this]
    refine updW_in fun p hp => ?_
    obtain ⟨q, hq, rfl⟩ := List.mem_map.1 hp
    obtain ⟨j', hlt', o', ho', rfl⟩ := h2 q hq
    intro hh
    have hf := hFid j' o' ho'
    rw [Nat.zero_add] at hh
    rw [hf] at hh
    split at hh
    · have := hρlt j (List.getElem?_eq_some_iff.1 hj).1
      omega
    · have := hρinj _ _ hh
      omega
  have hW2 : ∀ id, id ≠ POOL → (∀ j o, os[j]? = some o → o.isPool = false → ρ j ≠ id) → updW base W id = base id := by
    intro id hidP hh
    refine updW_not fun p hp => ?_
    obtain ⟨q, hq, rfl⟩ := List.mem_map.1 hp
    obtain ⟨j, o, hj, rfl⟩ := numbered_mem hq
    rw [Nat.zero_add, hFid j o hj]
    split
    · exact Ne.symm hidP
    · rename_i hop
      exact hh j o hj (by simpa using hop)
  have hWP : ∀ (j : Nat) (u : Ty) (pl : List (List u.D)), os[j]? = some (O.pool u pl) → updW base W POOL = O.pool u pl := by
    intro j u pl hj
    obtain ⟨l1, l2, h1, h2⟩ := numbered_split (k := 0) hj
    have : W = l1.map F ++ (POOL, O.pool u pl) :: l2.map F := by
      show (numbered 0 os).map F = _
      rw [h1, List.map_append, List.map_cons, hFp (0 + j) u pl]
    rw [this]
    refine updW_in fun p hp => ?_
    obtain ⟨q, hq, rfl⟩ := List.mem_map.1 hp
    obtain ⟨j', hlt', o', ho', rfl⟩ := h2 q hq
    rw [Nat.zero_add, hFid j' o' ho']
    split
    · rename_i hop
      obtain ⟨v, ql, rfl⟩ := isPool_spec hop (hng o' (List.mem_of_getElem? ho'))
      have := one_pool hcount hj ho'
      omega
    · have := hρlt j' (List.getElem?_eq_some_iff.1 ho').1
      omega
  have hWN : os.any O.isPool = false → updW base W POOL = base POOL := by
    intro hno
    refine updW_not fun p hp => ?_
    obtain ⟨q, hq, rfl⟩ := List.mem_map.1 hp
    obtain ⟨j, o, hj, rfl⟩ := numbered_mem hq
    have hop : o.isPool = false := by
      cases hb : o.isPool with
      | false => rfl
      | true =>
        have : os.any O.isPool = true := List.any_eq_true.2 ⟨o, List.mem_of_getElem? hj, hb⟩
        rw [this] at hno; cases hno
    rw [Nat.zero_add, hFid j o hj, if_neg (by rw [hop]; exact fun hh => by cases hh)]
    have := hρlt j (List.getElem?_eq_some_iff.1 hj).1
    omega
  have hfr : ∀ j (hj : j < os.length), j ∉ hs → os[j].isPool = false → h (n + j) = .none := by
    intro j hj hjs hop
    have hmemW : (ρ j, renO ρ os[j]) ∈ W := by
      obtain ⟨l1, l2, h1, _⟩ := numbered_split (k := 0) (List.getElem?_eq_getElem hj)
      have : W = l1.map F ++ (ρ j, renO ρ os[j]) :: l2.map F := by
        show (numbered 0 os).map F = _
        rw [h1, List.map_append, List.map_cons, hFn (0 + j, os[j]) hop, Nat.zero_add]
      rw [this]; simp
    have := hfresh (ρ j, renO ρ os[j]) (by rw [hwr]; exact List.mem_append_right _ hmemW) (by rw [hρnew j hjs]; omega) (by have := hρlt j hj; omega)
    rw [hρnew j hjs] at this
    exact this
  let hs' := hs ++ (List.range os.length).filter fun j => (os.getD j .none).isPool
  have hs'_mem : ∀ j, j ∉ hs' → j ∉ hs ∧ ∀ hj : j < os.length, os[j].isPool = false := fun j hj => by
    simp only [hs', List.mem_append, not_or] at hj
    refine ⟨hj.1, fun hlt => ?_⟩
    cases hb : os[j].isPool with
    | false => rfl
    | true =>
      exfalso
      refine hj.2 (List.mem_filter.2 ⟨List.mem_range.2 hlt, ?_⟩)
      have e1 : os.getD j .none = os[j] := by simp [List.getD, List.getElem?_eq_getElem hlt]
      rw [e1]; exact hb
  have hs'_not : ∀ j (hj : j < os.length), j ∉ hs → os[j].isPool = false → j ∉ hs' := fun j hj h1 h2 hin => by
    rcases List.mem_append.1 hin with hin | hin
    · exact h1 hin
    · have := (List.mem_filter.1 hin).2
      have e1 : os.getD j .none = os[j] := by simp [List.getD, List.getElem?_eq_getElem hj]
      rw [e1, h2] at this; cases this
  have hSP : POOL ∈ srcIds d.src → os.any O.isPool = true := fun hP => by
    have hk := hpk
    rw [if_pos (by simpa using hP)] at hk
    exact hk
  have hNP : POOL ∉ srcIds d.src → os.any O.isPool = true → h POOL = .none := fun hP hany => by
    have hk := hpk
    rw [if_neg (by simpa using hP)] at hk
    have hany' : (encSs (fc.outs.map (·.2) ++ fc.res) y 0).2.any O.isPool = true := hany
    rw [hany'] at hk
    simp only [Bool.not_true, Bool.false_or] at hk
    cases hq : h POOL <;> rw [hq] at hk <;> first | rfl | cases hk
  have hbase : ∀ id, base id = if id ∈ d.lent ∧ isPlain fc = false then (match h id with | .arr t x => .fro t x | _ => .dead) else if id ∈ srcIds d.src ∧ id ∉ ids ∧ id ≠ POOL then .dead else h id := by
    intro id
    show updW (updW h _) (if isPlain fc = true then [] else froze h d.lent) id = _
    have hd1 : ∀ id, updW h (deads ((srcIds d.src).filter fun i => !ids.contains i && i != POOL)) id = if id ∈ srcIds d.src ∧ id ∉ ids ∧ id ≠ POOL then .dead else h id := by
      intro id
      rw [updW_deads]
      congr 1
      simp
    by_cases hp : isPlain fc = true
    · rw [if_pos hp]
      simp only [updW, hp, Bool.true_eq_false, and_false, if_false]
      exact hd1 id
    · rw [if_neg hp, updW_froze, hd1]
      have : isPlain fc = false := by simpa using hp
      simp only [this, and_true]
      rfl
  let e2 := backE e e' h (isPlain fc) (os.any O.isPool) n os.length ids hs' d.src d.lent
  have hplain : isPlain fc = true → os = [] := fun hp => by
    simp only [isPlain, Bool.and_eq_true, List.isEmpty_iff] at hp
    have hall : (fc.outs.map (·.2) ++ fc.res).all Sh.plain = true := by rw [hp.1]; simpa using hp.2
    exact (encSs_ground _ y 0 hall).2
  have himm1 : ∀ b o, e.imm b = some o → e'.imm b = some o := fun b o hb => himm b o (giveImm_le m.sep d.lent b o hb)
  have hloc_ids : ∀ i ∈ ids, e2.loc i = e.loc i := fun i hi => by simp only [e2, backE, if_pos hi]
  have hloc_new : ∀ j (hj : j < os.length), j ∉ hs → os[j].isPool = false → e2.loc (n + j) = e'.loc j := by
    intro j hj hjs0 hop
    have hjs := hs'_not j hj hjs0 hop
    have h1 : n + j ∉ ids := fun hh => by have := hidn _ hh; omega
    have hjn : n + j ≠ POOL := by have : os.length = (encSs (fc.outs.map (·.2) ++ fc.res) y 0).2.length := rfl; omega
    have h2 : n + j ∉ srcIds d.src := fun hh => by rcases hltS _ hh with hh | hh <;> omega
    have h3 : n + j ∉ d.lent := fun hh => by have := hltL _ hh; omega
    have h4 : n + j - n = j := by omega
    simp only [e2, backE, if_neg h1, h2, false_and, if_false, h3, if_false, show ¬ (n + j < n) by omega, h4, if_neg hjs, if_pos hj]
  have hun : ∀ id, h id = .none → e.loc id = .un := fun id hh => loc_un m.hp hh
  have hρloc : ∀ j, e'.loc j ≠ .un → e2.loc (ρ j) = e'.loc j := by
    intro j hj
    have hjl : j < os.length := by
      apply Classical.byContradiction
      intro hh
      have := hrh j
      by_cases hjP : j = POOL
      · subst hjP
        have e1 : hpf (encSs (fc.outs.map (·.2) ++ fc.res) y 0).2 POOL = poolOf os := by simp [hpf, look, os]
        rw [e1] at this
        rcases poolOf_cases os with hp | hp | ⟨u, pl, hp⟩ <;> rw [hp] at this
        · exact hj this
        · exact hj this
        · exact hj this.1
      · have e1 : hpf (encSs (fc.outs.map (·.2) ++ fc.res) y 0).2 j = .none := by
          have h0 : (encSs (fc.outs.map (·.2) ++ fc.res) y 0).2[j]? = none := List.getElem?_eq_none (by show os.length ≤ j; omega)
          simp only [hpf, look, if_neg hjP, List.getD, h0]; rfl
        rw [e1] at this
        exact hj this
    have hop : os[j].isPool = false := by
      cases hb : os[j].isPool with
      | false => rfl
      | true =>
        exfalso
        obtain ⟨u, pl, hpo⟩ := isPool_spec hb (hng _ (List.getElem_mem hjl))
        have hro := hrh j
        have hjP : j ≠ POOL := by omega
        have hoj : hpf (encSs (fc.outs.map (·.2) ++ fc.res) y 0).2 j = os[j].hide := by
          show look os j = _
          simp only [look, if_neg hjP]
          simp [List.getD, List.getElem?_eq_getElem hjl]
        rw [hoj, hpo] at hro
        exact hj hro
    by_cases hjs : j ∈ hs
    · obtain ⟨i, hi⟩ := hheadpair j hjs
      rw [hρhead _ _ hi, hloc_ids _ (hpair _ _ hi).2.2, (hpair _ _ hi).1]
    · rw [hρnew j hjs, hloc_new j hjl hjs hop]
  have hle : Le e e2 := by
    refine ⟨fun b o hb => ?_, fun id => ?_, fun k hk => ?_⟩
    rotate_right
    · show (if os.any O.isPool = true then e'.vl else e.vl) k = _
      by_cases hany : os.any O.isPool = true
      · rw [if_pos hany]
        by_cases hP : POOL ∈ srcIds d.src
        · have h1 := take_vl (e := e) (w := w) (lent := d.lent) hP k
          rw [hvleft k (by rw [h1]; exact hk), h1]
        · exact absurd (m.np (hNP hP hany) k) hk
      · rw [if_neg hany]
    · show (if isPlain fc = true then e.imm else e'.imm) b = some o
      split
      · exact hb
      · exact himm1 b o hb
    · simp only [e2, backE]
      split
      · exact .refl _
      · split
        · exact .dead _
        · split
          · split
            · rename_i hL; rw [hL]; exact .fro ..
            · rename_i hL; rw [hL]; exact .refl _
            · exact .dead _
          · split
            · exact .refl _
            · split
              · exact .refl _
              · split
                · rename_i h1 h2 h3 h4 h5 h6
                  have : id = n + (id - n) := by omega
                  have hz := hfr (id - n) h6 (hs'_mem _ h5).1 ((hs'_mem _ h5).2 h6)
                  rw [← this] at hz
                  rw [hun id hz]; exact .un _
                · exact .refl _
  -- a block that belongs to nothing handed over is as it was
  have hkeep : ∀ b, b < w.heap.size → (∀ i ∈ srcIds d.src, (e.loc i).own ≠ some b) → (POOL ∈ srcIds d.src → ∀ k, (e.vl k).own ≠ some b) → ¬ Own (takeE e w d.src d.lent) w b := by
    rintro b hb hn' hv' (hh | ⟨j, hj⟩ | ⟨k, hk⟩)
    · omega
    · obtain ⟨_, _, i, hi, hio⟩ := take_own m hj
      exact hn' i hi hio
    · obtain ⟨hP, hk'⟩ := take_vown m hk
      exact hv' hP k hk'
  have hOwnA : ∀ b, Own (takeE e w d.src d.lent) w b → A b := by
    rintro b (hh | ⟨j, hj⟩ | ⟨k, hk⟩)
    · exact m.new b hh
    · exact (take_own m hj).1
    · exact (m.sep.vown k b (take_vown m hk).2).1
  -- who owns what, behind the call
  have hown : ∀ id b, (e2.loc id).own = some b →
      (∃ p, (p, id) ∈ hs.zip ids ∧ (e'.loc p).own = some b ∧ (e.loc id).own = some b) ∨
      (∃ j, j < os.length ∧ j ∉ hs ∧ id = n + j ∧ (e'.loc j).own = some b) ∨
      ((e.loc id).own = some b ∧ id ∉ srcIds d.src ∧ ¬ (id ∈ d.lent ∧ isPlain fc = false)) := by
    intro id b hb
    have hnotP : (e.loc id).own = some b → ¬ (id ∈ srcIds d.src ∧ id ≠ POOL) → id ∉ srcIds d.src := fun ho hh hin => by
      have hidP : id = POOL := Classical.byContradiction fun hne => hh ⟨hin, hne⟩
      subst hidP
      have h0 := m.hp POOL
      rcases m.pk with k | k | ⟨u, pl, k⟩ <;> rw [k] at h0
      · have h1 : e.loc POOL = .un := h0
        rw [h1] at ho; cases ho
      · have h1 : e.loc POOL = .un := h0
        rw [h1] at ho; cases ho
      · rw [h0.1] at ho; cases ho
    simp only [e2, backE] at hb
    split at hb
    · rename_i h1
      obtain ⟨p, hp⟩ := hidpair id h1
      exact .inl ⟨p, hp, by rw [(hpair _ _ hp).1]; exact hb, hb⟩
    · split at hb
      · cases hb
      · rename_i h1 h2
        split at hb
        · split at hb <;> cases hb
        · rename_i h3
          split at hb
          · exact .inr (.inr ⟨hb, hnotP hb h2, h3⟩)
          · split at hb
            · exact .inr (.inr ⟨hb, hnotP hb h2, h3⟩)
            · rename_i h4 h5
              split at hb
              · rename_i h6
                exact .inr (.inl ⟨id - n, h6, (hs'_mem _ h5).1, by omega, hb⟩)
              · exact .inr (.inr ⟨hb, hnotP hb h2, h3⟩)
  have hkept_block : ∀ id b, (e.loc id).own = some b → id ∉ srcIds d.src → ¬ Own (takeE e w d.src d.lent) w b := by
    intro id b hb hid
    refine hkeep b (RelO.own_lt (m.hp id) hb) (fun i hi hio => ?_) (fun _ k hk => m.sep.vdis _ _ _ hb hk)
    have := m.sep.inj _ _ _ hb hio
    subst this; exact hid hi
  have hkept_vl : ∀ k b, (e.vl k).own = some b → POOL ∉ srcIds d.src → ¬ Own (takeE e w d.src d.lent) w b := fun k b hb hP =>
    hkeep b (m.vlt k b hb) (fun i _ hio => m.sep.vdis _ _ _ hio hb) (fun hh => absurd hh hP)
  have hvl2 : ∀ k, e'.vl k ≠ .un → e2.vl k = e'.vl k := fun k hk => by
    show (if os.any O.isPool = true then e'.vl else e.vl) k = _
    by_cases hany : os.any O.isPool = true
    · rw [if_pos hany]
    · exfalso
      refine hk (hvok.1 ?_ k)
      have : poolOf os = .none := poolOf_none (by simpa using hany)
      simp only [hpf, look, if_true]
      exact this
  have hnoP : ¬ os.any O.isPool = true → POOL ∉ srcIds d.src := fun hany hP => hany (hSP hP)
  have hgetP : os.any O.isPool = true → ∃ (j : Nat) (u : Ty) (pl : List (List u.D)), os[j]? = some (O.pool u pl) := fun hany => by
    obtain ⟨o, ho, hop⟩ := List.any_eq_true.1 hany
    obtain ⟨j, hj⟩ := List.getElem?_of_mem ho
    obtain ⟨u, pl, rfl⟩ := isPool_spec hop (hng o ho)
    exact ⟨j, u, pl, hj⟩
  have hbaseP : base POOL = h POOL := by
    rw [hbase]
    rw [if_neg (fun hh => by have := hltL _ hh.1; omega), if_neg (fun hh => hh.2.2 rfl)]
  have hlocP : e2.loc POOL = .un := by
    have h1 : POOL ∉ ids := fun hh => by have := hidn _ hh; omega
    have h3 : POOL ∉ d.lent := fun hh => by have := hltL _ hh; omega
    have hlen : n + os.length < POOL := hnlen
    have h5 : POOL - n ∉ hs' := fun hh => by
      rcases List.mem_append.1 hh with hh | hh
      · obtain ⟨i, hi⟩ := hheadpair _ hh
        have := (hpair _ _ hi).2.1
        omega
      · have := List.mem_range.1 (List.mem_filter.1 hh).1
        omega
    have : e2.loc POOL = e.loc POOL := by
      simp only [e2, backE, if_neg h1, ne_eq, not_true_eq_false, and_false, if_false, h3, false_and, show ¬ (POOL < n) by omega, if_neg h5, show ¬ (POOL - n < os.length) by omega]
    rw [this]
    have h0 := m.hp POOL
    rcases m.pk with k | k | ⟨u, pl, k⟩ <;> rw [k] at h0
    · exact h0
    · exact h0
    · exact h0.1
  refine ⟨v, e2, rfl, hle, ?_, ?_⟩
  · -- the result
    show RelV e2 (resV (((encSs (fc.outs.map (·.2) ++ fc.res) y 0).1.drop fc.outs.length).map (renV ρ))) v
    rw [resV_ren]
    by_cases hp : isPlain fc = true
    · have hp' := hp
      simp only [isPlain, Bool.and_eq_true, List.isEmpty_iff] at hp'
      have hall : (fc.outs.map (·.2) ++ fc.res).all Sh.plain = true := by rw [hp'.1]; simpa using hp'.2
      obtain ⟨hg, _⟩ := encSs_ground _ y 0 hall
      have hg2 : VGround (resV ((encSs (fc.outs.map (·.2) ++ fc.res) y 0).1.drop fc.outs.length)) := resV_ground fun v hv => hg v (List.mem_of_mem_drop hv)
      have hg3 : VGround (renV ρ (resV ((encSs (fc.outs.map (·.2) ++ fc.res) y 0).1.drop fc.outs.length))) ∧ RelV e' (renV ρ (resV ((encSs (fc.outs.map (·.2) ++ fc.res) y 0).1.drop fc.outs.length))) v := by
        generalize resV ((encSs (fc.outs.map (·.2) ++ fc.res) y 0).1.drop fc.outs.length) = z at hg2 hrv
        have hc : ∀ c, CGround c = true → renC ρ c = c := by intro c hc; cases c <;> first | rfl | simp [CGround] at hc
        have hcs : ∀ l : List C, (∀ c ∈ l, CGround c = true) → l.map (renC ρ) = l := fun l hl => by
          rw [List.map_congr_left (fun c hc' => hc c (hl c hc')), List.map_id']
        have : renV ρ z = z := by
          cases z with
          | one c => simp only [renV]; rw [hc c hg2]
          | agg l => simp only [renV]; rw [hcs l hg2]
          | tup l =>
            simp only [renV]
            congr 1
            have : ∀ p ∈ l, (p.1, p.2.map (renC ρ)) = p := fun p hp => by rw [hcs _ (hg2 p hp)]
            rw [List.map_congr_left this, List.map_id']
          | any => rfl
        rw [this]
        exact ⟨hg2, hrv⟩
      exact VGround_rel _ _ hg3.1 hg3.2
    · refine renV_rel (fun b o hb => ?_) hρloc hvl2 _ _ hrv
      show (if isPlain fc = true then e.imm else e'.imm) b = some o
      rw [if_neg hp]; exact hb
  · refine ⟨fun id => ?_, ⟨fun b o hb => ?_, fun id b hb => ?_, fun i j b hi hj => ?_, fun k b hb => ?_, fun k j b hk hj => ?_, fun i k b hi hk => ?_, m.sep.tb.mono hle.imm⟩, m.frm.trans ⟨hfrm.os, hfrm.tape, hfrm.output, hfrm.size, fun b hb => hfrm.block b (fun hh => hb (hOwnA b hh))⟩, fun b hb => m.new b (Nat.le_trans hfrm.size hb), fun b o hb => ?_, fun b o hb => hle.imm b o (m.keep b o hb), fun hp k => ?_, fun k hk => ?_, fun k b hb => ?_, fun i u pl hi => ?_, ?_⟩
    · -- the objects
      rw [hnew]
      by_cases hidP : id = POOL
      · subst hidP
        rw [hlocP]
        by_cases hany : os.any O.isPool = true
        · obtain ⟨j, u, pl, hj⟩ := hgetP hany
          rw [hWP j u pl hj]
          have hro := hrh POOL
          have hoj : hpf (encSs (fc.outs.map (·.2) ++ fc.res) y 0).2 POOL = .pool u pl := by
            simp only [hpf, look, if_true]
            exact poolOf_at hcount hj
          rw [hoj] at hro
          obtain ⟨_, q2, q3⟩ := hro
          have hev : ∀ k, e2.vl k = e'.vl k := fun k => by
            show (if os.any O.isPool = true then e'.vl else e.vl) k = _
            rw [if_pos hany]
          have hpl : ¬ isPlain fc = true := fun hp => by
            have := hplain hp
            rw [this] at hj; simp at hj
          refine ⟨rfl, fun k hk => by rw [hev]; exact q2 k hk, fun k hk => ?_⟩
          rw [hev]
          rcases q3 k hk with q | ⟨b, o, cap, cs, E, fz, q1, q2, q3, q4, q5, q6⟩
          · exact .inl q
          · refine .inr ⟨b, o, cap, cs, E, fz, q1, q2, q3, q4, q5, fun i hi => encD_vl (fun b o hb => ?_) (fun k _ => hev k) _ _ _ (q6 i hi)⟩
            show (if isPlain fc = true then e.imm else e'.imm) b = some o
            rw [if_neg hpl]; exact hb
        · rw [hWN (by simpa using hany), hbaseP]
          have hP := hnoP hany
          have h0 := m.hp POOL
          have hL : e.loc POOL = .un := by
            rcases m.pk with k | k | ⟨u, pl, k⟩ <;> rw [k] at h0
            · exact h0
            · exact h0
            · exact h0.1
          rw [← hL]
          exact RelO.mono hle (fun b hb => by rw [hL] at hb; cases hb) (fun u pl _ => ⟨by
            show (if os.any O.isPool = true then e'.vl else e.vl) = _
            rw [if_neg hany], fun k b hb => hfrm.block b (hkept_vl k b hb hP)⟩) h0
      by_cases hex : ∃ j, ∃ hj : j < os.length, os[j].isPool = false ∧ ρ j = id
      · obtain ⟨j, hj, hop', rfl⟩ := hex
        have hro := hrh j
        have hjP : j ≠ POOL := by omega
        have hoj : hpf (encSs (fc.outs.map (·.2) ++ fc.res) y 0).2 j = os[j].hide := by
          show look os j = _
          simp only [look, if_neg hjP]
          simp [List.getD, List.getElem?_eq_getElem hj]
        rw [hoj] at hro
        rw [hW1 j os[j] (List.getElem?_eq_getElem hj) hop']
        have hhide : os[j].hide = os[j] := by
          cases ho : os[j] <;> rw [ho] at hop' <;> first | rfl | cases hop'
        rw [hhide] at hro
        have hloc : e2.loc (ρ j) = e'.loc j := by
          by_cases hjs : j ∈ hs
          · obtain ⟨i, hi⟩ := hheadpair j hjs
            rw [hρhead _ _ hi, hloc_ids _ (hpair _ _ hi).2.2, (hpair _ _ hi).1]
          · rw [hρnew j hjs, hloc_new j hj hjs hop']
        rw [hloc]
        by_cases hp : isPlain fc = true
        · -- nothing comes back
          exfalso
          simp only [isPlain, Bool.and_eq_true, List.isEmpty_iff] at hp
          have hall : (fc.outs.map (·.2) ++ fc.res).all Sh.plain = true := by rw [hp.1]; simpa using hp.2
          have := (encSs_ground _ y 0 hall).2
          have : os = [] := this
          rw [this] at hj; simp at hj
        · refine renO_rel (fun b o hb => ?_) hρloc hvl2 hop' hro
          show (if isPlain fc = true then e.imm else e'.imm) b = some o
          rw [if_neg hp]; exact hb
      · rw [hW2 id hidP (fun j o hj hop hh => hex ⟨j, (List.getElem?_eq_some_iff.1 hj).1, by rw [(List.getElem?_eq_some_iff.1 hj).2]; exact hop, hh⟩), hbase]
        have hni : id ∉ ids := fun hi => by
          obtain ⟨p, hp⟩ := hidpair id hi
          refine hex ⟨p, (hpair _ _ hp).2.1, ?_, hρhead _ _ hp⟩
          have hin := List.all_eq_true.1 hhs p (hpmem _ _ hp)
          have e1 : (encSs (fc.outs.map (·.2) ++ fc.res) y 0).2.getD p .none = os[p]'(hpair _ _ hp).2.1 := by simp [List.getD, List.getElem?_eq_getElem (hpair _ _ hp).2.1, os]
          rw [e1] at hin
          simpa using hin
        by_cases h1 : id ∈ d.lent ∧ isPlain fc = false
        · rw [if_pos h1]
          have h2 : id ∉ srcIds d.src := fun hh => hdisj id hh h1.1
          have hloc : e2.loc id = (match h id, e.loc id with
            | .arr _ _, .arr b o sz cap n => .fro b o sz cap n
            | .arr _ _, .nil => .nil
            | _, _ => .dead) := by simp only [e2, backE, if_neg hni, h2, false_and, if_false, if_pos h1]
          rw [hloc]
          have ho := m.hp id
          cases hid : h id with
          | arr t l =>
            rw [hid] at ho
            rcases ho with ⟨hL, hn0⟩ | ⟨b, o, cap, cs, E, fz, hL, hn0, hb, hu, hs', hr0⟩
            · rw [hL]; exact .inl ⟨rfl, hn0⟩
            · have hr := RowsC.plain (hlentR id h1.1 t l hid) hr0
              rw [hL]
              refine .inr ⟨b, o, cap, cs, E, fz, rfl, hn0, ?_, ?_⟩
              · show (if isPlain fc = true then e.imm else e'.imm) b = _
                rw [if_neg (by simp [h1.2])]
                apply himm
                show giveImm e w d.lent b = _
                unfold giveImm
                rw [if_pos ⟨id, h1.1, by rw [hL]; rfl⟩]; exact hb
              · refine hr.mono fun b o hb => ?_
                show (if isPlain fc = true then e.imm else e'.imm) b = _
                rw [if_neg (by simp [h1.2])]; exact himm1 b o hb
          | _ => rfl
        · rw [if_neg h1]
          by_cases h2 : id ∈ srcIds d.src
          · rw [if_pos ⟨h2, hni, hidP⟩]
            simp only [e2, backE, if_neg hni, if_pos (show id ∈ srcIds d.src ∧ id ≠ POOL from ⟨h2, hidP⟩)]; rfl
          · rw [if_neg (fun hh => h2 hh.1)]
            have hloc : e2.loc id = e.loc id := by
              simp only [e2, backE, if_neg hni, h2, false_and, if_false, if_neg h1]
              split
              · rfl
              · split
                · rfl
                · split
                  · rename_i h4 h5 h6
                    exact (hex ⟨id - n, h6, (hs'_mem _ h5).2 h6, by rw [hρnew _ (hs'_mem _ h5).1]; omega⟩).elim
                  · rfl
            rw [hloc]
            exact RelO.mono hle (fun b hb => hfrm.block b (hkept_block id b hb h2)) (fun u pl hpp => absurd (m.one id u pl hpp) hidP) (m.hp id)
    · -- unwritten blocks
      by_cases hp : isPlain fc = true
      · have hb' : e.imm b = some o := by
          have : (if isPlain fc = true then e.imm else e'.imm) b = some o := hb
          rwa [if_pos hp] at this
        exact hsep.imm b o (himm1 b o hb')
      · have hb' : e'.imm b = some o := by
          have : (if isPlain fc = true then e.imm else e'.imm) b = some o := hb
          rwa [if_neg hp] at this
        exact hsep.imm b o hb'
    · -- owned blocks
      have himm2 : ¬ isPlain fc = true → e2.imm b = e'.imm b := fun hp => by
        show (if isPlain fc = true then e.imm else e'.imm) b = _
        rw [if_neg hp]
      have himm3 : isPlain fc = true → e2.imm b = e.imm b := fun hp => by
        show (if isPlain fc = true then e.imm else e'.imm) b = _
        rw [if_pos hp]
      have hnone : ∀ {b}, e'.imm b = .none → e.imm b = .none := fun {b} hb => by
        cases hc : e.imm b with
        | none => rfl
        | some o => rw [himm1 b o hc] at hb; cases hb
      rcases hown id b hb with ⟨p, hp, h1, h2⟩ | ⟨j, hj, hjs, rfl, h1⟩ | ⟨h1, h2, h3⟩
      · have := hsep.own p b h1
        refine ⟨(m.sep.own id b h2).1, ?_⟩
        by_cases hpl : isPlain fc = true
        · rw [himm3 hpl]; exact hnone this.2
        · rw [himm2 hpl]; exact this.2
      · have := hsep.own j b h1
        refine ⟨hOwnA b this.1, ?_⟩
        by_cases hpl : isPlain fc = true
        · rw [himm3 hpl]; exact hnone this.2
        · rw [himm2 hpl]; exact this.2
      · obtain ⟨hA, hI⟩ := m.sep.own id b h1
        refine ⟨hA, ?_⟩
        by_cases hpl : isPlain fc = true
        · rw [himm3 hpl]; exact hI
        · rw [himm2 hpl]
          cases hc : e'.imm b with
          | none => rfl
          | some o =>
            exfalso
            rcases hold b o hc with hh | hh
            · have hh' : giveImm e w d.lent b = some o := hh
              unfold giveImm at hh'
              split at hh'
              · rename_i hx
                obtain ⟨i, hi, hio⟩ := hx
                have := m.sep.inj _ _ _ hio h1
                subst this
                exact h3 ⟨hi, by simpa using hpl⟩
              · rw [hI] at hh'; cases hh'
            · exact hkept_block id b h1 h2 hh
    · -- no block twice
      rcases hown i b hi with ⟨p, hp, h1, h2⟩ | ⟨j1, hj1, hjs1, rfl, h1⟩ | ⟨h1, h2, h3⟩ <;> rcases hown j b hj with ⟨q, hq, k1, k2⟩ | ⟨j2, hj2, hjs2, rfl, k1⟩ | ⟨k1, k2, k3⟩
      · exact m.sep.inj _ _ _ h2 k2
      · have := hsep.inj _ _ _ h1 k1
        subst this; exact (hjs2 (hpmem _ _ hp)).elim
      · exact m.sep.inj _ _ _ h2 k1
      · have := hsep.inj _ _ _ h1 k1
        subst this; exact (hjs1 (hpmem _ _ hq)).elim
      · have := hsep.inj _ _ _ h1 k1
        subst this; rfl
      · exact (hkept_block _ b k1 k2 (hsep.own j1 b h1).1).elim
      · exact m.sep.inj _ _ _ h1 k2
      · exact (hkept_block _ b h1 h2 (hsep.own j2 b k1).1).elim
      · exact m.sep.inj _ _ _ h1 k1
    · -- the pool's blocks
      by_cases hany : os.any O.isPool = true
      · have hb' : (e'.vl k).own = some b := by
          have : ((if os.any O.isPool = true then e'.vl else e.vl) k).own = some b := hb
          rwa [if_pos hany] at this
        obtain ⟨q1, q2⟩ := hsep.vown k b hb'
        have hpl : ¬ isPlain fc = true := fun hp => by rw [hplain hp] at hany; cases hany
        refine ⟨hOwnA b q1, ?_⟩
        show (if isPlain fc = true then e.imm else e'.imm) b = _
        rw [if_neg hpl]; exact q2
      · have hb' : (e.vl k).own = some b := by
          have : ((if os.any O.isPool = true then e'.vl else e.vl) k).own = some b := hb
          rwa [if_neg hany] at this
        obtain ⟨q1, q2⟩ := m.sep.vown k b hb'
        refine ⟨q1, ?_⟩
        show (if isPlain fc = true then e.imm else e'.imm) b = _
        by_cases hpl : isPlain fc = true
        · rw [if_pos hpl]; exact q2
        · rw [if_neg hpl]
          cases hc : e'.imm b with
          | none => rfl
          | some o =>
            exfalso
            rcases hold b o hc with hh | hh
            · have hh' : giveImm e w d.lent b = some o := hh
              unfold giveImm at hh'
              split at hh'
              · rename_i hx
                obtain ⟨i, hi, hio⟩ := hx
                exact m.sep.vdis _ _ _ hio hb'
              · rw [q2] at hh'; cases hh'
            · exact hkept_vl k b hb' (hnoP hany) hh
    · by_cases hany : os.any O.isPool = true
      · have hk' : (e'.vl k).own = some b := by
          have : ((if os.any O.isPool = true then e'.vl else e.vl) k).own = some b := hk
          rwa [if_pos hany] at this
        have hj' : (e'.vl j).own = some b := by
          have : ((if os.any O.isPool = true then e'.vl else e.vl) j).own = some b := hj
          rwa [if_pos hany] at this
        exact hsep.vinj _ _ _ hk' hj'
      · have hk' : (e.vl k).own = some b := by
          have : ((if os.any O.isPool = true then e'.vl else e.vl) k).own = some b := hk
          rwa [if_neg hany] at this
        have hj' : (e.vl j).own = some b := by
          have : ((if os.any O.isPool = true then e'.vl else e.vl) j).own = some b := hj
          rwa [if_neg hany] at this
        exact m.sep.vinj _ _ _ hk' hj'
    · by_cases hany : os.any O.isPool = true
      · have hk' : (e'.vl k).own = some b := by
          have : ((if os.any O.isPool = true then e'.vl else e.vl) k).own = some b := hk
          rwa [if_pos hany] at this
        rcases hown i b hi with ⟨p, hp, h1, h2⟩ | ⟨j1, hj1, hjs1, rfl, h1⟩ | ⟨h1, h2, h3⟩
        · exact hsep.vdis _ _ _ h1 hk'
        · exact hsep.vdis _ _ _ h1 hk'
        · exact hkept_block i b h1 h2 (hsep.vown k b hk').1
      · have hk' : (e.vl k).own = some b := by
          have : ((if os.any O.isPool = true then e'.vl else e.vl) k).own = some b := hk
          rwa [if_neg hany] at this
        rcases hown i b hi with ⟨p, hp, h1, h2⟩ | ⟨j1, hj1, hjs1, rfl, h1⟩ | ⟨h1, h2, h3⟩
        · exact m.sep.vdis _ _ _ h2 hk'
        · exact hkept_vl k b hk' (hnoP hany) (hsep.own j1 b h1).1
        · exact m.sep.vdis _ _ _ h1 hk'
    · by_cases hp : isPlain fc = true
      · have hb' : e.imm b = some o := by
          have : (if isPlain fc = true then e.imm else e'.imm) b = some o := hb
          rwa [if_pos hp] at this
        exact m.old b o hb'
      · have hb' : e'.imm b = some o := by
          have : (if isPlain fc = true then e.imm else e'.imm) b = some o := hb
          rwa [if_neg hp] at this
        rcases hold b o hb' with hh | hh
        · have hh' : giveImm e w d.lent b = some o := hh
          unfold giveImm at hh'
          split at hh'
          · rename_i hx
            obtain ⟨i, hi, hio⟩ := hx
            exact .inr (m.sep.own i b hio).1
          · exact m.old b o hh'
        · exact .inr (hOwnA b hh)
    · rw [hnew] at hp
      by_cases hany : os.any O.isPool = true
      · obtain ⟨j, u, pl, hj⟩ := hgetP hany
        rw [hWP j u pl hj] at hp; cases hp
      · rw [hWN (by simpa using hany), hbaseP] at hp
        show (if os.any O.isPool = true then e'.vl else e.vl) k = _
        rw [if_neg hany]
        exact m.np hp k
    · rw [hle.vl k (by rw [m.vkeep k hk]; exact hk)]
      exact m.vkeep k hk
    · by_cases hany : os.any O.isPool = true
      · have hb' : (e'.vl k).own = some b := by
          have : ((if os.any O.isPool = true then e'.vl else e.vl) k).own = some b := hb
          rwa [if_pos hany] at this
        exact hvok.2 k b hb'
      · have hb' : (e.vl k).own = some b := by
          have : ((if os.any O.isPool = true then e'.vl else e.vl) k).own = some b := hb
          rwa [if_neg hany] at this
        exact Nat.lt_of_lt_of_le (m.vlt k b hb') hfrm.size
    · apply Classical.byContradiction
      intro hidP
      rw [hnew] at hi
      by_cases hex : ∃ j o, os[j]? = some o ∧ o.isPool = false ∧ ρ j = i
      · obtain ⟨j, o, hj, hop, rfl⟩ := hex
        rw [hW1 j o hj hop] at hi
        cases o <;> first | (cases hi; done) | (cases hop; done)
      · rw [hW2 i hidP (fun j o hj hop hh => hex ⟨j, o, hj, hop, hh⟩), hbase] at hi
        split at hi
        · cases hq : h i <;> rw [hq] at hi <;> cases hi
        · split at hi
          · cases hi
          · exact hidP (m.one i u pl hi)
    · rw [hnew]
      by_cases hany : os.any O.isPool = true
      · obtain ⟨j, u, pl, hj⟩ := hgetP hany
        rw [hWP j u pl hj]
        exact .inr (.inr ⟨u, pl, rfl⟩)
      · rw [hWN (by simpa using hany), hbaseP]
        exact m.pk
end
end Go.Proofs.Ytmcdddghlcllbaa.Den
