/- Regions whose order is open: in every order the Go run comes to what the abstract machine comes to in the text's. -/
import Derived.Test.YtmcdddghlcllbaaT
set_option autoImplicit false
set_option linter.unusedVariables false
set_option linter.unusedSimpArgs false
namespace Go.Proofs.Ytmcdddghlcllbaa.Den
open Classical

/-! ## Who is done before whom -/

theorem maskOf_bit : ∀ (es : List Edge) (acc : List Nat) (q : Nat), (maskOf acc es).testBit q = true → ∃ e ∈ es, Region.binds .any e = true ∧ (e.on = q ∨ (acc.getD e.on 0).testBit q = true)
  | [], acc, q, h => by simp [maskOf] at h
  | e :: r, acc, q, h => by
    simp only [maskOf] at h
    split at h
    · rename_i hb
      simp only [Nat.testBit_or, Bool.or_eq_true] at h
      rcases h with (h | h) | h
      · rw [Nat.testBit_two_pow] at h
        exact ⟨e, by simp, hb, .inl (by simpa using h)⟩
      · exact ⟨e, by simp, hb, .inr h⟩
      · obtain ⟨e', h1, h2⟩ := maskOf_bit r acc q h
        exact ⟨e', by simp [h1], h2⟩
    · obtain ⟨e', h1, h2⟩ := maskOf_bit r acc q h
      exact ⟨e', by simp [h1], h2⟩

theorem masks_prefix : ∀ (ops : List Oper) (acc : List Nat) (i : Nat), i < acc.length → (masks acc ops).getD i 0 = acc.getD i 0
  | [], acc, i, h => rfl
  | o :: r, acc, i, h => by
    rw [masks, masks_prefix r _ i (by simp; omega)]
    simp [List.getD, List.getElem?_append_left h]

theorem masks_bit : ∀ (ops : List Oper) (acc : List Nat) (i q : Nat), acc.length ≤ i → ((masks acc ops).getD i 0).testBit q = true →
    ∃ o, ops[i - acc.length]? = some o ∧ ∃ e ∈ o.after.toList, Region.binds .any e = true ∧ (e.on = q ∨ ((masks acc ops).getD e.on 0).testBit q = true)
  | [], acc, i, q, h, hb => by
    have : acc[i]? = none := List.getElem?_eq_none h
    simp [masks, List.getD, this] at hb
  | o :: r, acc, i, q, h, hb => by
    rw [masks] at hb ⊢
    by_cases hi : i = acc.length
    · subst hi
      rw [masks_prefix r _ _ (by simp)] at hb
      have h1 : (acc ++ [maskOf acc o.after.toList]).getD acc.length 0 = maskOf acc o.after.toList := by simp [List.getD]
      rw [h1] at hb
      obtain ⟨e, he, hbd, hq⟩ := maskOf_bit _ _ _ hb
      refine ⟨o, by simp, e, he, hbd, hq.imp id fun hq => ?_⟩
      by_cases hlt : e.on < acc.length
      · rw [masks_prefix r _ _ (by simp; omega)]
        simpa [List.getD, List.getElem?_append_left hlt] using hq
      · have : acc[e.on]? = none := List.getElem?_eq_none (by omega)
        simp [List.getD, this] at hq
    · obtain ⟨o', h1, h2⟩ := masks_bit r (acc ++ [maskOf acc o.after.toList]) i q (by simp; omega) hb
      refine ⟨o', ?_, h2⟩
      simp only [List.length_append, List.length_singleton] at h1
      rw [show i - acc.length = (i - (acc.length + 1)) + 1 by omega]
      simpa using h1

/-! ## Some of the operations, in the text's order -/

structure Step where
  dst : Option Nat
  v : V
  wr : List (Nat × O)
  rd : List Nat
  ran : Bool

def frS (st : Nat → Step) (fr : List V) (p : Nat → Bool) : Nat → List V
  | 0 => fr
  | n + 1 => if p n = true then putS (frS st fr p n) (st n).dst (st n).v else frS st fr p n

def hS (st : Nat → Step) (h : Hp) (p : Nat → Bool) : Nat → Hp
  | 0 => h
  | n + 1 => if p n = true then updW (hS st h p n) (st n).wr else hS st h p n

theorem putS_length (fr : List V) (d : Option Nat) (v : V) : (putS fr d v).length = fr.length := by cases d <;> simp [putS]

theorem frS_length (st : Nat → Step) (fr : List V) (p : Nat → Bool) : ∀ n, (frS st fr p n).length = fr.length
  | 0 => rfl
  | n + 1 => by rw [frS]; split <;> simp [putS_length, frS_length st fr p n]

theorem putS_get (fr : List V) (d : Option Nat) (v : V) (x : Nat) : (putS fr d v).getD x undefV = if d = some x ∧ x < fr.length then v else fr.getD x undefV := by
  cases d with
  | none => simp [putS]
  | some t =>
    simp only [putS, Option.some.injEq]
    by_cases hx : t = x
    · subst hx
      by_cases hlt : t < fr.length
      · simp [List.getD, hlt]
      · rw [List.set_eq_of_length_le (by omega), if_neg (by omega)]
    · rw [if_neg (by simp [hx])]
      simp [List.getD, List.getElem?_set_ne hx]

theorem frS_agree (st : Nat → Step) (fr : List V) (p q : Nat → Bool) (x : Nat) : ∀ n, (∀ j, j < n → p j ≠ q j → (st j).dst ≠ some x) → (frS st fr p n).getD x undefV = (frS st fr q n).getD x undefV
  | 0, _ => rfl
  | n + 1, hn => by
    have ih := frS_agree st fr p q x n (fun j hj => hn j (by omega))
    have h0 := hn n (by omega)
    rw [frS, frS]
    cases hp : p n <;> cases hq : q n <;> simp only [if_true, if_false, Bool.false_eq_true]
    · exact ih
    · rw [putS_get, if_neg (fun hh => h0 (by rw [hp, hq]; simp) hh.1)]; exact ih
    · rw [putS_get, if_neg (fun hh => h0 (by rw [hp, hq]; simp) hh.1)]; exact ih
    · rw [putS_get, putS_get, ih, frS_length, frS_length]

theorem updW_or (wr : List (Nat × O)) (id : Nat) : (∀ h : Hp, updW h wr id = h id) ∨ ((∃ p ∈ wr, p.1 = id) ∧ ∃ o, ∀ h : Hp, updW h wr id = o) := by
  induction wr with
  | nil => exact .inl fun h => rfl
  | cons a r ih =>
    obtain ⟨i, o⟩ := a
    rcases ih with ih | ⟨⟨p, hp, hpi⟩, o', ih⟩
    · by_cases hi : id = i
      · subst hi
        exact .inr ⟨⟨(id, o), by simp, rfl⟩, o, fun h => by rw [updW, ih]; simp⟩
      · exact .inl fun h => by rw [updW, ih]; simp [hi]
    · exact .inr ⟨⟨p, by simp [hp], hpi⟩, o', fun h => by rw [updW]; exact ih _⟩

theorem updW_out {wr : List (Nat × O)} {id : Nat} (hn : id ∉ wr.map (·.1)) (h : Hp) : updW h wr id = h id :=
  updW_not fun p hp hh => hn (List.mem_map.2 ⟨p, hp, hh⟩)

theorem hS_agree (st : Nat → Step) (h : Hp) (p q : Nat → Bool) (id : Nat) : ∀ n, (∀ j, j < n → p j ≠ q j → id ∉ (st j).wr.map (·.1)) → hS st h p n id = hS st h q n id
  | 0, _ => rfl
  | n + 1, hn => by
    have ih := hS_agree st h p q id n (fun j hj => hn j (by omega))
    have h0 := hn n (by omega)
    rw [hS, hS]
    cases hp : p n <;> cases hq : q n <;> simp only [if_true, if_false, Bool.false_eq_true]
    · exact ih
    · rw [updW_out (h0 (by rw [hp, hq]; simp))]; exact ih
    · rw [updW_out (h0 (by rw [hp, hq]; simp))]; exact ih
    · rcases updW_or (st n).wr id with hc | ⟨_, o, hc⟩
      · rw [hc, hc]; exact ih
      · rw [hc, hc]

theorem frS_beyond (st : Nat → Step) (fr : List V) (p : Nat → Bool) (i : Nat) (hp : ∀ j, i ≤ j → p j = false) : ∀ n, i ≤ n → frS st fr p n = frS st fr p i
  | 0, h => by rw [show i = 0 by omega]
  | n + 1, h => by
    by_cases hi : i = n + 1
    · rw [hi]
    · rw [frS, hp n (by omega)]
      simpa using frS_beyond st fr p i hp n (by omega)

theorem hS_beyond (st : Nat → Step) (h : Hp) (p : Nat → Bool) (i : Nat) (hp : ∀ j, i ≤ j → p j = false) : ∀ n, i ≤ n → hS st h p n = hS st h p i
  | 0, h => by rw [show i = 0 by omega]
  | n + 1, h' => by
    by_cases hi : i = n + 1
    · rw [hi]
    · rw [hS, hp n (by omega)]
      simpa using hS_beyond st h p i hp n (by omega)

/-- One more, behind those that have been done. -/
theorem frS_add (st : Nat → Step) (fr : List V) (p q : Nat → Bool) (i : Nat) (hp : p i = false) (hq : q i = true) (hpq : ∀ j, j ≠ i → q j = p j) (x : Nat) : ∀ n, i < n → (∀ j, i < j → j < n → p j = true → (st i).dst = some x → (st j).dst ≠ some x) →
    (frS st fr q n).getD x undefV = (putS (frS st fr p n) (st i).dst (st i).v).getD x undefV
  | 0, h, _ => by omega
  | n + 1, h, hd => by
    by_cases hi : i = n
    · subst hi
      rw [frS, frS, hp, hq]
      simp only [if_true, Bool.false_eq_true, if_false]
      rw [putS_get, putS_get, frS_length, frS_length, frS_agree st fr q p x i (fun j hj hne => (hne (hpq j (by omega))).elim)]
    · have ih := frS_add st fr p q i hp hq hpq x n (by omega) (fun j h1 h2 => hd j h1 (by omega))
      rw [frS, frS, hpq n (fun hh => hi hh.symm)]
      cases hpn : p n
      · simpa using ih
      · simp only [if_true]
        rw [putS_get, ih, putS_get, putS_get, putS_get, frS_length, putS_length, frS_length]
        by_cases h1 : (st n).dst = some x
        · have h2 : (st i).dst ≠ some x := fun hh => hd n (by omega) (by omega) hpn hh h1
          simp [h1, h2]
        · simp [h1]

theorem hS_add (st : Nat → Step) (h : Hp) (p q : Nat → Bool) (i : Nat) (hp : p i = false) (hq : q i = true) (hpq : ∀ j, j ≠ i → q j = p j) (id : Nat) : ∀ n, i < n → (∀ j, i < j → j < n → p j = true → id ∈ (st i).wr.map (·.1) → id ∉ (st j).wr.map (·.1)) →
    hS st h q n id = updW (hS st h p n) (st i).wr id
  | 0, h, _ => by omega
  | n + 1, h', hd => by
    by_cases hi : i = n
    · subst hi
      rw [hS, hS, hp, hq]
      simp only [if_true, Bool.false_eq_true, if_false]
      have := hS_agree st h q p id i (fun j hj hne => (hne (hpq j (by omega))).elim)
      rcases updW_or (st i).wr id with hc | ⟨_, o, hc⟩
      · rw [hc, hc]; exact this
      · rw [hc, hc]
    · have ih := hS_add st h p q i hp hq hpq id n (by omega) (fun j h1 h2 => hd j h1 (by omega))
      rw [hS, hS, hpq n (fun hh => hi hh.symm)]
      cases hpn : p n
      · simpa using ih
      · simp only [if_true]
        rcases updW_or (st i).wr id with hc | ⟨⟨r, hr, hri⟩, o, hc⟩
        · rw [hc]
          rw [hc] at ih
          rcases updW_or (st n).wr id with hc' | ⟨_, o', hc'⟩
          · rw [hc', hc']; exact ih
          · rw [hc', hc']
        · rw [hc] at ih ⊢
          rw [updW_out (hd n (by omega) (by omega) hpn (List.mem_map.2 ⟨r, hr, hri⟩))]
          exact ih

/-! ## The path of the text's order -/

def rdOf (s : St) (o : Oper) : List Nat := rdIds o.op s.h (o.op.operands.toList.flatMap fun x => (evalO s.fr x).ids)

inductive Path (P : Program) (tbl : List Fc) (k : Nat) (ops : Array Oper) : List Oper → St → List Step → St → Prop where
  | nil {s : St} : Path P tbl k ops [] s [] s
  | run {o : Oper} {r : List Oper} {s s' : St} {v : V} {wr : List (Nat × O)} {rs : List Step} : Wants ops s.fr o.guard true → OpDoes P tbl k (evalO s.fr) s.h s.hp.length o.op v wr → Path P tbl k ops r ⟨putS s.fr o.dst v, applyWr s.hp wr⟩ rs s' →
    Path P tbl k ops (o :: r) s (⟨o.dst, v, wr, rdOf s o, true⟩ :: rs) s'
  | skip {o : Oper} {r : List Oper} {s s' : St} {rs : List Step} : Wants ops s.fr o.guard false → Path P tbl k ops r ⟨putS s.fr o.dst undefV, s.hp⟩ rs s' → Path P tbl k ops (o :: r) s (⟨o.dst, undefV, [], [], false⟩ :: rs) s'

def traceOf : Nat → List Step → List Trace
  | _, [] => []
  | i, s :: r => if s.ran = true then ⟨i, s.rd, s.wr.map (·.1)⟩ :: traceOf (i + 1) r else traceOf (i + 1) r

theorem denOpsD_path {R : Type} {P : Program} {tbl : List Fc} {k : Nat} {ops : Array Oper} {K : St → Option R} {res : R} : ∀ (l : List Oper) (i : Nat) (tr : List Trace) (s : St), denOpsD P tbl k ops i l tr K s = some res →
    ∃ rs s', Path P tbl k ops l s rs s' ∧ pairsOk (masks [] ops.toList) (tr.reverse ++ traceOf i rs) = true ∧ K s' = some res
  | [], i, tr, s, h => by
    rw [denOpsD] at h
    split at h
    · rename_i hp; exact ⟨[], s, .nil, by simpa [traceOf] using hp, h⟩
    · cases h
  | o :: r, i, tr, s, h => by
    have done : ∀ v wr, Wants ops s.fr o.guard true → OpDoes P tbl k (evalO s.fr) s.h s.hp.length o.op v wr → denOpsD P tbl k ops (i + 1) r (⟨i, rdOf s o, wr.map (·.1)⟩ :: tr) K ⟨putS s.fr o.dst v, applyWr s.hp wr⟩ = some res → ∃ rs s', Path P tbl k ops (o :: r) s rs s' ∧ pairsOk (masks [] ops.toList) (tr.reverse ++ traceOf i rs) = true ∧ K s' = some res := fun v wr hw hd hr => by
      obtain ⟨rs, s', h1, h2, h3⟩ := denOpsD_path r (i + 1) _ _ hr
      exact ⟨_, s', .run hw hd h1, by simpa [traceOf] using h2, h3⟩
    have skipd : Wants ops s.fr o.guard false → denOpsD P tbl k ops (i + 1) r tr K ⟨putS s.fr o.dst undefV, s.hp⟩ = some res → ∃ rs s', Path P tbl k ops (o :: r) s rs s' ∧ pairsOk (masks [] ops.toList) (tr.reverse ++ traceOf i rs) = true ∧ K s' = some res := fun hw hr => by
      obtain ⟨rs, s', h1, h2, h3⟩ := denOpsD_path r (i + 1) _ _ hr
      exact ⟨_, s', .skip hw h1, by simpa [traceOf] using h2, h3⟩
    rw [denOpsD] at h
    split at h
    · rename_i hg
      obtain ⟨v, wr, h1, h2⟩ := denOp_spec h
      exact done v wr (by rw [hg]; exact .free) h1 h2
    · rename_i j want hg
      split at h
      · cases h
      · rename_i d hd
        split at h
        · rename_i b hb
          split at h
          · rename_i hbt
            subst hbt
            rw [set_same hb] at h
            have hw := Wants.bool (want := want) hd hb
            cases want with
            | true =>
              simp only [if_true] at h
              obtain ⟨v, wr, h1, h2⟩ := denOp_spec h
              exact done v wr (by rw [hg]; exact hw) h1 h2
            | false =>
              simp only [if_false, Bool.false_eq_true] at h
              exact skipd (by rw [hg]; exact hw) h
          · rename_i hbt
            have hbf : b = false := by simpa using hbt
            subst hbf
            rw [set_same hb] at h
            have hw := Wants.bool (want := want) hd hb
            cases want with
            | true =>
              simp only [if_true] at h
              exact skipd (by rw [hg]; exact hw) h
            | false =>
              simp only [if_false, Bool.false_eq_true] at h
              obtain ⟨v, wr, h1, h2⟩ := denOp_spec h
              exact done v wr (by rw [hg]; exact hw) h1 h2
        · rename_i hb
          exact skipd (by rw [hg]; exact .skipped hd hb) h
        · cases h

end Go.Proofs.Ytmcdddghlcllbaa.Den
