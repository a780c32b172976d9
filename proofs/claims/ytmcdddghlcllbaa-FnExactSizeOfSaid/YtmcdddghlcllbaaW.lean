/- Code: what the abstract machine answers, the Go run comes to. -/
import Derived.Test.YtmcdddghlcllbaaV
set_option autoImplicit false
set_option linter.unusedVariables false
set_option linter.unusedSimpArgs false
namespace Go.Proofs.Ytmcdddghlcllbaa.Den
open Classical

def exOf : Ex → Exit
  | .normal => .normal
  | .exit i => .exit i
  | .ret => .ret

section
variable {P : Program} {pins : Pins} {A : Nat → Prop} {w0 : Start} {R : Type}

theorem opsFree_spec {ps : List Nat} (hps : ∀ p ∈ pins.l, p.1 ∈ ps) : ∀ (l : List Oper), opsFree ps l = true → ∀ o ∈ l, FreeOf pins o.dst
  | [], h, o, ho => by simp at ho
  | q :: r, h, o, ho => by
    simp only [opsFree, Bool.and_eq_true] at h
    rcases List.mem_cons.1 ho with rfl | ho
    · intro t ht p hp hpt
      rw [ht] at h
      have := h.1
      simp only [Bool.not_eq_true'] at this
      have h2 := hps p hp
      rw [hpt] at h2
      simp [h2] at this
    · exact opsFree_spec hps r h.2 o ho

/-- A continuation that leads where it should. -/
def KS (pins : Pins) (A : Nat → Prop) (w0 : Start) (res : R) (kb : Nat) (K : Kont R) (Q : Exit → Act → World → Prop) : Prop :=
  ∀ k, k ≤ kb → ∀ ex s e a w, K k ex s = some res → Rel pins A w0 e s a w → Q (exOf ex) a w

theorem KS.mono {res : R} {kb kb' : Nat} {K : Kont R} {Q : Exit → Act → World → Prop} (h : KS pins A w0 res kb K Q) (hk : kb' ≤ kb) : KS pins A w0 res kb' K Q := fun k hk' => h k (Nat.le_trans hk' hk)

theorem KS.seq {res : R} {kb : Nat} {K : Kont R} {Q : Exit → Act → World → Prop} (h : KS pins A w0 res kb K Q) {next : Nat → St → Option R} {N : Act → World → Prop} (hn : ∀ k, k ≤ kb → ∀ s e a w, next k s = some res → Rel pins A w0 e s a w → N a w) :
    KS pins A w0 res kb (kSeq next K) (Exit.then N Q) := by
  intro k hk ex s e a w hh r
  cases ex with
  | normal => exact hn k hk s e a w hh r
  | exit i => exact h k hk (.exit i) s e a w hh r
  | ret => exact h k hk .ret s e a w hh r

theorem KS.block {res : R} {kb : Nat} {K : Kont R} {Q : Exit → Act → World → Prop} (h : KS pins A w0 res kb K Q) (id : Nat) : KS pins A w0 res kb (kBlock id K) (Exit.inBlock id Q) := by
  intro k hk ex s e a w hh r
  cases ex with
  | normal => exact h k hk .normal s e a w hh r
  | exit i =>
    simp only [kBlock] at hh
    simp only [exOf, Exit.inBlock]
    split at hh
    · rename_i hi; rw [if_pos hi]; exact h k hk .normal s e a w hh r
    · rename_i hi; rw [if_neg hi]; exact h k hk (.exit i) s e a w hh r
  | ret => exact h k hk .ret s e a w hh r

theorem setAll_length : ∀ (fr : List V) (sh : List (Nat × Sh)) (vs : List V), (setAll fr sh vs).length = fr.length
  | fr, [], vs => by simp [setAll]
  | fr, p :: r, [] => by simp [setAll]
  | fr, p :: r, v :: vs => by simp [setAll, setAll_length]

theorem setAll_rel {e : Env} {a : Act} : ∀ (sh : List (Nat × Sh)) (vs : List V) (fr : List V), fr.length = a.tmps.size → (∀ i, RelV e (fr.getD i undefV) (a.tmps.getD i undef)) → RelVs e vs (sh.map fun p => a.tmps.getD p.1 undef) →
    ∀ i, RelV e ((setAll fr sh vs).getD i undefV) (a.tmps.getD i undef)
  | [], vs, fr, hl, hf, hv => by simpa [setAll] using hf
  | p :: r, _, fr, hl, hf, .cons (c := v) (l := vs) h1 h2 => by
    simp only [setAll]
    refine setAll_rel r vs _ (by simp [hl]) (fun i => ?_) h2
    by_cases hi : i = p.1
    · subst hi
      by_cases hlt : p.1 < fr.length
      · have : (fr.set p.1 v).getD p.1 undefV = v := by simp [List.getD, hlt]
        rw [this]; exact h1
      · rw [List.set_eq_of_length_le (by omega)]; exact hf _
    · have : (fr.set p.1 v).getD i undefV = fr.getD i undefV := by simp [List.getD, List.getElem?_set_ne (fun hh => hi hh.symm)]
      rw [this]; exact hf i

theorem RelVs_slots {e : Env} {s : St} {a : Act} (hf : ∀ i, RelV e (s.fr.getD i undefV) (a.tmps.getD i undef)) : ∀ sh : List (Nat × Sh), RelVs e (sh.map fun p => s.fr.getD p.1 undefV) (sh.map fun p => a.tmps.getD p.1 undef)
  | [] => .nil
  | p :: r => .cons (hf p.1) (RelVs_slots hf r)

theorem hpf_h (fr : List V) (os : List O) : (⟨fr, os⟩ : St).h = hpf os := rfl

theorem setAl_length : ∀ (fr : List V) (al : List (Nat × Nat)), (setAl fr al).length = fr.length
  | fr, [] => by simp [setAl]
  | fr, p :: r => by simp [setAl, setAl_length]

theorem setAl_rel {e : Env} {a : Act} : ∀ (al : List (Nat × Nat)) (fr : List V), (∀ i, RelV e (fr.getD i undefV) (a.tmps.getD i undef)) → (∀ p ∈ al, RelV e (.one (.sl p.2 .none .none)) (a.tmps.getD p.1 undef)) →
    ∀ i, RelV e ((setAl fr al).getD i undefV) (a.tmps.getD i undef)
  | [], fr, hf, _ => by simpa [setAl] using hf
  | p :: r, fr, hf, hv => by
    simp only [setAl]
    refine setAl_rel r _ (fun i => ?_) (fun q hq => hv q (by simp [hq]))
    by_cases hi : i = p.1
    · subst hi
      by_cases hlt : p.1 < fr.length
      · have : (fr.set p.1 (.one (.sl p.2 .none .none))).getD p.1 undefV = .one (.sl p.2 .none .none) := by simp [List.getD, hlt]
        rw [this]; exact hv p (by simp)
      · rw [List.set_eq_of_length_le (by omega)]; exact hf _
    · have : (fr.set p.1 (.one (.sl p.2 .none .none))).getD i undefV = fr.getD i undefV := by simp [List.getD, List.getElem?_set_ne (fun hh => hi hh.symm)]
      rw [this]; exact hf i

/-- A slot that shows an object that is taken over shows it under its new number. -/
theorem alias_rel {e : Env} {h : Hp} {w : World} {S : List Src} {lent : List Nat} {v : V} {x : Value} {j : Nat} (ha : alOne h v S[j]? = true) (hv : RelV e v x) (hm : RelH e w h) :
    RelV (takeE e w S lent) (.one (.sl j .none .none)) x := by
  unfold alOne at ha
  split at ha
  · rename_i id lo hi id' lo' hi' hs
    simp only [Bool.and_eq_true, decide_eq_true_eq] at ha
    obtain ⟨⟨⟨rfl, rfl⟩, rfl⟩, hid⟩ := ha
    have hloc := takeE_loc (e := e) (w := w) (lent := lent) hs
    have ho := hm id
    cases hh : h id <;> rw [hh] at hid ho <;> try (cases hid; done)
    simp only [RelV, RelC] at hv ⊢
    rw [hloc]
    rcases ho with ⟨hl', rfl⟩ | ⟨b, o, cap, cs, E, fz, hl', hn, hb, hu, hs', hr⟩
    · rw [hl'] at hv
      simp only [locOf, hl']
      exact ⟨rfl, rfl, hv.2.2⟩
    · rw [hl'] at hv
      obtain ⟨h1, h2, a, rfl, ha⟩ := hv
      simp only [locOf, hl']
      refine ⟨Nat.zero_le _, Nat.le_refl _, a, by simp, ?_⟩
      rcases ha with ha | ha
      · exact .inl (by simp; omega)
      · exact .inr (by subst ha; simp)
  · rename_i hs
    have hloc := takeE_loc (e := e) (w := w) (lent := lent) hs
    simp only [RelV, RelC] at hv ⊢
    rw [hloc]
    exact ⟨rfl, rfl, hv⟩
  · cases ha

theorem kept_src {e : Env} {h : Hp} {w : World} {src : List Src} (m : Mem A w0 e h w) (hkp : poolKept h src = true) : ∀ k, w0.vl k ≠ .un → POOL ∈ srcIds src := by
  intro k hk
  have hne : h POOL ≠ .none := fun h0 => hk (by rw [← m.vkeep k hk]; exact m.np h0 k)
  unfold poolKept at hkp
  split at hkp
  · rename_i h0; exact (hne h0).elim
  · simpa using hkp

/-- What a loop's head, or a cut, keeps is so. -/
theorem head_rel {e : Env} {s : St} {a : Act} {w : World} (r : Rel pins A w0 e s a w) {sh : List (Nat × Sh)} {d : Dec (Sh.DL (sh.map (·.2)))} (hd : decSs s.h (sh.map (·.2)) (sh.map fun p => s.fr.getD p.1 undefV) = some d) (hok : srcOk d.src d.lent = true) (hkp : poolKept s.h d.src = true) (hR : needP (sh.map (·.2)) d.src = true) {al : List (Nat × Nat)} (hal : alOk s.h s.fr d.src al = true) :
    ∃ e', Rel pins A w0 e' (headSt pins.n sh al d.x) a w := by
  have hn : pins.n = a.tmps.size := r.siz.symm
  obtain ⟨h1, h2⟩ := take_mem r.mem hd (RelVs_slots r.fr sh) hok hR (kept_src r.mem hkp)
  refine ⟨takeE e w d.src d.lent, r.pin, r.siz, ?_, ?_, r.defers, h2⟩
  · simp only [headSt, setAl_length, setAll_length, List.length_replicate]; exact hn
  · refine setAl_rel al _ (setAll_rel sh _ _ (by simp [hn]) (fun i => ?_) h1) (fun p hp => alias_rel (List.all_eq_true.1 hal p hp) (r.fr p.1) r.mem.hp)
    by_cases hi : i < pins.n
    · have : (List.replicate pins.n V.any).getD i undefV = .any := by simp [List.getD, hi]
      rw [this]; trivial
    · have h1 : (List.replicate pins.n V.any)[i]? = none := List.getElem?_eq_none (by simp; omega)
      have h2 : a.tmps[i]? = none := Array.getElem?_eq_none (by omega)
      rw [Array.getD_eq_getD_getElem?, h2]
      simp only [List.getD, h1]
      exact RelV_undef _

theorem denL_spec {lps : List (Option (Lp R))} {k n : Nat} {s : St} {res : R} (h : denL lps k n s = some res) :
    ∃ lp d, lps[n]? = some (some lp) ∧ decSs s.h (lp.sh.map (·.2)) (lp.sh.map fun p => s.fr.getD p.1 undefV) = some d ∧ srcOk d.src d.lent = true ∧ alOk s.h s.fr d.src lp.al = true ∧ poolKept s.h d.src = true ∧ needP (lp.sh.map (·.2)) d.src = true ∧ lp.f k d.x = some res := by
  unfold denL at h
  split at h
  · rename_i lp hlp
    split at h
    · rename_i d hd
      split at h
      · rename_i hok
        simp only [Bool.and_eq_true] at hok
        exact ⟨lp, d, hlp, hd, hok.1.1.1, hok.1.1.2, hok.1.2, hok.2, h⟩
      · cases h
    · cases h
  · cases h

/-- The loops' functions and the cuts' are what the code comes to. -/
def LpsOK (P : Program) (tbl : List Fc) (lps : List (Option (Lp R))) (code : Code) (K : Kont R) (ntmps : Nat) : Prop :=
  ∀ m lp, lps[m]? = some (some lp) →
    (loopB m code 0 = true ∧ (∀ y, lp.f 0 y = .none) ∧ ∀ k y, lp.f (k + 1) y = lpVal P tbl lps code K ntmps m lp k y) ∨
    (loopB m code 0 = false ∧ ∀ k y, lp.f k y = lpVal P tbl lps code K ntmps m lp k y)

/-- A piece of code at its place in the whole. -/
def At (P : Program) (tbl : List Fc) (lps : List (Option (Lp R))) (code : Code) (K0 : Kont R) (c : Code) (n : Nat) (K : Kont R) : Prop :=
  ∀ m, n ≤ m → m < n + nl c → loopAt P tbl lps m code 0 K0 = loopAt P tbl lps m c n K ∧ loopB m code 0 = loopB m c n

theorem least {p : Nat → Prop} (h : ∃ k, p k) : ∃ m, p m ∧ ∀ k, p k → m ≤ k := by
  obtain ⟨k, hk⟩ := h
  induction k using Nat.strongRecOn with
  | _ k ih =>
    by_cases hx : ∃ j, j < k ∧ p j
    · obtain ⟨j, hj, hpj⟩ := hx; exact ih j hj hpj
    · exact ⟨k, hk, fun j hj => by
        apply Classical.byContradiction
        intro hlt
        exact hx ⟨j, by omega, hj⟩⟩

noncomputable def leastOf (p : Nat → Prop) : Nat := if h : ∃ k, p k then Classical.choose (least h) else 0

theorem leastOf_spec {p : Nat → Prop} {k : Nat} (h : p k) : p (leastOf p) ∧ leastOf p ≤ k := by
  have hx : ∃ k, p k := ⟨k, h⟩
  unfold leastOf
  rw [dif_pos hx]
  exact ⟨(Classical.choose_spec (least hx)).1, (Classical.choose_spec (least hx)).2 k h⟩

theorem set_refine {s : St} {c : Operand} {b : Bool} (h : evalO s.fr c = .one (.bool b)) : (⟨refine s.fr c b, s.hp⟩ : St) = s := by
  cases c with
  | tmp t =>
    have : refine s.fr (.tmp t) b = s.fr := set_same h
    rw [this]
  | const v => rfl
  | global g => rfl
  | func f => rfl

theorem den_wp {tbl : List Fc} {lps : List (Option (Lp R))} {code : Code} {K0 : Kont R} {res : R} {ps : List Nat} (hps : ∀ p ∈ pins.l, p.1 ∈ ps) {k0 : Nat} (hC : ∀ k, k ≤ k0 → CtxOK P tbl k) (hL : LpsOK P tbl lps code K0 pins.n) :
    ∀ (c : Code) (n : Nat) (K : Kont R) (Q : Exit → Act → World → Prop), At P tbl lps code K0 c n K → codeFree ps c = true → ∀ kb, kb ≤ k0 → KS pins A w0 res kb K Q → ∀ k, k ≤ kb → ∀ s e a w, den P tbl lps c k n K s = some res → Rel pins A w0 e s a w → c.wp P Q a w := by
  intro c
  induction c with
  | skip => intro n K Q _ _ kb _ hK k hk s e a w hh r; exact wp_skip (hK k hk .normal s e a w hh r)
  | ret => intro n K Q _ _ kb _ hK k hk s e a w hh r; exact wp_ret (hK k hk .ret s e a w hh r)
  | exit id => intro n K Q _ _ kb _ hK k hk s e a w hh r; exact wp_exit (hK k hk (.exit id) s e a w hh r)
  | region id ops draw =>
    intro n K Q _ hfree kb hkb hK k hk s e a w hh r
    have hf := opsFree_spec hps ops.toList (by simpa [codeFree] using hfree)
    cases draw with
    | false =>
      rw [den] at hh
      exact wp_region_list (denOps_wp (hC k (by omega)) (fun s e a w h1 h2 => hK k hk .normal s e a w h1 h2) ops.toList s e a w hf hh r)
    | true =>
      rw [den] at hh
      split at hh
      · rename_i hd
        exact denOpsD_wp (hC k (by omega)) hd hf (fun s e a w h1 h2 => hK k hk .normal s e a w h1 h2) hh r
      · cases hh
  | seq x y ihx ihy =>
    intro n K Q hat hfree kb hkb hK k hk s e a w hh r
    simp only [codeFree, Bool.and_eq_true] at hfree
    rw [den] at hh
    refine wp_seq ?_
    have hnl : nl (x.seq y) = nl x + nl y + isCut x := by simp [nl, isCut]
    have haty : At P tbl lps code K0 y (n + isCut x + nl x) K := by
      intro m h1 h2
      obtain ⟨e1, e2⟩ := hat m (by omega) (by rw [hnl]; omega)
      have c1 : ¬ m < n + isCut x := by omega
      have c2 : ¬ m < n + isCut x + nl x := by omega
      rw [e1, e2]
      simp only [loopAt, loopB, if_neg c1, if_neg c2, and_self]
    split at hh
    · rename_i htk
      have hcut : isCut x = 1 := by
        simp only [Bool.and_eq_true] at htk
        simp [isCut, htk.1]
      have hatx : At P tbl lps code K0 x (n + 1) (kSeq (fun k' s' => denL lps k' n s') K) := by
        intro m h1 h2
        obtain ⟨e1, e2⟩ := hat m (by omega) (by rw [hnl]; omega)
        have c1 : ¬ m < n + isCut x := by omega
        have c2 : m < n + isCut x + nl x := by omega
        rw [e1, e2]
        rw [hcut] at c1 c2
        simp only [loopAt, loopB, hcut, if_neg c1, if_pos c2, if_pos htk, and_self]
      refine ihx (n + 1) _ _ hatx hfree.1 kb hkb (hK.seq fun k' hk' s' e' a' w' hh' r' => ?_) k hk s e a w hh r
      obtain ⟨lp, d, hlp, hd, hok, hal, hkp, hR, hf⟩ := denL_spec hh'
      obtain ⟨e2, r2⟩ := head_rel r' hd hok hkp hR hal
      obtain ⟨q1, q2⟩ := hat n (by omega) (by rw [hnl]; omega)
      have hb : loopB n code 0 = false := by rw [q2, loopB, if_pos (by omega)]
      rcases hL n lp hlp with ⟨hb', _⟩ | ⟨_, hval⟩
      · rw [hb] at hb'; cases hb'
      · rw [hval, lpVal, q1, loopAt, if_pos (by omega)] at hf
        exact ihy _ K Q haty hfree.2 kb hkb hK k' hk' _ e2 a' w' hf r2
    · rename_i htk
      have hatx : At P tbl lps code K0 x (n + isCut x) (kSeq (fun k' s' => den P tbl lps y k' (n + isCut x + nl x) K s') K) := by
        intro m h1 h2
        obtain ⟨e1, e2⟩ := hat m (by omega) (by rw [hnl]; omega)
        have c1 : ¬ m < n + isCut x := by omega
        have c2 : m < n + isCut x + nl x := by omega
        rw [e1, e2]
        simp only [loopAt, loopB, if_neg c1, if_pos c2, if_neg htk, and_self]
      exact ihx _ _ _ hatx hfree.1 kb hkb (hK.seq fun k' hk' s' e' a' w' hh' r' => ihy _ K Q haty hfree.2 kb hkb hK k' hk' s' e' a' w' hh' r') k hk s e a w hh r
  | cond o x y ihx ihy =>
    intro n K Q hat hfree kb hkb hK k hk s e a w hh r
    simp only [codeFree, Bool.and_eq_true] at hfree
    rw [den] at hh
    split at hh
    · rename_i b hb
      have hev := r.eval o
      rw [hb] at hev
      simp only [RelV, RelC] at hev
      split at hh
      · rename_i hbt
        subst hbt
        rw [set_refine hb] at hh
        refine wp_cond_true hev (ihx n K Q ?_ hfree.1 kb hkb hK k hk s e a w hh r)
        intro m h1 h2
        obtain ⟨e1, e2⟩ := hat m h1 (by simp only [nl]; omega)
        rw [e1, e2]
        simp only [loopAt, loopB, if_pos h2, and_self]
      · rename_i hbt
        have hbf : b = false := by simpa using hbt
        subst hbf
        rw [set_refine hb] at hh
        refine wp_cond_false hev (ihy (n + nl x) K Q ?_ hfree.2 kb hkb hK k hk s e a w hh r)
        intro m h1 h2
        obtain ⟨e1, e2⟩ := hat m (by omega) (by simp only [nl]; omega)
        have c1 : ¬ m < n + nl x := by omega
        rw [e1, e2]
        simp only [loopAt, loopB, if_neg c1, and_self]
    · cases hh
  | block id x ihx =>
    intro n K Q hat hfree kb hkb hK k hk s e a w hh r
    rw [den] at hh
    refine wp_block (ihx n _ _ ?_ hfree kb hkb (hK.block id) k hk s e a w hh r)
    intro m h1 h2
    obtain ⟨e1, e2⟩ := hat m h1 (by simpa only [nl] using h2)
    rw [e1, e2, loopAt, loopB]
    exact ⟨rfl, rfl⟩
  | loop x ihx =>
    intro n K Q hat hfree kb hkb hK k hk s e a w hh r
    rw [den] at hh
    obtain ⟨q1, q2⟩ := hat n (by omega) (by simp [nl])
    have hb : loopB n code 0 = true := by rw [q2, loopB, if_pos rfl]
    have hatx : At P tbl lps code K0 x (n + 1) (kLoop lps n K) := by
      intro m h1 h2
      obtain ⟨e1, e2⟩ := hat m (by omega) (by simp only [nl]; omega)
      have c1 : ¬ m = n := by omega
      rw [e1, e2]
      simp only [loopAt, loopB, if_neg c1, and_self]
    let J : Nat → Act → World → Prop := fun k a w => ∃ s e, denL lps k n s = some res ∧ Rel pins A w0 e s a w
    let I : Act → World → Prop := fun a w => ∃ k, k ≤ kb ∧ J k a w
    let μ : Act → World → Nat := fun a w => leastOf fun k => J k a w
    refine wp_loop I μ ⟨k, hk, s, e, hh, r⟩ fun a w hI => ?_
    obtain ⟨k1, hk1, hJ1⟩ := hI
    obtain ⟨⟨s2, e2, hh2, r2⟩, hmin⟩ := leastOf_spec (p := fun k => J k a w) hJ1
    have hμ : μ a w = leastOf fun k => J k a w := rfl
    generalize (leastOf fun k => J k a w) = kk at hh2 hmin hμ
    obtain ⟨lp, d, hlp, hd, hok, hal, hkp, hR, hf⟩ := denL_spec hh2
    obtain ⟨e3, r3⟩ := head_rel r2 hd hok hkp hR hal
    rcases hL n lp hlp with ⟨_, hz, hval⟩ | ⟨hb', _⟩
    · cases kk with
      | zero => rw [hz] at hf; cases hf
      | succ k2 =>
        rw [hval, lpVal, q1, loopAt, if_pos rfl] at hf
        refine ihx (n + 1) (kLoop lps n K) _ hatx hfree k2 (by omega) ((hK.mono (by omega)).seq fun k' hk' s' e' a' w' hh' r' => ?_) k2 (Nat.le_refl _) _ e3 a w hf r3
        have hJ' : J k' a' w' := ⟨s', e', hh', r'⟩
        refine ⟨⟨k', by omega, hJ'⟩, ?_⟩
        have : μ a' w' ≤ k' := (leastOf_spec (p := fun k => J k a' w') hJ').2
        omega
    · rw [hb] at hb'; cases hb'
  | rangeFunc _ _ _ _ _ _ => intro n K Q _ _ kb _ hK k hk s e a w hh r; rw [den] at hh <;> first | cases hh | (intros; simp_all)
  | scope _ _ => intro n K Q _ _ kb _ hK k hk s e a w hh r; rw [den] at hh <;> first | cases hh | (intros; simp_all)
  | label _ => intro n K Q _ _ kb _ hK k hk s e a w hh r; rw [den] at hh <;> first | cases hh | (intros; simp_all)
  | goto _ => intro n K Q _ _ kb _ hK k hk s e a w hh r; rw [den] at hh <;> first | cases hh | (intros; simp_all)
  | refuse _ => intro n K Q _ _ kb _ hK k hk s e a w hh r; rw [den] at hh <;> first | cases hh | (intros; simp_all)
end
end Go.Proofs.Ytmcdddghlcllbaa.Den
