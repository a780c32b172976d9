/- Regions whose order is open: in every order the Go run comes to what the abstract machine comes to in the text's. -/
import Derived.Test.YtmcdddghlcllbaaU
set_option autoImplicit false
set_option linter.unusedVariables false
set_option linter.unusedSimpArgs false
namespace Go.Proofs.Ytmcdddghlcllbaa.Den
open Classical

def stF (rs : List Step) (n : Nat) : Step := rs.getD n ⟨.none, undefV, [], [], false⟩

theorem frS_cons (s : Step) (rs : List Step) (fr : List V) : ∀ n, frS (stF (s :: rs)) fr (fun _ => true) (n + 1) = frS (stF rs) (putS fr s.dst s.v) (fun _ => true) n
  | 0 => rfl
  | n + 1 => by rw [frS, frS_cons s rs fr n, frS]; rfl

theorem hS_cons (s : Step) (rs : List Step) (h : Hp) : ∀ n, hS (stF (s :: rs)) h (fun _ => true) (n + 1) = hS (stF rs) (updW h s.wr) (fun _ => true) n
  | 0 => rfl
  | n + 1 => by rw [hS, hS_cons s rs h n, hS]; rfl

/-- Operation number i on the path: what it saw and what it came to. -/
structure AtStep (P : Program) (tbl : List Fc) (k : Nat) (ops : Array Oper) (o : Oper) (fr : List V) (h : Hp) (s : Step) : Prop where
  dst : s.dst = o.dst
  wants : Wants ops fr o.guard s.ran
  run : s.ran = true → ∃ n, OpDoes P tbl k (evalO fr) h n o.op s.v s.wr ∧ (∀ id, n ≤ id → id ≠ POOL → h id = .none) ∧ s.rd = rdIds o.op h (o.op.operands.toList.flatMap fun x => (evalO fr x).ids)
  skip : s.ran = false → s.v = undefV ∧ s.wr = []

theorem path_at {P : Program} {tbl : List Fc} {k : Nat} {ops : Array Oper} {l : List Oper} {s s' : St} {rs : List Step} (p : Path P tbl k ops l s rs s') :
    rs.length = l.length ∧ (∀ i o, l[i]? = some o → AtStep P tbl k ops o (frS (stF rs) s.fr (fun _ => true) i) (hS (stF rs) s.h (fun _ => true) i) (stF rs i)) ∧
      s'.fr = frS (stF rs) s.fr (fun _ => true) l.length ∧ s'.h = hS (stF rs) s.h (fun _ => true) l.length := by
  induction p with
  | nil => exact ⟨rfl, fun i o h => by simp at h, rfl, rfl⟩
  | run hw hd _ ih =>
    rename_i o r s s' v wr rs hp
    obtain ⟨h1, h2, h3, h4⟩ := ih
    have hS' : (⟨putS s.fr o.dst v, applyWr s.hp wr⟩ : St).h = updW s.h wr := applyWr_h wr s.hp hd.wr_ok
    rw [hS'] at h2 h4
    refine ⟨by simp [h1], fun i q hq => ?_, ?_, ?_⟩
    · cases i with
      | zero =>
        simp at hq; subst hq
        exact ⟨rfl, hw, fun _ => ⟨s.hp.length, hd, fun id hid hne => fresh_of_len hid hne, rfl⟩, fun hf => by cases hf⟩
      | succ i =>
        rw [frS_cons, hS_cons]
        exact h2 i q (by simpa using hq)
    · rw [List.length_cons, frS_cons]; exact h3
    · rw [List.length_cons, hS_cons]; exact h4
  | skip hw _ ih =>
    rename_i o r s s' rs hp
    obtain ⟨h1, h2, h3, h4⟩ := ih
    refine ⟨by simp [h1], fun i q hq => ?_, ?_, ?_⟩
    · cases i with
      | zero =>
        simp at hq; subst hq
        exact ⟨rfl, hw, fun hf => (by cases hf), fun _ => ⟨rfl, rfl⟩⟩
      | succ i =>
        rw [frS_cons, hS_cons]
        exact h2 i q (by simpa using hq)
    · rw [List.length_cons, frS_cons]; exact h3
    · rw [List.length_cons, hS_cons]; exact h4

theorem traceOf_mem : ∀ (rs : List Step) (k b : Nat) (s : Step), rs[b]? = some s → s.ran = true → (⟨k + b, s.rd, s.wr.map (·.1)⟩ : Trace) ∈ traceOf k rs
  | [], k, b, s, h, _ => by simp at h
  | a :: r, k, 0, s, h, hr => by
    simp at h; subst h
    simp [traceOf, hr]
  | a :: r, k, b + 1, s, h, hr => by
    have := traceOf_mem r (k + 1) b s (by simpa using h) hr
    rw [show k + 1 + b = k + (b + 1) by omega] at this
    rw [traceOf]
    split
    · exact List.mem_cons_of_mem _ this
    · exact this

theorem pairs_at (M : List Nat) : ∀ (rs : List Step) (k : Nat), pairsOk M (traceOf k rs) = true → ∀ a b sa sb, a < b → rs[a]? = some sa → rs[b]? = some sb → sa.ran = true → sb.ran = true →
    clash ⟨k + a, sa.rd, sa.wr.map (·.1)⟩ ⟨k + b, sb.rd, sb.wr.map (·.1)⟩ = false ∨ (M.getD (k + b) 0).testBit (k + a) = true
  | [], k, h, a, b, sa, sb, hab, ha, _, _, _ => by simp at ha
  | s :: r, k, h, 0, b, sa, sb, hab, ha, hb, hra, hrb => by
    simp at ha; subst ha
    rw [traceOf, if_pos hra] at h
    simp only [pairsOk, Bool.and_eq_true, List.all_eq_true] at h
    obtain ⟨b', rfl⟩ : ∃ b', b = b' + 1 := ⟨b - 1, by omega⟩
    have hm := traceOf_mem r (k + 1) b' sb (by simpa using hb) hrb
    rw [show k + 1 + b' = k + (b' + 1) by omega] at hm
    have := h.1 _ hm
    simp only [Bool.or_eq_true, Bool.not_eq_true'] at this
    simpa using this
  | s :: r, k, h, a + 1, b, sa, sb, hab, ha, hb, hra, hrb => by
    have h' : pairsOk M (traceOf (k + 1) r) = true := by
      rw [traceOf] at h
      split at h
      · simp only [pairsOk, Bool.and_eq_true] at h; exact h.2
      · exact h
    obtain ⟨b', rfl⟩ : ∃ b', b = b' + 1 := ⟨b - 1, by omega⟩
    have := pairs_at M r (k + 1) h' a b' sa sb (by omega) (by simpa using ha) (by simpa using hb) hra hrb
    rw [show k + 1 + a = k + (a + 1) by omega, show k + 1 + b' = k + (b' + 1) by omega] at this
    exact this

theorem rest_at (ops : Array Oper) (M : List Nat) (o : Oper) (i : Nat) : ∀ (l : List Oper) (j : Nat), apartOk.rest ops M o i j l = true → ∀ b q, l[b]? = some q → Oper.apart ops o q = true ∨ (M.getD (j + b) 0).testBit i = true
  | [], j, h, b, q, hb => by simp at hb
  | x :: r, j, h, 0, q, hb => by
    simp at hb; subst hb
    simp only [apartOk.rest, Bool.and_eq_true, Bool.or_eq_true] at h
    exact h.1
  | x :: r, j, h, b + 1, q, hb => by
    simp only [apartOk.rest, Bool.and_eq_true] at h
    have := rest_at ops M o i r (j + 1) h.2 b q (by simpa using hb)
    rwa [show j + 1 + b = j + (b + 1) by omega] at this

theorem apart_at (ops : Array Oper) (M : List Nat) : ∀ (l : List Oper) (i : Nat), apartOk ops M i l = true → ∀ a b o q, a < b → l[a]? = some o → l[b]? = some q → Oper.apart ops o q = true ∨ (M.getD (i + b) 0).testBit (i + a) = true
  | [], i, h, a, b, o, q, hab, ha, hb => by simp at ha
  | x :: r, i, h, 0, b, o, q, hab, ha, hb => by
    simp at ha; subst ha
    simp only [apartOk, Bool.and_eq_true] at h
    obtain ⟨b', rfl⟩ : ∃ b', b = b' + 1 := ⟨b - 1, by omega⟩
    have := rest_at ops M x i r (i + 1) h.1 b' q (by simpa using hb)
    rw [show i + 1 + b' = i + (b' + 1) by omega] at this
    simpa using this
  | x :: r, i, h, a + 1, b, o, q, hab, ha, hb => by
    simp only [apartOk, Bool.and_eq_true] at h
    obtain ⟨b', rfl⟩ : ∃ b', b = b' + 1 := ⟨b - 1, by omega⟩
    have := apart_at ops M r (i + 1) h.2 a b' o q (by omega) (by simpa using ha) (by simpa using hb)
    rw [show i + 1 + a = i + (a + 1) by omega, show i + 1 + b' = i + (b' + 1) by omega] at this
    exact this

theorem edges_at : ∀ (l : List Oper) (i : Nat), edgesOk i l = true → ∀ a o, l[a]? = some o → ∀ e ∈ o.after.toList, Region.binds .any e = true → e.on < i + a
  | [], i, h, a, o, ha, e, he, hb => by simp at ha
  | x :: r, i, h, 0, o, ha, e, he, hb => by
    simp at ha; subst ha
    simp only [edgesOk, Bool.and_eq_true, List.all_eq_true] at h
    have := h.1 e he
    simp only [hb, Bool.not_true, Bool.false_or, decide_eq_true_eq] at this
    simpa using this
  | x :: r, i, h, a + 1, o, ha, e, he, hb => by
    simp only [edgesOk, Bool.and_eq_true] at h
    have := edges_at r (i + 1) h.2 a o (by simpa using ha) e he hb
    omega

def countF (p : Nat → Bool) : Nat → Nat
  | 0 => 0
  | n + 1 => countF p n + (if p n = true then 0 else 1)

theorem countF_zero {p : Nat → Bool} : ∀ {n : Nat}, countF p n = 0 → ∀ j, j < n → p j = true
  | 0, _, j, hj => by omega
  | n + 1, h, j, hj => by
    simp only [countF] at h
    by_cases hjn : j = n
    · subst hjn
      cases hp : p j
      · rw [hp] at h; simp at h
      · rfl
    · exact countF_zero (p := p) (n := n) (by omega) j (by omega)

theorem countF_set {p q : Nat → Bool} {i : Nat} (hp : p i = false) (hq : q i = true) (hpq : ∀ j, j ≠ i → q j = p j) : ∀ n, i < n → countF q n + 1 = countF p n
  | 0, h => by omega
  | n + 1, h => by
    simp only [countF]
    by_cases hi : i = n
    · subst hi
      rw [hp, hq]
      have : ∀ m, m ≤ i → countF q m = countF p m := by
        intro m
        induction m with
        | zero => intro _; rfl
        | succ m ih => intro hm; simp only [countF]; rw [ih (by omega), hpq m (by omega)]
      rw [this i (Nat.le_refl _)]; simp
    · have := countF_set hp hq hpq n (by omega)
      rw [hpq n (fun hh => hi hh.symm)]
      omega

section
variable {P : Program} {pins : Pins} {A : Nat → Prop} {w0 : Start}

theorem draw_any {tbl : List Fc} {k : Nat} (hC : CtxOK P tbl k) {ops : Array Oper} {s s' : St} {rs : List Step} (hp : Path P tbl k ops ops.toList s rs s') (hpairs : pairsOk (masks [] ops.toList) (traceOf 0 rs) = true)
    (hedges : edgesOk 0 ops.toList = true) (hapart : apartOk ops (masks [] ops.toList) 0 ops.toList = true) (hfree : ∀ o ∈ ops.toList, FreeOf pins o.dst) (hsz : s.fr.length = pins.n) {Q : Exit → Act → World → Prop} (hQ : ∀ e a w, Rel pins A w0 e s' a w → Q .normal a w) :
    ∀ (fuel : Nat) (listed : Array Bool) (e : Env) (a : Act) (w : World), listed.size = ops.size → countF (fun j => listed.getD j false) ops.size ≤ fuel →
      (∀ j, j < ops.size → listed.getD j false = true → ∀ q, ((masks [] ops.toList).getD j 0).testBit q = true → listed.getD q false = true) →
      s.fr.length = a.tmps.size → (∀ x, RelV e ((frS (stF rs) s.fr (fun j => listed.getD j false) ops.size).getD x undefV) (a.tmps.getD x undef)) → a.defers = [] → Mem A w0 e (hS (stF rs) s.h (fun j => listed.getD j false) ops.size) w → (∀ p ∈ pins.l, a.tmps.getD p.1 undef = p.2) →
      wpAny P .any ops Q fuel listed a w := by
  obtain ⟨hlen, hat, hend1, hend2⟩ := path_at hp
  have hN : ops.toList.length = ops.size := by simp
  rw [hN] at hend1 hend2
  have hops : ∀ {i : Nat} {o : Oper}, ops[i]? = some o → ops.toList[i]? = some o := fun {i o} h => by rw [Array.getElem?_toList]; exact h
  -- at the end
  have fin : ∀ (listed : Array Bool) (e : Env) (a : Act) (w : World), (∀ j, j < ops.size → listed.getD j false = true) → s.fr.length = a.tmps.size → (∀ x, RelV e ((frS (stF rs) s.fr (fun j => listed.getD j false) ops.size).getD x undefV) (a.tmps.getD x undef)) → a.defers = [] →
      Mem A w0 e (hS (stF rs) s.h (fun j => listed.getD j false) ops.size) w → (∀ p ∈ pins.l, a.tmps.getD p.1 undef = p.2) → Q .normal a w := by
    intro listed e a w hall h1 h2 h3 h4 h5
    refine hQ e a w ⟨h5, h1.symm.trans hsz, ?_, fun i => ?_, h3, ?_⟩
    · rw [hend1, frS_length]; exact h1
    · rw [hend1, ← frS_agree (stF rs) s.fr (fun j => listed.getD j false) (fun _ => true) i ops.size (fun j hj hne => (hne (hall j hj)).elim)]
      exact h2 i
    · rw [hend2]
      exact h4.fun_eq fun id => hS_agree (stF rs) s.h (fun j => listed.getD j false) (fun _ => true) id ops.size (fun j hj hne => (hne (hall j hj)).elim)
  have noready : ∀ (listed : Array Bool), listed.size = ops.size → Region.ready .any ops listed = [] → ∀ j, j < ops.size → listed.getD j false = true := by
    intro listed hls hr j
    induction j using Nat.strongRecOn with
    | _ j ih =>
      intro hj
      cases hlj : listed.getD j false with
      | true => rfl
      | false =>
        exfalso
        have hjl : j < listed.size := by omega
        have hmem : j ∈ Region.ready .any ops listed := by
          unfold Region.ready
          rw [List.mem_filter]
          refine ⟨by simpa using hj, ?_⟩
          have h1 : listed.getD j true = false := by
            rw [Array.getD_eq_getD_getElem?, Array.getElem?_eq_getElem hjl] at hlj ⊢
            exact hlj
          have h2 : ops[j]? = some ops[j] := Array.getElem?_eq_getElem hj
          simp only [h1, Bool.not_false, Bool.true_and, h2, Option.map_some, Option.getD_some]
          rw [Array.all_eq_true_iff_forall_mem]
          intro ed hed
          cases hb : Region.binds .any ed with
          | false => rfl
          | true =>
            have := edges_at ops.toList 0 hedges j _ (hops h2) ed (by simpa using hed) hb
            simpa using ih ed.on (by omega) (by omega)
        rw [hr] at hmem; simp at hmem
  intro fuel
  induction fuel with
  | zero =>
    intro listed e a w hls hcnt hcl h1 h2 h3 h4 h5
    have hall := countF_zero (p := fun j => listed.getD j false) (n := ops.size) (by omega)
    refine ⟨?_, fin listed e a w hall h1 h2 h3 h4 h5⟩
    unfold Region.ready
    rw [List.filter_eq_nil_iff]
    intro i hi
    simp only [List.mem_range] at hi
    have := hall i hi
    have hil : i < listed.size := by omega
    have h1 : listed.getD i true = true := by
      rw [Array.getD_eq_getD_getElem?, Array.getElem?_eq_getElem hil] at this ⊢
      exact this
    simp [h1]
  | succ fuel ih =>
    intro listed e a w hls hcnt hcl h1 h2 h3 h4 h5
    refine ⟨fun hr => fin listed e a w (noready listed hls hr) h1 h2 h3 h4 h5, fun i hi => ?_⟩
    unfold Region.ready at hi
    rw [List.mem_filter] at hi
    obtain ⟨hi1, hi2⟩ := hi
    simp only [List.mem_range] at hi1
    have hoi : ops[i]? = some ops[i] := Array.getElem?_eq_getElem hi1
    have hil : i < listed.size := by omega
    simp only [hoi, Option.map_some, Option.getD_some, Bool.and_eq_true, Bool.not_eq_true'] at hi2
    let o := ops[i]
    let p : Nat → Bool := fun j => listed.getD j false
    let M := masks [] ops.toList
    let st := stF rs
    have hpi : p i = false := by
      have := hi2.1
      show listed.getD i false = false
      rw [Array.getD_eq_getD_getElem?, Array.getElem?_eq_getElem hil] at this ⊢
      exact this
    have hedge : ∀ ed ∈ o.after.toList, Region.binds .any ed = true → p ed.on = true := by
      intro ed hed hb
      have := (Array.all_eq_true_iff_forall_mem.1 hi2.2) ed (by simpa using hed)
      rw [hb] at this
      show listed.getD ed.on false = true
      simpa only [Bool.not_true, Bool.false_or] using this
    -- whatever must be done before i has been done
    have hbefore : ∀ q, (M.getD i 0).testBit q = true → p q = true := by
      intro q hq
      obtain ⟨o', ho', ed, hed, hb, hor⟩ := masks_bit ops.toList [] i q (by simp) hq
      simp only [List.length_nil, Nat.sub_zero] at ho'
      rw [hops hoi] at ho'
      cases ho'
      have hon := hedge ed hed hb
      rcases hor with rfl | hor
      · exact hon
      · have : ed.on < ops.size := by
          have := edges_at ops.toList 0 hedges i _ (hops hoi) ed hed hb
          omega
        exact hcl ed.on this hon q hor
    have hS1 := hat i _ (hops hoi)
    -- j that is out of the text's order is apart from i
    have hmis : ∀ j, j < ops.size → p j ≠ decide (j < i) → ∀ q, ops[j]? = some q →
        ((∀ d, q.dst = some d → d ∉ o.looksAt ops) ∧ (∀ d, o.dst = some d → q.dst ≠ some d)) ∧
        ((st j).ran = true → (st i).ran = true → meets ((st j).wr.map (·.1)) (st i).rd = false ∧ meets ((st j).wr.map (·.1)) ((st i).wr.map (·.1)) = false ∧ meets ((st i).wr.map (·.1)) ((st j).wr.map (·.1)) = false) := by
      intro j hj hne q hq
      have hjr : j < rs.length := by rw [hlen, hN]; exact hj
      have hir : i < rs.length := by rw [hlen, hN]; exact hi1
      have hsj : rs[j]? = some (st j) := by show rs[j]? = some (rs.getD j _); simp [List.getD, List.getElem?_eq_getElem hjr]
      have hsi : rs[i]? = some (st i) := by show rs[i]? = some (rs.getD i _); simp [List.getD, List.getElem?_eq_getElem hir]
      have msym : ∀ a b : List Nat, meets a b = false → meets b a = false := by
        intro a b hab
        unfold meets at *
        rw [List.any_eq_false] at *
        intro x hx hc
        have := hab x (by simpa using hc)
        simp at this
        exact this (by simpa using hx)
      rcases Nat.lt_trichotomy j i with hlt | heq | hgt
      · have hpj : p j = false := by
          cases hc : p j
          · rfl
          · rw [hc] at hne; simp [hlt] at hne
        have hnb : ¬ (M.getD i 0).testBit j = true := fun hb => by rw [hbefore j hb] at hpj; cases hpj
        have hap := (apart_at ops M ops.toList 0 hapart j i q o hlt (hops hq) (hops hoi)).resolve_right (by simpa using hnb)
        obtain ⟨k1, k2, k3⟩ := Oper.apart_spec hap
        refine ⟨⟨k1, fun d hd hqd => k2 d hqd hd⟩, fun hrj hri => ?_⟩
        have hcl' := (pairs_at M rs 0 hpairs j i _ _ hlt hsj hsi hrj hri).resolve_right (by simpa using hnb)
        simp only [clash, Bool.or_eq_false_iff] at hcl'
        exact ⟨hcl'.1.1, hcl'.1.2, msym _ _ hcl'.1.2⟩
      · subst heq; rw [hpi] at hne; simp at hne
      · have hpj : p j = true := by
          cases hc : p j
          · rw [hc] at hne; simp [show ¬ j < i by omega] at hne
          · rfl
        have hnb : ¬ (M.getD j 0).testBit i = true := fun hb => by
          have := hcl j hj hpj i hb
          rw [show listed.getD i false = p i from rfl, hpi] at this; cases this
        have hap := (apart_at ops M ops.toList 0 hapart i j o q hgt (hops hoi) (hops hq)).resolve_right (by simpa using hnb)
        obtain ⟨k1, k2, k3⟩ := Oper.apart_spec hap
        refine ⟨⟨k3, fun d hd => k2 d hd⟩, fun hrj hri => ?_⟩
        have hcl' := (pairs_at M rs 0 hpairs i j _ _ hgt hsi hsj hri hrj).resolve_right (by simpa using hnb)
        simp only [clash, Bool.or_eq_false_iff] at hcl'
        exact ⟨hcl'.2, msym _ _ hcl'.1.2, hcl'.1.2⟩
    have hdst : ∀ j, j < ops.size → (st j).dst = (ops[j]?).bind (·.dst) := by
      intro j hj
      have hoj : ops[j]? = some ops[j] := Array.getElem?_eq_getElem hj
      rw [hoj]; exact (hat j _ (hops hoj)).dst
    have hwr0 : ∀ j, j < ops.size → (st j).ran = false → (st j).wr = [] := by
      intro j hj hr
      have hoj : ops[j]? = some ops[j] := Array.getElem?_eq_getElem hj
      exact ((hat j _ (hops hoj)).skip hr).2
    -- in the text's order
    have hfrB : frS st s.fr (fun _ => true) i = frS st s.fr (fun j => decide (j < i)) i := by
      have key : ∀ n, n ≤ i → frS st s.fr (fun _ => true) n = frS st s.fr (fun j => decide (j < i)) n := by
        intro n
        induction n with
        | zero => intro _; rfl
        | succ n ih => intro hn; rw [frS, frS, ih (by omega)]; simp [show n < i by omega]
      exact key i (Nat.le_refl _)
    have hhB : hS st s.h (fun _ => true) i = hS st s.h (fun j => decide (j < i)) i := by
      have key : ∀ n, n ≤ i → hS st s.h (fun _ => true) n = hS st s.h (fun j => decide (j < i)) n := by
        intro n
        induction n with
        | zero => intro _; rfl
        | succ n ih => intro hn; rw [hS, hS, ih (by omega)]; simp [show n < i by omega]
      exact key i (Nat.le_refl _)
    have hslot : ∀ x, x ∈ o.looksAt ops → (frS st s.fr p ops.size).getD x undefV = (frS st s.fr (fun _ => true) i).getD x undefV := by
      intro x hx
      rw [hfrB, ← frS_beyond st s.fr (fun j => decide (j < i)) i (fun j hj => by simp; omega) ops.size (by omega)]
      refine frS_agree st s.fr p _ x ops.size fun j hj hne => ?_
      have hoj : ops[j]? = some ops[j] := Array.getElem?_eq_getElem hj
      rw [hdst j hj, hoj]
      intro hh
      exact ((hmis j hj hne _ hoj).1.1 x hh) hx
    have hobj : (st i).ran = true → ∀ id, (id ∈ (st i).rd ∨ id ∈ (st i).wr.map (·.1)) → hS st s.h p ops.size id = hS st s.h (fun _ => true) i id := by
      intro hri id hid
      rw [hhB, ← hS_beyond st s.h (fun j => decide (j < i)) i (fun j hj => by simp; omega) ops.size (by omega)]
      refine hS_agree st s.h p _ id ops.size fun j hj hne => ?_
      have hoj : ops[j]? = some ops[j] := Array.getElem?_eq_getElem hj
      cases hrj : (st j).ran with
      | false => rw [hwr0 j hj hrj]; simp
      | true =>
        obtain ⟨k1, k2, k3⟩ := (hmis j hj hne _ hoj).2 hrj hri
        intro hc
        rcases hid with hid | hid
        · unfold meets at k1; rw [List.any_eq_false] at k1
          exact k1 id hc (by simpa using hid)
        · unfold meets at k2; rw [List.any_eq_false] at k2
          exact k2 id hc (by simpa using hid)
    -- one more
    let listed' := listed.setIfInBounds i true
    have hp'i : listed'.getD i false = true := by
      show (listed.setIfInBounds i true).getD i false = true
      simp [Array.getD_eq_getD_getElem?, hil]
    have hp'j : ∀ j, j ≠ i → listed'.getD j false = p j := by
      intro j hj
      show (listed.setIfInBounds i true).getD j false = listed.getD j false
      simp [Array.getD_eq_getD_getElem?, Array.getElem?_setIfInBounds_ne (fun hh => hj hh.symm)]
    have hfr' : ∀ x, (frS st s.fr (fun j => listed'.getD j false) ops.size).getD x undefV = (putS (frS st s.fr p ops.size) o.dst (st i).v).getD x undefV := by
      intro x
      have hdi : (st i).dst = o.dst := by rw [hdst i hi1, hoi]; rfl
      rw [← hdi]
      refine frS_add st s.fr p _ i hpi hp'i (fun j hj => hp'j j hj) x ops.size hi1 fun j hij hj hpj hdx => ?_
      have hoj : ops[j]? = some ops[j] := Array.getElem?_eq_getElem hj
      rw [hdst j hj, hoj]
      rw [hdi] at hdx
      exact (hmis j hj (by rw [hpj]; simp; omega) _ hoj).1.2 x hdx
    have hh' : ∀ id, hS st s.h (fun j => listed'.getD j false) ops.size id = updW (hS st s.h p ops.size) (st i).wr id := by
      intro id
      refine hS_add st s.h p _ i hpi hp'i (fun j hj => hp'j j hj) id ops.size hi1 fun j hij hj hpj hid hc => ?_
      have hoj : ops[j]? = some ops[j] := Array.getElem?_eq_getElem hj
      cases hri : (st i).ran with
      | false => rw [hwr0 i hi1 hri] at hid; simp at hid
      | true =>
        cases hrj : (st j).ran with
        | false => rw [hwr0 j hj hrj] at hc; simp at hc
        | true =>
          obtain ⟨k1, k2, k3⟩ := (hmis j hj (by rw [hpj]; simp; omega) _ hoj).2 hrj hri
          unfold meets at k2; rw [List.any_eq_false] at k2
          exact k2 id hc (by simpa using hid)
    have next : ∀ (e' : Env) (x : Value) (w' : World), Le e e' → RelV e' (st i).v x → Mem A w0 e' (updW (hS st s.h p ops.size) (st i).wr) w' → wpAny P .any ops Q fuel listed' (a.put o.dst x) w' := by
      intro e' x w' hle hrv hm
      refine ih listed' e' (a.put o.dst x) w' (by simp [listed', hls]) ?_ ?_ ?_ ?_ ?_ ?_ ?_
      · have := countF_set (p := p) (q := fun j => listed'.getD j false) hpi hp'i (fun j hj => hp'j j hj) ops.size hi1
        have hcnt' : countF p ops.size ≤ fuel + 1 := hcnt
        omega
      · intro j hj hpj q hq
        by_cases hji : j = i
        · subst hji
          have hq' := hbefore q hq
          by_cases hqi : q = j
          · subst hqi; exact hp'i
          · rw [hp'j q hqi]; exact hq'
        · rw [hp'j j hji] at hpj
          have := hcl j hj hpj q hq
          by_cases hqi : q = i
          · subst hqi; exact hp'i
          · rw [hp'j q hqi]; exact this
      · cases hod : o.dst <;> simp [Act.put, h1]
      · intro y
        rw [hfr']
        have hbase := RelV.mono hle _ _ (h2 y)
        rw [putS_get, frS_length]
        cases hod : o.dst with
        | none => rw [if_neg (by simp)]; exact hbase
        | some t =>
          by_cases hty : t = y
          · subst hty
            by_cases hlt : t < s.fr.length
            · rw [if_pos ⟨rfl, hlt⟩]
              have : t < a.tmps.size := h1 ▸ hlt
              have h2' : (a.put (some t) x).tmps.getD t undef = x := by simp [Act.put, Array.getD_eq_getD_getElem?, this]
              rw [h2']; exact hrv
            · rw [if_neg (fun hh => hlt hh.2)]
              have : ¬ t < a.tmps.size := fun hh => hlt (h1.symm ▸ hh)
              have h2' : (a.put (some t) x).tmps.getD t undef = a.tmps.getD t undef := by simp [Act.put, Array.getD_eq_getD_getElem?, this]
              rw [h2']; exact hbase
          · rw [if_neg (fun hh => hty (by simpa using hh.1))]
            have h2' : (a.put (some t) x).tmps.getD y undef = a.tmps.getD y undef := by simp [Act.put, Array.getD_eq_getD_getElem?, Array.getElem?_setIfInBounds_ne hty]
            rw [h2']; exact hbase
      · cases hod : o.dst <;> simp [Act.put, h3]
      · exact hm.fun_eq fun id => (hh' id).symm
      · intro q hq
        have hfo := hfree o (by rw [Array.mem_toList_iff]; exact Array.getElem_mem hi1)
        cases hod : o.dst with
        | none => exact h5 q hq
        | some t =>
          have hne := hfo t hod q hq
          have h2' : (a.put (some t) x).tmps.getD q.1 undef = a.tmps.getD q.1 undef := by simp [Act.put, Array.getD_eq_getD_getElem?, Array.getElem?_setIfInBounds_ne (fun hh => hne hh.symm)]
          rw [h2']; exact h5 q hq
    unfold wpOp
    rw [hoi]
    simp only
    have hev : ∀ x ∈ o.op.operands.toList, evalO (frS st s.fr (fun _ => true) i) x = evalO (frS st s.fr p ops.size) x := by
      intro x hx
      cases x with
      | tmp t =>
        refine (hslot t ?_).symm
        unfold Oper.looksAt
        refine List.mem_append_left _ (List.mem_filterMap.2 ⟨.tmp t, hx, rfl⟩)
      | const v => rfl
      | global g => rfl
      | func f => rfl
    have hwant : Wants ops (frS st s.fr p ops.size) o.guard (st i).ran := by
      have key : ∀ g b, o.guard = g → Wants ops (frS st s.fr (fun _ => true) i) g b → Wants ops (frS st s.fr p ops.size) g b := by
       intro g b0 hg hw
       cases hw with
       | free => exact .free
       | bool hd hv =>
         rename_i j d want b
         refine .bool hd ?_
         rw [hslot d ?_]; exact hv
         unfold Oper.looksAt
         refine List.mem_append_right _ ?_
         show d ∈ (match ops[i].guard with
           | some (g, _) => ((ops[g]?).bind (·.dst)).toList
           | none => [])
         rw [hg]
         simp [hd]
       | skipped hd hv =>
         rename_i j d want
         refine .skipped hd ?_
         rw [hslot d ?_]; exact hv
         unfold Oper.looksAt
         refine List.mem_append_right _ ?_
         show d ∈ (match ops[i].guard with
           | some (g, _) => ((ops[g]?).bind (·.dst)).toList
           | none => [])
         rw [hg]
         simp [hd]
      exact key _ _ rfl hS1.wants
    have hwb := wants_wanted (e := e) hwant h2
    cases hri : (st i).ran with
    | true =>
      rw [hri] at hwb
      rw [if_pos hwb]
      left
      obtain ⟨n, hd, hfresh, hrd⟩ := hS1.run hri
      have hd2 : OpDoes P tbl k (evalO (frS st s.fr p ops.size)) (hS st s.h p ops.size) n o.op (st i).v (st i).wr := by
        have key : ∀ id, id ∈ rdIds o.op (hS (stF rs) s.h (fun _ => true) i) (o.op.operands.toList.flatMap fun x => (evalO (frS (stF rs) s.fr (fun _ => true) i) x).ids) → hS (stF rs) s.h (fun _ => true) i id = hS st s.h p ops.size id := by
          intro id hid
          refine (hobj hri id (.inl ?_)).symm
          show id ∈ (stF rs i).rd
          rw [hrd]; exact hid
        exact opDoes_agree hd hev key
      refine opDoes_wp hC hd2 (fun x => ?_) h4 (fun q hq hn hne => ?_) fun x w' e' hle hrv hm => next e' x w' hle hrv hm
      · cases x with
        | tmp t => exact h2 t
        | const v => exact absV_rel e v
        | global g => trivial
        | func f => rfl
      · rw [hobj hri q.1 (.inr (List.mem_map.2 ⟨q, hq, rfl⟩))]
        exact hfresh _ hn hne
    | false =>
      rw [hri] at hwb
      rw [if_neg (by show ¬ Region.wanted o (yielded ops a.tmps) = true; rw [hwb]; simp)]
      obtain ⟨hv, hw⟩ := hS1.skip hri
      refine next e undef w (Le.refl e) ?_ ?_
      · show RelV e (stF rs i).v undef
        rw [hv]; exact RelV_undef e
      · show Mem A w0 e (updW _ (stF rs i).wr) w
        rw [hw]; exact h4

theorem denOpsD_wp {R : Type} {tbl : List Fc} {k : Nat} (hC : CtxOK P tbl k) {id : Nat} {ops : Array Oper} {K : St → Option R} {res : R} {Q : Exit → Act → World → Prop} (hdraw : drawOk P ops = true) (hfree : ∀ o ∈ ops.toList, FreeOf pins o.dst)
    (hQ : ∀ s e a w, K s = some res → Rel pins A w0 e s a w → Q .normal a w) {s : St} {e : Env} {a : Act} {w : World} (hh : denOpsD P tbl k ops 0 ops.toList [] K s = some res) (r : Rel pins A w0 e s a w) : (Code.region id ops true).wp P Q a w := by
  simp only [drawOk, Bool.and_eq_true] at hdraw
  obtain ⟨⟨hmix, hedges⟩, hapart⟩ := hdraw
  obtain ⟨rs, s', hp, hpairs, hK⟩ := denOpsD_path ops.toList 0 [] s hh
  refine wp_region_any hmix ?_
  have hnone : ∀ j, (Array.replicate ops.size false).getD j false = false := by
    intro j
    rw [Array.getD_eq_getD_getElem?]
    by_cases hj : j < ops.size
    · simp [hj]
    · rw [Array.getElem?_eq_none (by simp; omega)]; rfl
  have hp0 : (fun j => (Array.replicate ops.size false).getD j false) = fun _ => false := funext hnone
  have m' := r.mem.ext (Ext.drew w)
  refine draw_any hC hp (by simpa using hpairs) hedges hapart hfree (r.len.trans r.siz) (fun e a w r => hQ s' e a w hK r) ops.size (Array.replicate ops.size false) e a w.drew (by simp) ?_ (fun j hj hc => by rw [hnone] at hc; cases hc) r.len ?_ r.defers ?_ r.pin
  · rw [hp0]
    have : ∀ n, countF (fun _ => false) n = n := by
      intro n
      induction n with
      | zero => rfl
      | succ n ih => simp [countF, ih]
    rw [this]; exact Nat.le_refl _
  · intro x
    rw [hp0, frS_beyond (stF rs) s.fr (fun _ => false) 0 (fun _ _ => rfl) ops.size (by omega)]
    exact r.fr x
  · rw [hp0, hS_beyond (stF rs) s.h (fun _ => false) 0 (fun _ _ => rfl) ops.size (by omega)]
    exact m'
end
end Go.Proofs.Ytmcdddghlcllbaa.Den
